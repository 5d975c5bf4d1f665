/- -/
import Derived.Test.YtlejgipmepemjaaPartG
import Derived.Test.YtlejgipmepemjaaPartE
import Derived.Test.YtlejgipmepemjaaPartB
import Derived.OpenShut
import Derived.ChangeShapes
import Derived.Test.YtlejgipmepemjaaPartC
import Derived.WalkKit
import Derived.ProofKit
import Derived.Carry
import Derived.Test.YtlejgipmepemjaaRows
import Derived.Test.YtlejgipmepemjaaChecked
set_option linter.unusedVariables false
set_option linter.unusedSimpArgs false
namespace Go.Own
set_option linter.unusedVariables false
structure TreeI (a : Nat) (nodes : List S_tries_Node) (wd : List (List Int)) (D : List Int → Prop) : Prop where
 len : nodes.length = wd.length
 nod : wd.Nodup
 nlen : ∀ (i : Nat) (N : S_tries_Node), nodes[i]? = some N → N.Next.length = a
 nxt : ∀ (i : Nat) (N : S_tries_Node) (x : List Int), nodes[i]? = some N → wd[i]? = some x → ∀ s : Nat, s < a → (N.Next[s]? = some (-1) ∧ (x ++ [(s : Int)]) ∉ wd) ∨ ∃ j : Nat, N.Next[s]? = some (j : Int) ∧ wd[j]? = some (x ++ [(s : Int)])
 root : 0 < wd.length → wd[0]? = some []
 clo : ∀ (w : List Int) (s : Int), w ++ [s] ∈ wd → w ∈ wd ∧ 0 ≤ s ∧ s < (a : Int)
 en : ∀ (i : Nat) (N : S_tries_Node) (x : List Int), nodes[i]? = some N → wd[i]? = some x → (N.End = true ↔ D x)
theorem node_eq {a : Nat} (ha : a ≤ 100) {nodes : List S_tries_Node} (hn : nodes.length ≤ 1000000) :
  tries_builder_node (S_tries_builder.mk (a : Int) nodes) = some ((nodes.length : Int), S_tries_builder.mk (a : Int) (nodes ++ [S_tries_Node.mk (List.replicate a (-1)) false])) := by
 unfold tries_builder_node
 rw [gdT (by simp only; omega)]
 have h := loop_seq (step := fun s => tries_builder_node_L2 (S_tries_builder.mk (a : Int) nodes) s.1 s.2) (fun i => (List.replicate i (-1 : Int) ++ List.replicate (a - i) 0, (i : Int))) a (t := List.replicate a (-1 : Int)) (by omega) (by
  intro i hi
  show tries_builder_node_L2 (S_tries_builder.mk (a : Int) nodes) _ (i : Int) = _
  unfold tries_builder_node_L2
  have hq : decide ((i : Int) < (((List.replicate (S_tries_builder.mk (a : Int) nodes).inputs_.toNat (0 : Int)).length : Nat) : Int)) = true := by rw [decide_eq_true_eq]; simpa using hi
  rw [hq]
  have hr : List.replicate (a - i) (0 : Int) = 0 :: List.replicate (a - (i + 1)) 0 := by rw [show a - i = (a - (i + 1)) + 1 by omega]; rfl
  have hx : (List.replicate i (-1 : Int) ++ List.replicate (a - i) 0)[i]? = some 0 := by rw [List.getElem?_append_right (by simp), hr]; simp
  simp only [cond_true, idx_some hx, Option.bind_some, Int.toNat_natCast]
  rw [w64_in (by omega) (by omega), List.set_append_right _ _ (by simp), List.length_replicate, Nat.sub_self, hr, List.set_cons_zero, List.replicate_succ', List.append_assoc]
  rfl) (by
  show tries_builder_node_L2 (S_tries_builder.mk (a : Int) nodes) _ (a : Int) = _
  unfold tries_builder_node_L2
  simp)
 have h0 : (List.replicate 0 (-1 : Int) ++ List.replicate (a - 0) 0, ((0 : Nat) : Int)) = (List.replicate (a : Int).toNat (0 : Int), (0 : Int)) := by simp
 rw [h0] at h
 rw [bdT h]
 unfold tries_builder_node_J1
 dsimp only
 rw [gdT (by simp; omega), List.length_append, List.length_singleton, w64_in (by omega) (by omega)]
 congr 2
 omega
theorem TreeI.mem_at {a : Nat} {nodes : List S_tries_Node} {wd : List (List Int)} {D : List Int → Prop} (h : TreeI a nodes wd D) {i j : Nat} {x : List Int} (hi : wd[i]? = some x) (hj : wd[j]? = some x) : i = j := by
 exact (List.getElem?_inj (List.getElem?_eq_some_iff.1 hi).1 h.nod).1 (hi.trans hj.symm)
theorem TreeI.grow {a : Nat} {nodes : List S_tries_Node} {wd : List (List Int)} {D : List Int → Prop} (h : TreeI a nodes wd D) {p s : Nat} {N : S_tries_Node} {x : List Int} (hN : nodes[p]? = some N) (hx : wd[p]? = some x) (hs : s < a) (hnew : x ++ [(s : Int)] ∉ wd) (hD : ¬ D (x ++ [(s : Int)])) :
  TreeI a ((nodes ++ [S_tries_Node.mk (List.replicate a (-1)) false]).set p (S_tries_Node.mk (N.Next.set s (nodes.length : Int)) N.End)) (wd ++ [x ++ [(s : Int)]]) D := by
 have hp : p < nodes.length := (List.getElem?_eq_some_iff.1 hN).1
 have hl := h.len
 have hxm : x ∈ wd := List.mem_of_getElem? hx
 have newN : ∀ (i : Nat) (M : S_tries_Node), ((nodes ++ [S_tries_Node.mk (List.replicate a (-1)) false]).set p (S_tries_Node.mk (N.Next.set s (nodes.length : Int)) N.End))[i]? = some M → (i = p ∧ M = S_tries_Node.mk (N.Next.set s (nodes.length : Int)) N.End) ∨ (i ≠ p ∧ i < nodes.length ∧ nodes[i]? = some M) ∨ (i = nodes.length ∧ M = S_tries_Node.mk (List.replicate a (-1)) false) := by
  intro i M hM
  by_cases hip : i = p
  ·subst hip
   rw [List.getElem?_set_self (by simp; omega)] at hM
   exact .inl ⟨rfl, by simpa using hM.symm⟩
  ·rw [List.getElem?_set_ne (fun e => hip e.symm)] at hM
   rcases Nat.lt_or_ge i nodes.length with q | q
   ·rw [List.getElem?_append_left q] at hM
    exact .inr (.inl ⟨hip, q, hM⟩)
   ·rw [List.getElem?_append_right q] at hM
    have : i - nodes.length = 0 := by
     have := (List.getElem?_eq_some_iff.1 hM).1
     simpa using this
    rw [this] at hM
    exact .inr (.inr ⟨by omega, by simpa using hM.symm⟩)
 have newW : ∀ (i : Nat) (y : List Int), (wd ++ [x ++ [(s : Int)]])[i]? = some y → (i < wd.length ∧ wd[i]? = some y) ∨ (i = wd.length ∧ y = x ++ [(s : Int)]) := by
  intro i y hy
  rcases Nat.lt_or_ge i wd.length with q | q
  ·rw [List.getElem?_append_left q] at hy
   exact .inl ⟨q, hy⟩
  ·rw [List.getElem?_append_right q] at hy
   have : i - wd.length = 0 := by
    have := (List.getElem?_eq_some_iff.1 hy).1
    simpa using this
   rw [this] at hy
   exact .inr ⟨by omega, by simpa using hy.symm⟩
 have oldW : ∀ (i : Nat) (y : List Int), wd[i]? = some y → (wd ++ [x ++ [(s : Int)]])[i]? = some y := by
  intro i y hy
  rw [List.getElem?_append_left (List.getElem?_eq_some_iff.1 hy).1]
  exact hy
 have lastW : (wd ++ [x ++ [(s : Int)]])[wd.length]? = some (x ++ [(s : Int)]) := by
  rw [List.getElem?_append_right (Nat.le_refl _)]; simp
 refine ⟨by simp [hl], ?_, ?_, ?_, ?_, ?_, ?_⟩
 ·rw [List.nodup_append]
  exact ⟨h.nod, by simp, fun y hy z hz => by simp at hz; subst hz; exact fun e => hnew (e ▸ hy)⟩
 ·intro i M hM
  rcases newN i M hM with ⟨_, rfl⟩ | ⟨_, _, q⟩ | ⟨_, rfl⟩
  ·simpa using h.nlen p N hN
  ·exact h.nlen i M q
  ·simp
 ·intro i M y hM hy t ht
  rcases newN i M hM with ⟨rfl, rfl⟩ | ⟨hip, hil, q⟩ | ⟨rfl, rfl⟩
  ·have hyx : y = x := by
    have := oldW i x hx
    rw [this] at hy
    simpa using hy.symm
   subst hyx
   by_cases hts : t = s
   ·subst hts
    right
    refine ⟨nodes.length, ?_, by rw [hl]; exact lastW⟩
    simp only
    rw [List.getElem?_set_self (by rw [h.nlen i N hN]; exact ht)]
   ·rcases h.nxt i N y hN hx t ht with ⟨q1, q2⟩ | ⟨j, q1, q2⟩
    ·left
     simp only
     rw [List.getElem?_set_ne (fun e => hts e.symm)]
     refine ⟨q1, fun hm => ?_⟩
     rcases List.mem_append.1 hm with q | q
     ·exact q2 q
     ·simp at q
      omega
    ·right
     simp only
     rw [List.getElem?_set_ne (fun e => hts e.symm)]
     exact ⟨j, q1, oldW _ _ q2⟩
  ·have hy' : wd[i]? = some y := by
    rcases newW i y hy with ⟨_, q⟩ | ⟨q, _⟩
    ·exact q
    ·omega
   rcases h.nxt i M y q hy' t ht with ⟨q1, q2⟩ | ⟨j, q1, q2⟩
   ·left
    refine ⟨q1, fun hm => ?_⟩
    rcases List.mem_append.1 hm with q | q
    ·exact q2 q
    ·simp only [List.mem_singleton] at q
     have := List.append_inj' q rfl
     obtain ⟨e1, _⟩ := this
     subst e1
     exact hip (h.mem_at hy' hx)
   ·exact .inr ⟨j, q1, oldW _ _ q2⟩
  ·have hy' : y = x ++ [(s : Int)] := by
    rw [hl, lastW] at hy
    simpa using hy.symm
   subst hy'
   left
   refine ⟨by rw [List.getElem?_replicate, if_pos ht], fun hm => ?_⟩
   rcases List.mem_append.1 hm with q | q
   ·exact hnew (h.clo _ _ q).1
   ·simp only [List.mem_singleton] at q
    have := congrArg List.length q
    simp at this
 ·intro _
  have h0 : 0 < wd.length := by omega
  exact oldW 0 [] (h.root h0)
 ·intro w t hw
  rcases List.mem_append.1 hw with q | q
  ·have := h.clo w t q
   exact ⟨by simp [this.1], this.2⟩
  ·simp only [List.mem_singleton] at q
   obtain ⟨e1, e2⟩ := List.append_inj' q rfl
   subst e1
   simp at e2
   subst e2
   exact ⟨by simp [hxm], by omega, by omega⟩
 ·intro i M y hM hy
  rcases newN i M hM with ⟨rfl, rfl⟩ | ⟨hip, hil, q⟩ | ⟨rfl, rfl⟩
  ·have hyx : y = x := by
    have := oldW i x hx
    rw [this] at hy
    simpa using hy.symm
   subst hyx
   exact h.en i N y hN hx
  ·rcases newW i y hy with ⟨_, q2⟩ | ⟨q2, _⟩
   ·exact h.en i M y q q2
   ·omega
  ·have hy' : y = x ++ [(s : Int)] := by
    rw [hl, lastW] at hy
    simpa using hy.symm
   subst hy'
   simp [hD]
theorem TreeI.ends {a : Nat} {nodes : List S_tries_Node} {wd : List (List Int)} {D : List Int → Prop} (h : TreeI a nodes wd D) {p : Nat} {N : S_tries_Node} {x : List Int} (hN : nodes[p]? = some N) (hx : wd[p]? = some x) : TreeI a (nodes.set p (S_tries_Node.mk N.Next true)) wd (fun y => D y ∨ y = x) := by
 have hp : p < nodes.length := (List.getElem?_eq_some_iff.1 hN).1
 have newN : ∀ (i : Nat) (M : S_tries_Node), (nodes.set p (S_tries_Node.mk N.Next true))[i]? = some M → (i = p ∧ M = S_tries_Node.mk N.Next true) ∨ (i ≠ p ∧ nodes[i]? = some M) := by
  intro i M hM
  by_cases hip : i = p
  ·subst hip
   rw [List.getElem?_set_self hp] at hM
   exact .inl ⟨rfl, by simpa using hM.symm⟩
  ·rw [List.getElem?_set_ne (fun e => hip e.symm)] at hM
   exact .inr ⟨hip, hM⟩
 refine ⟨by simp [h.len], h.nod, ?_, ?_, h.root, h.clo, ?_⟩
 ·intro i M hM
  rcases newN i M hM with ⟨_, rfl⟩ | ⟨_, q⟩
  ·exact h.nlen p N hN
  ·exact h.nlen i M q
 ·intro i M y hM hy
  rcases newN i M hM with ⟨rfl, rfl⟩ | ⟨_, q⟩
  ·exact h.nxt i N y hN hy
  ·exact h.nxt i M y q hy
 ·intro i M y hM hy
  rcases newN i M hM with ⟨rfl, rfl⟩ | ⟨hip, q⟩
  ·rw [hx] at hy
   cases hy
   simp
  ·rw [h.en i M y q hy]
   constructor
   ·intro q2; exact .inl q2
   ·rintro (q2 | rfl)
    ·exact q2
    ·exact absurd (h.mem_at hy hx) hip
theorem add_ret {a : Nat} (ha : a ≤ 100) {nodes : List S_tries_Node} {wd : List (List Int)} {D : List Int → Prop} (h : TreeI a nodes wd D) {w : List Int} (hw : ∀ c ∈ w, 0 ≤ c ∧ c < (a : Int)) (hl : w.length ≤ 1000) (hn : wd.length ≤ 500000) (hDp : ∀ x, D x → x ∈ wd) :
  Ret (tries_builder_add w (S_tries_builder.mk (a : Int) nodes)) fun b => b.inputs_ = (a : Int) ∧ ∃ wd', TreeI a b.nodes_ wd' (fun y => D y ∨ y = w) ∧ (∀ x, x ∈ wd' ↔ x ∈ wd ∨ ∃ j, j ≤ w.length ∧ x = w.take j) ∧ wd'.length ≤ wd.length + w.length + 1 := by
 have J : ∀ nodes0 wd0, TreeI a nodes0 wd0 D → 0 < wd0.length → wd0.length ≤ wd.length + 1 → (∀ x, x ∈ wd0 ↔ x ∈ wd ∨ x = []) → Ret (tries_builder_add_J1 w (a : Int) nodes0) fun b => b.inputs_ = (a : Int) ∧ ∃ wd', TreeI a b.nodes_ wd' (fun y => D y ∨ y = w) ∧ (∀ x, x ∈ wd' ↔ x ∈ wd ∨ ∃ j, j ≤ w.length ∧ x = w.take j) ∧ wd'.length ≤ wd.length + w.length + 1 := by
  intro nodes0 wd0 h0 hpos hle hmem
  unfold tries_builder_add_J1
  rw [ret_bind]
  refine Ret.mono (ret_loop (fun q : Int × List S_tries_Node × Int × Int => ∃ (i p : Nat) (wd1 : List (List Int)), q.1 = (a : Int) ∧ q.2.2.1 = (p : Int) ∧ q.2.2.2 = (i : Int) ∧ i ≤ w.length ∧ TreeI a q.2.1 wd1 D ∧ wd1[p]? = some (w.take i) ∧ (∀ x, x ∈ wd1 ↔ x ∈ wd ∨ ∃ j, j ≤ i ∧ x = w.take j) ∧ wd1.length ≤ wd.length + 1 + i) (fun q => w.length - q.2.2.2.toNat) (R := fun t => t.1 = (a : Int) ∧ ∃ (p : Nat) (wd1 : List (List Int)), t.2.2 = (p : Int) ∧ TreeI a t.2.1 wd1 D ∧ wd1[p]? = some w ∧ (∀ x, x ∈ wd1 ↔ x ∈ wd ∨ ∃ j, j ≤ w.length ∧ x = w.take j) ∧ wd1.length ≤ wd.length + 1 + w.length) ?_ ?_ ?_) ?_
  ·refine ⟨0, 0, wd0, rfl, rfl, rfl, Nat.zero_le _, h0, by simpa using h0.root hpos, fun x => ?_, by omega⟩
   rw [hmem]
   constructor
   ·rintro (q | rfl)
    ·exact .inl q
    ·exact .inr ⟨0, Nat.le_refl _, by simp⟩
   ·rintro (q | ⟨j, q1, q2⟩)
    ·exact .inl q
    ·have : j = 0 := by omega
     subst this
     exact .inr (by simpa using q2)
  ·show w.length - _ < _
   omega
  ·rintro ⟨_, nodes1, _, _⟩ ⟨i, p, wd1, rfl, rfl, rfl, g1, g2, g3, g4, g5⟩
   simp only at g2
   show Ret (tries_builder_add_L3 w (a : Int) nodes1 (p : Int) (i : Int)) _
   unfold tries_builder_add_L3
   rw [ret_bif]
   refine ⟨fun hc => ?_, fun hc => ?_⟩
   ·have hi : i < w.length := by simpa using hc
    have hwi : w[i]? = some w[i] := List.getElem?_eq_getElem hi
    obtain ⟨c1, c2⟩ := hw _ (List.getElem_mem hi)
    obtain ⟨s, hs⟩ : ∃ s : Nat, w[i] = (s : Int) := ⟨w[i].toNat, by omega⟩
    have hsa : s < a := by omega
    have hp : p < nodes1.length := by rw [g2.len]; exact (List.getElem?_eq_some_iff.1 g3).1
    have hN : nodes1[p]? = some nodes1[p] := List.getElem?_eq_getElem hp
    have htk : w.take (i + 1) = w.take i ++ [(s : Int)] := by rw [List.take_add_one, hwi, hs]; rfl
    have hi2 : w64 ((i : Int) + 1) = ((i + 1 : Nat) : Int) := by rw [w64_in (by omega) (by omega)]; omega
    rw [idx_some hwi, Option.bind_some, idx_some hN, Option.bind_some, hs]
    rcases g2.nxt p _ _ hN g3 s hsa with ⟨q1, q2⟩ | ⟨j, q1, q2⟩
    ·rw [idx_some q1, Option.bind_some]
     have hb : ((-1 : Int) == -1) = true := rfl
     rw [hb, cond_true, node_eq ha (by rw [g2.len]; omega), Option.bind_some]
     have hN2 : (nodes1 ++ [S_tries_Node.mk (List.replicate a (-1)) false])[p]? = some nodes1[p] := by rw [List.getElem?_append_left hp]; exact hN
     dsimp only
     rw [idx_some hN2, Option.bind_some, idx_some q1, Option.bind_some, Int.toNat_natCast, Int.toNat_natCast]
     have hg := g2.grow hN g3 hsa q2 (fun hd => by
      have := hDp _ hd
      exact q2 ((g4 _).2 (.inl this)))
     unfold tries_builder_add_J4
     have hset : ((nodes1 ++ [S_tries_Node.mk (List.replicate a (-1)) false]).set p (S_tries_Node.mk (nodes1[p].Next.set s (nodes1.length : Int)) nodes1[p].End))[p]? = some (S_tries_Node.mk (nodes1[p].Next.set s (nodes1.length : Int)) nodes1[p].End) := List.getElem?_set_self (by simp; omega)
     have hnx : (nodes1[p].Next.set s (nodes1.length : Int))[s]? = some (nodes1.length : Int) := List.getElem?_set_self (by rw [g2.nlen p _ hN]; exact hsa)
     rw [idx_some hset, Option.bind_some, idx_some hnx, Option.bind_some, hi2, ret_some]
     refine ⟨⟨i + 1, nodes1.length, _, rfl, rfl, rfl, hi, hg, ?_, fun x => ?_, ?_⟩, by simp only [Int.toNat_natCast]; omega⟩
     ·rw [g2.len, htk, List.getElem?_append_right (Nat.le_refl _)]; simp
     ·rw [List.mem_append, g4, List.mem_singleton, ← htk]
      constructor
      ·rintro ((q | ⟨j, r1, r2⟩) | q)
       ·exact .inl q
       ·exact .inr ⟨j, by omega, r2⟩
       ·exact .inr ⟨i + 1, Nat.le_refl _, q⟩
      ·rintro (q | ⟨j, r1, r2⟩)
       ·exact .inl (.inl q)
       ·rcases Nat.lt_or_ge i j with q | q
        ·exact .inr (by rw [r2, show j = i + 1 by omega])
        ·exact .inl (.inr ⟨j, q, r2⟩)
     ·rw [List.length_append, List.length_singleton]; omega
    ·rw [idx_some q1, Option.bind_some]
     have hb : ((j : Int) == -1) = false := by simp
     rw [hb, cond_false]
     unfold tries_builder_add_J4
     rw [idx_some hN, Option.bind_some, idx_some q1, Option.bind_some, hi2, ret_some]
     refine ⟨⟨i + 1, j, wd1, rfl, rfl, rfl, hi, g2, by rw [htk]; exact q2, fun x => ?_, by omega⟩, by simp only [Int.toNat_natCast]; omega⟩
     rw [g4]
     constructor
     ·rintro (q | ⟨j, r1, r2⟩)
      ·exact .inl q
      ·exact .inr ⟨j, by omega, r2⟩
     ·rintro (q | ⟨j', r1, r2⟩)
      ·exact .inl q
      ·rcases Nat.lt_or_ge i j' with q | q
       ·have hm : x ∈ wd1 := by rw [r2, show j' = i + 1 by omega, htk]; exact List.mem_of_getElem? q2
        exact (g4 x).1 hm
       ·exact .inr ⟨j', q, r2⟩
   ·have hi : i = w.length := by
     have : ¬ i < w.length := by simpa using hc
     omega
    rw [ret_some]
    subst hi
    exact ⟨rfl, p, wd1, rfl, g2, by rw [g3, List.take_length], g4, by omega⟩
  ·rintro ⟨_, nodes1, _⟩ ⟨rfl, p, wd1, rfl, g1, g2, g3, g4⟩
   simp only at g1
   show Ret (tries_builder_add_J2 (a : Int) nodes1 (p : Int)) _
   unfold tries_builder_add_J2
   have hp : p < nodes1.length := by rw [g1.len]; exact (List.getElem?_eq_some_iff.1 g2).1
   have hN : nodes1[p]? = some nodes1[p] := List.getElem?_eq_getElem hp
   rw [idx_some hN, Option.bind_some, ret_some]
   refine ⟨rfl, wd1, g1.ends hN g2, g3, by omega⟩
 unfold tries_builder_add
 by_cases he : nodes.length = 0
 ·have hb : ((((S_tries_builder.mk (a : Int) nodes).nodes_.length : Nat) : Int) == 0) = true := by show ((nodes.length : Int) == 0) = true; rw [he]; rfl
  rw [hb, cond_true, node_eq ha (by omega), Option.bind_some]
  have hnil : nodes = [] := List.eq_nil_of_length_eq_zero he
  have hwn : wd = [] := List.eq_nil_of_length_eq_zero (by rw [← h.len]; exact he)
  refine J _ [[]] ?_ (by simp) (by simp) (fun x => by simp [hwn])
  subst hnil hwn
  refine ⟨rfl, by simp, ?_, ?_, fun _ => rfl, ?_, ?_⟩
  ·intro i N hN
   have : i = 0 := by have := (List.getElem?_eq_some_iff.1 hN).1; simp at this; exact this
   subst this
   simp at hN
   subst hN
   simp
  ·intro i N x hN hx s hs
   have : i = 0 := by have := (List.getElem?_eq_some_iff.1 hN).1; simp at this; exact this
   subst this
   simp at hN hx
   subst hN hx
   left
   exact ⟨by simp only; rw [List.getElem?_replicate, if_pos hs], by simp⟩
  ·intro v s hv
   simp at hv
  ·intro i N x hN hx
   have : i = 0 := by have := (List.getElem?_eq_some_iff.1 hN).1; simp at this; exact this
   subst this
   simp at hN hx
   subst hN hx
   simp only [Bool.false_eq_true, false_iff]
   intro hd
   have := hDp _ hd
   simp at this
 ·have hb : ((((S_tries_builder.mk (a : Int) nodes).nodes_.length : Nat) : Int) == 0) = false := by show ((nodes.length : Int) == 0) = false; rw [beq_eq_false_iff_ne]; omega
  rw [hb, cond_false]
  have hpos : 0 < wd.length := by rw [← h.len]; omega
  exact J nodes wd h hpos (by omega) fun x => ⟨fun q => .inl q, fun q => by
   rcases q with q | rfl
   ·exact q
   ·exact List.mem_of_getElem? (h.root hpos)⟩
theorem of_trie {a : Nat} {l : List (List Int)} (hl : chE (a : Int) l = 0) : Ret (tries_of l (a : Int)) fun b => b.inputs_ = (a : Int) ∧ ∃ wd, TreeI a b.nodes_ wd (fun y => y ∈ l) ∧ (∀ x, x ∈ wd ↔ ∃ w ∈ l, ∃ j, j ≤ w.length ∧ x = w.take j) ∧ wd.length ≤ syms l + l.length := by
 obtain ⟨q1, q2, q3, q4, q5, q6⟩ := ch_small hl
 unfold tries_of
 rw [ret_bind]
 refine Ret.mono (ret_loop (fun q : Int × List S_tries_Node × Int => ∃ (i : Nat) (wd : List (List Int)), q.1 = (a : Int) ∧ q.2.2 = (i : Int) ∧ i ≤ l.length ∧ TreeI a q.2.1 wd (fun y => y ∈ l.take i) ∧ (∀ x, x ∈ wd ↔ ∃ w ∈ l.take i, ∃ j, j ≤ w.length ∧ x = w.take j) ∧ wd.length ≤ syms (l.take i) + i) (fun q => l.length - q.2.2.toNat) (R := fun t => t.1 = (a : Int) ∧ ∃ wd, TreeI a t.2 wd (fun y => y ∈ l) ∧ (∀ x, x ∈ wd ↔ ∃ w ∈ l, ∃ j, j ≤ w.length ∧ x = w.take j) ∧ wd.length ≤ syms l + l.length) ?_ ?_ ?_) ?_
 ·refine ⟨0, [], rfl, rfl, Nat.zero_le _, ⟨rfl, List.nodup_nil, by simp, by simp, by simp, by simp, by simp⟩, by simp, by simp⟩
 ·show l.length - _ < _
  omega
 ·rintro ⟨_, nodes, _⟩ ⟨i, wd, rfl, rfl, g1, g2, g3, g4⟩
  simp only at g2
  show Ret (tries_of_L2 l (a : Int) nodes (i : Int)) _
  unfold tries_of_L2
  rw [ret_bif]
  refine ⟨fun hc => ?_, fun hc => ?_⟩
  ·have hi : i < l.length := by simpa using hc
   have hx : l[i]? = some l[i] := List.getElem?_eq_getElem hi
   have hsy : syms (l.take i) ≤ syms l := syms_sub (List.take_sublist _ _)
   rw [idx_some hx, Option.bind_some, ret_bind]
   refine (add_ret (by omega) g2 (q6 _ (List.getElem_mem hi)) (by have := q2 _ (List.getElem_mem hi); omega) (by omega) (fun x hxx => (g3 x).2 ⟨x, hxx, x.length, Nat.le_refl _, by simp⟩)).mono ?_
   rintro b ⟨e1, wd', t1, t2, t3⟩
   have htk : l.take (i + 1) = l.take i ++ [l[i]] := by rw [List.take_add_one, hx]; rfl
   rw [w64_in (by omega) (by omega), ret_some]
   refine ⟨⟨i + 1, wd', e1, rfl, hi, ?_, fun x => ?_, ?_⟩, by simp only; omega⟩
   ·have : (fun y => y ∈ l.take (i + 1)) = fun y => y ∈ l.take i ∨ y = l[i] := by
     funext y
     rw [htk, List.mem_append, List.mem_singleton]
    simp only
    rw [this]
    exact t1
   ·rw [t2, g3, htk]
    constructor
    ·rintro (⟨w, r1, r2⟩ | r)
     ·exact ⟨w, List.mem_append.2 (.inl r1), r2⟩
     ·exact ⟨l[i], List.mem_append.2 (.inr (List.mem_singleton.2 rfl)), r⟩
    ·rintro ⟨w, r1, r2⟩
     rcases List.mem_append.1 r1 with q | q
     ·exact .inl ⟨w, q, r2⟩
     ·simp at q
      subst q
      exact .inr r2
   ·have : syms (l.take (i + 1)) = syms (l.take i) + l[i].length := by rw [htk, syms_append]; simp [syms]
    omega
  ·have hi : i = l.length := by
    have : ¬ i < l.length := by simpa using hc
    omega
   rw [ret_some]
   subst hi
   rw [List.take_length] at g2 g3 g4
   exact ⟨rfl, wd, g2, g3, g4⟩
 ·rintro ⟨x, nodes⟩ ⟨rfl, wd, g1, g2, g3⟩
  show Ret (tries_of_J1 (a : Int) nodes) _
  unfold tries_of_J1
  rw [ret_some]
  exact ⟨rfl, wd, g1, g2, g3⟩
end Go.Own

namespace Go.Own
set_option linter.unusedVariables false
section
variable {σ : Type} (yy : σ → S_tries_place → Option (σ × Bool))
def foldS : List S_tries_place → σ → Option (σ × Bool)
 | [], sg => some (sg, true)
 | p :: ps, sg => Option.bind (yy sg p) fun r => if r.2 = true then foldS ps r.1 else some (r.1, false)
theorem foldS_append : ∀ (l m : List S_tries_place) (sg : σ), foldS yy (l ++ m) sg = Option.bind (foldS yy l sg) fun r => if r.2 = true then foldS yy m r.1 else some (r.1, false)
 | [], m, sg => by simp [foldS]
 | p :: l, m, sg => by
  simp only [List.cons_append, foldS]
  cases yy sg p with
  | none => rfl
  | some r =>
   simp only [Option.bind_some]
   by_cases h : r.2 = true
   ·simp only [h, if_true]
    exact foldS_append l m r.1
   ·simp [h]
def kids (w : List Int) : List Int → Nat → List S_tries_place
 | [], _ => []
 | k :: nx, s => (if k = -1 then [] else [S_tries_place.mk k (w ++ [(s : Int)])]) ++ kids w nx (s + 1)
theorem kids_len (w : List Int) : ∀ (nx : List Int) (s : Nat), (kids w nx s).length ≤ nx.length
 | [], _ => Nat.le_refl _
 | k :: nx, s => by
  have := kids_len w nx (s + 1)
  simp only [kids, List.length_append, List.length_cons]
  split <;> simp <;> omega
theorem kids_snoc (w : List Int) (k : Int) : ∀ (nx : List Int) (s : Nat), kids w (nx ++ [k]) s = kids w nx s ++ (if k = -1 then [] else [S_tries_place.mk k (w ++ [((s + nx.length : Nat) : Int)])])
 | [], s => by simp [kids]
 | k' :: nx, s => by
  simp only [List.cons_append, kids, kids_snoc w k nx (s + 1), List.append_assoc, List.length_cons]
  rw [show s + 1 + nx.length = s + (nx.length + 1) by omega]
theorem kids_loop {p : S_tries_place} {yr : σ × Bool} {N : S_tries_Node} (hN : N.Next.length ≤ 1000) (hw : p.w_.length ≤ 100000) {nx : List S_tries_place} (hn : nx.length ≤ 1000000000) :
  loop (fun s => tries_walk_1_L6 p yr N s.1 s.2) (nx, 0) = some (yr.1, nx ++ kids p.w_ N.Next 0) := by
 have h := loop_seq (step := fun s => tries_walk_1_L6 p yr N s.1 s.2) (fun i => (nx ++ kids p.w_ (N.Next.take i) 0, (i : Int))) N.Next.length (t := (yr.1, nx ++ kids p.w_ N.Next 0)) (by omega) (by
  intro i hi
  show tries_walk_1_L6 p yr N _ (i : Int) = _
  unfold tries_walk_1_L6
  have hq : decide ((i : Int) < (N.Next.length : Int)) = true := by simpa using hi
  have hx : N.Next[i]? = some N.Next[i] := List.getElem?_eq_getElem hi
  have hl := kids_len p.w_ (N.Next.take i) 0
  rw [List.length_take] at hl
  have htk : N.Next.take (i + 1) = N.Next.take i ++ [N.Next[i]] := by rw [List.take_add_one, hx]; rfl
  rw [hq, cond_true, idx_some hx, Option.bind_some]
  have hi2 : w64 ((i : Int) + 1) = ((i + 1 : Nat) : Int) := by rw [w64_in (by omega) (by omega)]; omega
  have hlt : (N.Next.take i).length = i := by rw [List.length_take]; omega
  by_cases hk : N.Next[i] = -1
  ·have hb : (N.Next[i] != -1) = false := by simp [hk]
   rw [hb, cond_false]
   unfold tries_walk_1_J7
   rw [hi2, htk, kids_snoc, if_pos hk, List.append_nil]
  ·have hb : (N.Next[i] != -1) = true := by simpa using hk
   rw [hb, cond_true, clip_eq, Option.bind_some, gdT (by simp; omega), gdT (by rw [List.length_append, List.length_singleton]; omega)]
   unfold tries_walk_1_J7
   rw [hi2, htk, kids_snoc, if_neg hk, hlt, Nat.zero_add, List.append_assoc]) (by
  show tries_walk_1_L6 p yr N _ (N.Next.length : Int) = _
  unfold tries_walk_1_L6
  have hq : decide ((N.Next.length : Int) < (N.Next.length : Int)) = false := by simp
  rw [hq, cond_false, List.take_length])
 have h0 : (nx ++ kids p.w_ (N.Next.take 0) 0, ((0 : Nat) : Int)) = (nx, (0 : Int)) := by simp [kids]
 rw [h0] at h
 exact h
variable {nodes : List S_tries_Node}
def nextP (nodes : List S_tries_Node) (p : S_tries_place) : List S_tries_place :=
 match nodes[p.at_.toNat]? with
 | some N => kids p.w_ N.Next 0
 | none => []
def GoodP (nodes : List S_tries_Node) (p : S_tries_place) : Prop := 0 ≤ p.at_ ∧ p.w_.length ≤ 100000 ∧ ∃ N, nodes[p.at_.toNat]? = some N ∧ N.Next.length ≤ 1000
theorem level_loop {lv : List S_tries_place} (hl : lv.length ≤ 500000) (hg : ∀ p ∈ lv, GoodP nodes p) (sg : σ) :
  loop (fun s => tries_walk_1_L4 nodes yy lv s.1 s.2.1 s.2.2) (sg, ([] : List S_tries_place), 0) = Option.bind (foldS yy lv sg) fun r => some (if r.2 = true then .inl (r.1, lv.flatMap (nextP nodes)) else .inr r.1) := by
 have gen : ∀ (n k : Nat) (sg : σ), k ≤ lv.length → lv.length - k < n → loopN (fun s => tries_walk_1_L4 nodes yy lv s.1 s.2.1 s.2.2) n (sg, (lv.take k).flatMap (nextP nodes), (k : Int)) = Option.bind (foldS yy (lv.drop k) sg) fun r => some (if r.2 = true then .inl (r.1, lv.flatMap (nextP nodes)) else .inr r.1) := by
  intro n
  induction n with
  | zero => intro k _ _ h; omega
  | succ n ih =>
   intro k sg hk hn
   rw [loopN_succ]
   dsimp only
   rw [tries_walk_1_L4.eq_1 nodes yy lv sg ((lv.take k).flatMap (nextP nodes)) (k : Int)]
   rcases Nat.lt_or_ge k lv.length with hlt | hge
   ·have hx : lv[k]? = some lv[k] := List.getElem?_eq_getElem hlt
    have hq : decide ((k : Int) < (lv.length : Int)) = true := by simpa using hlt
    rw [hq, cond_true, idx_some hx, Option.bind_some, List.drop_eq_getElem_cons hlt]
    simp only [foldS]
    cases hy : yy sg lv[k] with
    | none => rfl
    | some r =>
     simp only [Option.bind_some]
     by_cases hr : r.2 = true
     ·obtain ⟨p1, p2, N, p3, p4⟩ := hg _ (List.getElem_mem hlt)
      have hidx : idx nodes lv[k].at_ = some N := by
       rw [show lv[k].at_ = ((lv[k].at_.toNat : Nat) : Int) by omega]; exact p3
      have hnl : ((lv.take k).flatMap (nextP nodes)).length ≤ 1000000000 := by
       have : ∀ m : List S_tries_place, (∀ p ∈ m, GoodP nodes p) → (m.flatMap (nextP nodes)).length ≤ m.length * 1000 := by
        intro m
        induction m with
        | nil => intro _; simp
        | cons p m ih2 =>
         intro hm
         obtain ⟨_, _, M, m3, m4⟩ := hm p (by simp)
         have h1 : (nextP nodes p).length ≤ 1000 := by
          unfold nextP
          rw [m3]
          exact Nat.le_trans (kids_len _ _ _) m4
         have h2 := ih2 fun q hq => hm q (by simp [hq])
         rw [List.flatMap_cons, List.length_append, List.length_cons]
         omega
       have h1 := this (lv.take k) fun p hp => hg p (List.mem_of_mem_take hp)
       rw [List.length_take] at h1
       omega
      have hnp : nextP nodes lv[k] = kids lv[k].w_ N.Next 0 := by unfold nextP; rw [p3]
      have htk : (lv.take (k + 1)).flatMap (nextP nodes) = (lv.take k).flatMap (nextP nodes) ++ kids lv[k].w_ N.Next 0 := by
       rw [List.take_add_one, hx, List.flatMap_append]
       simp [hnp]
      rw [hr, Bool.not_true, cond_false, hidx, Option.bind_some, bdT (kids_loop p4 p2 hnl)]
      unfold tries_walk_1_J5
      rw [w64_in (by omega) (by omega)]
      dsimp only
      rw [← htk]
      rw [show (k : Int) + 1 = ((k + 1 : Nat) : Int) by omega, ih (k + 1) r.1 hlt (by omega)]
      simp
     ·have hb : r.2 = false := by simpa using hr
      simp [hb]
   ·have hk2 : k = lv.length := by omega
    subst hk2
    have hq : decide ((lv.length : Int) < (lv.length : Int)) = false := by simp
    rw [hq, cond_false, List.drop_length, List.take_length]
    simp [foldS]
 have h := gen fuel 0 sg (Nat.zero_le _) (by show lv.length - 0 < 18446744073709551616; omega)
 have h0 : (sg, (lv.take 0).flatMap (nextP nodes), ((0 : Nat) : Int)) = (sg, ([] : List S_tries_place), (0 : Int)) := by simp
 rw [h0, List.drop_zero] at h
 exact h
def levs (nodes : List S_tries_Node) : Nat → List S_tries_place → List S_tries_place
 | 0, _ => []
 | m + 1, lv => lv ++ levs nodes m (lv.flatMap (nextP nodes))
def itL (nodes : List S_tries_Node) : Nat → List S_tries_place → List S_tries_place
 | 0, lv => lv
 | m + 1, lv => itL nodes m (lv.flatMap (nextP nodes))
theorem walk_loop : ∀ (m n : Nat) (lv : List S_tries_place) (sg : σ), m < n → itL nodes m lv = [] → (∀ j, j < m → (itL nodes j lv).length ≤ 500000 ∧ ∀ p ∈ itL nodes j lv, GoodP nodes p) →
  loopN (fun s => tries_walk_1_L2 nodes yy s.1 s.2) n (sg, lv) = Option.bind (foldS yy (levs nodes m lv) sg) fun r => some r.1
 | m, 0, lv, sg, h, _, _ => by omega
 | 0, n + 1, lv, sg, _, h0, _ => by
  have : lv = [] := h0
  subst this
  rw [loopN_succ]
  rfl
 | m + 1, n + 1, lv, sg, hmn, h0, hg => by
  rw [loopN_succ]
  dsimp only
  rw [tries_walk_1_L2.eq_1 nodes yy sg lv]
  have g := hg 0 (by omega)
  have g1 : lv.length ≤ 500000 := g.1
  have g2 : ∀ p ∈ lv, GoodP nodes p := g.2
  by_cases he : lv = []
  ·subst he
   have hlv : ∀ m, levs nodes m [] = [] := by
    intro m
    induction m with
    | zero => rfl
    | succ m ih => simp [levs, ih]
   rw [hlv]
   rfl
  ·have hpos : 0 < lv.length := List.length_pos_iff.2 he
   have hq : decide (((lv.length : Nat) : Int) > 0) = true := by rw [decide_eq_true_eq]; omega
   rw [hq, cond_true, level_loop yy g1 g2]
   simp only [levs]
   rw [foldS_append]
   cases hf : foldS yy lv sg with
   | none => rfl
   | some r =>
    simp only [Option.bind_some]
    by_cases hr : r.2 = true
    ·simp only [hr, if_true]
     unfold tries_walk_1_J3
     exact walk_loop m n _ r.1 (by omega) h0 fun j hj => hg (j + 1) (by omega)
    ·simp [hr]
end
def pl (wd : List (List Int)) (w : List Int) : S_tries_place := ⟨((wd.idxOf w : Nat) : Int), w⟩
theorem idx_at {wd : List (List Int)} (hn : wd.Nodup) {i : Nat} {w : List Int} (h : wd[i]? = some w) : wd.idxOf w = i := by
 have hi := (List.getElem?_eq_some_iff.1 h).1
 have hm : w ∈ wd := List.mem_of_getElem? h
 have hlt : wd.idxOf w < wd.length := List.idxOf_lt_length_iff.2 hm
 have h2 : wd[wd.idxOf w]? = some w := by rw [List.getElem?_eq_getElem hlt, List.getElem_idxOf]
 exact (List.getElem?_inj hlt hn).1 (h2.trans h.symm)
theorem at_idx {wd : List (List Int)} {w : List Int} (hm : w ∈ wd) : wd[wd.idxOf w]? = some w := by
 have hlt : wd.idxOf w < wd.length := List.idxOf_lt_length_iff.2 hm
 rw [List.getElem?_eq_getElem hlt, List.getElem_idxOf]
theorem kids_eq {wd : List (List Int)} (hn : wd.Nodup) (w : List Int) : ∀ (nx : List Int) (s0 : Nat), (∀ t k, nx[t]? = some k → (k = -1 ∧ w ++ [((s0 + t : Nat) : Int)] ∉ wd) ∨ ∃ j : Nat, k = (j : Int) ∧ wd[j]? = some (w ++ [((s0 + t : Nat) : Int)])) →
  kids w nx s0 = (((List.range' s0 nx.length).map fun s : Nat => w ++ [(s : Int)]).filter fun x => decide (x ∈ wd)).map (pl wd)
 | [], _, _ => rfl
 | k :: nx, s0, h => by
  have ih := kids_eq hn w nx (s0 + 1) fun t k' hk => by
   have := h (t + 1) k' (by simpa using hk)
   rwa [show s0 + (t + 1) = s0 + 1 + t by omega] at this
  simp only [kids, ih, List.length_cons, List.range'_succ, List.map_cons, List.filter_cons]
  rcases h 0 k rfl with ⟨h1, h2⟩ | ⟨j, h1, h2⟩
  ·rw [Nat.add_zero] at h2
   simp [h1, h2]
  ·rw [Nat.add_zero] at h2
   have hm := List.mem_of_getElem? h2
   have hk : ¬ k = -1 := by omega
   simp only [hk, if_false, hm, decide_true, if_true, List.map_cons, List.singleton_append]
   congr 1
   unfold pl
   rw [idx_at hn h2, h1]
def LW (wd : List (List Int)) (k : Nat) : List (List Int) := (srt wd).filter fun x => decide (x.length = k)
theorem mem_LW {wd : List (List Int)} {k : Nat} {x : List Int} : x ∈ LW wd k ↔ x ∈ wd ∧ x.length = k := by simp [LW, mem_srt]
theorem LW_sw (wd : List (List Int)) (k : Nat) : SW (LW wd k) := (srt_sw wd).filter _
section
variable {a : Nat} {nodes : List S_tries_Node} {wd : List (List Int)} {D : List Int → Prop} (h : TreeI a nodes wd D) (ha : a ≤ 1000)
include h
theorem next_pl {w : List Int} (hw : w ∈ wd) : nextP nodes (pl wd w) = ((extW a w).filter fun x => decide (x ∈ wd)).map (pl wd) := by
 have hi := at_idx hw
 have hlt : wd.idxOf w < nodes.length := by rw [h.len]; exact (List.getElem?_eq_some_iff.1 hi).1
 have hN : nodes[wd.idxOf w]? = some nodes[wd.idxOf w] := List.getElem?_eq_getElem hlt
 have hl := h.nlen _ _ hN
 unfold nextP
 have : (pl wd w).at_.toNat = wd.idxOf w := by simp [pl]
 rw [this, hN]
 show kids w nodes[wd.idxOf w].Next 0 = _
 rw [kids_eq h.nod w nodes[wd.idxOf w].Next 0, hl]
 ·unfold extW
  rw [List.range_eq_range']
 ·intro t k hk
  have ht : t < a := by have := (List.getElem?_eq_some_iff.1 hk).1; omega
  rw [Nat.zero_add]
  rcases h.nxt _ _ _ hN hi t ht with ⟨q1, q2⟩ | ⟨j, q1, q2⟩
  ·rw [hk] at q1
   exact .inl ⟨by simpa using q1, q2⟩
  ·rw [hk] at q1
   exact .inr ⟨j, by simpa using q1, q2⟩
theorem next_level (k : Nat) : ((LW wd k).map (pl wd)).flatMap (nextP nodes) = (LW wd (k + 1)).map (pl wd) := by
 have e : ∀ l : List (List Int), (∀ w ∈ l, w ∈ wd) → (l.map (pl wd)).flatMap (nextP nodes) = ((l.flatMap (extW a)).filter fun x => decide (x ∈ wd)).map (pl wd) := by
  intro l
  induction l with
  | nil => intro _; rfl
  | cons w l ih =>
   intro hl
   rw [List.map_cons, List.flatMap_cons, ih fun v hv => hl v (by simp [hv]), next_pl h (hl w (by simp)), List.flatMap_cons, List.filter_append, List.map_append]
 rw [e _ fun w hw => (mem_LW.1 hw).1]
 congr 1
 refine SW.unique ((flat_sw a k (LW_sw wd k) fun w hw => (mem_LW.1 hw).2).filter _) (LW_sw _ _) fun x => ?_
 rw [List.mem_filter, List.mem_flatMap, mem_LW, decide_eq_true_eq]
 constructor
 ·rintro ⟨⟨w, q1, q2⟩, q3⟩
  simp only [extW, List.mem_map] at q2
  obtain ⟨s, _, rfl⟩ := q2
  exact ⟨q3, by simp [(mem_LW.1 q1).2]⟩
 ·rintro ⟨q1, q2⟩
  rcases List.eq_nil_or_concat x with rfl | ⟨w, s, rfl⟩
  ·simp at q2
  ·rw [List.concat_eq_append] at q1 q2 ⊢
   obtain ⟨c1, c2, c3⟩ := h.clo w s q1
   refine ⟨⟨w, mem_LW.2 ⟨c1, by simpa using q2⟩, ?_⟩, q1⟩
   simp only [extW, List.mem_map, List.mem_range]
   exact ⟨s.toNat, by omega, by rw [Int.toNat_of_nonneg c2]⟩
theorem it_level : ∀ (j k : Nat), itL nodes j ((LW wd k).map (pl wd)) = (LW wd (k + j)).map (pl wd)
 | 0, k => rfl
 | j + 1, k => by
  rw [itL, next_level h, it_level j (k + 1), show k + 1 + j = k + (j + 1) by omega]
def catW (wd : List (List Int)) : Nat → Nat → List (List Int)
 | _, 0 => []
 | k, m + 1 => LW wd k ++ catW wd (k + 1) m
theorem levs_eq : ∀ (m k : Nat), levs nodes m ((LW wd k).map (pl wd)) = (catW wd k m).map (pl wd)
 | 0, k => rfl
 | m + 1, k => by rw [levs, next_level h, levs_eq m (k + 1), catW, List.map_append]
omit h in
theorem mem_catW : ∀ (m k : Nat) (x : List Int), x ∈ catW wd k m ↔ x ∈ wd ∧ k ≤ x.length ∧ x.length < k + m
 | 0, k, x => by simp [catW]
 | m + 1, k, x => by
  rw [catW, List.mem_append, mem_LW, mem_catW m (k + 1) x]
  constructor
  ·rintro (⟨q1, q2⟩ | ⟨q1, q2, q3⟩)
   ·exact ⟨q1, by omega, by omega⟩
   ·exact ⟨q1, by omega, by omega⟩
  ·rintro ⟨q1, q2, q3⟩
   rcases Nat.lt_or_ge k x.length with q | q
   ·exact .inr ⟨q1, by omega, by omega⟩
   ·exact .inl ⟨q1, by omega⟩
omit h in
theorem catW_sw : ∀ (m k : Nat), SW (catW wd k m)
 | 0, k => by simp [catW, SW]
 | m + 1, k => by
  unfold catW SW
  rw [List.pairwise_append]
  refine ⟨LW_sw wd k, catW_sw m (k + 1), fun x hx y hy => ?_⟩
  have h1 := (mem_LW.1 hx).2
  have h2 := ((mem_catW m (k + 1) y).1 hy).2.1
  unfold cmpW
  rw [if_pos (by omega)]
  omega
include ha
theorem walk_eq {σ : Type} (yy : σ → S_tries_place → Option (σ × Bool)) (sg : σ) (hlen : wd.length ≤ 500000) (hwl : ∀ w ∈ wd, w.length ≤ 10000) :
  tries_walk_1 nodes yy sg = Option.bind (foldS yy ((srt wd).map (pl wd)) sg) fun r => some r.1 := by
 have hcat : catW wd 0 10001 = srt wd := SW.unique (catW_sw 10001 0) (srt_sw wd) fun x => by
  rw [mem_catW, mem_srt]
  exact ⟨fun q => q.1, fun q => ⟨q, Nat.zero_le _, by have := hwl x q; omega⟩⟩
 have main : tries_walk_1_J1 nodes yy sg ((LW wd 0).map (pl wd)) = Option.bind (foldS yy ((srt wd).map (pl wd)) sg) fun r => some r.1 := by
  unfold tries_walk_1_J1
  have hl := walk_loop yy (nodes := nodes) 10001 fuel ((LW wd 0).map (pl wd)) sg (by show 10001 < 18446744073709551616; omega) (by
   rw [it_level h]
   have : LW wd (0 + 10001) = [] := by
    rw [List.eq_nil_iff_forall_not_mem]
    intro x hx
    obtain ⟨q1, q2⟩ := mem_LW.1 hx
    have := hwl x q1
    omega
   rw [this]; rfl) (fun j hj => by
   rw [it_level h]
   refine ⟨?_, fun p hp => ?_⟩
   ·rw [List.length_map]
    refine Nat.le_trans (List.length_filter_le _ _) (Nat.le_trans (srt_len wd) hlen)
   ·obtain ⟨w, q1, rfl⟩ := List.mem_map.1 hp
    have hw := (mem_LW.1 q1).1
    have hlt : wd.idxOf w < nodes.length := by rw [h.len]; exact (List.getElem?_eq_some_iff.1 (at_idx hw)).1
    have hN : nodes[wd.idxOf w]? = some nodes[wd.idxOf w] := List.getElem?_eq_getElem hlt
    refine ⟨by simp [pl], by have := hwl w hw; show w.length ≤ 100000; omega, nodes[wd.idxOf w], by simp [pl], by rw [h.nlen _ _ hN]; exact ha⟩)
  have hl2 : loop (fun s => tries_walk_1_L2 nodes yy s.1 s.2) (sg, (LW wd 0).map (pl wd)) = _ := hl
  rw [hl2, levs_eq h, hcat]
  cases foldS yy ((srt wd).map (pl wd)) sg <;> rfl
 unfold tries_walk_1
 by_cases hn : nodes = []
 ·have hw0 : wd = [] := List.eq_nil_of_length_eq_zero (by rw [← h.len, hn]; rfl)
  have hq : decide (((nodes.length : Nat) : Int) > 0) = false := by rw [hn]; rfl
  rw [hq, cond_false]
  have hL : LW wd 0 = [] := by rw [hw0]; rfl
  rw [hL] at main
  exact main
 ·have hpos : 0 < nodes.length := List.length_pos_iff.2 hn
  have hq : decide (((nodes.length : Nat) : Int) > 0) = true := by rw [decide_eq_true_eq]; omega
  rw [hq, cond_true]
  have hr := h.root (by rw [← h.len]; exact hpos)
  have hL : LW wd 0 = [[]] := SW.unique (LW_sw wd 0) (by simp [SW]) fun x => by
   rw [mem_LW, List.mem_singleton]
   constructor
   ·rintro ⟨_, q⟩; exact List.eq_nil_of_length_eq_zero q
   ·rintro rfl; exact ⟨List.mem_of_getElem? hr, rfl⟩
  rw [hL] at main
  have hp : [[]].map (pl wd) = [S_tries_place.mk 0 []] := by simp [pl, idx_at h.nod hr]
  rw [hp] at main
  exact main
end
end Go.Own

namespace Go.Own
set_option linter.unusedVariables false
theorem leaf_eq {N : S_tries_Node} (hN : N.Next.length ≤ 1000) : tries_leaf N = some (N.Next.all fun c => c == -1) := by
 unfold tries_leaf slices_ContainsFunc_int_int_v2 slices_IndexFunc_int_int_v3
 have hl := loop_list N.Next (by omega) (step := fun s => slices_IndexFunc_int_int_v3_L2 N.Next s) (fun i c => if c ≠ -1 then some (i : Int) else none) (by
  intro i c hc
  have hi : i < N.Next.length := (List.getElem?_eq_some_iff.1 hc).1
  have hq : decide ((i : Int) < (N.Next.length : Int)) = true := by simpa using hi
  unfold slices_IndexFunc_int_int_v3_L2 tries_leaf_1
  rw [hq, cond_true, idx_some hc, Option.bind_some, Option.bind_some]
  by_cases h : c = -1
  ·simp [h, nS]
  ·have hb : (c != -1) = true := by simpa using h
   rw [hb, cond_true, if_pos h]
   rfl) (by unfold slices_IndexFunc_int_int_v3_L2; simp)
 rw [hl]
 have q := fs_any (fun c => c != -1) (fun i c => if c ≠ -1 then some (i : Int) else none) (fun i c => by by_cases h : c = -1 <;> simp [h]) N.Next 0
 have hall : (N.Next.all fun c => c == -1) = !(N.Next.any fun c => c != -1) := by
  rw [List.all_eq_not_any_not]
  rfl
 rw [hall, ← q]
 cases hf : firstS (fun i c => if c ≠ -1 then some (i : Int) else none) N.Next 0 with
 | none => rfl
 | some r =>
  obtain ⟨i, x, h1, h2⟩ := firstS_some hf
  rw [Nat.zero_add] at h2
  split at h2
  ·cases h2
   have : decide ((i : Int) ≥ 0) = true := by simp
   simp [oS]
  ·cases h2
def lexB (x v : List Int) : Bool := decide (x.length < v.length) && decide (v.take x.length = x)
theorem lexB_iff {x v : List Int} : lexB x v = true ↔ x.length < v.length ∧ v.take x.length = x := by simp [lexB]
def RedW (l : List (List Int)) : List (List Int) := l.filter fun x => !l.any (lexB x)
theorem mem_RedW {l : List (List Int)} {x : List Int} : x ∈ RedW l ↔ x ∈ l ∧ ∀ v ∈ l, ¬ (x.length < v.length ∧ v.take x.length = x) := by
 unfold RedW
 rw [List.mem_filter]
 simp only [Bool.not_eq_true', List.any_eq_false, lexB_iff]
def prefs (l : List (List Int)) : List (List Int) := l.flatMap fun w => (List.range (w.length + 1)).map fun k => w.take k
theorem mem_prefs {l : List (List Int)} {x : List Int} : x ∈ prefs l ↔ ∃ w ∈ l, ∃ j, j ≤ w.length ∧ x = w.take j := by
 simp only [prefs, List.mem_flatMap, List.mem_map, List.mem_range]
 constructor
 ·rintro ⟨w, h1, j, h2, rfl⟩; exact ⟨w, h1, j, by omega, rfl⟩
 ·rintro ⟨w, h1, j, h2, rfl⟩; exact ⟨w, h1, j, by omega, rfl⟩
section
variable {wd : List (List Int)}
theorem collect_fold {step : List (List Int) → S_tries_place → Option (LR (List (List Int)) Empty)} (P : List Int → Bool) : ∀ (ws : List (List Int)) (out : List (List Int)), (∀ o w, w ∈ ws → o.length ≤ 1000000 → step o (pl wd w) = some (.next (if P w = true then o ++ [w] else o))) → out.length + ws.length ≤ 1000000 →
  foldS (yOf step) (ws.map (pl wd)) (.next out) = some (.next (out ++ ws.filter P), true)
 | [], out, _, _ => by simp [foldS]
 | w :: ws, out, h, hl => by
  simp only [List.length_cons] at hl
  have h1 := h out w (by simp) (by omega)
  simp only [List.map_cons, foldS, yOf, h1, Option.bind_some, if_true]
  rw [collect_fold P ws _ (fun o v hv ho => h o v (by simp [hv]) ho) (by split <;> (try simp only [List.length_append, List.length_singleton]) <;> omega)]
  by_cases hp : P w = true
  ·simp [hp]
  ·have : P w = false := by simpa using hp
   simp [this]
end
section
variable {a : Nat} {nodes : List S_tries_Node} {wd : List (List Int)} {D : List Int → Prop} (h : TreeI a nodes wd D) (ha : a ≤ 1000) (hlen : wd.length ≤ 400000) (hwl : ∀ w ∈ wd, w.length ≤ 10000)
include h
theorem node_at {w : List Int} (hw : w ∈ wd) : ∃ N, nodes[wd.idxOf w]? = some N ∧ idx nodes (pl wd w).at_ = some N ∧ N.Next.length = a := by
 have hlt : wd.idxOf w < nodes.length := by rw [h.len]; exact (List.getElem?_eq_some_iff.1 (at_idx hw)).1
 have hN : nodes[wd.idxOf w]? = some nodes[wd.idxOf w] := List.getElem?_eq_getElem hlt
 exact ⟨_, hN, hN, h.nlen _ _ hN⟩
theorem leaf_at {w : List Int} (hw : w ∈ wd) (hpre : ∀ v ∈ wd, ∀ j, v.take j ∈ wd) {N : S_tries_Node} (hN : nodes[wd.idxOf w]? = some N) : (N.Next.all fun c => c == -1) = !wd.any (lexB w) := by
 rw [Bool.eq_iff_iff]
 simp only [List.all_eq_true, beq_iff_eq, Bool.not_eq_true', List.any_eq_false, lexB_iff]
 have hl := h.nlen _ _ hN
 constructor
 ·intro hall v hv hext
  have h1 : v.take (w.length + 1) ∈ wd := hpre v hv _
  have hlt := hext.1
  have e : v.take (w.length + 1) = w ++ [v[w.length]] := by rw [List.take_add_one, List.getElem?_eq_getElem hlt, hext.2]; rfl
  rw [e] at h1
  obtain ⟨_, c2, c3⟩ := h.clo _ _ h1
  obtain ⟨s, hs⟩ : ∃ s : Nat, v[w.length] = (s : Int) := ⟨v[w.length].toNat, by omega⟩
  rw [hs] at h1 c3
  rcases h.nxt _ _ _ hN (at_idx hw) s (by omega) with ⟨_, q⟩ | ⟨j, q1, _⟩
  ·exact q h1
  ·have := hall _ (List.mem_of_getElem? q1)
   omega
 ·intro hno c hc
  obtain ⟨t, ht⟩ := List.mem_iff_getElem?.1 hc
  have hta : t < a := by have := (List.getElem?_eq_some_iff.1 ht).1; omega
  rcases h.nxt _ _ _ hN (at_idx hw) t hta with ⟨q, _⟩ | ⟨j, _, q2⟩
  ·rw [ht] at q
   simpa using q
  ·exact absurd ⟨by simp, by simp⟩ (hno _ (List.mem_of_getElem? q2))
include ha hlen hwl
theorem collect_all : tries_collect_v5 nodes () = some (srt wd) := by
 unfold tries_collect_v5 tries_walk
 rw [Option.bind_some, walk_eq h ha _ _ (by omega) hwl]
 rw [collect_fold (wd := wd) (fun x => true) (srt wd) [] (fun o w hw ho => by
  have hw' := mem_srt.1 hw
  obtain ⟨N, n1, n2, n3⟩ := node_at h hw'
  have hww := hwl w hw'
  unfold tries_collect_v5_I2 tries_Prefixes_1
  rw [n2, Option.bind_some, Option.bind_some, cond_true]
  show (Option.bind (slices_Clone_int_int w) fun r_3 => _) = _
  rw [clone_eq w (by omega), Option.bind_some, clip_eq, Option.bind_some, gdT (by simp; omega)]
  rfl) (by have := srt_len wd; simp; omega)]
 simp only [Option.bind_some, List.nil_append]
 unfold tries_collect_v5_J1
 rw [clipW_eq]
 simp
end
theorem pre_closed {l wd : List (List Int)} (hm : ∀ x, x ∈ wd ↔ ∃ w ∈ l, ∃ j, j ≤ w.length ∧ x = w.take j) : ∀ v ∈ wd, ∀ j, v.take j ∈ wd := by
 intro v hv j
 obtain ⟨w, h1, i, h2, rfl⟩ := (hm v).1 hv
 exact (hm _).2 ⟨w, h1, min j i, by omega, by rw [List.take_take]⟩
theorem tPrefixes_eq {a : Nat} {l : List (List Int)} (hc : chE (a : Int) l = 0) (hw : Wd (a : Int) 40 12 l) : tries_Prefixes l (a : Int) = some (srt (prefs l), 0) ∧ (srt (prefs l)).length ≤ 520 ∧ ∀ w ∈ srt (prefs l), w.length ≤ 12 := by
 obtain ⟨q1, q2, q3, q4, q5, q6⟩ := ch_small hc
 obtain ⟨b, hb, e1, wd, t1, t2, t3⟩ := of_trie hc
 have hll := hw.2.1
 have hsl : syms l ≤ 40 * 12 := syms_mono hll fun w hww => (hw.2.2 w hww).1
 have hwl : ∀ w ∈ wd, w.length ≤ 12 := fun w hww => by
  obtain ⟨v, h1, j, h2, rfl⟩ := (t2 w).1 hww
  have := (hw.2.2 v h1).1
  rw [List.length_take]; omega
 have es : srt wd = srt (prefs l) := srt_congr fun x => by rw [t2, mem_prefs]
 have hlen : (srt wd).length ≤ 520 := Nat.le_trans (srt_len wd) (by omega)
 have hws : ∀ w ∈ srt wd, w.length ≤ 12 := fun w hww => hwl w (mem_srt.1 hww)
 have hsy : syms (srt wd) ≤ 520 * 12 := syms_mono hlen hws
 rw [← es]
 refine ⟨?_, hlen, hws⟩
 have hnl := t1.len
 unfold tries_Prefixes tries_valid
 have d1 : decide (((b.nodes_.length : Nat) : Int) > 4096) = false := by rw [decide_eq_false_iff_not]; omega
 have d2 : decide ((((srt wd).length : Nat) : Int) > 4096) = false := by rw [decide_eq_false_iff_not]; omega
 have d3 : decide (((syms (srt wd) : Nat) : Int) > 65536) = false := by rw [decide_eq_false_iff_not]; omega
 rw [tCheck_eq, hc, Option.bind_some, bne_self_eq_false, cond_false, hb, Option.bind_some, d1, cond_false, collect_all t1 (by omega) (by omega) (fun w hww => by have := hwl w hww; omega), Option.bind_some, d2, cond_false, steps_eq _ (by omega), stW_eq (by omega), Option.bind_some, d3, cond_false]
 rfl
theorem prefix_eq {x v : List Int} (hx : x.length < 1000000000) : ref12_prefix x v = some (lexB x v) := by
 unfold ref12_prefix lexB
 by_cases h : x.length < v.length
 ·have hq : decide (((x.length : Nat) : Int) < ((v.length : Nat) : Int)) = true := by rw [decide_eq_true_eq]; omega
  have e : (v.drop 0).take (((x.length : Nat) : Int).toNat - 0) = v.take x.length := by simp
  rw [hq, cond_true, gdT (by omega), e, compare_eq _ _ (fun _ => by omega), Option.bind_some, decide_eq_true h, Bool.true_and]
  by_cases he : v.take x.length = x
  ·rw [he, cmpW_self, decide_eq_true rfl]; rfl
  ·have hb : (cmpW x (v.take x.length) == 0) = false := by rw [beq_eq_false_iff_ne]; exact fun q => he (cmpW_eq q).symm
   rw [hb, decide_eq_false he]
 ·have hq : decide (((x.length : Nat) : Int) < ((v.length : Nat) : Int)) = false := by rw [decide_eq_false_iff_not]; omega
  rw [hq, cond_false, decide_eq_false h, Bool.false_and]
theorem rReduce_eq {l : List (List Int)} (hl : l.length ≤ 100000) (hw : ∀ w ∈ l, w.length < 1000000000) : ref12_Reduce l = some (RedW l) := by
 unfold ref12_Reduce
 have h := loop_seq (step := fun s => ref12_Reduce_L2 l s.1 s.2) (fun i => ((l.take i).filter (fun x => !l.any (lexB x)), (i : Int))) l.length (t := RedW l) (by omega) (by
  intro i hi
  show ref12_Reduce_L2 l _ (i : Int) = _
  unfold ref12_Reduce_L2
  have hq : decide ((i : Int) < (l.length : Int)) = true := by simpa using hi
  have hx : l[i]? = some l[i] := List.getElem?_eq_getElem hi
  have hin := loop_seq (step := fun s => ref12_Reduce_L5 l (i : Int) s.1 s.2) (fun k => ((l.take k).any (lexB l[i]), (k : Int))) l.length (t := l.any (lexB l[i])) (by omega) (by
   intro k hk
   show ref12_Reduce_L5 l (i : Int) _ (k : Int) = _
   unfold ref12_Reduce_L5
   have hq2 : decide ((k : Int) < (l.length : Int)) = true := by simpa using hk
   have hy : l[k]? = some l[k] := List.getElem?_eq_getElem hk
   have htk : (l.take (k + 1)).any (lexB l[i]) = ((l.take k).any (lexB l[i]) || lexB l[i] l[k]) := by
    rw [List.take_add_one, hy, List.any_append]
    simp
   rw [hq2, cond_true, w64_in (by omega) (by omega), htk]
   cases (l.take k).any (lexB l[i]) with
   | true => rfl
   | false => rw [cond_false, idx_some hx, Option.bind_some, idx_some hy, Option.bind_some, prefix_eq (hw _ (List.getElem_mem hi)), Option.bind_some, Bool.false_or]; rfl) (by
   show ref12_Reduce_L5 l (i : Int) _ (l.length : Int) = _
   unfold ref12_Reduce_L5
   have hq2 : decide (((l.length : Nat) : Int) < (l.length : Int)) = false := by simp
   rw [hq2, cond_false, List.take_length])
  have h0 : ((l.take 0).any (lexB l[i]), ((0 : Nat) : Int)) = (false, (0 : Int)) := by simp
  rw [h0] at hin
  rw [hq, cond_true, bdT hin]
  unfold ref12_Reduce_J4 ref12_Reduce_J3
  rw [w64_in (by omega) (by omega)]
  have hfl := List.length_filter_le (fun x => !l.any (lexB x)) (l.take i)
  rw [List.length_take] at hfl
  have htk : (l.take (i + 1)).filter (fun x => !l.any (lexB x)) = (l.take i).filter (fun x => !l.any (lexB x)) ++ (if l.any (lexB l[i]) = true then [] else [l[i]]) := by
   rw [List.take_add_one, hx, List.filter_append]
   congr 1
   rw [Option.toList_some, List.filter_cons, List.filter_nil]
   cases l.any (lexB l[i]) <;> rfl
  rw [htk]
  cases hb : l.any (lexB l[i]) with
  | true => simp
  | false =>
   rw [Bool.not_false, cond_true, idx_some hx, Option.bind_some, gdT (by dsimp only; rw [List.length_singleton]; omega)]
   rfl) (by
  show ref12_Reduce_L2 l _ (l.length : Int) = _
  unfold ref12_Reduce_L2
  have hq : decide (((l.length : Nat) : Int) < (l.length : Int)) = false := by simp
  rw [hq, cond_false, List.take_length]
  rfl)
 have h0 : ((l.take 0).filter (fun x => !l.any (lexB x)), ((0 : Nat) : Int)) = (([] : List (List Int)), (0 : Int)) := by simp
 rw [h0] at h
 rw [bdT h]
 rfl
theorem rPrefixes_eq {l : List (List Int)} (hl : l.length ≤ 100) (hw : ∀ w ∈ l, w.length ≤ 100) : ref12_Prefixes l = some (srt (prefs l)) := by
 have hpl : ∀ m : List (List Int), (∀ w ∈ m, w.length ≤ 100) → (prefs m).length ≤ m.length * 101 := by
  intro m
  induction m with
  | nil => intro _; simp [prefs]
  | cons w m ih =>
   intro hm
   have e : prefs (w :: m) = ((List.range (w.length + 1)).map fun k => w.take k) ++ prefs m := rfl
   have h1 := hm w (by simp)
   have h2 := ih fun v hv => hm v (by simp [hv])
   rw [e, List.length_append, List.length_map, List.length_range, List.length_cons]
   omega
 unfold ref12_Prefixes
 have h := loop_seq (step := fun s => ref12_Prefixes_L2 l s.1 s.2) (fun i => (srt (prefs (l.take i)), (i : Int))) l.length (t := srt (prefs l)) (by omega) (by
  intro i hi
  show ref12_Prefixes_L2 l _ (i : Int) = _
  unfold ref12_Prefixes_L2
  have hq : decide ((i : Int) < (l.length : Int)) = true := by simpa using hi
  have hx : l[i]? = some l[i] := List.getElem?_eq_getElem hi
  have hwi := hw _ (List.getElem_mem hi)
  have hpi := hpl (l.take i) fun w hww => hw w (List.mem_of_mem_take hww)
  rw [List.length_take] at hpi
  have htk : prefs (l.take (i + 1)) = prefs (l.take i) ++ (List.range (l[i].length + 1)).map fun k => l[i].take k := by
   unfold prefs
   rw [List.take_add_one, hx, List.flatMap_append]
   simp
  have hin := loop_seq (step := fun s => ref12_Prefixes_L4 l (i : Int) s.1 s.2) (fun k => (srt (prefs (l.take i) ++ (List.range k).map fun j => l[i].take j), (k : Int))) (l[i].length + 1) (t := srt (prefs (l.take (i + 1)))) (by omega) (by
   intro k hk
   show ref12_Prefixes_L4 l (i : Int) _ (k : Int) = _
   unfold ref12_Prefixes_L4
   have hq2 : decide ((k : Int) ≤ ((l[i].length : Nat) : Int)) = true := by rw [decide_eq_true_eq]; omega
   have e : (l[i].drop 0).take ((k : Int).toNat - 0) = l[i].take k := by simp
   have hll : (srt (prefs (l.take i) ++ (List.range k).map fun j => l[i].take j)).length ≤ 1000000 := by
    refine Nat.le_trans (srt_len _) ?_
    rw [List.length_append, List.length_map, List.length_range]; omega
   rw [idx_some hx, Option.bind_some, hq2, cond_true, Option.bind_some, gdT (by omega), e, put_eq (srt_sw _) hll (fun x hxx => by
    rcases List.mem_append.1 (mem_srt.1 hxx) with q | q
    ·obtain ⟨w, w1, j, w2, rfl⟩ := mem_prefs.1 q
     have := hw w (List.mem_of_mem_take w1)
     rw [List.length_take]; omega
    ·obtain ⟨j, _, rfl⟩ := List.mem_map.1 q
     rw [List.length_take]; omega) (by rw [List.length_take]; omega), Option.bind_some, w64_in (by omega) (by omega), ← srt_snoc, List.range_succ, List.map_append, List.append_assoc]
   rfl) (by
   show ref12_Prefixes_L4 l (i : Int) _ ((l[i].length + 1 : Nat) : Int) = _
   unfold ref12_Prefixes_L4
   have hq2 : decide (((l[i].length + 1 : Nat) : Int) ≤ ((l[i].length : Nat) : Int)) = false := by rw [decide_eq_false_iff_not]; omega
   rw [idx_some hx, Option.bind_some, hq2, cond_false, htk])
  have h0 : (srt (prefs (l.take i) ++ (List.range 0).map fun j => l[i].take j), ((0 : Nat) : Int)) = (srt (prefs (l.take i)), (0 : Int)) := by simp
  rw [h0] at hin
  rw [hq, cond_true, bdT hin]
  unfold ref12_Prefixes_J3
  rw [w64_in (by omega) (by omega)]
  rfl) (by
  show ref12_Prefixes_L2 l _ (l.length : Int) = _
  unfold ref12_Prefixes_L2
  have hq : decide (((l.length : Nat) : Int) < (l.length : Int)) = false := by simp
  rw [hq, cond_false, List.take_length])
 have h0 : (srt (prefs (l.take 0)), ((0 : Nat) : Int)) = (([] : List (List Int)), (0 : Int)) := by simp [prefs, srt]
 rw [h0] at h
 rw [bdT h]
 rfl
end Go.Own

namespace Go.Own
set_option linter.unusedVariables false
def nxW (W : List (List Int)) (w : List Int) (s : Nat) : Int := if w ++ [(s : Int)] ∈ W then ((W.idxOf (w ++ [(s : Int)]) : Nat) : Int) else -1
def cnode (a : Nat) (W l : List (List Int)) (w : List Int) : S_tries_Node := S_tries_Node.mk ((List.range a).map (nxW W w)) (decide (w ∈ l))
def canonT (a : Nat) (l : List (List Int)) : List S_tries_Node := (srt (prefs l)).map (cnode a (srt (prefs l)) l)
theorem canon_tree {a : Nat} {l : List (List Int)} (hs : ∀ w ∈ l, ∀ c ∈ w, 0 ≤ c ∧ c < (a : Int)) : TreeI a (canonT a l) (srt (prefs l)) (fun y => y ∈ l) := by
 have nd := (srt_sw (prefs l)).nodup
 have pre : ∀ v ∈ srt (prefs l), ∀ j, v.take j ∈ srt (prefs l) := by
  intro v hv j
  obtain ⟨w, h1, i, h2, rfl⟩ := mem_prefs.1 (mem_srt.1 hv)
  exact mem_srt.2 (mem_prefs.2 ⟨w, h1, min j i, by omega, by rw [List.take_take]⟩)
 have at_ : ∀ (i : Nat) (N : S_tries_Node) (x : List Int), (canonT a l)[i]? = some N → (srt (prefs l))[i]? = some x → N = cnode a (srt (prefs l)) l x := by
  intro i N x h1 h2
  unfold canonT at h1
  rw [List.getElem?_map, h2] at h1
  simpa using h1.symm
 have ex : ∀ (i : Nat) (N : S_tries_Node), (canonT a l)[i]? = some N → ∃ x, (srt (prefs l))[i]? = some x := by
  intro i N h1
  have := (List.getElem?_eq_some_iff.1 h1).1
  unfold canonT at this
  rw [List.length_map] at this
  exact ⟨_, List.getElem?_eq_getElem this⟩
 refine ⟨by simp [canonT], nd, ?_, ?_, ?_, ?_, ?_⟩
 ·intro i N h1
  obtain ⟨x, h2⟩ := ex i N h1
  rw [at_ i N x h1 h2]
  simp [cnode]
 ·intro i N x h1 h2 s hs2
  rw [at_ i N x h1 h2]
  have e : (cnode a (srt (prefs l)) l x).Next[s]? = some (nxW (srt (prefs l)) x s) := by
   unfold cnode
   simp [hs2]
  rw [e]
  unfold nxW
  by_cases hm : x ++ [(s : Int)] ∈ srt (prefs l)
  ·right
   rw [if_pos hm]
   exact ⟨_, rfl, at_idx hm⟩
  ·left
   rw [if_neg hm]
   exact ⟨rfl, hm⟩
 ·intro hpos
  have hne : srt (prefs l) ≠ [] := fun e => by rw [e] at hpos; simp at hpos
  obtain ⟨v, W', hvW⟩ := List.exists_cons_of_ne_nil hne
  have hv : v ∈ srt (prefs l) := by rw [hvW]; simp
  have hnil : ([] : List Int) ∈ srt (prefs l) := by
   have := pre v hv 0
   simpa using this
  rw [hvW] at hnil ⊢
  rcases List.mem_cons.1 hnil with e | e
  ·rw [← e]; rfl
  ·have hsw := srt_sw (prefs l)
   rw [hvW] at hsw
   have := hsw.head [] e
   unfold cmpW at this
   rw [if_neg (by simp)] at this
   by_cases hz : v.length = 0
   ·rw [List.eq_nil_of_length_eq_zero hz]; rfl
   ·rw [if_pos (by simp; omega)] at this
    omega
 ·intro w s hw
  obtain ⟨v, v1, j, v2, e⟩ := mem_prefs.1 (mem_srt.1 hw)
  have hpw := pre _ hw w.length
  rw [List.take_left'  rfl] at hpw
  refine ⟨hpw, ?_⟩
  have hsm : s ∈ v := List.mem_of_mem_take (i := j) (by rw [← e]; simp)
  exact hs v v1 s hsm
 ·intro i N x h1 h2
  rw [at_ i N x h1 h2]
  simp [cnode]
theorem rTrie_eq {a : Nat} {l : List (List Int)} (ha : a ≤ 100) (hl : l.length ≤ 100) (hw : ∀ w ∈ l, w.length ≤ 100) : ref12_Trie l (a : Int) = some (S_tries_Trie.mk (a : Int) (canonT a l)) := by
 have hW : (srt (prefs l)).length ≤ 1000000 := by
  refine Nat.le_trans (srt_len _) ?_
  have hpl : ∀ m : List (List Int), (∀ w ∈ m, w.length ≤ 100) → (prefs m).length ≤ m.length * 101 := by
   intro m
   induction m with
   | nil => intro _; simp [prefs]
   | cons w m ih =>
    intro hm
    have e : prefs (w :: m) = ((List.range (w.length + 1)).map fun k => w.take k) ++ prefs m := rfl
    have h1 := hm w (by simp)
    have h2 := ih fun v hv => hm v (by simp [hv])
    rw [e, List.length_append, List.length_map, List.length_range, List.length_cons]
    omega
  have := hpl l hw
  omega
 have hWw : ∀ w ∈ srt (prefs l), w.length ≤ 100 := fun w h => by
  obtain ⟨v, v1, j, v2, rfl⟩ := mem_prefs.1 (mem_srt.1 h)
  have := hw v v1
  rw [List.length_take]; omega
 have nd := (srt_sw (prefs l)).nodup
 unfold ref12_Trie
 rw [rPrefixes_eq hl hw, Option.bind_some]
 generalize hWd : srt (prefs l) = W at hW hWw nd
 have h := loop_seq (step := fun s => ref12_Trie_L2 l (a : Int) W s.1 s.2) (fun i => ((W.take i).map (cnode a W l), (i : Int))) W.length (t := W.map (cnode a W l)) (by omega) (by
  intro i hi
  show ref12_Trie_L2 l (a : Int) W _ (i : Int) = _
  unfold ref12_Trie_L2
  have hq : decide ((i : Int) < (W.length : Int)) = true := by simpa using hi
  have hx : W[i]? = some W[i] := List.getElem?_eq_getElem hi
  have hwi := hWw _ (List.getElem_mem hi)
  have h5 := loop_seq (step := fun s => ref12_Trie_L5 (a : Int) W (i : Int) s.1 s.2) (fun s => ((List.range s).map (nxW W W[i]), (s : Int))) a (t := (List.range a).map (nxW W W[i])) (by omega) (by
   intro s hs
   show ref12_Trie_L5 (a : Int) W (i : Int) _ (s : Int) = _
   unfold ref12_Trie_L5
   have hq2 : decide ((s : Int) < (a : Int)) = true := by simpa using hs
   have h8 := loop_seq (step := fun q => ref12_Trie_L8 W (i : Int) (s : Int) q.1 q.2) (fun k => ((if W[i] ++ [(s : Int)] ∈ W.take k then ((W.idxOf (W[i] ++ [(s : Int)]) : Nat) : Int) else -1), (k : Int))) W.length (t := nxW W W[i] s) (by omega) (by
    intro k hk
    show ref12_Trie_L8 W (i : Int) (s : Int) _ (k : Int) = _
    unfold ref12_Trie_L8
    have hq3 : decide ((k : Int) < (W.length : Int)) = true := by simpa using hk
    have hy : W[k]? = some W[k] := List.getElem?_eq_getElem hk
    have hk2 : w64 ((k : Int) + 1) = ((k + 1 : Nat) : Int) := by rw [w64_in (by omega) (by omega)]; omega
    have hwk := hWw _ (List.getElem_mem hk)
    rw [hq3, cond_true, idx_some hy, Option.bind_some, idx_some hx, Option.bind_some, gdT (by simp; omega), gdT (by simp; omega), compare_eq _ _ (fun _ => by omega), Option.bind_some]
    unfold ref12_Trie_J9
    by_cases he : W[k] = W[i] ++ [(s : Int)]
    ·have hb : (cmpW W[k] (W[i] ++ [(s : Int)]) == 0) = true := by rw [he, cmpW_self]; rfl
     have hm : W[i] ++ [(s : Int)] ∈ W.take (k + 1) := mem_take.2 ⟨k, by omega, by rw [hy, he]⟩
     have hid : W.idxOf (W[i] ++ [(s : Int)]) = k := idx_at nd (by rw [hy, he])
     rw [hb, cond_true, hk2, if_pos hm, hid]
    ·have hb : (cmpW W[k] (W[i] ++ [(s : Int)]) == 0) = false := by rw [beq_eq_false_iff_ne]; exact fun q => he (cmpW_eq q)
     have hm : W[i] ++ [(s : Int)] ∈ W.take (k + 1) ↔ W[i] ++ [(s : Int)] ∈ W.take k := by
      rw [mem_take, mem_take]
      constructor
      ·rintro ⟨j, j1, j2⟩
       rcases Nat.lt_or_ge j k with q | q
       ·exact ⟨j, q, j2⟩
       ·rw [show j = k by omega, hy] at j2
        exact absurd (by simpa using j2) he
      ·rintro ⟨j, j1, j2⟩; exact ⟨j, by omega, j2⟩
     rw [hb, cond_false, hk2]
     by_cases hm2 : W[i] ++ [(s : Int)] ∈ W.take k
     ·rw [if_pos hm2, if_pos (hm.2 hm2)]
     ·rw [if_neg hm2, if_neg (fun q => hm2 (hm.1 q))]) (by
    show ref12_Trie_L8 W (i : Int) (s : Int) _ (W.length : Int) = _
    unfold ref12_Trie_L8
    have hq3 : decide (((W.length : Nat) : Int) < (W.length : Int)) = false := by simp
    rw [hq3, cond_false, List.take_length]
    rfl)
   have h0 : ((if W[i] ++ [(s : Int)] ∈ W.take 0 then ((W.idxOf (W[i] ++ [(s : Int)]) : Nat) : Int) else -1), ((0 : Nat) : Int)) = ((-1 : Int), (0 : Int)) := by simp
   rw [h0] at h8
   rw [hq2, cond_true, bdT h8]
   unfold ref12_Trie_J7 ref12_Trie_J6
   rw [gdT (by simp; omega), w64_in (by omega) (by omega), List.range_succ, List.map_append]
   rfl) (by
   show ref12_Trie_L5 (a : Int) W (i : Int) _ (a : Int) = _
   unfold ref12_Trie_L5
   have hq2 : decide ((a : Int) < (a : Int)) = false := by simp
   rw [hq2, cond_false])
  have h0 : ((List.range 0).map (nxW W W[i]), ((0 : Nat) : Int)) = (([] : List Int), (0 : Int)) := by simp
  rw [h0] at h5
  rw [hq, cond_true, idx_some hx, Option.bind_some, rHas_eq l _ (by omega) (by omega), Option.bind_some, bdT h5]
  unfold ref12_Trie_J4 ref12_Trie_J3
  rw [gdT (by simp [List.length_take]; omega), w64_in (by omega) (by omega), List.take_add_one, hx, List.map_append]
  rfl) (by
  show ref12_Trie_L2 l (a : Int) W _ (W.length : Int) = _
  unfold ref12_Trie_L2
  have hq : decide (((W.length : Nat) : Int) < (W.length : Int)) = false := by simp
  rw [hq, cond_false, List.take_length])
 have h0 : ((W.take 0).map (cnode a W l), ((0 : Nat) : Int)) = (([] : List S_tries_Node), (0 : Int)) := by simp
 rw [h0] at h
 rw [bdT h]
 unfold ref12_Trie_J1 canonT
 rw [hWd]
theorem rEqual_self {t : S_tries_Trie} (hl : t.Nodes.length ≤ 1000000) (hn : ∀ N ∈ t.Nodes, N.Next.length ≤ 1000) : ref12_Equal t t = some true := by
 unfold ref12_Equal
 rw [bne_self_eq_false, cond_false, bne_self_eq_false, cond_false]
 have h := loop_list t.Nodes (by omega) (step := fun s => ref12_Equal_L2 t t s) (ρ := Bool) (fun _ _ => none) (by
  intro i N hN
  have hi : i < t.Nodes.length := (List.getElem?_eq_some_iff.1 hN).1
  have hq : decide ((i : Int) < (t.Nodes.length : Int)) = true := by simpa using hi
  have hNl := hn N (List.mem_of_getElem? hN)
  unfold ref12_Equal_L2
  have hb : (N.End == N.End) = true := by simp
  have hb0 : ((0 : Int) != 0) = false := rfl
  rw [hq, cond_true, idx_some hN, Option.bind_some, Option.bind_some, hb, Bool.not_true, cond_false, Option.bind_some, Option.bind_some, compare_eq _ _ (fun _ => by omega), Option.bind_some, cmpW_self, hb0, cond_false]
  rfl) (by unfold ref12_Equal_L2; simp)
 rw [bdT h, firstS_none fun _ _ _ => rfl]
 rfl
end Go.Own

namespace Go.Own
set_option linter.unusedVariables false
def numF (wd : List (List Int)) : List (List Int) → List Int → Nat → List Int
 | [], num, _ => num
 | w :: ws, num, k => numF wd ws (num.set (wd.idxOf w) (k : Int)) (k + 1)
theorem numF_len (wd : List (List Int)) : ∀ (ws : List (List Int)) (num : List Int) (k : Nat), (numF wd ws num k).length = num.length
 | [], _, _ => rfl
 | w :: ws, num, k => by rw [numF, numF_len wd ws]; simp
theorem numF_other (wd : List (List Int)) : ∀ (ws : List (List Int)) (num : List Int) (k j : Nat), (∀ w ∈ ws, wd.idxOf w ≠ j) → (numF wd ws num k)[j]? = num[j]?
 | [], _, _, _, _ => rfl
 | w :: ws, num, k, j, h => by
  rw [numF, numF_other wd ws _ _ j fun v hv => h v (by simp [hv]), List.getElem?_set_ne (h w (by simp))]
theorem numF_at {wd : List (List Int)} : ∀ (ws : List (List Int)) (num : List Int) (k i : Nat) (w : List Int), ws.Nodup → (∀ v ∈ ws, v ∈ wd) → num.length = wd.length → ws[i]? = some w → (numF wd ws num k)[wd.idxOf w]? = some ((k + i : Nat) : Int)
 | [], _, _, _, _, _, _, _, h => by simp at h
 | v :: ws, num, k, i, w, hn, hm, hl, h => by
  have hv := at_idx (hm v (by simp))
  cases i with
  | zero =>
   simp only [List.getElem?_cons_zero, Option.some.injEq] at h
   subst h
   rw [numF, numF_other, List.getElem?_set_self (by rw [hl]; exact (List.getElem?_eq_some_iff.1 hv).1)]
   ·rfl
   ·intro u hu e
    have hu2 := at_idx (hm u (by simp [hu]))
    rw [e, hv] at hu2
    have : v = u := by simpa using hu2
    exact (List.nodup_cons.1 hn).1 (this ▸ hu)
  | succ i =>
   rw [numF, numF_at ws _ (k + 1) i w (List.nodup_cons.1 hn).2 (fun u hu => hm u (by simp [hu])) (by simp [hl]) (by simpa using h)]
   congr 2
   omega
theorem num_fold {wd : List (List Int)} : ∀ (ws : List (List Int)) (num ord : List Int), (∀ v ∈ ws, v ∈ wd) → num.length = wd.length → ord.length + ws.length ≤ 1000000 →
  foldS (yOf (fun (s : List Int × List Int) x => tries_builder_ordered_I1 s.1 s.2 x)) (ws.map (pl wd)) (.next (num, ord)) = some (.next (numF wd ws num ord.length, ord ++ ws.map fun w => ((wd.idxOf w : Nat) : Int)), true)
 | [], num, ord, _, _, _ => by simp [foldS, numF]
 | w :: ws, num, ord, hm, hl, hlen => by
  simp only [List.length_cons] at hlen
  have hw := at_idx (hm w (by simp))
  have hlt : wd.idxOf w < num.length := by rw [hl]; exact (List.getElem?_eq_some_iff.1 hw).1
  have e : tries_builder_ordered_I1 num ord (pl wd w) = some (.next (num.set (wd.idxOf w) (ord.length : Int), ord ++ [((wd.idxOf w : Nat) : Int)])) := by
   unfold tries_builder_ordered_I1
   have : idx num (pl wd w).at_ = some num[wd.idxOf w] := List.getElem?_eq_getElem hlt
   rw [this, Option.bind_some, gdT (by rw [List.length_singleton]; omega)]
   rfl
  simp only [List.map_cons, foldS, yOf, e, Option.bind_some, if_true]
  rw [num_fold ws _ _ (fun v hv => hm v (by simp [hv])) (by simp [hl]) (by rw [List.length_append, List.length_singleton]; omega)]
  simp [numF]
theorem clipN_eq (l : List S_tries_Node) : slices_Clip_tries_Node_tries_Node l = some l := by
 unfold slices_Clip_tries_Node_tries_Node
 rw [gdT (by omega)]
 simp
def fN (num : List Int) (k : Int) : Int := if k = -1 then -1 else (num[k.toNat]?).getD 0
theorem renum {num ord : List Int} {N : S_tries_Node} (hN : N.Next.length ≤ 1000) (hk : ∀ k ∈ N.Next, k = -1 ∨ 0 ≤ k ∧ k.toNat < num.length) :
  loop (fun s => tries_builder_ordered_L6 (num, ord) N s.1 s.2) (N.Next, 0) = some (N.Next.map (fN num)) := by
 have h := loop_seq (step := fun s => tries_builder_ordered_L6 (num, ord) N s.1 s.2) (fun i => ((N.Next.take i).map (fN num) ++ N.Next.drop i, (i : Int))) N.Next.length (t := N.Next.map (fN num)) (by omega) (by
  intro i hi
  show tries_builder_ordered_L6 (num, ord) N _ (i : Int) = _
  unfold tries_builder_ordered_L6
  have hq : decide ((i : Int) < (N.Next.length : Int)) = true := by simpa using hi
  have hA : ((N.Next.take i).map (fN num)).length = i := by rw [List.length_map, List.length_take]; omega
  have hd : N.Next.drop i = N.Next[i] :: N.Next.drop (i + 1) := List.drop_eq_getElem_cons hi
  have hx : ((N.Next.take i).map (fN num) ++ N.Next.drop i)[i]? = some N.Next[i] := by rw [List.getElem?_append_right (by omega), hA, hd]; simp
  have hi2 : w64 ((i : Int) + 1) = ((i + 1 : Nat) : Int) := by rw [w64_in (by omega) (by omega)]; omega
  have htk : (N.Next.take (i + 1)).map (fN num) = (N.Next.take i).map (fN num) ++ [fN num N.Next[i]] := by rw [List.take_add_one, List.getElem?_eq_getElem hi, List.map_append]; rfl
  rw [hq, cond_true, idx_some hx, Option.bind_some, htk]
  unfold tries_builder_ordered_J7
  by_cases hm : N.Next[i] = -1
  ·have hb : (N.Next[i] != -1) = false := by simp [hm]
   have hf : fN num N.Next[i] = N.Next[i] := by unfold fN; rw [if_pos hm, hm]
   rw [hb, cond_false, hi2, hf, hd, List.append_assoc]
   rfl
  ·have hb : (N.Next[i] != -1) = true := by simpa using hm
   obtain ⟨k1, k2⟩ := (hk _ (List.getElem_mem hi)).resolve_left hm
   have hidx : idx num N.Next[i] = some (fN num N.Next[i]) := by
    have e1 : idx num N.Next[i] = num[N.Next[i].toNat]? := by
     obtain ⟨t, ht⟩ : ∃ t : Nat, N.Next[i] = (t : Int) := ⟨N.Next[i].toNat, by omega⟩
     rw [ht, idx_nat, Int.toNat_natCast]
    rw [e1]
    unfold fN
    rw [if_neg hm, List.getElem?_eq_getElem k2]
    rfl
   rw [hb, cond_true]
   dsimp only
   rw [hidx, Option.bind_some, Option.bind_some, hi2, Int.toNat_natCast, List.set_append_right _ _ (by omega), hA, Nat.sub_self, hd, List.set_cons_zero, List.append_assoc]
   rfl) (by
  show tries_builder_ordered_L6 (num, ord) N _ (N.Next.length : Int) = _
  unfold tries_builder_ordered_L6
  have hq : decide ((N.Next.length : Int) < (N.Next.length : Int)) = false := by simp
  rw [hq, cond_false, List.take_length, List.drop_length, List.append_nil])
 have h0 : ((N.Next.take 0).map (fN num) ++ N.Next.drop 0, ((0 : Nat) : Int)) = (N.Next, (0 : Int)) := by simp
 rw [h0] at h
 exact h
theorem ordered_eq {a : Nat} {nodes : List S_tries_Node} {wd l : List (List Int)} (h : TreeI a nodes wd (fun y => y ∈ l)) (ha : a ≤ 1000) (hlen : wd.length ≤ 400000) (hwl : ∀ w ∈ wd, w.length ≤ 10000) (hm : ∀ x, x ∈ wd ↔ x ∈ prefs l) :
  tries_builder_ordered (S_tries_builder.mk (a : Int) nodes) = some (canonT a l) := by
 have hW : srt wd = srt (prefs l) := srt_congr hm
 have hWl := srt_len wd
 have hWm : ∀ v ∈ srt wd, v ∈ wd := fun v hv => mem_srt.1 hv
 have nd := (srt_sw wd).nodup
 have hnl := h.len
 unfold canonT
 rw [← hW]
 unfold tries_builder_ordered
 dsimp only
 rw [gdT (by omega)]
 let num := numF wd (srt wd) (List.replicate nodes.length 0) 0
 let ord := (srt wd).map fun w => ((wd.idxOf w : Nat) : Int)
 have hq1 : tries_builder_ordered_q1 (S_tries_builder.mk (a : Int) nodes) = some (num, ord) := by
  unfold tries_builder_ordered_q1 tries_walk
  dsimp only
  rw [Option.bind_some, walk_eq h ha _ _ (by omega) hwl, Int.toNat_natCast, num_fold (srt wd) _ _ hWm (by simp [hnl]) (by simp; omega)]
  rfl
 have hnumlen : num.length = nodes.length := by show (numF _ _ _ _).length = _; rw [numF_len]; simp
 have hnum : ∀ v ∈ wd, num[wd.idxOf v]? = some (((srt wd).idxOf v : Nat) : Int) := by
  intro v hv
  have := numF_at (wd := wd) (srt wd) (List.replicate nodes.length 0) 0 ((srt wd).idxOf v) v nd hWm (by simp [hnl]) (at_idx (mem_srt.2 hv))
  rw [Nat.zero_add] at this
  exact this
 have hordlen : ord.length = (srt wd).length := by show ((srt wd).map _).length = _; simp
 have hordat : ∀ (k : Nat) (w : List Int), (srt wd)[k]? = some w → ord[k]? = some ((wd.idxOf w : Nat) : Int) := by
  intro k w hk
  show ((srt wd).map _)[k]? = _
  rw [List.getElem?_map, hk]; rfl
 rw [hq1, Option.bind_some]
 generalize num = num at hnumlen hnum ⊢
 generalize ord = ord at hordlen hordat ⊢
 apply Ret.eq
 rw [ret_bind]
 refine Ret.mono (ret_loop (fun q : List (Option S_tries_Node) × List S_tries_Node × Int => ∃ k : Nat, q.2.2 = (k : Int) ∧ k ≤ (srt wd).length ∧ q.1.length = nodes.length ∧ (∀ (i : Nat) (w : List Int), k ≤ i → (srt wd)[i]? = some w → q.1[wd.idxOf w]? = some (nodes[wd.idxOf w]?)) ∧ q.2.1 = ((srt wd).take k).map (cnode a (srt wd) l)) (fun q => (srt wd).length - q.2.2.toNat) (R := fun t => t = (srt wd).map (cnode a (srt wd) l)) ?_ ?_ ?_) ?_
 ·refine ⟨0, rfl, Nat.zero_le _, by simp, fun i w _ hw => ?_, by simp⟩
  have hlt : wd.idxOf w < nodes.length := by rw [hnl]; exact (List.getElem?_eq_some_iff.1 (at_idx (hWm w (List.mem_of_getElem? hw)))).1
  simp only
  rw [List.getElem?_map, List.getElem?_eq_getElem hlt]
  rfl
 ·show (srt wd).length - _ < _
  omega
 ·rintro ⟨bn, out, _⟩ ⟨k, rfl, g1, g2, g3, g4⟩
  simp only at g2 g3 g4
  subst g4
  show Ret (tries_builder_ordered_L3 (num, ord) bn _ (k : Int)) _
  unfold tries_builder_ordered_L3
  dsimp only
  rw [ret_bif]
  refine ⟨fun hc => ?_, fun hc => ?_⟩
  ·have hk : k < (srt wd).length := by rw [hordlen] at hc; simpa using hc
   have hw : (srt wd)[k]? = some (srt wd)[k] := List.getElem?_eq_getElem hk
   have hwm : (srt wd)[k] ∈ wd := hWm _ (List.getElem_mem hk)
   generalize (srt wd)[k] = w at hw hwm
   obtain ⟨N, n1, _, n3⟩ := node_at h hwm
   have hbn := g3 k w (Nat.le_refl _) hw
   rw [n1] at hbn
   rw [idx_some (hordat k w hw), Option.bind_some, idx_some hbn, Option.bind_some, Option.bind_some]
   have hks : ∀ c ∈ N.Next, c = -1 ∨ 0 ≤ c ∧ c.toNat < num.length := by
    intro c hc2
    obtain ⟨t, ht⟩ := List.mem_iff_getElem?.1 hc2
    have hta : t < a := by have := (List.getElem?_eq_some_iff.1 ht).1; omega
    rcases h.nxt _ N w n1 (at_idx hwm) t hta with ⟨q, _⟩ | ⟨j, q, q2⟩
    ·rw [ht] at q; exact .inl (by simpa using q)
    ·rw [ht] at q
     have : c = (j : Int) := by simpa using q
     subst this
     have := (List.getElem?_eq_some_iff.1 q2).1
     exact .inr ⟨by omega, by rw [Int.toNat_natCast]; omega⟩
   rw [renum (by omega) hks, Option.bind_some]
   unfold tries_builder_ordered_J5 tries_builder_ordered_J4
   rw [gdT (by simp [List.length_take]; omega), w64_in (by omega) (by omega), ret_some]
   have hnode : S_tries_Node.mk (N.Next.map (fN num)) N.End = cnode a (srt wd) l w := by
    unfold cnode
    congr 1
    ·refine List.ext_getElem? fun s => ?_
     rw [List.getElem?_map, List.getElem?_map]
     by_cases hs : s < a
     ·have hr : (List.range a)[s]? = some s := by rw [List.getElem?_range hs]
      rw [hr]
      rcases h.nxt _ N w n1 (at_idx hwm) s hs with ⟨q, q2⟩ | ⟨j, q, q2⟩
      ·rw [q]
       simp only [Option.map_some]
       unfold fN nxW
       rw [if_pos rfl, if_neg (fun z => q2 (mem_srt.1 z))]
      ·rw [q]
       simp only [Option.map_some]
       have hj := List.mem_of_getElem? q2
       unfold fN nxW
       rw [if_neg (by omega), if_pos (mem_srt.2 hj), Int.toNat_natCast, ← idx_at h.nod q2, hnum _ hj]
       rfl
     ·rw [List.getElem?_eq_none (by omega), List.getElem?_eq_none (by simp; omega)]
      rfl
    ·have := h.en _ N w n1 (at_idx hwm)
     cases hE : N.End with
     | true => rw [hE] at this; rw [decide_eq_true (this.1 rfl)]
     | false =>
      rw [hE] at this
      rw [decide_eq_false (fun z => by have := this.2 z; cases this)]
   refine ⟨⟨k + 1, rfl, hk, by simp [g2], fun i v hi hv => ?_, ?_⟩, by simp only; omega⟩
   ·simp only
    rw [Int.toNat_natCast, List.getElem?_set_ne, g3 i v (by omega) hv]
    intro e
    have e1 := at_idx hwm
    have e2 := at_idx (hWm v (List.mem_of_getElem? hv))
    rw [e, e2] at e1
    have hvw : v = w := by simpa using e1
    subst hvw
    have := (List.getElem?_inj hk nd).1 (hw.trans hv.symm)
    omega
   ·simp only
    rw [hnode, List.take_add_one, hw, List.map_append]
    rfl
  ·have hk : k = (srt wd).length := by
    have : ¬ k < (srt wd).length := by rw [hordlen] at hc; simpa using hc
    omega
   rw [ret_some, hk, List.take_length]
   exact rfl
 ·rintro _ rfl
  unfold tries_builder_ordered_J2
  rw [clipN_eq, Option.bind_some, ret_some]
end Go.Own

namespace Go.Own
set_option linter.unusedVariables false
theorem red_of {l wd : List (List Int)} (hs : SW l) (t2 : ∀ x, x ∈ wd ↔ ∃ w ∈ l, ∃ j, j ≤ w.length ∧ x = w.take j) : (srt wd).filter (fun x => !wd.any (lexB x)) = RedW l := by
 refine SW.unique ((srt_sw wd).filter _) (hs.sub List.filter_sublist) fun x => ?_
 rw [mem_RedW, List.mem_filter, mem_srt]
 simp only [Bool.not_eq_true', List.any_eq_false, lexB_iff]
 constructor
 ·rintro ⟨h1, h2⟩
  obtain ⟨w, w1, j, w2, rfl⟩ := (t2 x).1 h1
  have hmem : ∀ v ∈ l, v ∈ wd := fun v hv => (t2 v).2 ⟨v, hv, v.length, Nat.le_refl _, by simp⟩
  have hj : j = w.length := by
   rcases Nat.lt_or_ge j w.length with q | q
   ·refine absurd ⟨?_, ?_⟩ (h2 w (hmem w w1))
    ·rw [List.length_take]; omega
    ·rw [List.length_take, Nat.min_eq_left w2]
   ·omega
  rw [hj, List.take_length] at h2 ⊢
  exact ⟨w1, fun v hv => h2 v (hmem v hv)⟩
 ·rintro ⟨h1, h2⟩
  refine ⟨(t2 x).2 ⟨x, h1, x.length, Nat.le_refl _, by simp⟩, fun v hv hext => ?_⟩
  obtain ⟨w, w1, j, w2, rfl⟩ := (t2 v).1 hv
  rw [List.length_take] at hext
  refine h2 w w1 ⟨by omega, ?_⟩
  have := hext.2
  rw [List.take_take, Nat.min_eq_left (by omega)] at this
  exact this
theorem sw_lt {W : List (List Int)} (h : SW W) {i j : Nat} {x y : List Int} (hi : W[i]? = some x) (hj : W[j]? = some y) (hxy : cmpW x y < 0) : i < j := by
 rcases Nat.lt_or_ge i j with q | q
 ·exact q
 ·rcases Nat.lt_or_ge j i with q2 | q2
  ·have := (List.pairwise_iff_getElem.1 h) j i (List.getElem?_eq_some_iff.1 hj).1 (List.getElem?_eq_some_iff.1 hi).1 q2
   rw [(List.getElem?_eq_some_iff.1 hj).2, (List.getElem?_eq_some_iff.1 hi).2] at this
   exact absurd this (cmpW_asym hxy)
  ·have : i = j := by omega
   subst this
   rw [hi] at hj
   have : x = y := by simpa using hj
   subst this
   exact absurd hxy (cmpW_irr _)
theorem cmp_snoc (x : List Int) (s : Int) : cmpW x (x ++ [s]) < 0 := by
 unfold cmpW
 rw [if_pos (by simp)]
 omega
section
variable {a : Nat} {T : List S_tries_Node} {W : List (List Int)} {D : List Int → Prop} (h : TreeI a T W D) (hs : SW W) (hlen : W.length ≤ 60000) (ha : 1 ≤ a ∧ a ≤ 16)
include h hs hlen ha
omit hlen in
theorem tree_in {i : Nat} (hi : i < T.length) {x : List Int} (hx : W[i]? = some x) {N : S_tries_Node} (hN : T[i]? = some N) {seen : List Bool} (hsl : seen.length = T.length) (hseen : ∀ (j : Nat) (y : List Int), W[j]? = some y → (seen[j]? = some true ↔ ∃ p s, p < i ∧ ∃ z, W[p]? = some z ∧ y = z ++ [s])) :
  Ret (loop (fun s => tries_tree_L5 (S_tries_Trie.mk (a : Int) T) (i : Int) N s.1 s.2) (seen, 0)) fun t => match t with | .inl p => p.1.length = T.length ∧ ∀ (j : Nat) (y : List Int), W[j]? = some y → (p.1[j]? = some true ↔ ∃ q s, q < i + 1 ∧ ∃ z, W[q]? = some z ∧ y = z ++ [s]) | .inr _ => False := by
 have hl := h.len
 have hNl := h.nlen i N hN
 refine ret_loop (fun q => ∃ m : Nat, q.2 = (m : Int) ∧ m ≤ a ∧ q.1.length = T.length ∧ ∀ (j : Nat) (y : List Int), W[j]? = some y → (q.1[j]? = some true ↔ (∃ p s, p < i ∧ ∃ z, W[p]? = some z ∧ y = z ++ [s]) ∨ ∃ s : Nat, s < m ∧ y = x ++ [(s : Int)])) (fun q => a - q.2.toNat) ⟨0, rfl, Nat.zero_le _, hsl, fun j y hy => by rw [hseen j y hy]; simp⟩ (by show a - _ < _; omega) ?_
 rintro ⟨sn, _⟩ ⟨m, rfl, g1, g2, g3⟩
 simp only at g2 g3
 show Ret (tries_tree_L5 (S_tries_Trie.mk (a : Int) T) (i : Int) N sn (m : Int)) _
 unfold tries_tree_L5
 rw [ret_bif]
 refine ⟨fun hc => ?_, fun hc => ?_⟩
 ·have hm : m < a := by rw [hNl] at hc; simpa using hc
  have hm2 : w64 ((m : Int) + 1) = ((m + 1 : Nat) : Int) := by rw [w64_in (by omega) (by omega)]; omega
  rcases h.nxt i N x hN hx m hm with ⟨q1, q2⟩ | ⟨j, q1, q2⟩
  ·rw [idx_some q1, Option.bind_some]
   have hb : ((-1 : Int) == -1) = true := rfl
   rw [hb, cond_true]
   unfold tries_tree_J6
   rw [hm2, ret_some]
   refine ⟨⟨m + 1, rfl, hm, g2, fun j y hy => ?_⟩, by simp only; omega⟩
   rw [g3 j y hy]
   constructor
   ·rintro (q | ⟨s, s1, s2⟩)
    ·exact .inl q
    ·exact .inr ⟨s, by omega, s2⟩
   ·rintro (q | ⟨s, s1, s2⟩)
    ·exact .inl q
    ·rcases Nat.lt_or_ge s m with q | q
     ·exact .inr ⟨s, q, s2⟩
     ·have : s = m := by omega
      subst this
      exact absurd (s2 ▸ List.mem_of_getElem? hy) q2
  ·have hij : i < j := sw_lt hs hx q2 (cmp_snoc _ _)
   have hj : j < T.length := by rw [hl]; exact (List.getElem?_eq_some_iff.1 q2).1
   have hns : sn[j]? = some false := by
    have hlt : j < sn.length := by omega
    rw [List.getElem?_eq_getElem hlt]
    cases hv : sn[j] with
    | false => rfl
    | true =>
     exfalso
     have := (g3 j _ q2).1 (by rw [List.getElem?_eq_getElem hlt, hv])
     rcases this with ⟨p, s, p1, z, p2, p3⟩ | ⟨s, s1, s2⟩
     ·obtain ⟨e1, _⟩ := List.append_inj' p3 rfl
      subst e1
      have := h.mem_at hx p2
      omega
     ·obtain ⟨_, e2⟩ := List.append_inj' s2 rfl
      simp at e2
      omega
   rw [idx_some q1, Option.bind_some]
   have hb : ((j : Int) == -1) = false := by simp
   have d1 : decide ((j : Int) ≤ (i : Int)) = false := by rw [decide_eq_false_iff_not]; omega
   have d2 : decide ((j : Int) ≥ ((T.length : Nat) : Int)) = false := by rw [decide_eq_false_iff_not]; omega
   rw [hb, cond_false, d1, cond_false]
   show Ret (bif decide ((j : Int) ≥ ((T.length : Nat) : Int)) then _ else _) _
   rw [d2, cond_false, idx_some hns, Option.bind_some, cond_false, Option.bind_some]
   unfold tries_tree_J6
   rw [hm2, ret_some]
   refine ⟨⟨m + 1, rfl, hm, by simp [g2], fun j' y hy => ?_⟩, by simp only; omega⟩
   simp only [Int.toNat_natCast]
   by_cases hjj : j' = j
   ·subst hjj
    rw [List.getElem?_set_self (by omega)]
    rw [q2] at hy
    have : x ++ [(m : Int)] = y := by simpa using hy
    subst this
    simp only [true_iff]
    exact .inr ⟨m, by omega, rfl⟩
   ·rw [List.getElem?_set_ne (fun e => hjj e.symm), g3 j' y hy]
    constructor
    ·rintro (q | ⟨s, s1, s2⟩)
     ·exact .inl q
     ·exact .inr ⟨s, by omega, s2⟩
    ·rintro (q | ⟨s, s1, s2⟩)
     ·exact .inl q
     ·rcases Nat.lt_or_ge s m with q | q
      ·exact .inr ⟨s, q, s2⟩
      ·have : s = m := by omega
       subst this
       subst s2
       exact absurd (h.mem_at hy q2) hjj
 ·have hm : m = a := by
   have : ¬ m < a := by rw [hNl] at hc; simpa using hc
   omega
  rw [ret_some]
  refine ⟨g2, fun j y hy => ?_⟩
  rw [g3 j y hy]
  constructor
  ·rintro (⟨p, s, p1, z, p2, p3⟩ | ⟨s, s1, s2⟩)
   ·exact ⟨p, s, by omega, z, p2, p3⟩
   ·exact ⟨i, (s : Int), by omega, x, hx, s2⟩
  ·rintro ⟨p, s, p1, z, p2, p3⟩
   rcases Nat.lt_or_ge p i with q | q
   ·exact .inl ⟨p, s, q, z, p2, p3⟩
   ·have : p = i := by omega
    subst this
    rw [hx] at p2
    have : x = z := by simpa using p2
    subst this
    have hmem : x ++ [s] ∈ W := p3 ▸ List.mem_of_getElem? hy
    obtain ⟨_, c2, c3⟩ := h.clo _ _ hmem
    exact .inr ⟨s.toNat, by omega, by rw [Int.toNat_of_nonneg c2]; exact p3⟩
theorem tree_true : tries_tree (S_tries_Trie.mk (a : Int) T) = some true := by
 have hl := h.len
 unfold tries_tree
 dsimp only
 rw [gdT (by omega)]
 apply Ret.eq
 rw [ret_bind]
 refine Ret.mono (ret_loop (fun q : List Bool × Int => ∃ i : Nat, q.2 = (i : Int) ∧ i ≤ T.length ∧ q.1.length = T.length ∧ ∀ (j : Nat) (y : List Int), W[j]? = some y → (q.1[j]? = some true ↔ ∃ p s, p < i ∧ ∃ z, W[p]? = some z ∧ y = z ++ [s])) (fun q => T.length - q.2.toNat) (R := fun t : Unit ⊕ Bool => t = .inl ()) ?_ ?_ ?_) ?_
 ·refine ⟨0, rfl, Nat.zero_le _, by simp, fun j y hy => ?_⟩
  constructor
  ·intro q
   have := List.mem_of_getElem? q
   simp at this
  ·rintro ⟨p, s, p1, _⟩; omega
 ·show T.length - _ < _
  omega
 ·rintro ⟨sn, _⟩ ⟨i, rfl, g1, g2, g3⟩
  simp only at g2 g3
  show Ret (tries_tree_L2 (S_tries_Trie.mk (a : Int) T) sn (i : Int)) _
  unfold tries_tree_L2
  dsimp only
  rw [ret_bif]
  refine ⟨fun hc => ?_, fun hc => ?_⟩
  ·have hi : i < T.length := by simpa using hc
   have hN : T[i]? = some T[i] := List.getElem?_eq_getElem hi
   have hx : W[i]? = some W[i] := List.getElem?_eq_getElem (by omega)
   have hNl := h.nlen i _ hN
   have J4 : Ret (tries_tree_J4 (S_tries_Trie.mk (a : Int) T) sn (i : Int) T[i]) (LRP (fun s' => (∃ i : Nat, s'.2 = (i : Int) ∧ i ≤ T.length ∧ s'.1.length = T.length ∧ ∀ (j : Nat) (y : List Int), W[j]? = some y → (s'.1[j]? = some true ↔ ∃ p s, p < i ∧ ∃ z, W[p]? = some z ∧ y = z ++ [s])) ∧ T.length - s'.2.toNat < T.length - ((i : Int)).toNat) fun t : Unit ⊕ Bool => t = .inl ()) := by
    unfold tries_tree_J4
    rw [ret_bind]
    refine (tree_in h hs ha hi hx hN g2 g3).mono ?_
    rintro (p | p) hp
    ·show Ret (tries_tree_J3 (i : Int) p.1 p.2.1 p.2.2.1 p.2.2.2) _
     unfold tries_tree_J3
     rw [w64_in (by omega) (by omega), ret_some]
     exact ⟨⟨i + 1, rfl, hi, hp.1, hp.2⟩, by simp only; omega⟩
    ·exact hp.elim
   have hnb : (((T[i].Next.length : Nat) : Int) != (a : Int)) = false := by rw [hNl]; simp
   rw [idx_some hN, Option.bind_some, ret_bif]
   refine ⟨fun hp => ?_, fun hp => ?_⟩
   ·have hi0 : 0 < i := by simpa using hp
    have hst : sn[i]? = some true := by
     refine (g3 i _ hx).2 ?_
     rcases List.eq_nil_or_concat W[i] with e | ⟨w, s, e⟩
     ·have h0 := h.root (by omega)
      rw [e] at hx
      have := h.mem_at h0 hx
      omega
     ·rw [List.concat_eq_append] at e
      have hmem : w ++ [s] ∈ W := e ▸ List.getElem_mem (show i < W.length by omega)
      have hw := (h.clo w s hmem).1
      have hlt := sw_lt hs (at_idx hw) hx (by rw [e]; exact cmp_snoc _ _)
      exact ⟨_, s, hlt, w, at_idx hw, e⟩
    rw [idx_some hst, Option.bind_some, Bool.not_true, cond_false, hnb, cond_false]
    exact J4
   ·rw [hnb, cond_false]
    exact J4
  ·rw [ret_some]
   exact rfl
 ·rintro _ rfl
  exact ret_some.2 rfl
end
theorem words_fold {a : Nat} {T : List S_tries_Node} {W l : List (List Int)} (h : TreeI a T W (fun y => y ∈ l)) (hlen : W.length ≤ 60000) (ha : a ≤ 100) (hwl : ∀ w ∈ W, w.length ≤ 256) (hpre : ∀ v ∈ W, ∀ j, v.take j ∈ W) (hleaf : ∀ w ∈ W, (!W.any (lexB w)) = true → w ∈ l) : ∀ (n k : Nat) (out : List (List Int)), W.length - k = n → k ≤ W.length → out.length ≤ k →
  foldS (yOf (fun (s : Int × List (List Int) × Int) x => tries_Words_I2 (S_tries_Trie.mk (a : Int) T) s.1 s.2.1 s.2.2 x)) ((W.drop k).map (pl W)) (.next (0, out, (k : Int))) = some (.next (0, out ++ (W.drop k).filter (fun w => decide (w ∈ l)), (W.length : Int)), true)
 | 0, k, out, hn, hk, ho => by
  have : W.drop k = [] := List.drop_eq_nil_of_le (by omega)
  rw [this]
  have hk2 : k = W.length := by omega
  simp [foldS, hk2]
 | n + 1, k, out, hn, hk, ho => by
  have hlt : k < W.length := by omega
  have hx : W[k]? = some W[k] := List.getElem?_eq_getElem hlt
  have hd : W.drop k = W[k] :: W.drop (k + 1) := List.drop_eq_getElem_cons hlt
  have hmem : W[k] ∈ W := List.getElem_mem hlt
  obtain ⟨N, n1, n2, n3⟩ := node_at h hmem
  have hid : W.idxOf W[k] = k := idx_at h.nod hx
  have hat : (pl W W[k]).at_ = (k : Int) := by unfold pl; rw [hid]
  have hen := h.en _ N _ n1 (at_idx hmem)
  have hlf := leaf_at h hmem hpre n1
  have hw := hwl _ hmem
  have hwe : (pl W W[k]).w_ = W[k] := rfl
  have e : tries_Words_I2 (S_tries_Trie.mk (a : Int) T) 0 out (k : Int) (pl W W[k]) = some (.next (0, if W[k] ∈ l then out ++ [W[k]] else out, ((k + 1 : Nat) : Int))) := by
   have hk2 : w64 ((k : Int) + 1) = ((k + 1 : Nat) : Int) := by rw [w64_in (by omega) (by omega)]; omega
   have d1 : decide (((W[k].length : Nat) : Int) > 256) = false := by rw [decide_eq_false_iff_not]; omega
   have J3 : ∀ (b1 b2 b3 : Bool), tries_Words_J3 0 out (k : Int) (pl W W[k]) N b1 b2 b3 = some (.next (0, if W[k] ∈ l then out ++ [W[k]] else out, ((k + 1 : Nat) : Int))) := by
    intro b1 b2 b3
    unfold tries_Words_J3 tries_Words_J4
    by_cases hm : W[k] ∈ l
    ·rw [hen.2 hm, cond_true, hwe, clone_eq _ (by omega), Option.bind_some, clip_eq, Option.bind_some, gdT (by rw [List.length_singleton]; omega), hk2, if_pos hm]
    ·have hE : N.End = false := by
      cases hE : N.End with
      | false => rfl
      | true => exact absurd (hen.1 hE) hm
     rw [hE, cond_false, hk2, if_neg hm]
   unfold tries_Words_I2
   dsimp only
   rw [n2, Option.bind_some, hat, bne_self_eq_false, cond_false, hwe, d1, cond_false, leaf_eq (by omega), Option.bind_some, hlf]
   by_cases hp : (!W.any (lexB W[k])) = true
   ·have hm := hleaf _ hmem hp
    rw [hp, cond_true, hen.2 hm, Bool.not_true, cond_false]
    exact J3 _ _ _
   ·have hb : (!W.any (lexB W[k])) = false := by simpa using hp
    rw [hb, cond_false]
    exact J3 _ _ _
  rw [hd]
  simp only [List.map_cons, foldS, yOf, e, Option.bind_some, if_true]
  rw [words_fold h hlen ha hwl hpre hleaf n (k + 1) _ (by omega) hlt (by split <;> (try rw [List.length_append, List.length_singleton]) <;> omega)]
  by_cases hm : W[k] ∈ l
  ·rw [if_pos hm, List.filter_cons, if_pos (decide_eq_true hm), List.append_assoc]
   rfl
  ·rw [if_neg hm, List.filter_cons, if_neg (by rw [decide_eq_false hm]; exact Bool.false_ne_true)]
theorem mn20 (l : List (List Int)) : l.take (mn ((l.length : Nat) : Int) 20).toNat = l.take 20 := by
 unfold mn
 by_cases h : l.length ≤ 20
 ·have h1 : ∀ m : Nat, l.length ≤ m → l.take m = l := fun m hm => List.take_of_length_le hm
  rw [h1 20 h, h1 _ (by split <;> omega)]
 ·congr 1
  split <;> omega
section
variable {a : Nat} {l : List (List Int)} (hc : chE (a : Int) l = 0) (hw : Wd (a : Int) 40 12 l)
include hc hw
theorem can_facts : TreeI a (canonT a l) (srt (prefs l)) (fun y => y ∈ l) ∧ (srt (prefs l)).length ≤ 520 ∧ (∀ w ∈ srt (prefs l), w.length ≤ 12) ∧ (∀ v ∈ srt (prefs l), ∀ j, v.take j ∈ srt (prefs l)) ∧ (1 ≤ a ∧ a ≤ 16) := by
 obtain ⟨q1, q2, q3, q4, q5, q6⟩ := ch_small hc
 obtain ⟨_, p2, p3⟩ := tPrefixes_eq hc hw
 exact ⟨canon_tree q6, p2, p3, pre_closed (fun x => by rw [mem_srt, mem_prefs]), by omega⟩
omit hw in
theorem tOf_eq : tries_Of l (a : Int) = some (S_tries_Trie.mk (a : Int) (canonT a l), 0) := by
 obtain ⟨q1, q2, q3, q4, q5, q6⟩ := ch_small hc
 obtain ⟨b, hb, e1, wd, t1, t2, t3⟩ := of_trie hc
 have hwl : ∀ w ∈ wd, w.length ≤ 10000 := fun w hww => by
  obtain ⟨v, h1, j, h2, rfl⟩ := (t2 w).1 hww
  have := q2 v h1
  rw [List.length_take]; omega
 have ho := ordered_eq t1 (by omega) (by omega) hwl (fun x => by rw [t2, mem_prefs])
 have hbe : S_tries_builder.mk (a : Int) b.nodes_ = b := by rw [← e1]
 rw [hbe] at ho
 unfold tries_Of
 rw [tCheck_eq, hc, Option.bind_some, bne_self_eq_false, cond_false, hb, Option.bind_some, ho, Option.bind_some]
omit hc in
theorem leaf_in : ∀ w ∈ srt (prefs l), (!(srt (prefs l)).any (lexB w)) = true → w ∈ l := by
 intro w hm hlf
 have := red_of (l := l) (wd := srt (prefs l)) hw.1 (fun x => by rw [mem_srt, mem_prefs])
 have h2 : w ∈ RedW l := by
  rw [← this, List.mem_filter]
  exact ⟨mem_srt.2 hm, hlf⟩
 exact (mem_RedW.1 h2).1
theorem tWords_eq : tries_Words (S_tries_Trie.mk (a : Int) (canonT a l)) = some (l, 0) := by
 obtain ⟨t, p2, p3, p4, p5⟩ := can_facts hc hw
 have hs := srt_sw (prefs l)
 have hnl := t.len
 unfold tries_Words
 dsimp only
 have d1 : decide ((a : Int) < 1) = false := by rw [decide_eq_false_iff_not]; omega
 have d2 : decide ((a : Int) > 16) = false := by rw [decide_eq_false_iff_not]; omega
 have d3 : decide ((((canonT a l).length : Nat) : Int) > 65537) = false := by rw [decide_eq_false_iff_not]; omega
 have hf := words_fold t (by omega) (by omega) (fun w hww => by have := p3 w hww; omega) p4 (leaf_in hw) (srt (prefs l)).length 0 [] (by omega) (Nat.zero_le _) (by simp)
 have z0 : ((0 : Nat) : Int) = 0 := rfl
 rw [List.drop_zero, List.nil_append, z0] at hf
 have hfl : (srt (prefs l)).filter (fun w => decide (w ∈ l)) = l := by
  refine SW.unique (hs.filter _) hw.1 fun x => ?_
  rw [List.mem_filter, decide_eq_true_eq, mem_srt, mem_prefs]
  exact ⟨fun q => q.2, fun q => ⟨⟨x, q, x.length, Nat.le_refl _, by simp⟩, q⟩⟩
 rw [hfl] at hf
 rw [d1, cond_false, d2, cond_false, d3, cond_false, tree_true t hs (by omega) p5, Option.bind_some, Bool.not_true, cond_false]
 unfold tries_walk
 rw [Option.bind_some, walk_eq t (by omega) _ _ (by omega) (fun w hww => by have := p3 w hww; omega), srt_of_sw hs, hf, Option.bind_some, Option.bind_some]
 show tries_Words_J1 (S_tries_Trie.mk (a : Int) (canonT a l)) 0 l = _
 unfold tries_Words_J1
 dsimp only
 rw [tCheck_eq, hc, Option.bind_some, bne_self_eq_false, cond_false, clipW_eq, Option.bind_some]
theorem tCount_eq : tries_Count (S_tries_Trie.mk (a : Int) (canonT a l)) = some (((RedW l).length : Int), 0) := by
 obtain ⟨t, p2, p3, p4, p5⟩ := can_facts hc hw
 have hs := srt_sw (prefs l)
 have hnl := t.len
 unfold tries_Count
 rw [tWords_eq hc hw, Option.bind_some, bne_self_eq_false, cond_false]
 have hred := red_of (l := l) (wd := srt (prefs l)) hw.1 (fun x => by rw [mem_srt, mem_prefs])
 rw [srt_of_sw hs] at hred
 have h := loop_seq (step := fun s => tries_Count_L2 (S_tries_Trie.mk (a : Int) (canonT a l)) s.1 s.2) (fun i => ((((((srt (prefs l)).take i).filter fun x => !(srt (prefs l)).any (lexB x)).length : Nat) : Int), (i : Int))) (srt (prefs l)).length (t := (((RedW l).length : Nat) : Int)) (by omega) (by
  intro i hi
  show tries_Count_L2 (S_tries_Trie.mk (a : Int) (canonT a l)) _ (i : Int) = _
  unfold tries_Count_L2
  dsimp only
  have hiT : i < (canonT a l).length := by omega
  have hN : (canonT a l)[i]? = some (canonT a l)[i] := List.getElem?_eq_getElem hiT
  have hx : (srt (prefs l))[i]? = some (srt (prefs l))[i] := List.getElem?_eq_getElem hi
  have hmem : (srt (prefs l))[i] ∈ srt (prefs l) := List.getElem_mem hi
  have hq : decide ((i : Int) < (((canonT a l).length : Nat) : Int)) = true := by rw [decide_eq_true_eq]; omega
  have hi2 : w64 ((i : Int) + 1) = ((i + 1 : Nat) : Int) := by rw [w64_in (by omega) (by omega)]; omega
  have hid : (srt (prefs l)).idxOf (srt (prefs l))[i] = i := idx_at t.nod hx
  have hlf := leaf_at t hmem p4 (by rw [hid]; exact hN)
  have hNl := t.nlen i _ hN
  have hfl := List.length_filter_le (fun x => !(srt (prefs l)).any (lexB x)) ((srt (prefs l)).take i)
  rw [List.length_take] at hfl
  have htk : ((srt (prefs l)).take (i + 1)).filter (fun x => !(srt (prefs l)).any (lexB x)) = ((srt (prefs l)).take i).filter (fun x => !(srt (prefs l)).any (lexB x)) ++ (if (!(srt (prefs l)).any (lexB (srt (prefs l))[i])) = true then [(srt (prefs l))[i]] else []) := by
   rw [List.take_add_one, hx, List.filter_append]
   congr 1
   rw [Option.toList_some, List.filter_cons, List.filter_nil]
  rw [hq, cond_true, idx_some hN, Option.bind_some, leaf_eq (by omega), Option.bind_some, hlf, htk]
  unfold tries_Count_J3
  cases (!(srt (prefs l)).any (lexB (srt (prefs l))[i])) with
  | true =>
   rw [cond_true, if_pos rfl, hi2, List.length_append, List.length_singleton, w64_in (by omega) (by omega)]
   rfl
  | false =>
   rw [cond_false, if_neg Bool.false_ne_true, hi2, List.append_nil]) (by
  show tries_Count_L2 (S_tries_Trie.mk (a : Int) (canonT a l)) _ (((srt (prefs l)).length : Nat) : Int) = _
  unfold tries_Count_L2
  dsimp only
  have hq : decide ((((srt (prefs l)).length : Nat) : Int) < (((canonT a l).length : Nat) : Int)) = false := by rw [decide_eq_false_iff_not]; omega
  rw [hq, cond_false, List.take_length, hred])
 have h0 : ((((((srt (prefs l)).take 0).filter fun x => !(srt (prefs l)).any (lexB x)).length : Nat) : Int), ((0 : Nat) : Int)) = ((0 : Int), (0 : Int)) := by simp
 rw [h0] at h
 rw [bdT h]
 rfl
end
theorem trie_true {x : S_law12_L} (hI : 0 ≤ x.Inputs ∧ x.Inputs ≤ 255) (hw : ∀ w ∈ x.Words, ∀ c ∈ w, 0 ≤ c ∧ c ≤ 255) : law12_TriesTrie x = some true := by
 obtain ⟨n, hn, n1, n2⟩ := alpha_eq hI
 obtain ⟨r, hr, wr⟩ := of_ret hn ⟨n1, n2⟩ hw
 obtain ⟨a, rfl⟩ : ∃ a : Nat, n = (a : Int) := ⟨n.toNat, by omega⟩
 have nn : 1 ≤ (a : Int) ∧ (a : Int) ≤ 16 := ⟨n1, by omega⟩
 have wl20 := wr.take 20
 have wl : Wd (a : Int) 40 12 (r.take 20) := ⟨wl20.1, by have := wl20.2.1; omega, wl20.2.2⟩
 have cl := wl.ch nn (by omega) (by omega) (by omega)
 obtain ⟨t, p2, p3, p4, p5⟩ := can_facts cl wl
 have hl12 : ∀ w ∈ r.take 20, w.length ≤ 12 := fun w hww => (wl.2.2 w hww).1
 have hnl := t.len
 have hb0 : ((0 : Int) != 0) = false := bne_self_eq_false 0
 have hmn : (0 : Int) ≤ mn ((r.length : Nat) : Int) 20 ∧ mn ((r.length : Nat) : Int) 20 ≤ ((r.length : Nat) : Int) := by
  unfold mn
  split <;> omega
 have hE := rEqual_self (t := S_tries_Trie.mk (a : Int) (canonT a (r.take 20))) (by show (canonT a (r.take 20)).length ≤ 1000000; omega) (fun N hN => by
  obtain ⟨i, hi⟩ := List.mem_iff_getElem?.1 hN
  have := t.nlen i N hi
  omega)
 have hS := same_of wl (by omega) (by omega) (rfl : r.take 20 = r.take 20)
 unfold law12_TriesTrie
 rw [lives_true, hr, Option.bind_some, gdT hmn, mn20, hn, Option.bind_some, tOf_eq cl, Option.bind_some, hb0, cond_false, rTrie_eq (by omega) (by have := wl.2.1; omega) (fun w hww => by have := hl12 w hww; omega), Option.bind_some, hE, Option.bind_some, Bool.not_true, cond_false, bne_self_eq_false, cond_false, tWords_eq cl wl, Option.bind_some, tCount_eq cl wl, Option.bind_some, BEq.rfl, cond_true, cond_true, hS, Option.bind_some, cond_true, rReduce_eq (by have := wl.2.1; omega) (fun w hww => by have := hl12 w hww; omega), Option.bind_some, BEq.rfl, cond_true, Option.bind_some]
end Go.Own

namespace Go.Own
def Ok5 (a : Int) : Prop := (0) ≤ a ∧ a ≤ 255
def Ok98 (l : List Int) : Prop := ∀ a ∈ l, Ok5 a
def Ok33 (l : List (List Int)) : Prop := ∀ a ∈ l, Ok98 a
def Ok35 (a : S_law12_L) : Prop := Ok5 a.Inputs ∧ Ok33 a.Words
end Go.Own

namespace Go.Own
theorem law_true {x : S_law12_L} (hx : Ok35 x) : law12_TriesTrie x = some true := trie_true hx.1 hx.2
end Go.Own

namespace Go.Own
def allS (w : World) : Still := fun b o => cellAt w.heap b o
theorem cell_at {w : World} {a : Addr} {v : Value} (h : w.cell? a = some v) : a.spot = none ∧ cellAt w.heap a.block a.off = some v := by
 unfold World.cell? at h
 unfold cellAt
 split at h
 ·rename_i c ty fr he
  rw [he]
  split at h
  ·cases h
  ·rename_i hs
   exact ⟨by simpa using hs, h⟩
 ·cases h
section
variable {H : Type} {enc : TypeId × Value → H} {P : Program} {w : World} {base : Nat} {spare : Nat → Bool} {held : Bool}
theorem cells_lie {a : Addr} {n : Nat} {cs : List Value} (h : w.cells? base a n = some cs) (hn : 0 < n) : a.spot = none ∧ cs.length = n ∧ Lies (allS w) a.block a.off cs := by
 obtain ⟨_, h2, h3⟩ := World.cells?_some h
 have h0 : a.spot = none := by
  have h4 := h3 0 hn
  cases hc : cs[0]? with
  | none => rw [List.getElem?_eq_none_iff] at hc; omega
  | some v =>
   rw [hc] at h4
   have := (cell_at h4).1
   simpa [Addr.add] using this
 refine ⟨h0, h2, fun j v hj => ?_⟩
 have hlt := (List.getElem?_eq_some_iff.1 hj).1
 have h4 := h3 j (by omega)
 rw [hj] at h4
 have q := (cell_at h4).2
 unfold Addr.add at q
 split at q
 ·rename_i e; subst e; exact q
 ·exact q
theorem reps_snoc {S : Still} : ∀ {bs : List A} {cs : List Value} {a : A} {c : List Value}, Reps S bs cs → Rep S a c → Reps S (bs ++ [a]) (cs ++ c)
 | [], cs, a, c, h1, h2 => by
  simp only [Reps] at h1
  subst h1
  simp only [List.nil_append, Reps]
  exact ⟨c, [], by simp, h2, rfl⟩
 | x :: bs, cs, a, c, h1, h2 => by
  simp only [Reps] at h1
  obtain ⟨c1, c2, rfl, r1, r2⟩ := h1
  simp only [List.cons_append, Reps]
  exact ⟨c1, c2 ++ c, by simp, r1, reps_snoc r2 h2⟩
theorem lies_app {S : Still} {b o : Nat} {c1 c2 : List Value} (h1 : Lies S b o c1) (h2 : Lies S b (o + c1.length) c2) : Lies S b o (c1 ++ c2) := by
 intro j v hj
 rcases Nat.lt_or_ge j c1.length with q | q
 ·rw [List.getElem?_append_left q] at hj
  exact h1 j v hj
 ·rw [List.getElem?_append_right q] at hj
  have := h2 _ _ hj
  rwa [show o + c1.length + (j - c1.length) = o + j by omega] at this
theorem slice_rep {α : Type} {t e sz : Nat} (f : α → A) (ok : α → Prop) (ht : P.underlying t = some (.slice e)) (hsz : P.cellsOf e = sz) (h0 : 0 < sz) (hf : ∀ a, (f a).size = sz)
    (hel : ∀ n cs x, DataW.trod enc P w base spare held n e cs = some x → ∃ a, ok a ∧ Rep (allS w) (f a) cs)
    {fuel : Nat} {cs : List Value} {x : DataW H × List MemPlace} (h : DataW.trod enc P w base spare held fuel t cs = some x) : ∃ l : List α, (∀ a ∈ l, ok a) ∧ Rep (allS w) (.sl sz false (l.map f)) cs := by
  rcases DataW.trod_slice ht h with ⟨rfl, _⟩ | ⟨a, len, cap, elems, rest, n, _, rfl, _, _, hlc, _, hlen, hall, _, _⟩
  · refine ⟨[], by simp, ?_⟩
    simp only [Rep, List.map_nil, List.length_nil]
    exact ⟨none, 0, rfl, by simp, Nat.le_refl _, by simp, .inl trivial⟩
  · have key : ∀ k, k ≤ len → ∃ (l : List α) (cells : List Value), l.length = k ∧ (∀ a ∈ l, ok a) ∧ Reps (allS w) (l.map f) cells ∧ cells.length = k * sz ∧ (0 < k → a.spot = none) ∧ Lies (allS w) a.block a.off cells := by
      intro k
      induction k with
      | zero => intro _; exact ⟨[], [], rfl, by simp, by simp [Reps], by simp, by simp, fun j v h => by simp at h⟩
      | succ k ih =>
        intro hk
        obtain ⟨l, cells, q1, q2, q3, q4, q5, q6⟩ := ih (by omega)
        have hk' := hall k (by omega)
        have hsome : elems[k]? = some elems[k] := List.getElem?_eq_getElem (by omega)
        rw [hsome, Option.bind_eq_some_iff, hsz] at hk'
        obtain ⟨c, hc, htr⟩ := hk'
        obtain ⟨y, hy, hr⟩ := hel _ _ _ htr
        obtain ⟨g1, g2, g3⟩ := cells_lie hc h0
        refine ⟨l ++ [y], cells ++ c, by simp [q1], ?_, ?_, ?_, ?_, ?_⟩
        · intro z hz
          rcases List.mem_append.1 hz with q | q
          · exact q2 z q
          · simp only [List.mem_cons, List.not_mem_nil, or_false] at q; subst q; exact hy
        · rw [List.map_append]; exact reps_snoc q3 hr
        · rw [List.length_append, q4, g2, Nat.succ_mul]
        · intro _
          rcases Nat.eq_zero_or_pos k with rfl | hk0
          · simpa [Addr.add] using g1
          · exact q5 hk0
        · refine lies_app q6 ?_
          rw [q4]
          unfold Addr.add at g3
          split at g3
          · rename_i e0
            rw [e0, Nat.add_zero]
            exact g3
          · exact g3
    obtain ⟨l, cells, q1, q2, q3, q4, q5, q6⟩ := key len (Nat.le_refl _)
    refine ⟨l, q2, ?_⟩
    simp only [Rep, List.length_map]
    refine ⟨some a, cap, by rw [q1], by simp, by omega, ?_, ?_⟩
    · intro y hy
      obtain ⟨z, _, rfl⟩ := List.mem_map.1 hy
      exact hf z
    · rcases Nat.eq_zero_or_pos len with rfl | hl
      · left; rw [List.length_eq_zero_iff.1 q1]; rfl
      · right
        refine ⟨a.block, a.off, cells, ?_, q3, q6⟩
        have := q5 hl
        obtain ⟨b, o, s⟩ := a
        simp only at this
        subst this
        rfl
theorem int_rep {t : Nat} {k : IntKind} {lo hi : Int} (ht : P.underlying t = some (.int k)) (hlo : k.min = lo) (hhi : k.max = hi) {fuel : Nat} {cs : List Value} {x : DataW H × List MemPlace} (h : DataW.trod enc P w base spare held fuel t cs = some x) :
  ∃ n : Int, (lo ≤ n ∧ n ≤ hi) ∧ cs = [.int k n] ∧ Rep (allS w) (.atom (.int k n)) cs := by
 obtain ⟨n, rfl, _, hw⟩ := DataW.trod_int ht h
 simp only [Lit.wf, Bool.and_eq_true, decide_eq_true_eq, hlo, hhi] at hw
 exact ⟨n, hw, rfl, by simp only [Rep]; exact ⟨trivial, rfl⟩⟩
theorem struct_fields {t : Nat} {fs : List Field} (ht : P.underlying t = some (.struct ⟨fs⟩)) {fuel : Nat} {cs : List Value} {x : DataW H × List MemPlace} (h : DataW.trod enc P w base spare held fuel t cs = some x) :
  cs.length = P.cellsOf t ∧ ∀ (i : Nat) (f : Field), fs[i]? = some f → ∃ n y, DataW.trod enc P w base spare held n f.type ((cs.drop f.offset).take (P.cellsOf f.type)) = some y := by
 obtain ⟨xs, n, _, _, hl, hxl, hall⟩ := DataW.trod_struct ht h
 refine ⟨hl, fun i f hf => ?_⟩
 have hlt := (List.getElem?_eq_some_iff.1 hf).1
 have := hall i f (by simpa using hf)
 rw [List.getElem?_eq_getElem (by rw [hxl]; simpa using hlt)] at this
 exact ⟨n, _, this⟩
end
theorem reps_take {S : Still} {a : A} {bs : List A} {cs : List Value} {n : Nat} (h1 : Rep S a (cs.take n)) (h2 : Reps S bs (cs.drop n)) : Reps S (a :: bs) cs := by
 simp only [Reps]
 exact ⟨cs.take n, cs.drop n, (List.take_append_drop n cs).symm, h1, h2⟩
end Go.Own

namespace Go.Own
set_option linter.unusedVariables false
section
open Go Go.ChangeShapes Go.WideShapes Go.ChangeAt Go.RowKit
theorem post_kept {P : Program} {H : Type} {enc : TypeId × Value → H} {f : Func} {s : ChangeSpec} {apart fresh handsOn again : Bool} {W W' : World} {args : Array Value} {v : Value} {ds : List (DataW H)} {pa : List MemPlace}
  (hvar : s.vars = []) (hvars2 : (s.fn H (ds ++ [])).vars = []) (hW : DataW.Whole enc P f.params.toList s.vars apart W args.toList ds [] (pa ++ [])) (hb : Below W.heap.size W W')
  (hres : ∀ (b : Nat) (sp : Nat → Bool) (hd : Bool), DataW.TrodAll enc P W' b sp hd f.resultTypes.toList (v.resultList f.resultTypes.size) (s.fn H (ds ++ [])).results [])
  (hargs : ∀ sp : Nat → Bool, (∀ p ∈ pa ++ [], sp p.block = true) → DataW.TrodAll enc P W' 0 sp true f.params.toList args.toList (s.fn H (ds ++ [])).args pa)
  (hok : ∀ (j : Nat) (t : TypeId) (r : Value), f.resultTypes[j]? = some t → (v.resultList f.resultTypes.size)[j]? = some r → Value.okWide P W' .any 0 t r) :
  s.post enc P f apart fresh handsOn again W args v W' := by
 have hlt : ∀ p ∈ pa ++ [], p.block < W.heap.size := fun p hp => by simpa using hW.lt p hp
 have hvr : ∀ sp : Nat → Bool, DataW.TrodVars enc P W' sp s.vars (s.fn H (ds ++ [])).vars [] := fun sp => by rw [hvar, hvars2]; rfl
 refine ⟨ds, [], pa ++ [], [], pa, [], hW, hres _ _ _, hargs _ (fun p hp => by simpa using hlt p hp), hvr _, World.keptBut_mono (fun _ q => q.elim) (hb.frame fun _ => False), fun _ => ?_⟩
 obtain ⟨_, _, _, _, _, hz, hn⟩ := hW
 refine ⟨hok, _, _, ([] ++ pa) ++ [], ⟨[] ++ pa, [], trodAll_append (hargs _ (fun _ _ => rfl)) (hres _ _ _), hvr _, rfl, ?_, ?_⟩, ?_⟩
 ·intro b off hp
  have hp' : MemPlace.cell b off ∈ pa ++ [] := by simpa using hp
  rw [hb.frozen (p := ⟨b, off, none⟩) (hlt _ hp')]
  exact hz b off hp'
 ·intro ha
  simpa using hn ha
 ·intro p hp _
  simpa using hp
end
theorem spF_call {P : Program} {k : Nat} {α ρ : Type} {enc : α → List A} {encR : ρ → A} {F : α → Option ρ} {gives : List Bool} {inj : ∀ x y, enc x = enc y → x = y} (h : (spF k enc encR F gives inj).Ok P) {x : α} {r : ρ} (hr : F x = some r) : CallOk P k (enc x) (encR r) := by
 have := h x ⟨r, hr⟩
 simpa only [spF, hr] using this
section
variable {P : Program} {w : World} {r : Reach} {base t : Nat} {v : Value}
theorem val_struct {fs : Array Field} (hu : P.underlying t = some (.struct fs)) (h : Value.okWide P w r base t v) : v = .agg v.cells.toList.toArray := by
 unfold Value.okWide at h
 rw [hu] at h
 obtain ⟨cs, rfl, _⟩ := h
 rfl
theorem rep1_struct {fs : Array Field} {S : Still} {a : A} (hu : P.underlying t = some (.struct fs)) (hr : Rep S a v.cells.toList) (h : Value.okWide P w r base t v) (ha : a.isAgg = true) : Rep1 S a v := ⟨_, hr, by cases a <;> first | exact val_struct hu h | cases ha⟩
theorem has_true {S : Still} {h : Array Obj} {v : Value} {F : List Nat} (q : Has S h (.atom (.bool true)) v F) : v = .bool true := by
 rcases q with ⟨q, _⟩ | ⟨cs, q, _, rfl⟩
 ·rw [(repV_atom.1 q).1]
 ·simp only [Conc, Rep] at q
  obtain ⟨⟨rfl, _⟩, _⟩ := q
  rfl
end
end Go.Own

namespace Go.Own
open Go.Proofs
set_option linter.unusedVariables false
section
variable {H : Type} {enc : TypeId × Value → H} {w : World} {base : Nat} {spare : Nat → Bool} {held : Bool}
theorem cells5 : Try.prog.cellsOf 5 = 1 := by kernel_rfl
theorem rd5 {fuel : Nat} {cs : List Value} {x : DataW H × List MemPlace} (h : DataW.trod enc Try.prog w base spare held fuel 5 cs = some x) : ∃ a : Int, Ok5 a ∧ Rep (allS w) ((eI .u8) a) cs := by
 obtain ⟨n, h1, _, h2⟩ := int_rep Try.underlying5 (lo := 0) (hi := 255) rfl rfl h
 exact ⟨n, h1, h2⟩
theorem cells98 : Try.prog.cellsOf 98 = 1 := by kernel_rfl
theorem rd98 {fuel : Nat} {cs : List Value} {x : DataW H × List MemPlace} (h : DataW.trod enc Try.prog w base spare held fuel 98 cs = some x) : ∃ a : List Int, Ok98 a ∧ Rep (allS w) ((eSl 1 false (eI .u8)) a) cs := by
 exact slice_rep (eI .u8) Ok5 Try.underlying98 cells5 (by omega) (fun _ => rfl) (fun _ _ _ q => rd5 q) h
theorem cells33 : Try.prog.cellsOf 33 = 1 := by kernel_rfl
theorem rd33 {fuel : Nat} {cs : List Value} {x : DataW H × List MemPlace} (h : DataW.trod enc Try.prog w base spare held fuel 33 cs = some x) : ∃ a : List (List Int), Ok33 a ∧ Rep (allS w) ((eSl 1 false (eSl 1 false (eI .u8))) a) cs := by
 exact slice_rep (eSl 1 false (eI .u8)) Ok98 Try.underlying33 cells98 (by omega) (fun _ => rfl) (fun _ _ _ q => rd98 q) h
theorem cells35 : Try.prog.cellsOf 35 = 2 := by kernel_rfl
theorem rd35 {fuel : Nat} {cs : List Value} {x : DataW H × List MemPlace} (h : DataW.trod enc Try.prog w base spare held fuel 35 cs = some x) : ∃ a : S_law12_L, Ok35 a ∧ Rep (allS w) ((e_law12_L (eI .u8) (eSl 1 false (eSl 1 false (eI .u8)))) a) cs := by
 obtain ⟨hl, hf⟩ := struct_fields Try.underlying35 h
 rw [cells35] at hl
 obtain ⟨_, _, q0⟩ := hf 0 _ rfl
 obtain ⟨_, _, q1⟩ := hf 1 _ rfl
 simp only [cells33, cells5] at q0 q1
 obtain ⟨a0, k0, r0⟩ := rd5 q0
 obtain ⟨a1, k1, r1⟩ := rd33 q1
 refine ⟨⟨a0, a1⟩, ⟨k0, k1⟩, ?_⟩
 show Rep (allS w) (.agg [(eI .u8) a0, (eSl 1 false (eSl 1 false (eI .u8))) a1]) cs
 simp only [Rep]
 refine reps_take (n := 1) (by simpa [List.drop_drop] using r0) (reps_take (n := 1) (by simpa [List.drop_drop] using r1) ?_)
 simp only [List.drop_drop, Reps]
 exact List.drop_eq_nil_of_le (by omega)
end
end Go.Own
namespace Go.Proofs.Ytlejgipmepemjaa.triesTrie
open Go Go.ChangeShapes Go.WideShapes Go.ChangeAt Go.RowKit
set_option linter.unusedVariables false
theorem own : ownKnob Try.prog.godebug = none := by kernel_rfl
theorem laidOut : laidOutB Try.prog = true := by kernel_rfl
section
variable {H : Type} {enc : TypeId × Value → H} {W : World}
set_option maxRecDepth 100000 in
theorem walk {base : Nat} {v0 : Value} {d0 : DataW H} {p0 : List MemPlace} (h0 : DataW.Trod enc Try.prog W 0 (fun _ => true) true 35 v0 d0 p0) (k0 : Value.okWide Try.prog W .any base (35 : Nat) v0) :
  Calls Try.prog 6 #[v0] W fun e w' => e = .returned (.bool true) ∧ Go.Own.Kept (fun k => W.heap.size ≤ k) W w' := by
 obtain ⟨n0, h0⟩ := h0
 obtain ⟨x0, o0, r0⟩ := Go.Own.rd35 h0
 have q := (Go.Own.spF_call (Go.Own.ctrOf_call Go.Own.L57_ok List.mem_cons_self : Go.Own.sp_law12_TriesTrie.Ok Try.prog) (x := x0) (r := true) (Go.Own.law_true o0)).2 (Go.Own.allS W) W [v0] [] (fun _ _ _ h => h) ?_ (by simp)
 ·refine Calls.mono q ?_
  rintro e w' ⟨v, S', F', rfl, hk, _, _, _, hr, _, _⟩
  refine ⟨?_, hk.mono (by rintro k (h | h) <;> simp_all)⟩
  rw [Go.Own.has_true hr]
 ·refine Go.Own.all2_hass ?_
  have g0 : Go.Own.Rep1 (Go.Own.allS W) ((Go.Own.e_law12_L (Go.Own.eI .u8) (Go.Own.eSl 1 false (Go.Own.eSl 1 false (Go.Own.eI .u8)))) x0) v0 := Go.Own.rep1_struct (t := (35 : Nat)) Try.underlying35 r0 k0 rfl
  exact ⟨g0, trivial⟩
end
set_option maxRecDepth 100000 in
theorem lifted (os : Os) (started : os.Started) (H : Type) (enc : TypeId × Value → H) :
  ReturnsInHanded {} Try.checked os 6 .any (Rows.triesTrieSpec.pre6 enc Try.prog Try.f6 Rows.triesTrieRow.domain false) (Rows.triesTrieSpec.post enc Try.prog Try.f6 false true false false) := by
 refine returnsInHanded_of_change (C := Try.checked) own started (by kernel_rfl) Try.func6
  (ChangeSpec.witness6 (enc := enc) (C := Try.checked) false ⟨#[], #[.agg #[.int .u8 0, .slice none 0 0]], []⟩ 8 (by kernel_rfl) (by kernel_rfl) (by kernel_rfl) (by kernel_rfl)) ?_
 intro W base args ds gs before hval0 hW hcnd _
 have hval : ∀ (j : Nat) t v, Try.f6.params[j]? = some t → args[j]? = some v → Value.okWide Try.prog W .any base t v := hval0
 have hW' := hW
 obtain ⟨p, q, hA0, hV, rfl, hfz, hnd⟩ := hW
 have hA : DataW.TrodAll enc Try.prog W 0 (fun _ => true) true Try.f6.params.toList args.toList ds p := hA0
 rw [Try.params6] at hA hval
 obtain ⟨v0, d0, rfl, rfl, h0⟩ := trodAll_one hA
 obtain ⟨rfl, rfl⟩ := trodVars_none hV
 clear hA0 hval0
 refine (walk h0 (hval 0 (35 : Nat) v0 rfl rfl)).mono fun e W' ⟨he, hk⟩ => ?_
 subst he
 have hb : Below W.heap.size W W' := ⟨hk.os, hk.tape, hk.output, hk.size, fun k q => hk.block k (by omega)⟩
 have hlt : ∀ x ∈ p, x.block < W.heap.size := fun x hx => by simpa using hW'.lt x (by simpa using hx)
 refine ⟨_, rfl, Go.Own.post_kept rfl rfl hW' hb (fun _ _ _ => trodAll_cons_mk (shut_bool Try.underlying4 _) trodAll_mk0) (fun sp hsp => ?_) (ok_one (by kernel_rfl) rfl (okWide_bool_mk Try.underlying4 _))⟩
 have st : ∀ {t : Nat} {v : Value} {d : DataW H} {p' : List MemPlace}, DataW.Trod enc Try.prog W 0 (fun _ => true) true t v d p' → Try.prog.readableRec t = true → t < Try.prog.types.size → (∀ x ∈ p', x ∈ p) → DataW.Trod enc Try.prog W' 0 sp true t v d p' := by
  intro t v d p' hd h1 h2 hp
  exact WideElems.Trod_stays laidOut h1 h2 hd (fun x hx => hb.same (hlt x (hp x hx))) (fun x hx => hsp x (by simpa using hp x hx))
 have := trodAll_mk1 (st h0 (by kernel_rfl) (of_decide_eq_true (by kernel_rfl)) (fun x hx => by simp [hx]))
 rw [Try.params6]
 exact this
theorem over : Rows.triesTrieRow.holds Try.pinned (OpenSpec.ofChange Rows.triesTrieSpec) :=
 OpenClaim.holds_of_wide 6 Try.f6 rfl rfl rfl rfl rfl rfl rfl ⟨rfl, rfl, rfl, rfl, rfl⟩ rfl rfl rfl rfl rfl (by kernel_rfl) Try.func6 (by kernel_rfl)
  (of_decide_eq_true (by kernel_rfl)) (by unfold Func.isWrapper; first | (rw [if_pos (by decide +kernel)]; kernel_rfl) | (rw [if_neg (by decide +kernel)]; exact ⟨rfl, rfl⟩))
  (fun os started H enc _ => lifted os started H enc)
theorem proved : Rows.TriesTrieSaid :=
 over
#print axioms proved
end Go.Proofs.Ytlejgipmepemjaa.triesTrie
