/- -/
import Derived.Test.YtmedkleidpbgpaaGreatDoorPartG
import Derived.Test.YtmedkleidpbgpaaGreatDoorPartE
import Derived.Test.YtmedkleidpbgpaaGreatDoorPartB
import Derived.OpenShut
import Derived.ChangeShapes
import Derived.Test.YtmedkleidpbgpaaGreatDoorPartC
import Derived.WalkKit
import Derived.ProofKit
import Derived.Carry
import Derived.Test.YtmedkleidpbgpaaGreatDoorRows
import Derived.Test.YtmedkleidpbgpaaGreatDoorChecked
import Derived.LaidMore
import Derived.Stop.Joined
import Derived.SevenTiedAt
import Derived.Test.YtmedkleidpbgpaaGreatDoorCards
import Derived.Test.YtmedkleidpbgpaaGreatDoorTie
import Derived.Stop.LaidErr
import Derived.MakeChecks
set_option linter.unusedVariables false
set_option linter.unusedSimpArgs false
namespace Go.Own
theorem zaW {x : Int} (h1 : 0 ≤ x) (h2 : x ≤ 9223372036854775807) : IntKind.u64.wrap x = x := by
 simp only [IntKind.wrap, IntKind.bits, IntKind.signed]
 simp
 omega
variable {l : List Int}{m : Int}
theorem z5k (h : Ris l m) : ∀ {j i : Nat} {a b : Int}, i < j → l[i]? = some a → l[j]? = some b → a < b := by
 intro j
 induction j with
 | zero => intro i a b h1; omega
 | succ j ih =>
  intro i a b hij ha hb
  obtain ⟨u, hu, hlt⟩ := (h (j + 1) b hb).2 (by omega)
  rw [Nat.add_sub_cancel] at hu
  rcases Nat.lt_or_ge i j with q | q
  ·exact Int.lt_trans (ih q ha hu) hlt
  ·rw [show i = j by omega, hu] at ha
   cases ha
   exact hlt
theorem zc1 (h : Ris l m) (hl : l.length ≤ 1000000) (w : Int) : ∃ n, yP l w = some (n, decide (w ∈ l)) := by
 have : Ret (yP l w) (fun r => r.2 = decide (w ∈ l)) := by
  unfold yP
  rw [z3K]
  refine Ret.mono (Uu (fun q : Int × Int => ∃ i j : Nat, q = ((i : Int), (j : Int)) ∧ i ≤ j ∧ j ≤ l.length ∧ (∀ (m : Nat) x, m < i → l[m]? = some x → x < w) ∧ ∀ (m : Nat) x, j ≤ m → l[m]? = some x → ¬ x < w) (fun q => (q.2 - q.1).toNat) (R := fun t => ∃ i : Nat, t = (i : Int) ∧ i ≤ l.length ∧ (∀ (m : Nat) x, m < i → l[m]? = some x → x < w) ∧ ∀ (m : Nat) x, i ≤ m → l[m]? = some x → ¬ x < w) ?_ ?_ ?_) ?_
  ·exact ⟨0, l.length, rfl, Nat.zero_le _, Nat.le_refl _, fun m x h => by omega, fun m x h hx => by have := xI hx; omega⟩
  ·simp only; omega
  ·rintro _ ⟨i, j, rfl, g1, g2, g3, g4⟩
   show Ret (yY l w (i : Int) (j : Int)) _
   unfold yY
   by_cases hij : i < j
   ·have hh : w64 (Int.fdiv (IntKind.u64.wrap (w64 ((i : Int) + (j : Int)))) (2 ^ 1)) = (((i + j) / 2 : Nat) : Int) := by
     rw [jR (x := (i : Int) + (j : Int)) (by omega) (by omega), zaW (by omega) (by omega)]
     have : Int.fdiv ((i : Int) + (j : Int)) (2 ^ 1) = (((i + j) / 2 : Nat) : Int) := by
      rw [show ((i : Int) + (j : Int)) = ((i + j : Nat) : Int) by omega, show ((2 : Int) ^ 1) = ((2 : Nat) : Int) by rfl]
      rw [Int.fdiv_eq_ediv_of_nonneg _ (by omega)]
      rfl
     rw [this, jR (by omega) (by omega)]
    have hm : (i + j) / 2 < l.length := by omega
    have hx : l[(i + j) / 2]? = some l[(i + j) / 2] := List.getElem?_eq_getElem hm
    generalize l[(i + j) / 2] = y at hx
    rw [decide_eq_true (by omega), cond_true, hh, uX hx, oB]
    have hless : Zo y w = some (decide (y < w)) := by
     unfold Zo vt
     rw [bne_self_eq_false, bne_self_eq_false]
     cases decide (y < w) <;> rfl
    rw [hless, oB]
    by_cases hc2 : y < w
    ·rw [decide_eq_true hc2, cond_true, jR (by omega) (by omega), wW]
     refine ⟨⟨(i + j) / 2 + 1, j, by simp, by omega, g2, fun m x hm hmx => ?_, g4⟩, by simp only; omega⟩
     rcases Nat.lt_or_ge m ((i + j) / 2) with q | q
     ·exact Int.lt_trans (z5k h q hmx hx) hc2
     ·rw [show m = (i + j) / 2 by omega, hx] at hmx
      cases hmx
      exact hc2
    ·rw [decide_eq_false hc2, cond_false, wW]
     refine ⟨⟨i, (i + j) / 2, rfl, by omega, by omega, g3, fun m x hm hmx hlt => ?_⟩, by simp only; omega⟩
     rcases Nat.lt_or_ge ((i + j) / 2) m with q | q
     ·exact hc2 (Int.lt_trans (z5k h q hx hmx) hlt)
     ·rw [show m = (i + j) / 2 by omega, hx] at hmx
      cases hmx
      exact hc2 hlt
   ·rw [decide_eq_false (by omega), cond_false, wW]
    have : i = j := by omega
    subst this
    exact ⟨i, rfl, g2, g3, g4⟩
  ·rintro _ ⟨i, rfl, h1, h2, h3⟩
   unfold xx uC
   by_cases hi : i < l.length
   ·have hx : l[i]? = some l[i] := List.getElem?_eq_getElem hi
    generalize l[i] = y at hx
    rw [decide_eq_true (by omega), cond_true, uX hx, oB]
    by_cases he : y = w
    ·rw [show (y == w) = true from beq_iff_eq.2 he, cond_true, wW]
     exact (decide_eq_true (he ▸ List.mem_of_getElem? hx)).symm
    ·rw [beq_false_of_ne he, cond_false, oB, bne_self_eq_false, oB, cond_false, wW]
     refine (decide_eq_false fun hm => ?_).symm
     obtain ⟨k, hk⟩ := List.mem_iff_getElem?.1 hm
     rcases Nat.lt_trichotomy k i with q | q | q
     ·have := h2 k w q hk; omega
     ·rw [q, hx] at hk
      cases hk
      exact he rfl
     ·have a1 := z5k h q hx hk
      exact h3 i y (Nat.le_refl _) hx a1
   ·rw [decide_eq_false (by omega), cond_false, wW]
    refine (decide_eq_false fun hm => ?_).symm
    obtain ⟨k, hk⟩ := List.mem_iff_getElem?.1 hm
    have := xI hk
    have := h2 k w (by omega) hk
    omega
 obtain ⟨r, e, h⟩ := this
 exact ⟨r.1, by rw [e, ← h]⟩
def KL (x : z6) (m : ze) : zb := ((x.Parts[m.Part.toNat]?).bind fun P => P.Arcs[m.Arc.toNat]?).getD ⟨0, 0, 0, 0, 0⟩
def shA (x : z6) (hidden : List Int) (s : z7) : zf :=
 if (KL x s.Move).Kind = 0 ∧ ¬(KL x s.Move).Message ∈ hidden then ⟨2, (KL x s.Move).Message, s.To⟩ else ⟨0, 0, s.To⟩
def SV (x : z6) (m : ze) : Prop := ∃ (p : Nat) (P : zh) (k : Nat) (a : zb), m.Part = p ∧ x.Parts[p]? = some P ∧ m.Arc = k ∧ P.Arcs[k]? = some a
variable {x : z6}
theorem SV.arc {m : ze} (h : SV x m) : ∃ P, idx x.Parts m.Part = some P ∧ idx P.Arcs m.Arc = some (KL x m) ∧ P ∈ x.Parts ∧ KL x m ∈ P.Arcs := by
 obtain ⟨p, P, k, a, h1, h2, h3, h4⟩ := h
 have e : KL x m = a := by
  unfold KL
  rw [h1, h3, Int.toNat_natCast, Int.toNat_natCast, h2]
  show (P.Arcs[k]?).getD _ = a
  rw [h4]
  rfl
 rw [e, h1, h3]
 exact ⟨P, uX h2, uX h4, List.mem_of_getElem? h2, List.mem_of_getElem? h4⟩
variable {c : z8}
theorem zbF {e : ze × z8} (he : e ∈ mvs x c) : SV x e.1 := by
 obtain ⟨p, P, k, a, h1, h2, h3, h4⟩ := z5Q.1 he
 rcases z5P.1 h4 with ⟨rfl, _⟩ | ⟨_, _, o, Po, kk, b, _, _, _, _, _, rfl⟩
 ·exact ⟨p, P, k, a, rfl, h1, rfl, h2⟩
 ·exact ⟨p, P, k, a, rfl, h1, rfl, h2⟩
theorem z48 : ∀ (es : List (ze × z8)) (L : List z8), (∀ e ∈ es, SV x e.1) → L.length ≤ (Vp L es).length ∧ ∀ s ∈ Ku L es, SV x s.Move ∧ 0 ≤ s.To ∧ s.To < (Vp L es).length
 | [], L, _ => ⟨Nat.le_refl _, fun s hs => by simp [Ku] at hs⟩
 | e :: es, L, h => by
  have hf := z6b L e.2
  obtain ⟨h1, h2⟩ := z48 es (if fnd L e.2 = L.length then L ++ [e.2] else L) (fun e' he' => h e' (List.mem_cons_of_mem _ he'))
  rw [Vp]
  have hlen : L.length ≤ (if fnd L e.2 = L.length then L ++ [e.2] else L).length ∧ fnd L e.2 < (if fnd L e.2 = L.length then L ++ [e.2] else L).length := by
   split
   ·rw [List.length_append, List.length_singleton]; omega
   ·omega
  refine ⟨by omega, fun s hs => ?_⟩
  rw [Ku] at hs
  rcases List.mem_cons.1 hs with rfl | hs
  ·exact ⟨h e List.mem_cons_self, Int.natCast_nonneg _, by dsimp only; omega⟩
  ·exact h2 s hs
theorem z19 {x : z6} : ∀ n, ∀ u ∈ (wP x n).2, ∀ s ∈ u, SV x s.Move ∧ 0 ≤ s.To ∧ s.To < (wP x n).1.length
 | 0, u, h => by simp [wP] at h
 | n + 1, u, h => by
  intro s hs
  have hm := z0s (x := x) n
  rw [wP, z3k] at h
  split at h
  ·obtain ⟨a, b, c⟩ := z19 n u h s hs
   exact ⟨a, b, by omega⟩
  ·rename_i c hc
   rcases List.mem_append.1 h with h | h
   ·obtain ⟨a, b, c⟩ := z19 n u h s hs
    exact ⟨a, b, by omega⟩
   ·rw [List.mem_singleton.1 h, JA, List.nil_append] at hs
    rw [Kq hc]
    exact (z48 (mvs x c) (wP x n).1 fun e he => zbF he).2 s hs
variable {hidden : List Int}
section
variable {x : z6}
theorem zbz (hh : Ris hidden m) (hhl : hidden.length ≤ 1000) {u : List z7} (hu : u.length ≤ 1048576) (hs : ∀ s ∈ u, SV x s.Move) :
  loop (fun s => wy x hidden u s.1 s.2) (([] : List zf), 0) = some (u.map (shA x hidden)) := by
 refine z17 (fun j => ((u.take j).map (shA x hidden), (j : Int))) u.length (by omega) (fun j hj => ?_) ?_
 ·have he : u[j]? = some u[j] := List.getElem?_eq_getElem hj
  have hmem := List.mem_of_getElem? he
  have hnext : (u.take (j + 1)).map (shA x hidden) = (u.take j).map (shA x hidden) ++ [shA x hidden u[j]] := by
   rw [List.take_add_one, he, List.map_append]; rfl
  have hlen : ((u.take j).map (shA x hidden)).length ≤ 1048576 := by rw [List.length_map, List.length_take]; omega
  dsimp only
  rw [hnext]
  generalize (u.take j).map (shA x hidden) = row at hlen
  generalize u[j] = s at *
  obtain ⟨P, h1, h2, _, _⟩ := (hs s hmem).arc
  obtain ⟨n, hb⟩ := zc1 hh (by omega) (KL x s.Move).Message
  unfold wy wz shA
  rw [decide_eq_true (by omega), cond_true, uX he, oB, h1, oB, h2, oB, hb, oB]
  dsimp only
  rw [jR (by omega) (by omega)]
  by_cases q : (KL x s.Move).Kind = 0
  ·rw [show ((KL x s.Move).Kind == 0) = true from beq_iff_eq.2 q, cond_true]
   by_cases q2 : (KL x s.Move).Message ∈ hidden
   ·rw [decide_eq_true q2, Bool.not_true, cond_false, if_neg (fun h => h.2 q2), gdT (by rw [List.length_singleton]; omega)]; rfl
   ·rw [decide_eq_false q2, Bool.not_false, cond_true, if_pos ⟨q, q2⟩, gdT (by rw [List.length_singleton]; omega)]; rfl
  ·rw [beq_false_of_ne q, cond_false, if_neg (fun h => q h.1), gdT (by rw [List.length_singleton]; omega)]; rfl
 ·unfold wy
  dsimp only
  rw [decide_eq_false (by omega), cond_false, List.take_length]
theorem z8f (l : List zf) : yN l = some l := by
 unfold yN
 rw [gdT (by omega)]
 simp
theorem z8d (l : List (List zf)) : yp l = some l := by
 unfold yp
 rw [gdT (by omega)]
 simp
theorem K7 (hv : z6P x)  (hr : zbs hidden x.Labels = true) (hhl : hidden.length ≤ 1000) {sp : List za} {st : List (List z7)} (hg : y3 x = some (sp, st, 0)) (hs : st.length ≤ 1024) (hu : ∀ u ∈ st, u.length ≤ 1048576) (hsv : ∀ u ∈ st, ∀ s ∈ u, SV x s.Move) :
    (64 < sp.length ∧ yC x hidden = some (⟨0, 0, []⟩, 3)) ∨ (sp.length ≤ 64 ∧
      ((∃ rows, yC x hidden = some (⟨0, x.Labels, rows⟩, 0) ∧ rows.length = st.length ∧ ∀ (i : Nat) u, st[i]? = some u → ∃ t, rows[i]? = some t ∧ z08 (u.map (shA x hidden)) t ∧ t.length ≤ 256) ∨
       (yC x hidden = some (⟨0, 0, []⟩, 3) ∧ ∃ u ∈ st, ∃ t, z08 (u.map (shA x hidden)) t ∧ 256 < t.length))) := by
  have hris := z7x hr
  unfold yC
  rw [z1d hv, oB, bne_self_eq_false, cond_false, z4v (.inl (by omega)), hr, oB, Bool.not_true, cond_false, hg, oB]
  dsimp only
  rw [bne_self_eq_false, cond_false]
  by_cases q : 64 < sp.length
  · rw [decide_eq_true (by omega), cond_true]
    exact .inl ⟨q, rfl⟩
  · rw [decide_eq_false (by omega), cond_false]
    refine .inr ⟨by omega, ?_⟩
    have hl : Ret (loop (fun s => vj x hidden (sp, st, 0) s.1 s.2) (([] : List (List zf)), 0)) (fun r => (∃ rows, r = .inl rows ∧ rows.length = st.length ∧ ∀ (i : Nat) u, st[i]? = some u → ∃ t, rows[i]? = some t ∧ z08 (u.map (shA x hidden)) t ∧ t.length ≤ 256) ∨ (r = .inr (⟨0, 0, []⟩, 3) ∧ ∃ u ∈ st, ∃ t, z08 (u.map (shA x hidden)) t ∧ 256 < t.length)) := by
      refine Uu (fun s => ∃ n : Nat, s.2 = (n : Int) ∧ n ≤ st.length ∧ s.1.length = n ∧ ∀ (i : Nat) u, i < n → st[i]? = some u → ∃ t, s.1[i]? = some t ∧ z08 (u.map (shA x hidden)) t ∧ t.length ≤ 256) (fun s => 1024 - s.2.toNat) ⟨0, rfl, Nat.zero_le _, rfl, fun i u hi => by omega⟩ (by show 1024 - 0 < _; omega) ?_
      rintro ⟨rows, s⟩ ⟨n, hn, hnl, hrl, hrow⟩
      dsimp only at hn hrl hrow ⊢
      subst hn
      unfold vj
      dsimp only
      by_cases c : n < st.length
      · have he : st[n]? = some st[n] := List.getElem?_eq_getElem c
        have hmem := List.mem_of_getElem? he
        generalize st[n] = u at he hmem
        have hul := hu u hmem
        rw [decide_eq_true (by omega), cond_true, uX he, oB, zbz hris hhl hul (hsv u hmem), oB]
        unfold uU uV
        obtain ⟨so, s1, s2, s3⟩ := z4Y (u.map (shA x hidden)) (by rw [List.length_map]; omega)
        obtain ⟨t, t1, t2, t3⟩ := z3q s3 (by rw [s2.length_eq, List.length_map]; omega)
        have hcs : z08 (u.map (shA x hidden)) t := ⟨t2, fun y => (t3 y).trans s2.mem_iff⟩
        rw [s1, oB, t1, oB, z8f, oB]
        by_cases g : 256 < t.length
        · rw [decide_eq_true (by omega), cond_true]
          exact wW.2 (.inr ⟨rfl, u, hmem, t, hcs, g⟩)
        · rw [decide_eq_false (by omega), cond_false, gdT (by rw [List.length_singleton]; omega), jR (by omega) (by omega)]
          refine wW.2 ⟨⟨n + 1, rfl, c, by dsimp only; rw [List.length_append, List.length_singleton, hrl], fun i u' hi hu' => ?_⟩, ?_⟩
          · rcases Nat.lt_or_ge i n with q2 | q2
            · obtain ⟨t', a, b⟩ := hrow i u' q2 hu'
              exact ⟨t', zc6 a, b⟩
            · have : i = n := by omega
              subst this
              rw [he] at hu'
              cases hu'
              refine ⟨t, ?_, hcs, by omega⟩
              rw [← hrl]
              exact zaA
          · show 1024 - ((n : Int) + 1).toNat < 1024 - (n : Int).toNat
            omega
      · rw [decide_eq_false (by omega), cond_false]
        refine wW.2 (.inl ⟨rows, rfl, by omega, fun i u hu' => ?_⟩)
        exact hrow i u (by have := xI hu'; omega) hu'
    obtain ⟨r, e, h⟩ := hl
    rw [bdT e]
    rcases h with ⟨rows, rfl, h1, h2⟩ | ⟨rfl, h⟩
    · refine .inl ⟨rows, ?_, h1, h2⟩
      show vm x rows = _
      unfold vm
      rw [z8d]
      rfl
    · exact .inr ⟨rfl, h⟩
end
theorem z2k : wm = some true := by kernel_rfl
open Classical in
theorem Jz {α : Type} : ∀ {l m : List α}, l.Nodup → (∀ x ∈ l, x ∈ m) → l.length ≤ m.length
 | [], _, _, _ => Nat.zero_le _
 | x :: l, m, hn, hs => by
  have h1 : x ∈ m := hs x (by simp)
  have ⟨h2, h3⟩ := List.nodup_cons.1 hn
  have := Jz (l := l) (m := m.erase x) h3 fun y hy => (List.mem_erase_of_ne (fun e => h2 (by rw [← e]; exact hy))).2 (hs y (by simp [hy]))
  rw [List.length_erase_of_mem h1] at this
  have := List.length_pos_of_mem h1
  rw [List.length_cons]
  omega
theorem z6a {L : List z8}  : fnd L c = L.length ↔ c ∉ L := by
 unfold fnd
 rw [List.findIdx_eq_length]
 simp only [decide_eq_false_iff_not]
 exact ⟨fun h hc => h c hc rfl, fun h y hy e => h (e ▸ hy)⟩
theorem WU : ∀ (es : List (ze × z8)) (L : List z8) (c : z8), c ∈ Vp L es ↔ c ∈ L ∨ ∃ e ∈ es, e.2 = c
 | [], L, c => by simp [Vp]
 | e :: es, L, c => by
  rw [Vp, WU es]
  by_cases q : fnd L e.2 = L.length
  ·rw [if_pos q]
   simp only [List.mem_append, List.mem_cons, List.not_mem_nil, or_false, exists_eq_or_imp, or_assoc]
   exact or_congr_right (or_congr_left ⟨Eq.symm, Eq.symm⟩)
  ·rw [if_neg q]
   have hm : e.2 ∈ L := Classical.not_not.1 fun k => q (z6a.2 k)
   simp only [List.mem_cons, exists_eq_or_imp]
   constructor
   ·rintro (h | h)
    ·exact .inl h
    ·exact .inr (.inr h)
   ·rintro (h | rfl | h)
    ·exact .inl h
    ·exact .inl hm
    ·exact .inr h
theorem Kv : ∀ (es : List (ze × z8)) (L : List z8), L.Nodup → (Vp L es).Nodup
 | [], L, h => h
 | e :: es, L, h => by
  rw [Vp]
  refine Kv es _ ?_
  by_cases q : fnd L e.2 = L.length
  ·rw [if_pos q, List.nodup_append]
   exact ⟨h, List.nodup_cons.2 ⟨by simp, List.nodup_nil⟩, fun a ha b hb e2 => z6a.1 q (by rw [← List.mem_singleton.1 hb, ← e2]; exact ha)⟩
  ·rw [if_neg q]
   exact h
theorem z2A : ∀ (es : List (ze × z8)) (L : List z8) (k : Nat), k < L.length → (Vp L es)[k]? = L[k]?
 | [], L, k, _ => rfl
 | e :: es, L, k, h => by
  rw [Vp, z2A es _ k (by
   split
   ·rw [List.length_append]; omega
   ·exact h)]
  split
  ·exact List.getElem?_append_left h
  ·rfl
variable {P : z8 → Prop}{n : Nat}
section
variable {x : z6}
theorem Kr (h : n < (wP x n).1.length) : ∃ c, (wP x n).1[n]? = some c ∧ wP x (n + 1) = (Vp (wP x n).1 (mvs x c), (wP x n).2 ++ [Ku (wP x n).1 (mvs x c)]) :=
 ⟨_, List.getElem?_eq_getElem h, Kq (List.getElem?_eq_getElem h)⟩
theorem z47 : ∀ n, (∀ m, m < n → m < (wP x m).1.length) → (wP x n).1.Nodup
 | 0, _ => List.nodup_cons.2 ⟨by simp, List.nodup_nil⟩
 | n + 1, h => by
  obtain ⟨c, _, e⟩ := Kr (h n (by omega))
  rw [e]
  exact Kv _ _ (z47 n fun m hm => h m (by omega))
theorem z8Z : ∀ n, (∀ m, m < n → m < (wP x m).1.length) → beg x ∈ (wP x n).1
 | 0, _ => List.mem_singleton.2 rfl
 | n + 1, h => by
  obtain ⟨c, _, e⟩ := Kr (h n (by omega))
  rw [e]
  exact (WU _ _ _).2 (.inl (z8Z n fun m hm => h m (by omega)))
theorem z2x : ∀ n, (∀ m, m < n → m < (wP x m).1.length) → ∀ k c, k < n → (wP x n).1[k]? = some c → ∀ e ∈ mvs x c, e.2 ∈ (wP x n).1
 | 0, _, k, c, hk, _, _, _ => by omega
 | n + 1, h, k, c, hk, hc, e, he => by
  have hn := h n (by omega)
  obtain ⟨d, hd, eq⟩ := Kr hn
  rw [eq] at hc ⊢
  dsimp only at hc ⊢
  rw [z2A _ _ k (by omega)] at hc
  rcases Nat.lt_or_ge k n with q | q
  ·exact (WU _ _ _).2 (.inl (z2x n (fun m hm => h m (by omega)) k c q hc e he))
  ·have : k = n := by omega
   subst this
   rw [hd] at hc
   cases hc
   exact (WU _ _ _).2 (.inr ⟨e, he, rfl⟩)
theorem z64 (h0 : P (beg x)) (hs : ∀ c, P c → ∀ e ∈ mvs x c, P e.2) : ∀ n, (∀ m, m < n → m < (wP x m).1.length) → ∀ c ∈ (wP x n).1, P c
 | 0, _, c, hc => by rw [List.mem_singleton.1 hc]; exact h0
 | n + 1, h, c, hc => by
  obtain ⟨d, hd, eq⟩ := Kr (h n (by omega))
  rw [eq] at hc
  have ih := z64 h0 hs n fun m hm => h m (by omega)
  rcases (WU _ _ _).1 hc with q | ⟨e, he, rfl⟩
  ·exact ih c q
  ·exact hs d (ih d (List.mem_of_getElem? hd)) e he
theorem z44 {b : Nat} (h0 : P (beg x)) (hs : ∀ c, P c → ∀ e ∈ mvs x c, P e.2) (hb : ∀ c, P c → (mvs x c).length ≤ b) : ∀ n, (∀ m, m < n → m < (wP x m).1.length) → ∀ u ∈ (wP x n).2, u.length ≤ b
 | 0, _, u, hu => by simp [wP] at hu
 | n + 1, h, u, hu => by
  obtain ⟨d, hd, eq⟩ := Kr (h n (by omega))
  rw [eq] at hu
  have hl : ∀ m, m < n → m < (wP x m).1.length := fun m hm => h m (by omega)
  rcases List.mem_append.1 hu with q | q
  ·exact z44 h0 hs hb n hl u q
  ·rw [List.mem_singleton.1 q, Kt]
   exact hb d (z64 h0 hs n hl d (List.mem_of_getElem? hd))
end
def rgA (n s : Nat) : zb := ⟨(s : Int), 0, 0, 0, (((s + 1) % n : Nat) : Int)⟩
def rgP (n : Nat) : zh := ⟨(n : Int), (List.range n).map (rgA n), []⟩
def rgS (a b : Nat) : z6 := ⟨0, 1, [], [rgP a, rgP b]⟩
def rgC (i j : Nat) : z8 := ⟨[(i : Int), (j : Int)], []⟩
theorem z5m {a b n : Nat} (hn : 1 ≤ n ∧ n ≤ 64) : zcb (rgS a b) (rgP n) := by
 refine ⟨by show (1 : Int) ≤ (n : Int); omega, by show (n : Int) ≤ 64; omega, by show ((List.range n).map (rgA n)).length ≤ 256; simp; omega, fun i v h => (by simp [rgP] at h), by show 0 ≤ 64; omega, fun c hc => ?_⟩
 obtain ⟨s, hs, rfl⟩ := List.mem_map.1 hc
 have hs := List.mem_range.1 hs
 have hm := Nat.mod_lt (s + 1) (show 0 < n by omega)
 exact ⟨⟨by show (0 : Int) ≤ (s : Int); omega, by show (s : Int) < (n : Int); omega⟩, ⟨by show (0 : Int) ≤ (((s + 1) % n : Nat) : Int); omega, by show (((s + 1) % n : Nat) : Int) < (n : Int); omega⟩, ⟨Int.le_refl _, by show (0 : Int) ≤ 2; omega⟩, fun _ => ⟨rfl, Int.le_refl _, by show (0 : Int) < 1; omega⟩, fun h => absurd rfl h⟩
variable {a b : Nat}
theorem K0 (ha : 1 ≤ a ∧ a ≤ 64) (hb : 1 ≤ b ∧ b ≤ 64) : z6P (rgS a b) := by
 refine ⟨⟨Int.le_refl _, by show (0 : Int) ≤ 16; omega⟩, ⟨by show (0 : Int) ≤ 1; omega, by show (1 : Int) ≤ 16; omega⟩, by show 0 ≤ 4; omega, fun n hn => (by cases hn), ⟨by show 1 ≤ 2; omega, by show 2 ≤ 4; omega⟩, fun p hp => ?_⟩
 have hp : p ∈ [rgP a, rgP b] := hp
 simp only [List.mem_cons, List.not_mem_nil, or_false] at hp
 rcases hp with rfl | rfl
 ·exact z5m ha
 ·exact z5m hb
theorem z4n {g : Nat → zb} (hg : ∀ i, (g i).From = (i : Int)) (st : Nat) : ∀ m k : Nat, VT (fun k a => if a.From = (st : Int) then [((k : Int), a)] else []) ((List.range' k m).map g) k = if k ≤ st ∧ st < k + m then [((st : Int), g st)] else []
 | 0, k => by
  rw [if_neg (by omega)]
  rfl
 | m + 1, k => by
  rw [List.range'_succ, List.map_cons, VT, z4n hg st m (k + 1), hg]
  by_cases e : k = st
  ·subst e
   rw [if_pos rfl, if_neg (by omega), if_pos (by omega)]
   rfl
  ·rw [if_neg (by omega)]
   by_cases q : k + 1 ≤ st ∧ st < k + 1 + m
   ·rw [if_pos q, if_pos (by omega)]
    rfl
   ·rw [if_neg q, if_neg (by omega)]
    rfl
theorem z4m {n st : Nat} (h : st < n) : uY (rgP n).Arcs (st : Int) = [((st : Int), rgA n st)] := by
 have := z4n (g := rgA n) (fun _ => rfl) st n 0
 rw [if_pos (by omega), ← List.range_eq_range'] at this
 exact this
theorem z3J {a b i j : Nat} (hi : i < a) (hj : j < b) : mvs (rgS a b) (rgC i j) = [(⟨((0 : Nat) : Int), (i : Int), -1, -1⟩, rgC ((i + 1) % a) j), (⟨((1 : Nat) : Int), (j : Int), -1, -1⟩, rgC i ((j + 1) % b))] := by
 show (uY (rgP a).Arcs (i : Int)).flatMap (one (rgS a b) (rgC i j) 0) ++ ((uY (rgP b).Arcs (j : Int)).flatMap (one (rgS a b) (rgC i j) 1) ++ []) = _
 rw [z4m hi, z4m hj]
 rfl
theorem z5p {i j i' j' : Nat} (h : rgC i j = rgC i' j') : i = i' ∧ j = j' := by
 unfold rgC at h
 injection h with h1 h2
 injection h1 with h3 h4
 injection h4 with h5 h6
 omega
def z0X (a b : Nat) : List z8 := (List.range a).flatMap fun i => (List.range b).map fun j => rgC i j
theorem z1X (a b : Nat) : (z0X a b).length = a * b := by
 unfold z0X
 rw [List.length_flatMap]
 simp only [List.length_map, List.length_range, List.map_const', List.sum_replicate_nat]
theorem Xy : c ∈ z0X a b ↔ ∃ i j, i < a ∧ j < b ∧ c = rgC i j := by
 unfold z0X
 simp only [List.mem_flatMap, List.mem_map, List.mem_range]
 constructor
 ·rintro ⟨i, hi, j, hj, rfl⟩
  exact ⟨i, j, hi, hj, rfl⟩
 ·rintro ⟨i, j, hi, hj, rfl⟩
  exact ⟨i, hi, j, hj, rfl⟩
theorem z35 (a b : Nat) : (z0X a b).Nodup := by
 unfold z0X List.Nodup
 rw [List.pairwise_flatMap]
 refine ⟨fun i _ => ?_, ?_⟩
 ·rw [List.pairwise_map]
  exact List.Pairwise.imp (fun {s t} h e => by have := (z5p e).2; omega) List.pairwise_lt_range
 ·refine List.Pairwise.imp (fun {s t} h x hx y hy e => ?_) List.pairwise_lt_range
  obtain ⟨u, _, rfl⟩ := List.mem_map.1 hx
  obtain ⟨v, _, rfl⟩ := List.mem_map.1 hy
  have := (z5p e).1
  omega
section
variable {a b : Nat} (ha : 1 ≤ a ∧ a ≤ 64) (hb : 1 ≤ b ∧ b ≤ 64)
include ha hb
theorem z5l : ∀ c, c ∈ z0X a b → ∀ e ∈ mvs (rgS a b) c, e.2 ∈ z0X a b := fun c hc e he => by
 obtain ⟨i, j, hi, hj, rfl⟩ := Xy.1 hc
 rw [z3J hi hj] at he
 simp only [List.mem_cons, List.not_mem_nil, or_false] at he
 rcases he with rfl | rfl
 ·exact Xy.2 ⟨_, _, Nat.mod_lt _ (by omega), hj, rfl⟩
 ·exact Xy.2 ⟨_, _, hi, Nat.mod_lt _ (by omega), rfl⟩
theorem z8O : beg (rgS a b) ∈ z0X a b := Xy.2 ⟨0, 0, by omega, by omega, rfl⟩
theorem zbt (h : ∀ m, m < n → m < (wP (rgS a b) m).1.length) : (wP (rgS a b) n).1.length ≤ a * b := by
 rw [← z1X a b]
 exact Jz (z47 n h) (z64 (z8O ha hb) (z5l ha hb) n h)
theorem zbu (h : ∀ m, m < n → m < (wP (rgS a b) m).1.length) (hn : (wP (rgS a b) n).1.length ≤ n) : a * b ≤ (wP (rgS a b) n).1.length := by
 have _ := ha
 rw [← z1X a b]
 refine Jz (z35 a b) fun c hc => ?_
 have cl : ∀ c ∈ (wP (rgS a b) n).1, ∀ e ∈ mvs (rgS a b) c, e.2 ∈ (wP (rgS a b) n).1 := fun c hc e he => by
  obtain ⟨k, hk⟩ := List.mem_iff_getElem?.1 hc
  have := (List.getElem?_eq_some_iff.1 hk).1
  exact z2x n h k c (by omega) hk e he
 have h1 : ∀ i, i < a → rgC i 0 ∈ (wP (rgS a b) n).1 := by
  intro i
  induction i with
  | zero => intro _; exact z8Z n h
  | succ i ih =>
   intro hi
   have := cl _ (ih (by omega)) (⟨((0 : Nat) : Int), (i : Int), -1, -1⟩, rgC ((i + 1) % a) 0) (by rw [z3J (by omega) (by omega)]; simp)
   rw [Nat.mod_eq_of_lt hi] at this
   exact this
 have h2 : ∀ i, i < a → ∀ j, j < b → rgC i j ∈ (wP (rgS a b) n).1 := by
  intro i hi j
  induction j with
  | zero => intro _; exact h1 i hi
  | succ j ih =>
   intro hj
   have := cl _ (ih (by omega)) (⟨((1 : Nat) : Int), (j : Int), -1, -1⟩, rgC i ((j + 1) % b)) (by rw [z3J hi (by omega)]; simp)
   rw [Nat.mod_eq_of_lt hj] at this
   exact this
 obtain ⟨i, j, hi, hj, rfl⟩ := Xy.1 hc
 exact h2 i hi j hj
theorem z0W (hab : a * b ≤ 1024) : ∃ n, y3 (rgS a b) = some ((wP (rgS a b) n).1.map y5, (wP (rgS a b) n).2, 0) ∧ (wP (rgS a b) n).1.length = a * b ∧ (wP (rgS a b) n).2.length = a * b ∧ ∀ u ∈ (wP (rgS a b) n).2, u.length ≤ 2 := by
 rcases z2y (K0 ha hb) with ⟨n, e, h1, h2, h3⟩ | ⟨n, e, h1, h2⟩
 ·have hl : (wP (rgS a b) n).1.length = a * b := Nat.le_antisymm (zbt ha hb h3) (zbu ha hb h3 h1)
  refine ⟨n, e, hl, ?_, z44 (z8O ha hb) (z5l ha hb) (fun c hc => ?_) n h3⟩
  ·rw [z2w n h3]
   refine Nat.le_antisymm ?_ (by omega)
   cases n with
   | zero => omega
   | succ n =>
    have := h3 n (by omega)
    have := z0s (x := rgS a b) n
    omega
  ·obtain ⟨i, j, hi, hj, rfl⟩ := Xy.1 hc
   rw [z3J hi hj]
   exact Nat.le_refl _
 ·have := zbt ha hb h2
  omega
theorem z5n (hab : 1024 < a * b) : y3 (rgS a b) = some ([], [], 3) := by
 rcases z2y (K0 ha hb) with ⟨n, e, h1, h2, h3⟩ | ⟨n, e, h1, h2⟩
 ·have := zbu ha hb h3 h1
  omega
 ·exact e
theorem z7A (hab : a * b ≤ 1024) : ∃ L st, xG (rgS a b) = some (L, st, 0) ∧ L.length = a * b ∧ st.length = a * b := by
 obtain ⟨n, e, h1, h2, _⟩ := z0W ha hb hab
 exact ⟨_, _, z65 (K0 ha hb) (z3j (K0 ha hb) n).1 (by omega) e, h1, h2⟩
theorem z5o (hab : 1024 < a * b) : xG (rgS a b) = some ([], [], 3) := by
 unfold xG
 rw [bdT (z1d (K0 ha hb)), show ((0 : Int) != 0) = false from rfl, cond_false, bdT (z5n ha hb hab)]
 rfl
theorem z9Z (hab : a * b ≤ 64) : ∃ r, yC (rgS a b) [] = some (r, 0) ∧ r.Rows.length = a * b := by
 have hv := K0 ha hb
 obtain ⟨n, e, h1, h2, h3⟩ := z0W ha hb (by omega)
 rcases K7 hv (hidden := []) rfl (by show 0 ≤ 1000; omega) e (by omega) (Vf hv n) (fun u hu s hs => (z19 n u hu s hs).1) with ⟨q, _⟩ | ⟨_, ⟨rows, e2, h4, _⟩ | ⟨_, u, hu, t, ht, hl⟩⟩
 ·rw [List.length_map] at q
  omega
 ·exact ⟨_, e2, by show rows.length = _; omega⟩
 ·have hn : t.Nodup := List.Pairwise.imp (fun {x y} h e => by subst e; exact z6H h) ht.1
  have := Jz hn fun y hy => (ht.2 y).1 hy
  rw [List.length_map] at this
  have := h3 u hu
  omega
theorem z7z (h64 : 64 < a * b) (hab : a * b ≤ 1024) : yC (rgS a b) [] = some (⟨0, 0, []⟩, 3) := by
 have hv := K0 ha hb
 obtain ⟨n, e, h1, h2, h3⟩ := z0W ha hb hab
 rcases K7 hv (hidden := []) rfl (by show 0 ≤ 1000; omega) e (by omega) (Vf hv n) (fun u hu s hs => (z19 n u hu s hs).1) with ⟨_, q⟩ | ⟨q, _⟩
 ·exact q
 ·rw [List.length_map] at q
  omega
end
theorem rg1 : uI [32, 32] = some (rgS 32 32) := by kernel_rfl
theorem rg2 : uI [32, 33] = some (rgS 32 33) := by kernel_rfl
theorem rg3 : uI [8, 8] = some (rgS 8 8) := by kernel_rfl
theorem rg4 : uI [13, 5] = some (rgS 13 5) := by kernel_rfl
def fkP (n : Nat) : zh := ⟨2, [⟨0, 2, (n : Int), 0, 1⟩, ⟨1, 2, ((2 + n : Nat) : Int), 0, 0⟩], []⟩
def etP (a b : Nat) : zh := ⟨4, [⟨0, 1, (a : Int), 0, 1⟩, ⟨1, 1, (b : Int), 0, 2⟩, ⟨2, 1, ((2 + a : Nat) : Int), 0, 3⟩, ⟨3, 1, ((2 + b : Nat) : Int), 0, 0⟩], []⟩
theorem fk0 : ZZ 0 = some (fkP 0) ∧ ZZ 1 = some (fkP 1) := ⟨by kernel_rfl, by kernel_rfl⟩
theorem et0 : jP 0 1 = some (etP 0 1) ∧ jP 1 0 = some (etP 1 0) := ⟨by kernel_rfl, by kernel_rfl⟩
theorem zd6 : (Option.bind (xH ⟨1, 1, [0, 0, 0, 0], [fkP 0, fkP 1, etP 0 1, etP 1 0]⟩) fun r => Option.bind (ZX r.2.1.States [1, 1, 1, 1]) fun s => some (r.2.2, r.1.length, s)) = some (0, 2, 1) := by kernel_rfl
theorem zd5 : (Option.bind (xH ⟨1, 1, [0, 0, 0, 0], [fkP 0, fkP 1, etP 0 1, etP 0 1]⟩) fun r => some r.2.2) = some 7 := by kernel_rfl
theorem zeS : xm ⟨17, 0, [], []⟩ ⟨[], []⟩ [] = some true := by kernel_rfl
theorem zeR : (Option.bind (qK 5 []) fun x => Option.bind (xR 0 0 []) fun c => xm x c []) = some true := by kernel_rfl
theorem zeQ : (Option.bind (qK 1 []) fun x => Option.bind (xR 0 0 [0, 0]) fun c => xm x c [1]) = some true := by kernel_rfl
theorem z7T : uW = some true := by
 obtain ⟨L1, s1, g1, l1, t1⟩ := z7A (a := 32) (b := 32) (by omega) (by omega) (by omega)
 have g2 := z5o (a := 32) (b := 33) (by omega) (by omega) (by omega)
 obtain ⟨p3, g3, l3⟩ := z9Z (a := 8) (b := 8) (by omega) (by omega) (by omega)
 have g4 := z7z (a := 13) (b := 5) (by omega) (by omega) (by omega) (by omega)
 obtain ⟨⟨r1, d1, e1⟩, h1, q1⟩ := zj zd6
 obtain ⟨w, w1, w2⟩ := zj q1
 obtain ⟨⟨r2, d2, e2⟩, h2, q2⟩ := zj zd5
 obtain ⟨x2, x3, q⟩ := zj zeR
 obtain ⟨c2, c3, b2⟩ := zj q
 obtain ⟨x4, x5, q⟩ := zj zeQ
 obtain ⟨c4, c5, b3⟩ := zj q
 have b1 := zeS
 have lv := z2k
 have r01 := rg1; have r02 := rg2; have r03 := rg3; have r04 := rg4
 obtain ⟨f0, f1⟩ := fk0
 obtain ⟨a0, a1⟩ := et0
 have hset : ([fkP 0, fkP 1, etP 0 1, etP 1 0] : List zh).set (3 : Int).toNat (etP 0 1) = [fkP 0, fkP 1, etP 0 1, etP 0 1] := rfl
 have hidx : idx ([fkP 0, fkP 1, etP 0 1, etP 1 0] : List zh) 3 = some (etP 1 0) := rfl
 simp only [Option.some.injEq, Prod.mk.injEq] at w2 q2
 obtain ⟨z1, z2, z3⟩ := w2
 subst z1 z3 q2
 generalize rgS 32 32 = R1 at *
 generalize rgS 32 33 = R2 at *
 generalize rgS 8 8 = R3 at *
 generalize rgS 13 5 = R4 at *
 generalize fkP 0 = F0 at *
 generalize fkP 1 = F1 at *
 generalize etP 0 1 = E0 at *
 generalize etP 1 0 = E1 at *
 unfold uW
 rw [bdT r01, bdT g1, bdT r02, bdT g2, bdT r03, bdT g3, bdT r04, bdT g4]
 simp only
 rw [show ((0 : Int) != 0) = false from rfl, cond_false, l1, t1, show (((32 * 32 : Nat) : Int) != 1024) = false from rfl, cond_false, cond_false, show ((3 : Int) != 3) = false from rfl, cond_false, show (w64 (((([] : List z8).length : Nat) : Int) + ((([] : List (List z7)).length : Nat) : Int)) != 0) = false from rfl, cond_false, cond_false, l3, show (((8 * 8 : Nat) : Int) != 64) = false from rfl, cond_false, cond_false, show (((([] : List (List zf)).length : Nat) : Int) != 0) = false from rfl, cond_false, bdT f0, bdT f1, bdT a0, bdT a1, bdT h1, bdT a0, bdT hidx, hset, bdT h2]
 simp only at z2 ⊢
 rw [show ((0 : Int) != 0) = false from rfl, cond_false, z2, show (((2 : Nat) : Int) != 2) = false from rfl, cond_false, bdT w1, show ((1 : Int) == 0) = false from rfl, cond_false, show ((7 : Int) != 7) = false from rfl, cond_false, bdT b1, cond_true, bdT x3, bdT c3, bdT b2, cond_true, bdT x5, bdT c5, bdT b3, cond_true, bdT lv]
def zc8 (w : World) : zn := fun b o => yj w.heap b o
variable {v : Value}
theorem z6r {w : World} {a : Addr}  (h : w.cell? a = some v) : a.spot = none ∧ yj w.heap a.block a.off = some v := by
 unfold World.cell? at h
 unfold yj
 split at h
 ·rename_i c ty fr he
  rw [he]
  split at h
  ·cases h
  ·rename_i hs
   exact ⟨by simpa using hs, h⟩
 ·cases h
section
open Go Go.ChangeShapes Go.WideShapes Go.ChangeAt Go.RowKit
theorem z5y {P : Program} {H : Type} {enc : TypeId × Value → H} {f : Func} {s : ChangeSpec} {apart fresh handsOn again : Bool} {W W' : World} {args : Array Value} {v : Value} {ds : List (DataW H)} {pa : List MemPlace}
  (hvar : s.vars = []) (hvars2 : (s.fn H (ds ++ [])).vars = []) (hW : DataW.Whole enc P f.params.toList s.vars apart W args.toList ds [] (pa ++ [])) (hb : Below W.heap.size W W')
  (hres : ∀ (b : Nat) (sp : Nat → Bool) (hd : Bool), DataW.TrodAll enc P W' b sp hd f.resultTypes.toList (v.resultList f.resultTypes.size) (s.fn H (ds ++ [])).results [])
  (hargs : ∀ sp : Nat → Bool, (∀ p ∈ pa ++ [], sp p.block = true) → DataW.TrodAll enc P W' 0 sp true f.params.toList args.toList (s.fn H (ds ++ [])).args pa)
  (hok : ∀ (j : Nat) (t : TypeId) (r : Value), f.resultTypes[j]? = some t → (v.resultList f.resultTypes.size)[j]? = some r → Value.okWide P W' .any 0 t r) :
  s.post enc P f apart fresh handsOn again W args v W' := by
 have hlt : ∀ p ∈ pa ++ [], p.block < W.heap.size := fun p hp => by simpa using hW.lt p hp
 have hvr : ∀ sp : Nat → Bool, DataW.TrodVars enc P W' sp s.vars (s.fn H (ds ++ [])).vars [] := fun sp => by rw [hvar, hvars2]; rfl
 refine ⟨ds, [], pa ++ [], [], pa, [], hW, hres _ _ _, hargs _ (fun p hp => by simpa using hlt p hp), hvr _, World.keptBut_mono (fun _ q => q.elim) (hb.frame fun _ => False), fun _ => ?_⟩
 have ⟨_, _, _, _, _, hz, hn⟩ := hW
 refine ⟨hok, _, _, ([] ++ pa) ++ [], ⟨[] ++ pa, [], trodAll_append (hargs _ (fun _ _ => rfl)) (hres _ _ _), hvr _, rfl, ?_, ?_⟩, ?_⟩
 ·intro b off hp
  have hp' : MemPlace.cell b off ∈ pa ++ [] := by simpa using hp
  rw [hb.frozen (p := ⟨b, off, none⟩) (hlt _ hp')]
  exact hz b off hp'
 ·intro ha
  simpa using hn ha
 ·intro p hp _
  simpa using hp
end
theorem z7k {P : Program} {k : Nat} {α ρ : Type} {enc : α → List A} {encR : ρ → A} {F : α → Option ρ} {gives : List Bool} {inj : ∀ x y, enc x = enc y → x = y} (h : (spF k enc encR F gives inj).Ok P) {x : α} {r : ρ} (hr : F x = some r) : XJ P k (enc x) (encR r) := by
 have := h x ⟨r, hr⟩
 simpa only [spF, hr] using this
section
variable {P : Program} {w : World} {r : Reach} {base t : Nat} {v : Value}
theorem z7Z {S : zn} {h : Array Obj}  {F : List Nat} (q : Has S h (.atom (.bool true)) v F) : v = .bool true := by
 rcases q with ⟨q, _⟩ | ⟨cs, q, _, rfl⟩
 ·rw [(zw.1 q).1]
 ·simp [zH, Rep] at q
  obtain ⟨⟨rfl, _⟩, _⟩ := q
  rfl
end
open Go.Proofs
end Go.Own
namespace Go.Proofs.YtmedkleidpbgpaaGreatDoor.systemsKnown
open Go Go.ChangeShapes Go.WideShapes Go.ChangeAt Go.RowKit
theorem own : ownKnob Tryz.prog.godebug = none := by kernel_rfl
variable {W : World}
section
variable {H : Type} {enc : TypeId × Value → H} {W : World}
theorem z5i (u : TypeId) (h : Tryz.prog.typeName? 3 u = some "*errors.errorString") : u = 175 :=
 typeName_ptr_named (nm := "errors.errorString") (by rw [show "*" ++ "errors.errorString" = "*errors.errorString" by decide]; kernel_rfl) (by kernel_rfl) (by decide) u (by rw [show "*" ++ "errors.errorString" = "*errors.errorString" by decide]; exact h)
theorem z80 (hL : laidMetH Tryz.prog Rows.systemsKnownRow.laid W) : Go.Own.Gok (Go.Own.zc8 W) := by
 rw [MakeChecks.laidMetH_plain _ _ _ (by kernel_rfl)] at hL
 have hg : Tryz.prog.globalNamed "gauntlet/systems.errNo" = some 0 := by kernel_rfl
 obtain ⟨a, _, hv, _⟩ := laid_sentinel hL hg (show (Tryz.prog.globals[0]?).map (·.type) = some 132 by kernel_rfl) Tryz.underlying132 z5i Tryz.underlying175 Tryz.underlying200 rfl rfl Tryz.underlying9 (show Tryz.prog.cellsOf 200 = 1 by kernel_rfl) (show Tryz.prog.cellsOf 9 = 1 by kernel_rfl)
 have hw : W.cell? ⟨0, 0, none⟩ = some (.iface 175 (.pointer (some a))) := by
  have := World.var?_cell hg hv 0
  simpa using this
 have hc : Go.Own.zc8 W 0 0 = some (.iface 175 (.pointer (some a))) := (Go.Own.z6r hw).2
 intro g x e
 unfold Go.Own.z63 at e
 split at e
 ·rename_i h0
  subst h0
  cases e
  refine ⟨[.iface 175 (.pointer (some a))], ⟨_, rfl, fun _ => ⟨hc, a, rfl⟩, fun h => by cases h⟩, fun j v hj => ?_⟩
  cases j with
  | zero => cases hj; exact hc
  | succ j => simp at hj
 ·cases e
theorem z8n (hL : laidMetH Tryz.prog Rows.systemsKnownRow.laid W) : Go.Own.Gbk (Go.Own.zc8 W) W := by
 rw [MakeChecks.laidMetH_plain _ _ _ (by kernel_rfl)] at hL
 have hg : Tryz.prog.globalNamed "gauntlet/systems.errNo" = some 0 := by kernel_rfl
 obtain ⟨a, _, hv, _⟩ := laid_sentinel hL hg (show (Tryz.prog.globals[0]?).map (·.type) = some 132 by kernel_rfl) Tryz.underlying132 z5i Tryz.underlying175 Tryz.underlying200 rfl rfl Tryz.underlying9 (show Tryz.prog.cellsOf 200 = 1 by kernel_rfl) (show Tryz.prog.cellsOf 9 = 1 by kernel_rfl)
 have hw : W.cell? ⟨0, 0, none⟩ = some (.iface 175 (.pointer (some a))) := by
  have := World.var?_cell hg hv 0
  simpa using this
 have hc : Go.Own.zc8 W 0 0 = some (.iface 175 (.pointer (some a))) := (Go.Own.z6r hw).2
 intro g x e
 unfold Go.Own.z63 at e
 split at e
 ·rename_i h0
  subst h0
  cases e
  have hv2 := hv
  unfold World.var? at hv2
  rw [hg, Option.bind_some] at hv2
  split at hv2
  ·rename_i cs ty fr hq
   cases hv2
   exact ⟨⟨_, _, _, hq, rfl⟩, _, hc⟩
  ·cases hv2
 ·cases e
set_option maxRecDepth 100000 in
theorem zey {base : Nat} (hL : laidMetH Tryz.prog Rows.systemsKnownRow.laid W) :
  Calls Tryz.prog 3 #[] W fun e w' => e = .returned (.bool true) ∧ Go.Own.Xr (fun k => W.heap.size ≤ k) W w' := by
 have q := (Go.Own.z7k (Go.Own.z4G Go.Own.zce List.mem_cons_self : Go.Own.qw.Ok Tryz.prog) (x := ()) (r := true) (Go.Own.z7T)).2 (Go.Own.zc8 W) W [] [] ⟨fun _ _ _ h => h, z80 hL, z8n hL⟩ ?_ (by simp)
 ·refine Calls.mono q ?_
  rintro e w' ⟨v, S', F', rfl, hk, _, _, _, hr, _, _⟩
  refine ⟨?_, hk.mono (by rintro k (h | h) <;> simp_all)⟩
  rw [Go.Own.z7Z hr]
 ·refine Go.Own.V0 ?_
  exact trivial
end
set_option maxRecDepth 100000 in
theorem z85 (os : Os) (args : Array Value) : laidMetH Tryz.prog Rows.systemsKnownRow.laid ((World.doorLaid Tryz.prog 400 os).forCall (fun _ _ => 0) ⟨#[], args, []⟩).memory :=
 laidMetH_of_parts3 (fuel := 8) (laidMet_of_run' 8 (by kernel_rfl) (by kernel_rfl)) (by kernel_rfl) (by kernel_rfl)
set_option maxRecDepth 100000 in
theorem zbK (os : Os) (started : os.Started) (H : Type) (enc : TypeId × Value → H) :
  ReturnsInHanded {} Tryz.checked os 3 .any (fun w args => (Rows.systemsKnownSpec.pre enc Tryz.prog Tryz.f3 Rows.systemsKnownRow.domain false w args ∧ laidMetH Tryz.prog Rows.systemsKnownRow.laid w) ∧ sizedMet enc Tryz.prog Tryz.f3 (OpenSpec.ofChange Rows.systemsKnownSpec) false w args) (Rows.systemsKnownSpec.post enc Tryz.prog Tryz.f3 false true false false) := by
 refine returnsInHanded_of_change_and (C := Tryz.checked) (X := fun w _ => laidMetH Tryz.prog Rows.systemsKnownRow.laid w) (fun _ _ _ hh h => h.of_heap hh) own started (by kernel_rfl) Tryz.func3
  (ChangeSpec.witness_shaped (enc := enc) (C := Tryz.checked) (os := os) (X := fun w _ => laidMetH Tryz.prog Rows.systemsKnownRow.laid w) false (World.doorLaid Tryz.prog 400 os) #[] 8 rfl (World.shaped_of_RefB (by kernel_rfl) (by kernel_rfl)) (by kernel_rfl) (by kernel_rfl) (by kernel_rfl) (z85 os _)) ?_
 intro W base args ds gs before hval0 hW hcnd _ hL _
 have hval : ∀ (j : Nat) t v, Tryz.f3.params[j]? = some t → args[j]? = some v → Value.okWide Tryz.prog W .any base t v := hval0
 have hW' := hW
 obtain ⟨p, q, hA0, hV, rfl, hfz, hnd⟩ := hW
 have hA : DataW.TrodAll enc Tryz.prog W 0 (fun _ => true) true Tryz.f3.params.toList args.toList ds p := hA0
 rw [Tryz.params3] at hA hval
 obtain ⟨rfl, rfl, rfl⟩ := trodAll_none hA
 obtain ⟨rfl, rfl⟩ := trodVars_none hV
 clear hA0 hval0
 refine (zey hL (base := base)).mono fun e W' ⟨he, hk⟩ => ?_
 subst he
 have hb : Below W.heap.size W W' := ⟨hk.os, hk.tape, hk.output, hk.size, fun k q => hk.block k (by omega)⟩
 have hlt : ∀ x ∈ ([] : List MemPlace), x.block < W.heap.size := fun x hx => by cases hx
 refine ⟨_, rfl, Go.Own.z5y rfl rfl hW' hb (fun _ _ _ => trodAll_cons_mk (shut_bool Tryz.underlying4 _) trodAll_mk0) (fun sp hsp => ?_) (ok_one (by kernel_rfl) rfl (okWide_bool_mk Tryz.underlying4 _))⟩
 rw [Tryz.params3]
 exact trodAll_mk0
theorem WP : Rows.systemsKnownRow.holds Tryz.pinned (OpenSpec.ofChange Rows.systemsKnownSpec) :=
 OpenClaim.holds_of_wide 3 Tryz.f3 rfl rfl rfl rfl rfl rfl rfl ⟨rfl, rfl, rfl, rfl, rfl⟩ rfl rfl rfl rfl rfl (by kernel_rfl) Tryz.func3 (by kernel_rfl)
  (of_decide_eq_true (by kernel_rfl)) (by unfold Func.isWrapper; first | (rw [if_pos (by decide +kernel)]; kernel_rfl) | (rw [if_neg (by decide +kernel)]; exact ⟨rfl, rfl⟩))
  (fun os started H enc _ => zbK os started H enc)
theorem proved : Rows.SystemsKnownCardSaid :=
 Claim7.holds_tied_plain_at .later [] [.sentinel] true (true, "f7fc03bc7c51dbab59c6b93db4496c6528037e826faee6798b8393701321ca10") true
  WP (fun _ h => by cases h) (by kernel_rfl) (fun _ h => by cases h) systemsKnown_row_tie rfl ⟨rfl, rfl⟩ (by kernel_rfl) rfl
  (fun f fn hf hfn => by
   obtain rfl : f = 3 := Option.some.inj ((show Tryz.prog.funcNamed "gauntlet/gauntletlaw31.SystemsKnown" = some 3 by kernel_rfl).symm.trans hf) |>.symm
   obtain rfl : fn = Tryz.f3 := (Option.some.inj (Tryz.func3.symm.trans hfn)).symm
   exact ⟨by kernel_rfl, fun j t ht => by
    rw [Tryz.params3] at ht
    have hm : t ∈ [] := by simpa using Array.mem_of_getElem? ht
    have hall : ([].all fun u => !Tryz.prog.wantsStandIn u) = true := by kernel_rfl
    exact (show Tryz.prog.wantsStandIn t = false by simpa using List.all_eq_true.1 hall t hm)⟩)
  (by kernel_rfl)
#print axioms proved
end Go.Proofs.YtmedkleidpbgpaaGreatDoor.systemsKnown
