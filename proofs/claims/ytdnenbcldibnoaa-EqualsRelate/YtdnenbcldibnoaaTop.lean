/- -/
import Derived.Test.YtdnenbcldibnoaaPartG
import Derived.Test.YtdnenbcldibnoaaPartE
import Derived.Test.YtdnenbcldibnoaaPartB
import Derived.OpenShut
import Derived.ChangeShapes
import Derived.Test.YtdnenbcldibnoaaPartC
import Derived.WalkKit
import Derived.ProofKit
import Derived.Carry
import Derived.Test.YtdnenbcldibnoaaRows
import Derived.Test.YtdnenbcldibnoaaChecked
set_option linter.unusedVariables false
set_option linter.unusedSimpArgs false
namespace Go.Own
set_option linter.unusedVariables false
set_option linter.unusedSimpArgs false
structure DOk (x : S_law10_D) : Prop where
  m : MOk x.M
  x2 : MOk x.X
  s0 : 0 ≤ x.Swap.e0 ∧ x.Swap.e0 ≤ 255
  s1 : 0 ≤ x.Swap.e1 ∧ x.Swap.e1 ≤ 255
  p0 : 0 ≤ x.Place.e0 ∧ x.Place.e0 ≤ 255
  p1 : 0 ≤ x.Place.e1 ∧ x.Place.e1 ≤ 255
theorem copy_eq (m : S_api_Machine) (h : m.Rows.length ≤ 100) (h2 : ∀ r ∈ m.Rows, r.length ≤ 1000) : ref04_Copy m = some m := by
  have hl : loop (fun s => ref04_Copy_L2 m s.1 s.2) (([] : List (List S_api_Edge)), 0) = some m.Rows := by
    refine Ret.eq (ret_loop (fun s => ∃ i : Nat, s.2 = (i : Int) ∧ i ≤ m.Rows.length ∧ s.1 = m.Rows.take i) (fun s => 200 - s.2.toNat) ⟨0, rfl, Nat.zero_le _, rfl⟩ (by simp) ?_)
    rintro ⟨out, i'⟩ ⟨i, hi, hil, ho⟩
    simp only at hi ho
    subst hi ho
    unfold ref04_Copy_L2
    rw [ret_bif]
    refine ⟨fun hlt => ?_, fun hge => ?_⟩
    · have hlt : i < m.Rows.length := by simpa using hlt
      have hx : m.Rows[i]? = some m.Rows[i] := List.getElem?_eq_getElem hlt
      have := h2 _ (List.getElem_mem hlt)
      have hw : w64 ((i : Int) + 1) = ((i + 1 : Nat) : Int) := by rw [w64_in (by omega) (by omega)]; rfl
      rw [idx_nat, bdT hx, gdT (by simp; omega), gdT (by simp; omega), ret_some, hw]
      exact ⟨⟨i + 1, rfl, hlt, by rw [List.take_add_one, hx]; rfl⟩, by simp only; omega⟩
    · have : i = m.Rows.length := by simp at hge; omega
      subst this
      rw [ret_some, List.take_length]
      rfl
  unfold ref04_Copy ref04_Copy_J1
  rw [bdT hl]
def RowsOk (n k o : Int) (rows : List (List S_api_Edge)) : Prop := (rows.length : Int) = n ∧ ∀ r ∈ rows, (r.length : Int) = k ∧ ∀ e ∈ r, (e.To = -1 ∧ e.Out = -1) ∨ (0 ≤ e.To ∧ e.To < n ∧ 0 ≤ e.Out ∧ e.Out < o)
theorem rows_of {m : S_api_Machine} (h : VM m) : RowsOk m.Rows.length m.Inputs m.Outputs m.Rows := ⟨rfl, fun r hr => ⟨h.row r hr, fun e he => h.edge r hr e he⟩⟩
theorem RowsOk.set {n k o : Int} {rows : List (List S_api_Edge)} (h : RowsOk n k o rows) {s i : Nat} {r : List S_api_Edge} (hr : rows[s]? = some r) {e : S_api_Edge} (he : (e.To = -1 ∧ e.Out = -1) ∨ (0 ≤ e.To ∧ e.To < n ∧ 0 ≤ e.Out ∧ e.Out < o)) : RowsOk n k o (rows.set s (r.set i e)) := by
  refine ⟨by simpa using h.1, fun r' hr' => ?_⟩
  rcases List.mem_or_eq_of_mem_set hr' with g | g
  · exact h.2 r' g
  · subst g
    have := h.2 r (List.mem_of_getElem? hr)
    refine ⟨by simpa using this.1, fun e' he' => ?_⟩
    rcases List.mem_or_eq_of_mem_set he' with g | g
    · exact this.2 e' g
    · subst g; exact he
theorem vm_rows {m : S_api_Machine} (h : VM m) {rows : List (List S_api_Edge)} (hr : RowsOk m.Rows.length m.Inputs m.Outputs rows) : VM ⟨m.Inputs, m.Outputs, rows⟩ := by
  have e : rows.length = m.Rows.length := by have := hr.1; omega
  refine ⟨h.in1, h.in16, h.out1, h.out16, by rw [e]; exact h.len1, by rw [e]; exact h.len64, fun r q => (hr.2 r q).1, fun r q x hx => ?_⟩
  have := (hr.2 r q).2 x hx
  simp only [e]
  exact this
theorem d_of {x : S_law10_D} (h : DOk x) : Ret (law10_D_Of x) fun r => VM r.1 ∧ VM r.2 ∧ r.1.Inputs = r.2.Inputs ∧ r.1.Rows.length ≤ 6 ∧ r.2.Rows.length ≤ 6 := by
  unfold law10_D_Of
  rw [ret_bind]
  refine (of_ret h.m).mono fun a ha => ?_
  obtain ⟨va, ia, i3, o3, l6⟩ := ha
  rw [ret_bif]
  refine ⟨fun _ => ?_, fun _ => ?_⟩
  · rw [ret_bind]
    refine (of_ret (x := ⟨x.X.States, x.M.Inputs, x.X.Outputs, x.X.Partial, x.X.Edges⟩) ⟨h.x2.s0, h.m.i0, h.x2.o0, h.x2.e0⟩).mono fun b hb => ?_
    rw [ret_some]
    exact ⟨va, hb.1, by rw [ia, hb.2.1], l6, hb.2.2.2.2⟩
  have hto : Ret (loop (fun s => law10_D_Of_L8 a s.1 s.2) (([] : List Int), 0)) fun t => t.length = a.Rows.length ∧ ∀ v ∈ t, 0 ≤ v ∧ v < (a.Rows.length : Int) := by
    refine ret_loop (fun s => ∃ i : Nat, s.2 = (i : Int) ∧ i ≤ a.Rows.length ∧ s.1.length = i ∧ ∀ v ∈ s.1, 0 ≤ v ∧ v < (a.Rows.length : Int)) (fun s => 200 - s.2.toNat) ⟨0, rfl, Nat.zero_le _, rfl, by simp⟩ (by simp) ?_
    rintro ⟨t, i'⟩ ⟨i, hi, hil, hl, hv⟩
    simp only at hi hl hv
    subst hi
    unfold law10_D_Of_L8
    rw [ret_bif]
    refine ⟨fun hlt => ?_, fun hge => ?_⟩
    · have hlt : i < a.Rows.length := by simpa using hlt
      have hw : w64 ((i : Int) + 1) = ((i + 1 : Nat) : Int) := by rw [w64_in (by omega) (by omega)]; rfl
      rw [gdT (by simp; omega), ret_some, hw]
      refine ⟨⟨i + 1, rfl, hlt, by simp [hl], fun v hm => ?_⟩, by simp only; omega⟩
      rcases List.mem_append.1 hm with g | g
      · exact hv v g
      · rw [List.mem_singleton.1 g]; omega
    · have : i = a.Rows.length := by simp at hge; omega
      subst this
      rw [ret_some]
      exact ⟨hl, hv⟩
  have rest : ∀ t : List Int, t.length = a.Rows.length → (∀ v ∈ t, 0 ≤ v ∧ v < (a.Rows.length : Int)) → Ret (law10_D_Of_J2 x a t) fun r => VM r.1 ∧ VM r.2 ∧ r.1.Inputs = r.2.Inputs ∧ r.1.Rows.length ≤ 6 ∧ r.2.Rows.length ≤ 6 := by
    intro t tl tv
    have hrl : ∀ r ∈ a.Rows, r.length ≤ 1000 := fun r hr => by have := va.row r hr; omega
    unfold law10_D_Of_J2
    rw [bdT (copy_eq a (by omega) hrl), ret_bind]
    have hk := va.kk_eq
    have k16 := va.kk_le
    have tAt : ∀ s : Nat, s < a.Rows.length → ∃ v, t[s]? = some v ∧ 0 ≤ v ∧ v < (a.Rows.length : Int) := fun s hs => by
      have hs' : s < t.length := by omega
      exact ⟨_, List.getElem?_eq_getElem hs', tv _ (List.getElem_mem hs')⟩
    have inner : ∀ (s : Nat) (rows : List (List S_api_Edge)), s < a.Rows.length → RowsOk a.Rows.length a.Inputs a.Outputs rows → Ret (loop (fun q => law10_D_Of_L6 a t (s : Int) q.1 q.2) (rows, 0)) fun r => RowsOk a.Rows.length a.Inputs a.Outputs r := by
      intro s rows hs hrows
      refine ret_loop (fun q => ∃ i : Nat, q.2 = (i : Int) ∧ i ≤ kk a ∧ RowsOk a.Rows.length a.Inputs a.Outputs q.1) (fun q => 200 - q.2.toNat) ⟨0, rfl, Nat.zero_le _, hrows⟩ (by simp) ?_
      rintro ⟨q, i'⟩ ⟨i, hi, hil, hq⟩
      simp only at hi hq
      subst hi
      unfold law10_D_Of_L6
      rw [ret_bif]
      refine ⟨fun hlt => ?_, fun hge => ?_⟩
      · have hlt : i < kk a := by rw [← hk] at hlt; simpa using hlt
        have hw : w64 ((i : Int) + 1) = ((i + 1 : Nat) : Int) := by rw [w64_in (by omega) (by omega)]; rfl
        have hed := va.edgeAt hs hlt
        rw [va.edge_eq hs hlt]
        have fin : ∀ z : Int, ((z = -1 ∧ (E a s i).Out = -1) ∨ (0 ≤ z ∧ z < (a.Rows.length : Int) ∧ 0 ≤ (E a s i).Out ∧ (E a s i).Out < a.Outputs)) →
            Ret (law10_D_Of_J7 t (s : Int) q (i : Int) (E a s i) z) (LRP (fun s' => (∃ j : Nat, s'.2 = (j : Int) ∧ j ≤ kk a ∧ RowsOk a.Rows.length a.Inputs a.Outputs s'.1) ∧ 200 - s'.2.toNat < 200 - (i : Int).toNat) (fun r => RowsOk a.Rows.length a.Inputs a.Outputs r)) := by
          intro z hz
          obtain ⟨v, v1, v2, v3⟩ := tAt s hs
          unfold law10_D_Of_J7
          rw [idx_nat, bdT v1, ret_bind, ret_idx]
          have hql : v.toNat < q.length := by have := hq.1; omega
          have hqr : q[v.toNat]? = some q[v.toNat] := List.getElem?_eq_getElem hql
          have hrow := (hq.2 _ (List.getElem_mem hql)).1
          have hi2 : i < q[v.toNat].length := by omega
          refine ⟨v2, _, hqr, ?_⟩
          rw [idx_nat, bdT (List.getElem?_eq_getElem hi2), ret_some, hw]
          exact ⟨⟨i + 1, rfl, hlt, hq.set hqr hz⟩, by simp only; omega⟩
        rw [ret_bif]
        refine ⟨fun hto => ?_, fun hto => ?_⟩
        · have hto : (E a s i).To ≥ 0 := of_decide_eq_true hto
          rcases hed with ⟨g1, _⟩ | ⟨g1, g2, g3, g4⟩
          · omega
          · obtain ⟨v, v1, v2, v3⟩ := tAt (E a s i).To.toNat (by omega)
            rw [ret_bind, ret_idx]
            exact ⟨g1, v, v1, fin v (.inr ⟨v2, v3, g3, g4⟩)⟩
        · have hto : ¬ (E a s i).To ≥ 0 := of_decide_eq_false hto
          rcases hed with ⟨g1, g2⟩ | ⟨g1, g2, g3, g4⟩
          · exact fin _ (.inl ⟨g1, g2⟩)
          · omega
      · rw [ret_some]
        exact hq
    have outer : Ret (loop (fun s => law10_D_Of_L4 a t s.1 s.2) (a.Rows, 0)) fun r => RowsOk a.Rows.length a.Inputs a.Outputs r := by
      refine ret_loop (fun q => ∃ i : Nat, q.2 = (i : Int) ∧ i ≤ a.Rows.length ∧ RowsOk a.Rows.length a.Inputs a.Outputs q.1) (fun q => 200 - q.2.toNat) ⟨0, rfl, Nat.zero_le _, rows_of va⟩ (by simp) ?_
      rintro ⟨q, i'⟩ ⟨i, hi, hil, hq⟩
      simp only at hi hq
      subst hi
      unfold law10_D_Of_L4 law10_D_Of_J5
      rw [ret_bif]
      refine ⟨fun hlt => ?_, fun hge => ?_⟩
      · have hlt : i < a.Rows.length := by simpa using hlt
        have hw : w64 ((i : Int) + 1) = ((i + 1 : Nat) : Int) := by rw [w64_in (by omega) (by omega)]; rfl
        rw [ret_bind]
        refine (inner i q hlt hq).mono fun r hr => ?_
        rw [ret_some, hw]
        exact ⟨⟨i + 1, rfl, hlt, hr⟩, by simp only; omega⟩
      · rw [ret_some]
        exact hq
    refine outer.mono fun rows hrows => ?_
    have vb := vm_rows va hrows
    have hrl' : ∀ r ∈ rows, r.length ≤ 1000 := fun r hr => by have := (hrows.2 r hr).1; omega
    have hrn := hrows.1
    unfold law10_D_Of_J3
    have hcp : ref04_Copy (S_api_Machine.mk a.Inputs a.Outputs rows) = some ⟨a.Inputs, a.Outputs, rows⟩ := copy_eq _ (by simp only; omega) hrl'
    rw [bdT hcp]
    have n0 : 1 ≤ a.Rows.length := va.len1
    have k0 : 1 ≤ a.Inputs := va.in1
    have w0 : w64 x.Place.e0 = x.Place.e0 := w64_in (by have := h.p0; omega) (by have := h.p0; omega)
    have w1 : w64 x.Place.e1 = x.Place.e1 := w64_in (by have := h.p1; omega) (by have := h.p1; omega)
    rw [w0, w1]
    have m0 := Int.tmod_nonneg (a.Rows.length : Int) h.p0.1
    have m1 := Int.tmod_lt_of_pos x.Place.e0 (show (0 : Int) < (a.Rows.length : Int) by omega)
    have m2 := Int.tmod_nonneg a.Inputs h.p1.1
    have m3 := Int.tmod_lt_of_pos x.Place.e1 (show (0 : Int) < a.Inputs by omega)
    generalize Int.tmod x.Place.e0 (a.Rows.length : Int) = ps at m0 m1 ⊢
    generalize Int.tmod x.Place.e1 a.Inputs = pi at m2 m3 ⊢
    have hpl : ps.toNat < rows.length := by omega
    rw [ret_gd]
    refine ⟨by omega, ?_⟩
    rw [ret_bind, ret_idx]
    refine ⟨m0, _, List.getElem?_eq_getElem hpl, ?_⟩
    have hrow := (hrows.2 _ (List.getElem_mem hpl)).1
    rw [ret_gd]
    refine ⟨by omega, ?_⟩
    rw [ret_bind, ret_idx]
    refine ⟨m2, _, List.getElem?_eq_getElem (show pi.toNat < rows[ps.toNat].length by omega), ?_⟩
    rw [bdT (ref_check _), ret_bif]
    refine ⟨fun hc => ?_, fun _ => ?_⟩
    · rw [ret_some]
      have hc := vm_of (show chk _ = 0 by simpa using hc)
      refine ⟨va, hc, rfl, l6, ?_⟩
      simp only [List.length_set]
      omega
    · rw [ret_some]
      exact ⟨va, vb, rfl, l6, by simp only; omega⟩
  rw [ret_bind]
  refine hto.mono fun t ht => ?_
  obtain ⟨tl, tv⟩ := ht
  unfold law10_D_Of_J1
  rw [ret_bif]
  refine ⟨fun hn => ?_, fun _ => rest t tl tv⟩
  have hn : (a.Rows.length : Int) > 1 := of_decide_eq_true hn
  have wn : w64 ((a.Rows.length : Int) - 1) = (a.Rows.length : Int) - 1 := w64_in (by omega) (by omega)
  have w0 : w64 x.Swap.e0 = x.Swap.e0 := w64_in (by have := h.s0; omega) (by have := h.s0; omega)
  have w1 : w64 x.Swap.e1 = x.Swap.e1 := w64_in (by have := h.s1; omega) (by have := h.s1; omega)
  rw [wn, w0, w1]
  have m0 := Int.tmod_nonneg ((a.Rows.length : Int) - 1) h.s0.1
  have m1 := Int.tmod_lt_of_pos x.Swap.e0 (show (0 : Int) < (a.Rows.length : Int) - 1 by omega)
  have m2 := Int.tmod_nonneg ((a.Rows.length : Int) - 1) h.s1.1
  have m3 := Int.tmod_lt_of_pos x.Swap.e1 (show (0 : Int) < (a.Rows.length : Int) - 1 by omega)
  generalize Int.tmod x.Swap.e0 ((a.Rows.length : Int) - 1) = p at m0 m1 ⊢
  generalize Int.tmod x.Swap.e1 ((a.Rows.length : Int) - 1) = q at m2 m3 ⊢
  have wp : w64 (1 + p) = 1 + p := w64_in (by omega) (by omega)
  have wq : w64 (1 + q) = 1 + q := w64_in (by omega) (by omega)
  rw [wp, wq, ret_gd]
  refine ⟨by omega, ?_⟩
  rw [ret_gd]
  refine ⟨by omega, ?_⟩
  have hq : (1 + q).toNat < t.length := by omega
  have hp : (1 + p).toNat < t.length := by omega
  rw [ret_bind, ret_idx]
  refine ⟨by omega, _, List.getElem?_eq_getElem hq, ?_⟩
  rw [ret_bind, ret_idx]
  refine ⟨by omega, _, List.getElem?_eq_getElem hp, ?_⟩
  rw [ret_bind, ret_idx]
  refine ⟨by omega, _, List.getElem?_eq_getElem hp, ?_⟩
  rw [ret_bind, ret_idx]
  refine ⟨by omega, _, List.getElem?_eq_getElem (by simpa using hq), ?_⟩
  refine rest _ (by simpa using tl) fun v hv => ?_
  rcases List.mem_or_eq_of_mem_set hv with g | g
  · rcases List.mem_or_eq_of_mem_set g with g | g
    · exact tv v g
    · subst g; exact tv _ (List.getElem_mem hq)
  · subst g; exact tv _ (List.getElem_mem hp)
end Go.Own

namespace Go.Own
set_option linter.unusedVariables false
set_option linter.unusedSimpArgs false
theorem countP_lt {α : Type} {p q : α → Bool} : ∀ {l : List α}, (∀ x ∈ l, p x = true → q x = true) → (∃ x ∈ l, q x = true ∧ p x = false) → l.countP p < l.countP q
  | [], _, ⟨x, hx, _⟩ => by cases hx
  | y :: l, h, ⟨x, hx, h1, h2⟩ => by
    have hm : l.countP p ≤ l.countP q := List.countP_mono_left fun z hz => h z (List.mem_cons_of_mem _ hz)
    simp only [List.countP_cons]
    rcases List.mem_cons.1 hx with rfl | hx
    · simp only [h1, h2, if_true, Bool.false_eq_true, if_false]
      omega
    · have := countP_lt (fun z hz => h z (List.mem_cons_of_mem _ hz)) ⟨x, hx, h1, h2⟩
      cases hp : p y with
      | true => simp only [h y (by simp) hp, if_true]; omega
      | false =>
        simp only [Bool.false_eq_true, if_false]
        split <;> omega
open Classical in
noncomputable def reps (N : Nat) (R : Nat → Nat → Prop) : Nat := (List.range N).countP fun s => decide (∀ t, t < s → ¬ R s t)
theorem stab {N : Nat} (hN : 0 < N) (R : Nat → Nat → Nat → Prop) (symm : ∀ k s t, s < N → t < N → R k s t → R k t s) (trans : ∀ k s t u, s < N → t < N → u < N → R k s t → R k t u → R k s u)
    (refl : ∀ k s, s < N → R k s s) (mono : ∀ k s t, s < N → t < N → R (k + 1) s t → R k s t) (stat : ∀ k, (∀ s t, s < N → t < N → R k s t → R (k + 1) s t) → ∀ s t, s < N → t < N → R (k + 1) s t → R (k + 2) s t) :
    ∀ s t, s < N → t < N → R (N - 1) s t → ∀ j, R j s t := by
  classical
  have step : ∀ k, (¬ ∀ s t, s < N → t < N → R k s t → R (k + 1) s t) → reps N (R k) < reps N (R (k + 1)) := by
    intro k hk
    simp only [Classical.not_forall] at hk
    obtain ⟨s, t, hs, ht, h1, h2⟩ := hk
    unfold reps
    refine countP_lt (fun x hx => ?_) ?_
    · have hx := List.mem_range.1 hx
      simp only [decide_eq_true_eq]
      exact fun h t ht q => h t ht (mono k x t hx (by omega) q)
    ·
      have hmin : ∃ z, z < N ∧ R k z s ∧ ∀ y, y < z → ¬ R k y s := by
        have key : ∀ n, ∀ z, z ≤ n → z < N → R k z s → ∃ z, z < N ∧ R k z s ∧ ∀ y, y < z → ¬ R k y s := by
          intro n
          induction n with
          | zero => intro z hz hzN hr; exact ⟨z, hzN, hr, fun y hy => by omega⟩
          | succ n ih =>
            intro z hz hzN hr
            by_cases q : ∃ y, y < z ∧ R k y s
            · obtain ⟨y, y1, y2⟩ := q
              exact ih y (by omega) (by omega) y2
            · exact ⟨z, hzN, hr, fun y hy g => q ⟨y, hy, g⟩⟩
        exact key s s (Nat.le_refl _) hs (refl k s hs)
      obtain ⟨z, hz, hzs, hzm⟩ := hmin
      have hzt : R k z t := trans k z s t hz hs ht hzs h1
      obtain ⟨u, hu, hzu, hne⟩ : ∃ u, u < N ∧ R k z u ∧ ¬ R (k + 1) z u := by
        by_cases q : R (k + 1) z s
        · by_cases g : R (k + 1) z t
          · exact (h2 (trans (k + 1) s z t hs hz ht (symm _ _ _ hz hs q) g)).elim
          · exact ⟨t, ht, hzt, g⟩
        · exact ⟨s, hs, hzs, q⟩
      have hmin : ∃ y, y < N ∧ R (k + 1) y u ∧ ∀ x, x < y → ¬ R (k + 1) x u := by
        have key : ∀ n, ∀ z, z ≤ n → z < N → R (k + 1) z u → ∃ z, z < N ∧ R (k + 1) z u ∧ ∀ y, y < z → ¬ R (k + 1) y u := by
          intro n
          induction n with
          | zero => intro z hz hzN hr; exact ⟨z, hzN, hr, fun y hy => by omega⟩
          | succ n ih =>
            intro z hz hzN hr
            by_cases q : ∃ y, y < z ∧ R (k + 1) y u
            · obtain ⟨y, y1, y2⟩ := q
              exact ih y (by omega) (by omega) y2
            · exact ⟨z, hzN, hr, fun y hy g => q ⟨y, hy, g⟩⟩
        exact key u u (Nat.le_refl _) hu (refl _ u hu)
      obtain ⟨y, hy, hyu, hym⟩ := hmin
      have hyk : R k y u := mono k y u hy hu hyu
      have hyz : R k y z := trans k y u z hy hu hz hyk (symm _ _ _ hz hu hzu)
      have hzy : z < y := by
        rcases Nat.lt_trichotomy z y with g | g | g
        · exact g
        · subst g; exact (hne hyu).elim
        · exact (hzm y g (trans k y z s hy hz hs hyz hzs)).elim
      refine ⟨y, List.mem_range.2 hy, ?_, ?_⟩
      · simp only [decide_eq_true_eq]
        intro x hx q
        exact hym x hx (trans (k + 1) x y u (by omega) hy hu (symm _ _ _ hy (by omega) q) hyu)
      · simp only [decide_eq_false_iff_not]
        intro q
        exact q z hzy hyz
  have le : ∀ k, reps N (R k) ≤ N := by
    intro k
    unfold reps
    refine Nat.le_trans (List.countP_le_length) ?_
    simp
  have one : ∀ k, 1 ≤ reps N (R k) := by
    intro k
    unfold reps
    refine List.countP_pos_iff.2 ⟨0, List.mem_range.2 hN, ?_⟩
    simp
  have rest : ∃ k, k < N ∧ ∀ s t, s < N → t < N → R k s t → R (k + 1) s t := by
    refine Classical.byContradiction fun hno => ?_
    have : ∀ k, k ≤ N → k + 1 ≤ reps N (R k) := by
      intro k
      induction k with
      | zero => intro _; exact one 0
      | succ k ih =>
        intro hk
        have := step k fun h => hno ⟨k, by omega, h⟩
        have := ih (by omega)
        omega
    have := this N (Nat.le_refl _)
    have := le N
    omega
  obtain ⟨k, hk, hst⟩ := rest
  have up : ∀ d, ∀ s t, s < N → t < N → R (k + d) s t → R (k + d + 1) s t := by
    intro d
    induction d with
    | zero => exact hst
    | succ d ih => exact stat (k + d) ih
  have down : ∀ d j s t, s < N → t < N → R (j + d) s t → R j s t := by
    intro d
    induction d with
    | zero => intro j s t _ _ h; exact h
    | succ d ih => intro j s t hs ht h; exact ih j s t hs ht (mono _ s t hs ht h)
  intro s t hs ht h j
  have hk' : R k s t := down (N - 1 - k) k s t hs ht (by rw [show k + (N - 1 - k) = N - 1 by omega]; exact h)
  have far : ∀ d, R (k + d) s t := by
    intro d
    induction d with
    | zero => exact hk'
    | succ d ih => exact up d s t hs ht ih
  exact down k j s t hs ht (by rw [Nat.add_comm]; exact far j)
section
variable {S S' : Type} {k : Nat} {bad : S → Nat → Bool} {nx : S → Nat → Option S} {bad' : S' → Nat → Bool} {nx' : S' → Nat → Option S'} (φ : S → S') (I : S → Prop)
  (hI : ∀ p i q, I p → i < k → nx p i = some q → I q) (hb : ∀ p i, I p → i < k → bad' (φ p) i = bad p i) (hn : ∀ p i, I p → i < k → nx' (φ p) i = (nx p i).map φ)
include hI hb hn
theorem mk_along : ∀ (n : Nat) (p : S), I p → (Mk k bad' nx' n (φ p) ↔ Mk k bad nx n p)
  | 0, _, _ => Iff.rfl
  | n + 1, p, hp => by
    simp only [Mk]
    rw [mk_along n p hp]
    constructor
    · rintro (h | ⟨i, hi, h | ⟨q, hq, h⟩⟩)
      · exact .inl h
      · exact .inr ⟨i, hi, .inl (by rw [← hb p i hp hi]; exact h)⟩
      · rw [hn p i hp hi] at hq
        obtain ⟨r, hr, rfl⟩ := Option.map_eq_some_iff.1 hq
        exact .inr ⟨i, hi, .inr ⟨r, hr, (mk_along n r (hI p i r hp hi hr)).1 h⟩⟩
    · rintro (h | ⟨i, hi, h | ⟨q, hq, h⟩⟩)
      · exact .inl h
      · exact .inr ⟨i, hi, .inl (by rw [hb p i hp hi]; exact h)⟩
      · exact .inr ⟨i, hi, .inr ⟨φ q, by rw [hn p i hp hi, hq]; rfl, (mk_along n q (hI p i q hp hi hq)).2 h⟩⟩
theorem greedy_along : ∀ (n : Nat) (p : S) (w : List Nat), I p → Greedy k bad' nx' n (φ p) w → Greedy k bad nx n p w
  | 0, _, _, _, h => h
  | n + 1, p, w, hp, ⟨i, u, e, hi, h1, h2, h3, h4⟩ => by
    refine ⟨i, u, e, hi, ?_, ?_, ?_, h4⟩
    · rcases h1 with h | ⟨q, hq, h⟩
      · exact .inl (by rw [← hb p i hp hi]; exact h)
      · rw [hn p i hp hi] at hq
        obtain ⟨r, hr, rfl⟩ := Option.map_eq_some_iff.1 hq
        exact .inr ⟨r, hr, (mk_along φ I hI hb hn n r (hI p i r hp hi hr)).1 h⟩
    · intro j hj h
      apply h2 j hj
      rcases h with h | ⟨q, hq, h⟩
      · exact .inl (by rw [hb p j hp (by omega)]; exact h)
      · exact .inr ⟨φ q, by rw [hn p j hp (by omega), hq]; rfl, (mk_along φ I hI hb hn n q (hI p j q hp (by omega) hq)).2 h⟩
    · intro hn0
      obtain ⟨q, hq, h⟩ := h3 hn0
      rw [hn p i hp hi] at hq
      obtain ⟨r, hr, rfl⟩ := Option.map_eq_some_iff.1 hq
      exact ⟨r, hr, greedy_along n r u (hI p i r hp hi hr) h⟩
end
end Go.Own

namespace Go.Own
set_option linter.unusedVariables false
set_option linter.unusedSimpArgs false
structure WM (m : S_api_Machine) : Prop where
  in1 : 1 ≤ m.Inputs
  in16 : m.Inputs ≤ 16
  len1 : 1 ≤ m.Rows.length
  len : m.Rows.length ≤ 128
  row : ∀ r ∈ m.Rows, (r.length : Int) = m.Inputs
  edge : ∀ r ∈ m.Rows, ∀ x ∈ r, (x.To = -1 ∧ x.Out = -1) ∨ (0 ≤ x.To ∧ x.To < (m.Rows.length : Int) ∧ 0 ≤ x.Out)
section
variable {m : S_api_Machine} (h : WM m)
include h
theorem WM.kk_eq : ((kk m : Nat) : Int) = m.Inputs := by have := h.in1; unfold kk; omega
theorem WM.kk_le : kk m ≤ 16 := by have := h.in16; unfold kk; omega
theorem WM.rowAt {s : Nat} (hs : s < m.Rows.length) : ∃ r, m.Rows[s]? = some r ∧ r.length = kk m ∧ ∀ i, i < kk m → r[i]? = some (E m s i) := by
  have hr := List.getElem?_eq_getElem hs
  have hl := h.row _ (List.getElem_mem hs)
  have hl' : m.Rows[s].length = kk m := by unfold kk; omega
  refine ⟨_, hr, hl', fun i hi => ?_⟩
  have hi' : i < m.Rows[s].length := by omega
  unfold E
  rw [hr]
  simp only [Option.getD_some]
  rw [List.getElem?_eq_getElem hi']
  rfl
theorem WM.edgeAt {s i : Nat} (hs : s < m.Rows.length) (hi : i < kk m) : ((E m s i).To = -1 ∧ (E m s i).Out = -1) ∨ (0 ≤ (E m s i).To ∧ (E m s i).To < (m.Rows.length : Int) ∧ 0 ≤ (E m s i).Out) := by
  obtain ⟨r, h1, _, h2⟩ := h.rowAt hs
  exact h.edge r (List.mem_of_getElem? h1) _ (List.mem_of_getElem? (h2 i hi))
theorem WM.edge_eq {s i : Nat} (hs : s < m.Rows.length) (hi : i < kk m) {β : Type} {f : S_api_Edge → Option β} :
    (Option.bind (idx m.Rows (s : Int)) fun r => Option.bind (idx r (i : Int)) f) = f (E m s i) := by
  obtain ⟨r, h1, _, h2⟩ := h.rowAt hs
  rw [idx_nat, h1, Option.bind_some, idx_nat, h2 i hi, Option.bind_some]
theorem WM.nx_in {p : Nat × Nat} {i : Nat} {q : Nat × Nat} (h1 : p.1 < m.Rows.length) (h2 : p.2 < m.Rows.length) (hi : i < kk m) (hq : nxP m m p i = some q) : q.1 < m.Rows.length ∧ q.2 < m.Rows.length := by
  unfold nxP at hq
  split at hq
  · rename_i hc
    cases hq
    have a := h.edgeAt h1 hi
    have b := h.edgeAt h2 hi
    simp only
    omega
  · cases hq
end
def mkb (k : Nat) (bad : Nat × Nat → Nat → Bool) (nx : Nat × Nat → Nat → Option (Nat × Nat)) : Nat → Nat × Nat → Bool
  | 0, _ => false
  | n + 1, p => mkb k bad nx n p || (List.range k).any fun i => bad p i || (match nx p i with | some q => mkb k bad nx n q | none => false)
theorem mkb_iff (k : Nat) (bad : Nat × Nat → Nat → Bool) (nx : Nat × Nat → Nat → Option (Nat × Nat)) : ∀ (n : Nat) (p : Nat × Nat), mkb k bad nx n p = true ↔ Mk k bad nx n p
  | 0, p => by simp [mkb, Mk]
  | n + 1, p => by
    simp only [mkb, Mk, Bool.or_eq_true, List.any_eq_true, List.mem_range, mkb_iff k bad nx n p]
    constructor
    · rintro (h | ⟨i, hi, h | h⟩)
      · exact .inl h
      · exact .inr ⟨i, hi, .inl h⟩
      · cases hq : nx p i with
        | none => rw [hq] at h; cases h
        | some q => rw [hq] at h; exact .inr ⟨i, hi, .inr ⟨q, hq, (mkb_iff k bad nx n q).1 h⟩⟩
    · rintro (h | ⟨i, hi, h | ⟨q, hq, h⟩⟩)
      · exact .inl h
      · exact .inr ⟨i, hi, .inl h⟩
      · exact .inr ⟨i, hi, .inr (by rw [hq]; exact (mkb_iff k bad nx n q).2 h)⟩
def tab (N : Nat) (f : Nat → Nat → Bool) : List (List Bool) := (List.range N).map fun s => (List.range N).map fun t => f s t
theorem tab_at {N s t : Nat} (f : Nat → Nat → Bool) (hs : s < N) (ht : t < N) {β : Type} {g : Bool → Option β} : (Option.bind (idx (tab N f) (s : Int)) fun r => Option.bind (idx r (t : Int)) g) = g (f s t) := by
  have e1 : (tab N f)[s]? = some ((List.range N).map fun t => f s t) := by simp [tab, hs]
  have e2 : ((List.range N).map fun t => f s t)[t]? = some (f s t) := by simp [ht]
  rw [idx_nat, e1, Option.bind_some, idx_nat, e2, Option.bind_some]
theorem set_range {α : Type} (N t : Nat) (g : Nat → α) (v : α) : ((List.range N).map g).set t v = (List.range N).map fun x => if x = t then v else g x := by
  refine List.ext_getElem (by simp) fun n h1 h2 => ?_
  simp only [List.getElem_set, List.getElem_map, List.getElem_range]
  by_cases e : t = n
  · rw [if_pos e, if_pos e.symm]
  · rw [if_neg e, if_neg (Ne.symm e)]
def telP (m : S_api_Machine) (f : Nat → Nat → Bool) (p : Nat × Nat) (i : Nat) : Bool := badP m m p i || (match nxP m m p i with | some q => f q.1 q.2 | none => false)
theorem apart_eq {m : S_api_Machine} (h : WM m) (f : Nat → Nat → Bool) {s t : Nat} (hs : s < m.Rows.length) (ht : t < m.Rows.length) :
    ref07_apart m (tab m.Rows.length f) (s : Int) (t : Int) = some (if (List.range (kk m)).any (telP m f (s, t)) = true then 1 else 0) := by
  have hk := h.kk_eq
  have k16 := h.kk_le
  have hl : loop (fun q => ref07_apart_L2 m (tab m.Rows.length f) (s : Int) (t : Int) q) 0 = some (oS (firstS (fun _ i => if telP m f (s, t) i = true then some (1 : Int) else none) (List.range (kk m)) 0)) := by
    refine loop_list (List.range (kk m)) (by simp; omega) _ ?_ ?_
    · intro i x hx
      have hi : i < kk m := by have := (List.getElem?_eq_some_iff.1 hx).1; simpa using this
      have : x = i := by rw [List.getElem?_range hi] at hx; exact (Option.some.inj hx).symm
      subst this
      unfold ref07_apart_L2 ref07_apart_J3
      have hd : decide ((x : Int) < m.Inputs) = true := by rw [← hk]; simpa using hi
      rw [hd, cond_true, h.edge_eq hs hi, h.edge_eq ht hi]
      have e1 := h.edgeAt hs hi
      have e2 := h.edgeAt ht hi
      by_cases hbad : (E m s x).Out = (E m t x).Out
      · have n1 : ((E m s x).Out != (E m t x).Out) = false := by simpa using hbad
        rw [n1, cond_false]
        by_cases t1 : (E m s x).To ≥ 0
        · by_cases t2 : (E m t x).To ≥ 0
          · have hnx : nxP m m (s, t) x = some ((E m s x).To.toNat, (E m t x).To.toNat) := by unfold nxP; rw [if_pos ⟨t1, t2⟩]
            have hin := h.nx_in hs ht hi hnx
            have c1 : (E m s x).To = (((E m s x).To.toNat : Nat) : Int) := by omega
            have c2 : (E m t x).To = (((E m t x).To.toNat : Nat) : Int) := by omega
            have ht1 : telP m f (s, t) x = f (E m s x).To.toNat (E m t x).To.toNat := by
              unfold telP badP
              rw [hnx]
              simp only [n1, Bool.false_or]
            rw [decide_eq_true t1, decide_eq_true t2]
            simp only [cond_true]
            have := tab_at f hin.1 hin.2 (g := fun v => bif v then some (LR.done (Sum.inr (1 : Int)) : LR Int (Unit ⊕ Int)) else some (LR.next (w64 ((x : Int) + 1))))
            rw [← c1, ← c2] at this
            rw [this, ht1]
            cases f (E m s x).To.toNat (E m t x).To.toNat <;> rfl
          · have ht1 : telP m f (s, t) x = false := by
              unfold telP badP nxP
              rw [if_neg (by simp only; omega)]
              simp only [n1, Bool.false_or]
            rw [decide_eq_true t1, decide_eq_false t2, ht1]
            rfl
        · have ht1 : telP m f (s, t) x = false := by
            unfold telP badP nxP
            rw [if_neg (by simp only; omega)]
            simp only [n1, Bool.false_or]
          rw [decide_eq_false t1, ht1]
          rfl
      · have n1 : ((E m s x).Out != (E m t x).Out) = true := by simpa using hbad
        have ht1 : telP m f (s, t) x = true := by
          unfold telP badP
          simp only [n1, Bool.true_or]
        rw [n1, ht1]
        rfl
    · unfold ref07_apart_L2
      rw [List.length_range, hk]
      simp
  unfold ref07_apart
  rw [bdT hl]
  cases hf : firstS (fun (_ : Nat) i => if telP m f (s, t) i = true then some (1 : Int) else none) (List.range (kk m)) 0 with
  | some q =>
    obtain ⟨i, x, h1, h2⟩ := firstS_some hf
    split at h2
    · rename_i hx
      cases h2
      have : (List.range (kk m)).any (telP m f (s, t)) = true := List.any_eq_true.2 ⟨x, List.mem_of_getElem? h1, hx⟩
      rw [if_pos this]
      rfl
    · cases h2
  | none =>
    have : ¬ (List.range (kk m)).any (telP m f (s, t)) = true := by
      rw [List.any_eq_true]
      rintro ⟨x, hx, hx2⟩
      obtain ⟨i, hi⟩ := List.getElem?_of_mem hx
      have := firstS_isNone hf i x hi
      rw [if_pos hx2] at this
      cases this
    rw [if_neg this]
    rfl
theorem rep_row (N : Nat) : List.replicate ((N : Nat) : Int).toNat false = (List.range N).map fun _ => false := by
  refine List.ext_getElem (by simp) fun n h1 h2 => ?_
  simp
def nextF (m : S_api_Machine) (f : Nat → Nat → Bool) (s t : Nat) : Bool := f s t || (List.range (kk m)).any (telP m f (s, t))
theorem round_eq {m : S_api_Machine} (h : WM m) (f : Nat → Nat → Bool) : loop (fun q => ref07_Marked_L6 m (tab m.Rows.length f) q.1 q.2) (([] : List (List Bool)), 0) = some (tab m.Rows.length (nextF m f)) := by
  have l128 := h.len
  have row : ∀ (s : Nat), s < m.Rows.length → loop (fun q => ref07_Marked_L8 m (tab m.Rows.length f) (s : Int) q.1 q.2) (((List.range s).map fun s => (List.range m.Rows.length).map fun t => nextF m f s t) ++ [(List.range m.Rows.length).map fun _ => false], 0) = some ((List.range (s + 1)).map fun s => (List.range m.Rows.length).map fun t => nextF m f s t) := by
    intro s hs
    have hst := loop_seq (step := fun q => ref07_Marked_L8 m (tab m.Rows.length f) (s : Int) q.1 q.2) (fun t : Nat => (((List.range s).map fun s => (List.range m.Rows.length).map fun t => nextF m f s t) ++ [(List.range m.Rows.length).map fun t' => if t' < t then nextF m f s t' else false], (t : Int))) m.Rows.length (t := (List.range (s + 1)).map fun s => (List.range m.Rows.length).map fun t => nextF m f s t) (by omega) ?_ ?_
    · simpa using hst
    · intro t ht
      unfold ref07_Marked_L8
      have hd : decide ((t : Int) < ((m.Rows.length : Nat) : Int)) = true := by simpa using ht
      have hw : w64 ((t : Int) + 1) = ((t + 1 : Nat) : Int) := by rw [w64_in (by omega) (by omega)]; rfl
      simp only [hd, cond_true]
      have e1 : (((List.range s).map fun s => (List.range m.Rows.length).map fun t => nextF m f s t) ++ [(List.range m.Rows.length).map fun t' => if t' < t then nextF m f s t' else false])[s]? = some ((List.range m.Rows.length).map fun t' => if t' < t then nextF m f s t' else false) := by
        rw [List.getElem?_append_right (by simp)]
        simp
      have e2 : ∀ x, ((List.range m.Rows.length).map fun t' => if t' < t then nextF m f s t' else false)[t]? = some x ↔ x = false := by
        intro x
        simp [ht, eq_comm]
      have e2' := (e2 false).2 rfl
      have fin : ∀ v : Bool, v = nextF m f s t → (((List.range s).map fun s => (List.range m.Rows.length).map fun t => nextF m f s t) ++ [(List.range m.Rows.length).map fun t' => if t' < t then nextF m f s t' else false]).set s (((List.range m.Rows.length).map fun t' => if t' < t then nextF m f s t' else false).set t v) = ((List.range s).map fun s => (List.range m.Rows.length).map fun t => nextF m f s t) ++ [(List.range m.Rows.length).map fun t' => if t' < t + 1 then nextF m f s t' else false] := by
        intro v hv
        rw [List.set_append, if_neg (by simp), set_range]
        simp only [List.length_map, List.length_range, Nat.sub_self, List.set_cons_zero]
        congr 3
        funext x
        by_cases e : x = t
        · subst e; rw [if_pos rfl, if_pos (by omega)]; exact hv
        · rw [if_neg e]
          by_cases g : x < t
          · rw [if_pos g, if_pos (by omega)]
          · rw [if_neg g, if_neg (by omega)]
      rw [idx_nat, bdT e1, tab_at f hs ht]
      cases hf : f s t with
      | true =>
        simp only [cond_true]
        rw [idx_nat, bdT e2', hw, Int.toNat_natCast, Int.toNat_natCast, fin true (by simp [nextF, hf])]
      | false =>
        simp only [cond_false]
        rw [bdT (apart_eq h f hs ht), idx_nat, bdT e2', hw, Int.toNat_natCast, Int.toNat_natCast, fin _ ?_]
        unfold nextF
        rw [hf, Bool.false_or]
        cases (List.range (kk m)).any (telP m f (s, t)) <;> rfl
    · unfold ref07_Marked_L8
      simp only [Int.lt_irrefl, decide_false, cond_false]
      congr 3
      rw [List.range_succ, List.map_append]
      congr 1
      simp only [List.map_cons, List.map_nil]
      congr 1
      refine List.map_congr_left fun x hx => ?_
      rw [if_pos (List.mem_range.1 hx)]
  have := loop_seq (step := fun q => ref07_Marked_L6 m (tab m.Rows.length f) q.1 q.2) (fun s : Nat => ((List.range s).map fun s => (List.range m.Rows.length).map fun t => nextF m f s t, (s : Int))) m.Rows.length (t := tab m.Rows.length (nextF m f)) (by omega) ?_ ?_
  · exact this
  · intro s hs
    unfold ref07_Marked_L6 ref07_Marked_J7
    have hd : decide ((s : Int) < ((m.Rows.length : Nat) : Int)) = true := by simpa using hs
    have hw : w64 ((s : Int) + 1) = ((s + 1 : Nat) : Int) := by rw [w64_in (by omega) (by omega)]; rfl
    simp only [hd, cond_true]
    rw [gdT (by omega), gdT (by simp; omega), rep_row, bdT (row s hs), hw]
  · unfold ref07_Marked_L6
    simp only [Int.lt_irrefl, decide_false, cond_false]
    rfl
def mrk (m : S_api_Machine) (n s t : Nat) : Bool := mkb (kk m) (badP m m) (nxP m m) n (s, t)
theorem next_mrk (m : S_api_Machine) (n : Nat) : nextF m (mrk m n) = mrk m (n + 1) := by
  funext s t
  unfold nextF mrk
  simp only [mkb]
  congr 1
theorem marked_eq {m : S_api_Machine} (h : WM m) (n : Nat) (hn : n ≤ 1000000) : ref07_Marked m (n : Int) = some (tab m.Rows.length (mrk m n)) := by
  have l128 := h.len
  have l9 : loop (fun q => ref07_Marked_L9 m q.1 q.2) (([] : List (List Bool)), 0) = some (tab m.Rows.length (mrk m 0)) := by
    have := loop_seq (step := fun q => ref07_Marked_L9 m q.1 q.2) (fun s : Nat => ((List.range s).map fun _ => (List.range m.Rows.length).map fun _ => false, (s : Int))) m.Rows.length (t := tab m.Rows.length (mrk m 0)) (by omega) ?_ ?_
    · exact this
    · intro s hs
      unfold ref07_Marked_L9
      have hd : decide ((s : Int) < ((m.Rows.length : Nat) : Int)) = true := by simpa using hs
      have hw : w64 ((s : Int) + 1) = ((s + 1 : Nat) : Int) := by rw [w64_in (by omega) (by omega)]; rfl
      simp only [hd, cond_true]
      rw [gdT (by omega), gdT (by simp; omega), rep_row, hw, List.range_succ, List.map_append]
      rfl
    · unfold ref07_Marked_L9
      simp only [Int.lt_irrefl, decide_false, cond_false]
      rfl
  have l3 := loop_seq (step := fun q => ref07_Marked_L3 m (n : Int) q.1 q.2) (fun r : Nat => (tab m.Rows.length (mrk m r), (r : Int))) n (t := tab m.Rows.length (mrk m n)) (by omega) ?_ ?_
  · unfold ref07_Marked ref07_Marked_J1 ref07_Marked_J2
    rw [bdT l9]
    have l3' : loop (fun q => ref07_Marked_L3 m (n : Int) q.1 q.2) (tab m.Rows.length (mrk m 0), 0) = some (tab m.Rows.length (mrk m n)) := l3
    rw [bdT l3']
  · intro r hr
    unfold ref07_Marked_L3 ref07_Marked_J5 ref07_Marked_J4
    have hd : decide ((r : Int) < (n : Int)) = true := by simpa using hr
    have hw : w64 ((r : Int) + 1) = ((r + 1 : Nat) : Int) := by rw [w64_in (by omega) (by omega)]; rfl
    simp only [hd, cond_true]
    rw [bdT (round_eq h (mrk m r)), next_mrk, hw]
  · unfold ref07_Marked_L3
    simp only [Int.lt_irrefl, decide_false, cond_false]
theorem mk_bound {m : S_api_Machine} (h : WM m) {s t : Nat} (hs : s < m.Rows.length) (ht : t < m.Rows.length) {j : Nat} (hj : Mk (kk m) (badP m m) (nxP m m) j (s, t)) : Mk (kk m) (badP m m) (nxP m m) (m.Rows.length - 1) (s, t) := by
  refine Classical.byContradiction fun hno => ?_
  have same : ∀ {p : Nat × Nat} {i : Nat}, p.1 < m.Rows.length → p.2 < m.Rows.length → i < kk m → badP m m p i = false → ((E m p.1 i).To ≥ 0 ↔ (E m p.2 i).To ≥ 0) := by
    intro p i h1 h2 hi hb
    have e : (E m p.1 i).Out = (E m p.2 i).Out := by simpa [badP] using hb
    have a := h.edgeAt h1 hi
    have b := h.edgeAt h2 hi
    omega
  have symm : ∀ k s t, Mk (kk m) (badP m m) (nxP m m) k (s, t) → Mk (kk m) (badP m m) (nxP m m) k (t, s) := by
    intro k
    induction k with
    | zero => intro s t h; exact h
    | succ k ih =>
      rintro s t (h | ⟨i, hi, h | ⟨q, hq, h⟩⟩)
      · exact .inl (ih _ _ h)
      · exact .inr ⟨i, hi, .inl (by
          unfold badP at h ⊢
          simp only [bne_iff_ne, ne_eq] at h ⊢
          exact fun e => h e.symm)⟩
      · refine .inr ⟨i, hi, .inr ⟨(q.2, q.1), ?_, ih _ _ h⟩⟩
        unfold nxP at hq ⊢
        split at hq
        · rename_i hc
          cases hq
          rw [if_pos ⟨hc.2, hc.1⟩]
        · cases hq
  have trans : ∀ k s t u, s < m.Rows.length → t < m.Rows.length → u < m.Rows.length → Mk (kk m) (badP m m) (nxP m m) k (s, u) → Mk (kk m) (badP m m) (nxP m m) k (s, t) ∨ Mk (kk m) (badP m m) (nxP m m) k (t, u) := by
    intro k
    induction k with
    | zero => intro s t u _ _ _ h; exact h.elim
    | succ k ih =>
      rintro s t u hs ht hu (g | ⟨i, hi, g | ⟨q, hq, g⟩⟩)
      · rcases ih s t u hs ht hu g with g | g
        · exact .inl (.inl g)
        · exact .inr (.inl g)
      · cases b1 : badP m m (s, t) i with
        | true => exact .inl (.inr ⟨i, hi, .inl b1⟩)
        | false =>
          refine .inr (.inr ⟨i, hi, .inl ?_⟩)
          unfold badP at b1 g ⊢
          simp only [bne_iff_ne, ne_eq, bne_eq_false_iff_eq] at b1 g ⊢
          rw [← b1]
          exact g
      · cases b1 : badP m m (s, t) i with
        | true => exact .inl (.inr ⟨i, hi, .inl b1⟩)
        | false =>
          cases b2 : badP m m (t, u) i with
          | true => exact .inr (.inr ⟨i, hi, .inl b2⟩)
          | false =>
            have c1 := same (p := (s, t)) hs ht hi b1
            have c2 := same (p := (t, u)) ht hu hi b2
            simp only at c1 c2
            unfold nxP at hq
            split at hq
            · rename_i hc
              cases hq
              simp only at hc g
              have e1 := h.edgeAt hs hi
              have e2 := h.edgeAt ht hi
              have e3 := h.edgeAt hu hi
              rcases ih (E m s i).To.toNat (E m t i).To.toNat (E m u i).To.toNat (by omega) (by omega) (by omega) g with g | g
              · exact .inl (.inr ⟨i, hi, .inr ⟨_, by unfold nxP; rw [if_pos ⟨hc.1, by simp only; omega⟩], g⟩⟩)
              · exact .inr (.inr ⟨i, hi, .inr ⟨_, by unfold nxP; rw [if_pos ⟨by simp only; omega, hc.2⟩], g⟩⟩)
            · cases hq
  have refl : ∀ k s, ¬ Mk (kk m) (badP m m) (nxP m m) k (s, s) := by
    intro k
    induction k with
    | zero => intro s h; exact h
    | succ k ih =>
      rintro s (g | ⟨i, hi, g | ⟨q, hq, g⟩⟩)
      · exact ih s g
      · simp [badP] at g
      · unfold nxP at hq
        split at hq
        · cases hq; exact ih _ g
        · cases hq
  exact stab (N := m.Rows.length) h.len1 (fun k s t => ¬ Mk (kk m) (badP m m) (nxP m m) k (s, t)) (fun k s t _ _ g q => g (symm k t s q)) (fun k s t u hs ht hu g1 g2 q => by
      rcases trans k s t u hs ht hu q with g | g
      · exact g1 g
      · exact g2 g) (fun k s _ => refl k s) (fun k s t _ _ g q => g (.inl q)) (fun k hk s t hs ht g q => by
      rcases q with q | ⟨i, hi, q | ⟨r, hr, q⟩⟩
      · exact g q
      · exact g (.inr ⟨i, hi, .inl q⟩)
      · have hin := h.nx_in (p := (s, t)) hs ht hi hr
        have : Mk (kk m) (badP m m) (nxP m m) k r := Classical.byContradiction fun c => hk r.1 r.2 hin.1 hin.2 c q
        exact g (.inr ⟨i, hi, .inr ⟨r, hr, this⟩⟩)) s t hs ht hno j hj
end Go.Own

namespace Go.Own
set_option linter.unusedVariables false
set_option linter.unusedSimpArgs false
def shE (n : Nat) (x : S_api_Edge) : S_api_Edge := if x.To ≥ 0 then ⟨x.To + (n : Int), x.Out⟩ else x
def bes (a b : S_api_Machine) : S_api_Machine := ⟨a.Inputs, mx a.Outputs b.Outputs, a.Rows ++ b.Rows.map (List.map (shE a.Rows.length))⟩
section
variable {a b : S_api_Machine} (va : VM a) (vb : VM b) (hab : a.Inputs = b.Inputs)
theorem bes_len : (bes a b).Rows.length = a.Rows.length + b.Rows.length := by simp [bes]
include va vb hab
theorem bes_wm : WM (bes a b) := by
  have := va.len64; have := vb.len64; have := va.len1
  refine ⟨va.in1, va.in16, by rw [bes_len]; omega, by rw [bes_len]; omega, fun r hr => ?_, fun r hr x hx => ?_⟩
  · simp only [bes] at hr ⊢
    rcases List.mem_append.1 hr with g | g
    · exact va.row r g
    · obtain ⟨r', h1, rfl⟩ := List.mem_map.1 g
      rw [List.length_map, hab]
      exact vb.row r' h1
  · rw [bes_len]
    simp only [bes] at hr
    rcases List.mem_append.1 hr with g | g
    · rcases va.edge r g x hx with q | ⟨q1, q2, q3, _⟩
      · exact .inl q
      · exact .inr ⟨q1, by omega, q3⟩
    · obtain ⟨r', h1, rfl⟩ := List.mem_map.1 g
      obtain ⟨x', h2, rfl⟩ := List.mem_map.1 hx
      unfold shE
      rcases vb.edge r' h1 x' h2 with q | ⟨q1, q2, q3, _⟩
      · rw [if_neg (by omega)]
        exact .inl q
      · rw [if_pos q1]
        exact .inr ⟨by simp only; omega, by simp only; omega, q3⟩
end
theorem bes_left {a b : S_api_Machine} {s i : Nat} (hs : s < a.Rows.length) : E (bes a b) s i = E a s i := by
  unfold E bes
  simp only
  rw [List.getElem?_append_left hs]
theorem bes_right {a b : S_api_Machine} (vb : VM b) {s i : Nat} (hs : s < b.Rows.length) (hi : i < kk b) : E (bes a b) (a.Rows.length + s) i = shE a.Rows.length (E b s i) := by
  obtain ⟨r, h1, h2, h3⟩ := vb.rowAt hs
  unfold E bes
  simp only
  rw [List.getElem?_append_right (by omega), Nat.add_sub_cancel_left, List.getElem?_map, h1]
  simp only [Option.map_some, Option.getD_some]
  rw [List.getElem?_map]
  have h3 := h3 i hi
  rw [h3]
  rfl
theorem shE_out (n : Nat) (x : S_api_Edge) : (shE n x).Out = x.Out := by unfold shE; split <;> rfl
theorem beside_eq {a b : S_api_Machine} (va : VM a) (vb : VM b) : ref10_Beside a b = some (bes a b) := by
  have la := va.len64; have lb := vb.len64; have k16 := vb.kk_le; have hk := vb.kk_eq
  have l8 : loop (fun s => ref10_Beside_L8 a s.1 s.2) (([] : List (List S_api_Edge)), 0) = some a.Rows := by
    have := loop_seq (step := fun s => ref10_Beside_L8 a s.1 s.2) (fun i : Nat => (a.Rows.take i, (i : Int))) a.Rows.length (t := a.Rows) (by omega) ?_ ?_
    · exact this
    · intro i hi
      have hx : a.Rows[i]? = some a.Rows[i] := List.getElem?_eq_getElem hi
      have hd : decide ((i : Int) < ((a.Rows.length : Nat) : Int)) = true := by simpa using hi
      have hw : w64 ((i : Int) + 1) = ((i + 1 : Nat) : Int) := by rw [w64_in (by omega) (by omega)]; rfl
      simp only [ref10_Beside_L8, hd, cond_true]
      rw [idx_nat, bdT hx, gdT (by simp; omega), hw, List.take_add_one, hx]
      rfl
    · simp only [ref10_Beside_L8, Int.lt_irrefl, decide_false, cond_false, List.take_length]
  have l6 : ∀ s : Nat, s < b.Rows.length → loop (fun q => ref10_Beside_L6 a b (s : Int) q.1 q.2) (([] : List S_api_Edge), 0) = some ((List.range (kk b)).map fun i => shE a.Rows.length (E b s i)) := by
    intro s hs
    have := loop_seq (step := fun q => ref10_Beside_L6 a b (s : Int) q.1 q.2) (fun i : Nat => ((List.range i).map fun i => shE a.Rows.length (E b s i), (i : Int))) (kk b) (t := (List.range (kk b)).map fun i => shE a.Rows.length (E b s i)) (by omega) ?_ ?_
    · exact this
    · intro i hi
      have hd : decide ((i : Int) < b.Inputs) = true := by rw [← hk]; simpa using hi
      have hw : w64 ((i : Int) + 1) = ((i + 1 : Nat) : Int) := by rw [w64_in (by omega) (by omega)]; rfl
      simp only [ref10_Beside_L6, hd, cond_true]
      rw [vb.edge_eq hs hi]
      have hed := vb.edgeAt hs hi
      unfold ref10_Beside_J7
      have gl : ∀ e : S_api_Edge, ((List.range i).map fun i => shE a.Rows.length (E b s i)).length + ([e] : List S_api_Edge).length ≤ 4294967296 := fun e => by simp; omega
      by_cases ht : (E b s i).To ≥ 0
      · have hw2 : w64 ((E b s i).To + ((a.Rows.length : Nat) : Int)) = (E b s i).To + (a.Rows.length : Int) := w64_in (by omega) (by omega)
        rw [decide_eq_true ht, cond_true, gdT (gl _), hw, hw2, List.range_succ, List.map_append]
        simp only [List.map_cons, List.map_nil, shE, if_pos ht]
      · rw [decide_eq_false ht, cond_false, gdT (gl _), hw, List.range_succ, List.map_append]
        simp only [List.map_cons, List.map_nil, shE, if_neg ht]
    · simp only [ref10_Beside_L6, hk, Int.lt_irrefl, decide_false, cond_false]
  have rowE : ∀ s : Nat, s < b.Rows.length → ((List.range (kk b)).map fun i => shE a.Rows.length (E b s i)) = (b.Rows.map (List.map (shE a.Rows.length)))[s]?.getD [] := by
    intro s hs
    obtain ⟨r, h1, h2, h3⟩ := vb.rowAt hs
    rw [List.getElem?_map, h1]
    simp only [Option.map_some, Option.getD_some]
    refine List.ext_getElem (by simp [h2]) fun n g1 g2 => ?_
    simp only [List.getElem_map, List.getElem_range]
    have := h3 n (by simpa using g1)
    rw [List.getElem?_eq_getElem (by simpa using g2)] at this
    rw [Option.some.inj this]
  have l3 : loop (fun s => ref10_Beside_L3 a b s.1 s.2) (a.Rows, 0) = some (a.Rows ++ b.Rows.map (List.map (shE a.Rows.length))) := by
    have := loop_seq (step := fun s => ref10_Beside_L3 a b s.1 s.2) (fun i : Nat => (a.Rows ++ (b.Rows.map (List.map (shE a.Rows.length))).take i, (i : Int))) b.Rows.length (t := a.Rows ++ b.Rows.map (List.map (shE a.Rows.length))) (by omega) ?_ ?_
    · simpa using this
    · intro i hi
      have hd : decide ((i : Int) < ((b.Rows.length : Nat) : Int)) = true := by simpa using hi
      have hw : w64 ((i : Int) + 1) = ((i + 1 : Nat) : Int) := by rw [w64_in (by omega) (by omega)]; rfl
      simp only [ref10_Beside_L3, hd, cond_true]
      rw [bdT (l6 i hi)]
      unfold ref10_Beside_J5 ref10_Beside_J4
      rw [gdT (by simp; omega), hw, rowE i hi, List.take_add_one]
      obtain ⟨x, hx⟩ : ∃ x, (b.Rows.map (List.map (shE a.Rows.length)))[i]? = some x := ⟨_, List.getElem?_eq_getElem (by simpa using hi)⟩
      rw [hx]
      simp only [Option.getD_some, Option.toList_some, List.append_assoc]
    · simp only [ref10_Beside_L3, Int.lt_irrefl, decide_false, cond_false]
      rw [List.take_of_length_le (by simp)]
  unfold ref10_Beside ref10_Beside_J1 ref10_Beside_J2
  rw [bdT l8, bdT l3]
  rfl
def phi (a : S_api_Machine) (p : Nat × Nat) : Nat × Nat := (p.1, a.Rows.length + p.2)
def InP (a b : S_api_Machine) (p : Nat × Nat) : Prop := p.1 < a.Rows.length ∧ p.2 < b.Rows.length
section
variable {a b : S_api_Machine} (va : VM a) (vb : VM b) (hab : a.Inputs = b.Inputs)
include va vb hab
theorem inP_nx (p : Nat × Nat) (i : Nat) (q : Nat × Nat) (hp : InP a b p) (hi : i < kk a) (hq : nxP a b p i = some q) : InP a b q := by
  unfold nxP at hq
  split at hq
  · rename_i hc
    cases hq
    have h1 := va.edgeAt hp.1 hi
    have h2 := vb.edgeAt hp.2 (by rw [← kk_same hab]; exact hi)
    refine ⟨?_, ?_⟩ <;> simp only <;> omega
  · cases hq
theorem bes_bad (p : Nat × Nat) (i : Nat) (hp : InP a b p) (hi : i < kk a) : badP (bes a b) (bes a b) (phi a p) i = badP a b p i := by
  have := va.in1
  unfold badP phi
  simp only
  rw [bes_left hp.1, bes_right vb hp.2 (by rw [← kk_same hab]; exact hi), shE_out]
theorem bes_nx (p : Nat × Nat) (i : Nat) (hp : InP a b p) (hi : i < kk a) : nxP (bes a b) (bes a b) (phi a p) i = (nxP a b p i).map (phi a) := by
  have := va.in1
  unfold nxP phi
  simp only
  rw [bes_left hp.1, bes_right vb hp.2 (by rw [← kk_same hab]; exact hi)]
  by_cases h2 : (E b p.2 i).To ≥ 0
  · by_cases h1 : (E a p.1 i).To ≥ 0
    · rw [if_pos ⟨h1, by unfold shE; rw [if_pos h2]; simp only; omega⟩, if_pos ⟨h1, h2⟩]
      unfold shE
      rw [if_pos h2]
      exact congrArg some (Prod.ext rfl (by simp only; omega))
    · rw [if_neg (by omega), if_neg (by omega)]
      rfl
  · rw [if_neg (by unfold shE; rw [if_neg h2]; omega), if_neg (by omega)]
    rfl
theorem mk_bes (n : Nat) (p : Nat × Nat) (hp : InP a b p) : Mk (kk a) (badP (bes a b) (bes a b)) (nxP (bes a b) (bes a b)) n (phi a p) ↔ Mk (kk a) (badP a b) (nxP a b) n p :=
  mk_along (phi a) (InP a b) (inP_nx va vb hab) (bes_bad va vb hab) (bes_nx va vb hab) n p hp
theorem greedy_bes (n : Nat) (p : Nat × Nat) (w : List Nat) (hp : InP a b p) : Greedy (kk a) (badP (bes a b) (bes a b)) (nxP (bes a b) (bes a b)) n (phi a p) w → Greedy (kk a) (badP a b) (nxP a b) n p w :=
  greedy_along (phi a) (InP a b) (inP_nx va vb hab) (bes_bad va vb hab) (bes_nx va vb hab) n p w hp
def RefR (a b : S_api_Machine) (r : List Int × Bool) : Prop :=
  (∃ n w, Mk (kk a) (badP a b) (nxP a b) (n + 1) (0, 0) ∧ ¬ Mk (kk a) (badP a b) (nxP a b) n (0, 0) ∧ Greedy (kk a) (badP a b) (nxP a b) (n + 1) (0, 0) w ∧ n + 1 < a.Rows.length + b.Rows.length ∧ r = (w.map Int.ofNat, true)) ∨
  ((∀ n, ¬ Mk (kk a) (badP a b) (nxP a b) n (0, 0)) ∧ r = ([], false))
end
theorem tel_iff {m : S_api_Machine} {n : Nat} {p : Nat × Nat} {i : Nat} : telP m (mrk m n) p i = true ↔ (badP m m p i = true ∨ ∃ q, nxP m m p i = some q ∧ Mk (kk m) (badP m m) (nxP m m) n q) := by
  unfold telP
  rw [Bool.or_eq_true]
  constructor
  · rintro (h | h)
    · exact .inl h
    · cases hq : nxP m m p i with
      | none => rw [hq] at h; cases h
      | some q => rw [hq] at h; exact .inr ⟨q, rfl, (mkb_iff _ _ _ n q).1 h⟩
  · rintro (h | ⟨q, hq, h⟩)
    · exact .inl h
    · refine .inr ?_
      rw [hq]
      exact (mkb_iff _ _ _ n q).2 h
theorem pick_ret {m : S_api_Machine} (h : WM m) {k : Nat} {p : Nat × Nat} (h1 : p.1 < m.Rows.length) (h2 : p.2 < m.Rows.length) (n w : Int) (ws : List Int) (hw : ws.length ≤ 1000) (hn : n = (k : Int) + 1) (hk1 : k ≤ 1000) (hex : Mk (kk m) (badP m m) (nxP m m) (k + 1) p) (hno : ¬ Mk (kk m) (badP m m) (nxP m m) k p) :
    Ret (loop (fun s => ref10_Differ_L4 m (p.1 : Int) (p.2 : Int) n ws (tab m.Rows.length (mrk m k)) s) 0) fun r => ∃ i, i < kk m ∧ telP m (mrk m k) p i = true ∧ (∀ j, j < i → telP m (mrk m k) p j = false) ∧ r = ((E m p.1 i).To, (E m p.2 i).To, (k : Int), ws ++ [(i : Int)]) := by
  have hk := h.kk_eq
  have k16 := h.kk_le
  obtain ⟨i0, hi0, ht0⟩ : ∃ i, i < kk m ∧ telP m (mrk m k) p i = true := by
    rcases hex with g | ⟨i, hi, g⟩
    · exact (hno g).elim
    · exact ⟨i, hi, tel_iff.2 g⟩
  refine ret_loop (fun s => ∃ i : Nat, s = (i : Int) ∧ i ≤ kk m ∧ ∀ j, j < i → telP m (mrk m k) p j = false) (fun s => 100 - s.toNat) ⟨0, rfl, Nat.zero_le _, fun j hj => by omega⟩ (by simp) ?_
  rintro i' ⟨i, hi', hik, hall⟩
  subst hi'
  unfold ref10_Differ_L4 ref10_Differ_J5
  rw [ret_bif]
  refine ⟨fun hlt => ?_, fun hge => ?_⟩
  · have hlt : i < kk m := by rw [← hk] at hlt; simpa using hlt
    have hw1 : w64 ((i : Int) + 1) = ((i + 1 : Nat) : Int) := by rw [w64_in (by omega) (by omega)]; rfl
    have hn1 : w64 (n - 1) = (k : Int) := by rw [w64_in (by omega) (by omega)]; omega
    rw [h.edge_eq h1 hlt, h.edge_eq h2 hlt, hw1, hn1]
    have e1 := h.edgeAt h1 hlt
    have e2 := h.edgeAt h2 hlt
    have gl : ws.length + ([(i : Int)] : List Int).length ≤ 4294967296 := by simp; omega
    have found : telP m (mrk m k) p i = true → Ret (some (.done ((E m p.1 i).To, (E m p.2 i).To, (k : Int), ws ++ [(i : Int)])) : Option (LR Int (Int × Int × Int × List Int))) (LRP (fun s' => (∃ j : Nat, s' = (j : Int) ∧ j ≤ kk m ∧ ∀ l, l < j → telP m (mrk m k) p l = false) ∧ 100 - s'.toNat < 100 - (i : Int).toNat) (fun r => ∃ i, i < kk m ∧ telP m (mrk m k) p i = true ∧ (∀ j, j < i → telP m (mrk m k) p j = false) ∧ r = ((E m p.1 i).To, (E m p.2 i).To, (k : Int), ws ++ [(i : Int)]))) :=
      fun ht => ret_some.2 ⟨i, hlt, ht, hall, rfl⟩
    have on : telP m (mrk m k) p i = false → Ret (some (.next ((i + 1 : Nat) : Int)) : Option (LR Int (Int × Int × Int × List Int))) (LRP (fun s' => (∃ j : Nat, s' = (j : Int) ∧ j ≤ kk m ∧ ∀ l, l < j → telP m (mrk m k) p l = false) ∧ 100 - s'.toNat < 100 - (i : Int).toNat) (fun r => ∃ i, i < kk m ∧ telP m (mrk m k) p i = true ∧ (∀ j, j < i → telP m (mrk m k) p j = false) ∧ r = ((E m p.1 i).To, (E m p.2 i).To, (k : Int), ws ++ [(i : Int)]))) := by
      intro ht
      refine ret_some.2 ⟨⟨i + 1, rfl, hlt, fun j hj => ?_⟩, by omega⟩
      by_cases e : j = i
      · subst e; exact ht
      · exact hall j (by omega)
    rw [ret_bif]
    refine ⟨fun hb => ?_, fun hb => ?_⟩
    · rw [gdT gl]
      exact found (by unfold telP badP; rw [hb, Bool.true_or])
    · rw [ret_bif]
      refine ⟨fun t1 => ?_, fun t1 => ?_⟩
      · have t1 : (E m p.1 i).To ≥ 0 := of_decide_eq_true t1
        rw [ret_bif]
        refine ⟨fun t2 => ?_, fun t2 => ?_⟩
        · have t2 : (E m p.2 i).To ≥ 0 := of_decide_eq_true t2
          have hnx : nxP m m p i = some ((E m p.1 i).To.toNat, (E m p.2 i).To.toNat) := by unfold nxP; rw [if_pos ⟨t1, t2⟩]
          have hin := h.nx_in h1 h2 hlt hnx
          have c1 : (E m p.1 i).To = (((E m p.1 i).To.toNat : Nat) : Int) := by omega
          have c2 : (E m p.2 i).To = (((E m p.2 i).To.toNat : Nat) : Int) := by omega
          have ht1 : telP m (mrk m k) p i = mrk m k (E m p.1 i).To.toNat (E m p.2 i).To.toNat := by
            unfold telP badP
            rw [hnx, hb, Bool.false_or]
          have := tab_at (mrk m k) hin.1 hin.2 (g := fun v => bif v then gd (ws.length + ([(i : Int)] : List Int).length ≤ 4294967296) (some (LR.done ((E m p.1 i).To, (E m p.2 i).To, (k : Int), ws ++ [(i : Int)])) : Option (LR Int (Int × Int × Int × List Int))) else some (LR.next ((i + 1 : Nat) : Int)))
          rw [← c1, ← c2] at this
          refine (congrArg (fun o => Ret o _) this).mpr ?_
          rw [ret_bif]
          refine ⟨fun g => ?_, fun g => on (by rw [ht1]; exact g)⟩
          rw [gdT gl]
          exact found (by rw [ht1]; exact g)
        · have t2 : ¬ (E m p.2 i).To ≥ 0 := of_decide_eq_false t2
          exact on (by unfold telP badP nxP; rw [hb, if_neg (by omega)]; rfl)
      · have t1 : ¬ (E m p.1 i).To ≥ 0 := of_decide_eq_false t1
        exact on (by unfold telP badP nxP; rw [hb, if_neg (by omega)]; rfl)
  · have : i = kk m := by rw [← hk] at hge; simp at hge; omega
    have := hall i0 (by omega)
    rw [ht0] at this
    cases this
section
variable {a b : S_api_Machine} (va : VM a) (vb : VM b) (hab : a.Inputs = b.Inputs)
include va vb hab
theorem refd_ret : Ret (ref10_Differ a b) (RefR a b) := by
  have hm := bes_wm va vb hab
  have hN := bes_len (a := a) (b := b)
  have la := va.len64; have lb := vb.len64; have la1 := va.len1; have lb1 := vb.len1
  have hp0 : InP a b (0, 0) := ⟨va.len1, vb.len1⟩
  have hkb : kk (bes a b) = kk a := rfl
  have z1 : 0 < (bes a b).Rows.length := by omega
  have z2 : a.Rows.length < (bes a b).Rows.length := by omega
  unfold ref10_Differ
  rw [bdT (beside_eq va vb), ret_bind]
  have l6 : Ret (loop (fun s => ref10_Differ_L6 a (bes a b) s) 0) fun r => ∃ n : Nat, r = (n : Int) ∧ n ≤ (bes a b).Rows.length ∧ (∀ j, j < n → mrk (bes a b) j 0 a.Rows.length = false) ∧ (n < (bes a b).Rows.length → mrk (bes a b) n 0 a.Rows.length = true) := by
    refine ret_loop (fun s => ∃ n : Nat, s = (n : Int) ∧ n ≤ (bes a b).Rows.length ∧ ∀ j, j < n → mrk (bes a b) j 0 a.Rows.length = false) (fun s => 1000 - s.toNat) ⟨0, rfl, Nat.zero_le _, fun j hj => by omega⟩ (by simp) ?_
    rintro n' ⟨n, hn, hnl, hall⟩
    subst hn
    unfold ref10_Differ_L6
    rw [ret_bif]
    refine ⟨fun hlt => ?_, fun hge => ?_⟩
    · have hlt : n < (bes a b).Rows.length := by simpa using hlt
      have hw : w64 ((n : Int) + 1) = ((n + 1 : Nat) : Int) := by rw [w64_in (by omega) (by omega)]; rfl
      rw [bdT (marked_eq hm n (by omega))]
      have := tab_at (mrk (bes a b) n) z1 z2 (g := fun v => bif !v then (some (LR.next (w64 ((n : Int) + 1))) : Option (LR Int Int)) else some (LR.done (n : Int)))
      refine (congrArg (fun o => Ret o _) this).mpr ?_
      rw [ret_bif]
      refine ⟨fun g => ?_, fun g => ?_⟩
      · have g : mrk (bes a b) n 0 a.Rows.length = false := by simpa using g
        rw [ret_some, hw]
        refine ⟨⟨n + 1, rfl, hlt, fun j hj => ?_⟩, by omega⟩
        by_cases e : j = n
        · subst e; exact g
        · exact hall j (by omega)
      · have g : mrk (bes a b) n 0 a.Rows.length = true := by simpa using g
        rw [ret_some]
        exact ⟨n, rfl, hnl, hall, fun _ => g⟩
    · have : n = (bes a b).Rows.length := by simp at hge; omega
      rw [ret_some]
      exact ⟨n, rfl, hnl, hall, fun h => by omega⟩
  refine l6.mono ?_
  rintro n' ⟨n, hn, hnl, hall, hat⟩
  subst hn
  unfold ref10_Differ_J1 ref10_Differ_J2
  rw [ret_bif]
  refine ⟨fun he => ?_, fun hne => ?_⟩
  · have he : n = (bes a b).Rows.length := by simp at he; omega
    rw [ret_some]
    refine .inr ⟨fun j hj => ?_, rfl⟩
    have h1 := (mk_bes va vb hab j (0, 0) hp0).2 hj
    have h2 := mk_bound hm (s := 0) (t := a.Rows.length) z1 z2 h1
    have h3 := hall ((bes a b).Rows.length - 1) (by omega)
    have h4 := (mkb_iff _ _ _ _ _).2 h2
    unfold mrk at h3
    rw [h3] at h4
    cases h4
  · have hne : n ≠ (bes a b).Rows.length := by intro e; rw [e] at hne; simp at hne
    have hat := hat (by omega)
    cases n with
    | zero => simp [mrk, mkb] at hat
    | succ n =>
      have hmk : Mk (kk a) (badP (bes a b) (bes a b)) (nxP (bes a b) (bes a b)) (n + 1) (phi a (0, 0)) := (mkb_iff _ _ _ _ _).1 hat
      have hno : ¬ Mk (kk a) (badP (bes a b) (bes a b)) (nxP (bes a b) (bes a b)) n (phi a (0, 0)) := by
        intro c
        have h4 := (mkb_iff _ _ _ _ _).2 c
        have h3 := hall n (by omega)
        unfold mrk at h3
        have h3' : mkb (kk a) (badP (bes a b) (bes a b)) (nxP (bes a b) (bes a b)) n (phi a (0, 0)) = false := h3
        rw [h3'] at h4
        cases h4
      rw [ret_bind]
      refine (ret_loop (R := fun r => ∃ w, Greedy (kk a) (badP (bes a b) (bes a b)) (nxP (bes a b) (bes a b)) (n + 1) (phi a (0, 0)) w ∧ r = w.map Int.ofNat) (fun s => ∃ (wn : List Nat), s.2.2.2 = wn.map Int.ofNat ∧ wn.length ≤ 200 ∧ ((s.2.2.1 = 0 ∧ Greedy (kk a) (badP (bes a b) (bes a b)) (nxP (bes a b) (bes a b)) (n + 1) (phi a (0, 0)) wn) ∨
        ∃ (k : Nat) (p : Nat × Nat), s.2.2.1 = (k : Int) + 1 ∧ k ≤ n ∧ wn.length + k = n ∧ s.1 = (p.1 : Int) ∧ s.2.1 = (p.2 : Int) ∧ p.1 < (bes a b).Rows.length ∧ p.2 < (bes a b).Rows.length ∧ Mk (kk a) (badP (bes a b) (bes a b)) (nxP (bes a b) (bes a b)) (k + 1) p ∧ ¬ Mk (kk a) (badP (bes a b) (bes a b)) (nxP (bes a b) (bes a b)) k p ∧
          ∀ u, Greedy (kk a) (badP (bes a b) (bes a b)) (nxP (bes a b) (bes a b)) (k + 1) p u → Greedy (kk a) (badP (bes a b) (bes a b)) (nxP (bes a b) (bes a b)) (n + 1) (phi a (0, 0)) (wn ++ u))) (fun s => s.2.2.1.toNat) ⟨[], rfl, by simp, .inr ⟨n, phi a (0, 0), by simp, Nat.le_refl _, by simp, rfl, by simp [phi], by simp [phi]; omega, by simp [phi]; omega, hmk, hno, fun u h => h⟩⟩ ?_ ?_).mono ?_
      · simp only; omega
      · rintro ⟨s, t, c, w⟩ ⟨wn, hw, hwl, hcase⟩
        simp only at hw hcase
        subst hw
        unfold ref10_Differ_L3
        rcases hcase with ⟨hc, hg⟩ | ⟨k, p, hc, hkn, hwk, hs, ht, hp1, hp2, hk1, hk2, hgr⟩
        · subst hc
          rw [ret_bif]
          refine ⟨fun h => by have h := of_decide_eq_true h; simp only at h; omega, fun _ => ?_⟩
          rw [ret_some]
          exact ⟨wn, hg, rfl⟩
        · subst hs ht
          rw [ret_bif]
          refine ⟨fun _ => ?_, fun h => ?_⟩
          · have hn1 : w64 (c - 1) = (k : Int) := by rw [w64_in (by omega) (by omega)]; omega
            rw [hn1, bdT (marked_eq hm k (by omega)), ret_bind]
            refine (pick_ret hm hp1 hp2 c 0 _ (by simp; omega) hc (by omega) hk1 hk2).mono ?_
            rintro r ⟨i, hi, htel, hleast, rfl⟩
            rw [ret_some]
            have htel' := tel_iff.1 htel
            have hleast' : ∀ j, j < i → ¬ (badP (bes a b) (bes a b) p j = true ∨ ∃ q, nxP (bes a b) (bes a b) p j = some q ∧ Mk (kk a) (badP (bes a b) (bes a b)) (nxP (bes a b) (bes a b)) k q) := by
              intro j hj g
              have := hleast j hj
              rw [tel_iff.2 g] at this
              cases this
            refine ⟨⟨wn ++ [i], by simp, by simp; omega, ?_⟩, by simp only; omega⟩
            cases k with
            | zero =>
              refine .inl ⟨rfl, hgr [i] ⟨i, [], rfl, hi, htel', hleast', fun h => absurd h (Nat.lt_irrefl _), fun _ => rfl⟩⟩
            | succ k =>
              have hbad : badP (bes a b) (bes a b) p i ≠ true := fun g => hk2 (Mk.mono (n := 1) (.inr ⟨i, hi, .inl g⟩) (by omega))
              obtain ⟨q, hq, hqm⟩ : ∃ q, nxP (bes a b) (bes a b) p i = some q ∧ Mk (kk a) (badP (bes a b) (bes a b)) (nxP (bes a b) (bes a b)) (k + 1) q := by
                rcases htel' with g | g
                · exact (hbad g).elim
                · exact g
              have hin := hm.nx_in hp1 hp2 hi hq
              have hqv : (E (bes a b) p.1 i).To = (q.1 : Int) ∧ (E (bes a b) p.2 i).To = (q.2 : Int) := by
                unfold nxP at hq
                split at hq
                · cases hq
                  simp only
                  omega
                · cases hq
              refine .inr ⟨k, q, by simp, by omega, by simp; omega, hqv.1, hqv.2, hin.1, hin.2, hqm, fun g => hk2 (.inr ⟨i, hi, .inr ⟨q, hq, g⟩⟩), fun u hu => ?_⟩
              have := hgr (i :: u) ⟨i, u, rfl, hi, htel', hleast', fun _ => ⟨q, hq, hu⟩, fun h => by omega⟩
              simpa using this
          · have h := of_decide_eq_false h
            simp only at h
            omega
      · rintro r ⟨w, hg, rfl⟩
        rw [ret_some]
        exact .inl ⟨n, w, (mk_bes va vb hab _ _ hp0).1 hmk, fun g => hno ((mk_bes va vb hab _ _ hp0).2 g), greedy_bes va vb hab _ _ _ hp0 hg, by omega, rfl⟩
end
end Go.Own

namespace Go.Own
set_option linter.unusedVariables false
set_option linter.unusedSimpArgs false
def nxE (m : S_api_Machine) (s : Int) (i : Nat) : S_api_Edge := if s < 0 then ⟨-1, -1⟩ else E m s.toNat i
def rsp (m : S_api_Machine) : Int → List Nat → List Int
  | _, [] => []
  | s, i :: w => (nxE m s i).Out :: rsp m (nxE m s i).To w
def aft (m : S_api_Machine) : Int → List Nat → Int
  | s, [] => s
  | s, i :: w => aft m (nxE m s i).To w
theorem rsp_snoc (m : S_api_Machine) : ∀ (w : List Nat) (s : Int) (i : Nat), rsp m s (w ++ [i]) = rsp m s w ++ [(nxE m (aft m s w) i).Out] ∧ aft m s (w ++ [i]) = (nxE m (aft m s w) i).To
  | [], s, i => ⟨rfl, rfl⟩
  | j :: w, s, i => by
    have := rsp_snoc m w (nxE m s j).To i
    simp only [List.cons_append, rsp, aft, this.1, this.2, and_self]
section
variable {a b : S_api_Machine} (va : VM a) (vb : VM b) (hab : a.Inputs = b.Inputs)
include va vb hab
theorem path_rsp : ∀ (u : List Nat) (q : Nat × Nat), PathR (kk a) (badP a b) (nxP a b) (0, 0) u q → rsp a 0 u.reverse = rsp b 0 u.reverse ∧ aft a 0 u.reverse = (q.1 : Int) ∧ aft b 0 u.reverse = (q.2 : Int) ∧ InP a b q ∧ ∀ i ∈ u, i < kk a
  | [], q, h => by
    simp only [PathR] at h
    subst h
    exact ⟨rfl, rfl, rfl, ⟨va.len1, vb.len1⟩, by simp⟩
  | i :: u, q, ⟨p, hp, hi, hb, hn⟩ => by
    obtain ⟨h1, h2, h3, h4, h5⟩ := path_rsp u p hp
    have ea : nxE a (p.1 : Int) i = E a p.1 i := by unfold nxE; rw [if_neg (by omega), Int.toNat_natCast]
    have eb : nxE b (p.2 : Int) i = E b p.2 i := by unfold nxE; rw [if_neg (by omega), Int.toNat_natCast]
    have ho : (E a p.1 i).Out = (E b p.2 i).Out := by simpa [badP] using hb
    have hq : (E a p.1 i).To = (q.1 : Int) ∧ (E b p.2 i).To = (q.2 : Int) := by
      unfold nxP at hn
      split at hn
      · cases hn; simp only; omega
      · cases hn
    rw [List.reverse_cons, (rsp_snoc a _ _ _).1, (rsp_snoc b _ _ _).1, (rsp_snoc a _ _ _).2, (rsp_snoc b _ _ _).2, h1, h2, h3, ea, eb, ho]
    refine ⟨rfl, hq.1, hq.2, inP_nx va vb hab p i q h4 hi hn, fun j hj => ?_⟩
    rcases List.mem_cons.1 hj with rfl | g
    · exact hi
    · exact h5 j g
end
end Go.Own

namespace Go.Own
set_option linter.unusedVariables false
set_option linter.unusedSimpArgs false
set_option maxRecDepth 100000 in
theorem lives10 : law10_lives = some true := by kernel_rfl
end Go.Own

namespace Go.Own
set_option linter.unusedVariables false
set_option linter.unusedSimpArgs false
def tab2 (N M : Nat) (f : Nat → Nat → Bool) : List (List Bool) := (List.range N).map fun s => (List.range M).map fun t => f s t
theorem tab2_row {N M s : Nat} (f : Nat → Nat → Bool) (hs : s < N) : idx (tab2 N M f) (s : Int) = some ((List.range M).map fun t => f s t) := by rw [idx_nat]; simp [tab2, hs]
theorem row_at {M t : Nat} (f : Nat → Bool) (ht : t < M) : idx ((List.range M).map f) (t : Int) = some (f t) := by rw [idx_nat]; simp [ht]
theorem tab2_set {N M s t : Nat} (f : Nat → Nat → Bool) : (tab2 N M f).set s (((List.range M).map fun t => f s t).set t true) = tab2 N M fun x y => if x = s ∧ y = t then true else f x y := by
  unfold tab2
  rw [set_range, set_range]
  refine List.map_congr_left fun x _ => ?_
  by_cases e : x = s
  · subst e
    rw [if_pos rfl]
    refine List.map_congr_left fun y _ => ?_
    by_cases g : y = t
    · simp [g]
    · simp [g]
  · simp [e]
theorem sorted_ext {α : Type} {lt : α → α → Prop} (irr : ∀ x, ¬ lt x x) (asym : ∀ x y, lt x y → ¬ lt y x) : ∀ {l l' : List α}, l.Pairwise lt → l'.Pairwise lt → (∀ x, x ∈ l ↔ x ∈ l') → l = l'
  | [], [], _, _, _ => rfl
  | [], y :: l', _, _, h => by have := (h y).2 (by simp); cases this
  | x :: l, [], _, _, h => by have := (h x).1 (by simp); cases this
  | x :: l, y :: l', h1, h2, h => by
    obtain ⟨a1, a2⟩ := List.pairwise_cons.1 h1
    obtain ⟨b1, b2⟩ := List.pairwise_cons.1 h2
    have e : x = y := by
      rcases List.mem_cons.1 ((h x).1 (by simp)) with e | g
      · exact e
      · rcases List.mem_cons.1 ((h y).2 (by simp)) with e | g'
        · exact e.symm
        · exact (asym _ _ (b1 x g) (a1 y g')).elim
    subst e
    rw [sorted_ext irr asym a2 b2 fun z => ?_]
    constructor
    · intro hz
      rcases List.mem_cons.1 ((h z).1 (List.mem_cons_of_mem _ hz)) with e | g
      · subst e; exact (irr _ (a1 _ hz)).elim
      · exact g
    · intro hz
      rcases List.mem_cons.1 ((h z).2 (List.mem_cons_of_mem _ hz)) with e | g
      · subst e; exact (irr _ (b1 _ hz)).elim
      · exact g
def pairsOf (N M : Nat) (f : Nat → Nat → Bool) : List (Arr2 Int) := (List.range N).flatMap fun s => ((List.range M).filter (f s)).map fun t => pA (s, t)
theorem mem_pairsOf {N M : Nat} {f : Nat → Nat → Bool} {q : Arr2 Int} : q ∈ pairsOf N M f ↔ ∃ s t, s < N ∧ t < M ∧ f s t = true ∧ q = pA (s, t) := by
  unfold pairsOf
  simp only [List.mem_flatMap, List.mem_range, List.mem_map, List.mem_filter]
  constructor
  · rintro ⟨s, hs, t, ⟨ht, hf⟩, rfl⟩
    exact ⟨s, t, hs, ht, hf, rfl⟩
  · rintro ⟨s, t, hs, ht, hf, rfl⟩
    exact ⟨s, hs, t, ⟨ht, hf⟩, rfl⟩
theorem pA_lt {p q : Nat × Nat} : pc (pA p) (pA q) < 0 ↔ p.1 < q.1 ∨ p.1 = q.1 ∧ p.2 < q.2 := by
  rw [pc_lt]
  simp only [pA]
  omega
theorem pairsOf_sorted (N M : Nat) (f : Nat → Nat → Bool) : (pairsOf N M f).Pairwise fun x y => pc x y < 0 := by
  unfold pairsOf
  rw [List.pairwise_flatMap]
  refine ⟨fun s _ => ?_, ?_⟩
  · refine List.Pairwise.map _ (R := fun x y => x < y) (fun x y h => pA_lt.2 (.inr ⟨rfl, h⟩)) ?_
    exact List.Pairwise.sublist List.filter_sublist List.pairwise_lt_range
  · refine List.Pairwise.imp (R := fun x y => x < y) ?_ List.pairwise_lt_range
    intro x y hxy a ha b hb
    obtain ⟨t, _, rfl⟩ := List.mem_map.1 ha
    obtain ⟨u, _, rfl⟩ := List.mem_map.1 hb
    exact pA_lt.2 (.inl hxy)
section
variable {a b : S_api_Machine} (va : VM a) (vb : VM b) (hab : a.Inputs = b.Inputs)
include va vb hab
theorem pairs_ret (hno : ∀ u, ¬ TellR (kk a) (badP a b) (nxP a b) (0, 0) u) : Ret (ref10_Pairs a b) fun r => ∃ f : Nat → Nat → Bool, r = pairsOf a.Rows.length b.Rows.length f ∧
    (∀ s t, s < a.Rows.length → t < b.Rows.length → f s t = true → ∃ u, PathR (kk a) (badP a b) (nxP a b) (0, 0) u (s, t)) ∧ ∀ u q, PathR (kk a) (badP a b) (nxP a b) (0, 0) u q → u.length ≤ a.Rows.length * b.Rows.length → f q.1 q.2 = true := by
  have la := va.len64; have lb := vb.len64; have la1 := va.len1; have lb1 := vb.len1
  have hk := va.kk_eq; have k16 := va.kk_le
  have hNM : a.Rows.length * b.Rows.length ≤ 4096 := Nat.le_trans (Nat.mul_le_mul la lb) (by omega)
  have nobad : ∀ u q i, PathR (kk a) (badP a b) (nxP a b) (0, 0) u q → i < kk a → badP a b q i = false := by
    intro u q i hu hi
    cases hb : badP a b q i with
    | false => rfl
    | true => exact (hno (i :: u) ⟨q, hu, hi, hb⟩).elim
  let Snd (f : Nat → Nat → Bool) : Prop := ∀ s t, s < a.Rows.length → t < b.Rows.length → f s t = true → ∃ u, PathR (kk a) (badP a b) (nxP a b) (0, 0) u (s, t)
  have l16 : loop (fun s => ref10_Pairs_L16 a b s.1 s.2) (([] : List (List Bool)), 0) = some (tab2 a.Rows.length b.Rows.length fun _ _ => false) := by
    have := loop_seq (step := fun q => ref10_Pairs_L16 a b q.1 q.2) (fun s : Nat => ((List.range s).map fun _ => (List.range b.Rows.length).map fun _ => false, (s : Int))) a.Rows.length (t := tab2 a.Rows.length b.Rows.length fun _ _ => false) (by omega) ?_ ?_
    · exact this
    · intro s hs
      have hd : decide ((s : Int) < ((a.Rows.length : Nat) : Int)) = true := by simpa using hs
      have hw : w64 ((s : Int) + 1) = ((s + 1 : Nat) : Int) := by rw [w64_in (by omega) (by omega)]; rfl
      simp only [ref10_Pairs_L16, hd, cond_true]
      rw [gdT (by omega), gdT (by simp; omega), rep_row, hw, List.range_succ, List.map_append]
      rfl
    · simp only [ref10_Pairs_L16, Int.lt_irrefl, decide_false, cond_false]
      rfl
  have l14 : ∀ (s t : Nat) (f : Nat → Nat → Bool), s < a.Rows.length → t < b.Rows.length → Snd f → Ret (loop (fun q => ref10_Pairs_L14 a b (s : Int) (t : Int) q.1 q.2) (tab2 a.Rows.length b.Rows.length f, 0)) fun r => ∃ g, r = tab2 a.Rows.length b.Rows.length g ∧ Snd g ∧ (∀ x y, f x y = true → g x y = true) ∧ (f s t = true → ∀ i, i < kk a → ∀ q, nxP a b (s, t) i = some q → g q.1 q.2 = true) := by
    intro s t f hs ht hf
    refine ret_loop (fun q => ∃ (i : Nat) (g : Nat → Nat → Bool), q.2 = (i : Int) ∧ i ≤ kk a ∧ q.1 = tab2 a.Rows.length b.Rows.length g ∧ Snd g ∧ (∀ x y, f x y = true → g x y = true) ∧ (f s t = true → ∀ j, j < i → ∀ q, nxP a b (s, t) j = some q → g q.1 q.2 = true)) (fun q => 100 - q.2.toNat) ⟨0, f, rfl, Nat.zero_le _, rfl, hf, fun _ _ h => h, fun _ j hj => by omega⟩ (by simp) ?_
    rintro ⟨q, i'⟩ ⟨i, g, hi', hik, hq, hg, hup, hst⟩
    simp only at hi' hq
    subst hi' hq
    unfold ref10_Pairs_L14 ref10_Pairs_J15
    rw [ret_bif]
    refine ⟨fun hlt => ?_, fun hge => ?_⟩
    · have hlt : i < kk a := by rw [← hk] at hlt; simpa using hlt
      have hib : i < kk b := by rw [← kk_same hab]; exact hlt
      have hw : w64 ((i : Int) + 1) = ((i + 1 : Nat) : Int) := by rw [w64_in (by omega) (by omega)]; rfl
      simp only
      rw [bdT (tab2_row g hs), bdT (row_at (g s) ht), hw, ret_bif]
      refine ⟨fun hin => ?_, fun hout => ?_⟩
      · rw [va.edge_eq hs hlt, vb.edge_eq ht hib]
        obtain ⟨u, hu⟩ := hg s t hs ht hin
        have hb := nobad u (s, t) i hu hlt
        have ea := va.edgeAt hs hlt
        have eb := vb.edgeAt ht hib
        have next : nxP a b (s, t) i = none → Ret (some (.next (tab2 a.Rows.length b.Rows.length g, ((i + 1 : Nat) : Int))) : Option (LR (List (List Bool) × Int) (List (List Bool)))) (LRP (fun s' => (∃ (i : Nat) (g : Nat → Nat → Bool), s'.2 = (i : Int) ∧ i ≤ kk a ∧ s'.1 = tab2 a.Rows.length b.Rows.length g ∧ Snd g ∧ (∀ x y, f x y = true → g x y = true) ∧ (f s t = true → ∀ j, j < i → ∀ q, nxP a b (s, t) j = some q → g q.1 q.2 = true)) ∧ 100 - s'.2.toNat < 100 - (i : Int).toNat) (fun r => ∃ g, r = tab2 a.Rows.length b.Rows.length g ∧ Snd g ∧ (∀ x y, f x y = true → g x y = true) ∧ (f s t = true → ∀ i, i < kk a → ∀ q, nxP a b (s, t) i = some q → g q.1 q.2 = true))) := by
          intro hnone
          refine ret_some.2 ⟨⟨i + 1, g, rfl, hlt, rfl, hg, hup, fun hft j hj q hq => ?_⟩, by simp only; omega⟩
          by_cases e : j = i
          · subst e; rw [hnone] at hq; cases hq
          · exact hst hft j (by omega) q hq
        rw [ret_bif]
        refine ⟨fun t1 => ?_, fun t1 => next (by have := of_decide_eq_false t1; unfold nxP; rw [if_neg (by simp only; omega)])⟩
        have t1 := of_decide_eq_true t1
        rw [ret_bif]
        refine ⟨fun t2 => ?_, fun t2 => next (by have := of_decide_eq_false t2; unfold nxP; rw [if_neg (by simp only; omega)])⟩
        have t2 := of_decide_eq_true t2
        have hnx : nxP a b (s, t) i = some ((E a s i).To.toNat, (E b t i).To.toNat) := by unfold nxP; rw [if_pos ⟨t1, t2⟩]
        have hin2 := inP_nx va vb hab (s, t) i _ ⟨hs, ht⟩ hlt hnx
        have c1 : (E a s i).To = (((E a s i).To.toNat : Nat) : Int) := by omega
        have c2 : (E b t i).To = (((E b t i).To.toNat : Nat) : Int) := by omega
        have h1 := tab2_row g hin2.1 (M := b.Rows.length)
        have h2 := row_at (g (E a s i).To.toNat) hin2.2
        simp only at h1 h2
        rw [← c1] at h1
        rw [← c2] at h2
        rw [bdT h1, bdT h2, tab2_set, ret_some]
        refine ⟨⟨i + 1, _, rfl, hlt, rfl, ?_, ?_, ?_⟩, by simp only; omega⟩
        · intro x y hx hy hxy
          dsimp only at hxy
          by_cases e : x = (E a s i).To.toNat ∧ y = (E b t i).To.toNat
          · exact ⟨i :: u, (s, t), hu, hlt, hb, by rw [hnx, e.1, e.2]⟩
          · rw [if_neg e] at hxy
            exact hg x y hx hy hxy
        · intro x y hxy
          skip
          by_cases e : x = (E a s i).To.toNat ∧ y = (E b t i).To.toNat
          · rw [if_pos e]
          · rw [if_neg e]; exact hup x y hxy
        · intro hft j hj q hq
          skip
          by_cases e : j = i
          · subst e
            rw [hnx] at hq
            cases hq
            rw [if_pos ⟨rfl, rfl⟩]
          · have := hst hft j (by omega) q hq
            by_cases e : q.1 = (E a s i).To.toNat ∧ q.2 = (E b t i).To.toNat
            · rw [if_pos e]
            · rw [if_neg e]; exact this
      · rw [ret_some]
        have : f s t ≠ true := fun h => by rw [hup s t h] at hout; cases hout
        exact ⟨g, rfl, hg, hup, fun h => (this h).elim⟩
    · have : i = kk a := by rw [← hk] at hge; simp at hge; omega
      subst this
      rw [ret_some]
      exact ⟨g, rfl, hg, hup, hst⟩
  have l12 : ∀ (s : Nat) (f : Nat → Nat → Bool), s < a.Rows.length → Snd f → Ret (loop (fun q => ref10_Pairs_L12 a b (s : Int) q.1 q.2) (tab2 a.Rows.length b.Rows.length f, 0)) fun r => ∃ g, r = tab2 a.Rows.length b.Rows.length g ∧ Snd g ∧ (∀ x y, f x y = true → g x y = true) ∧ (∀ t, t < b.Rows.length → f s t = true → ∀ i, i < kk a → ∀ q, nxP a b (s, t) i = some q → g q.1 q.2 = true) := by
    intro s f hs hf
    refine ret_loop (fun q => ∃ (n : Nat) (g : Nat → Nat → Bool), q.2 = (n : Int) ∧ n ≤ b.Rows.length ∧ q.1 = tab2 a.Rows.length b.Rows.length g ∧ Snd g ∧ (∀ x y, f x y = true → g x y = true) ∧ (∀ t, t < n → f s t = true → ∀ i, i < kk a → ∀ q, nxP a b (s, t) i = some q → g q.1 q.2 = true)) (fun q => 100 - q.2.toNat) ⟨0, f, rfl, Nat.zero_le _, rfl, hf, fun _ _ h => h, fun t ht => by omega⟩ (by simp) ?_
    rintro ⟨q, n'⟩ ⟨n, g, hn', hnl, hq, hg, hup, hst⟩
    simp only at hn' hq
    subst hn' hq
    unfold ref10_Pairs_L12 ref10_Pairs_J13
    rw [ret_bif]
    refine ⟨fun hlt => ?_, fun hge => ?_⟩
    · have hlt : n < b.Rows.length := by simpa using hlt
      have hw : w64 ((n : Int) + 1) = ((n + 1 : Nat) : Int) := by rw [w64_in (by omega) (by omega)]; rfl
      simp only
      rw [hw, ret_bind]
      refine (l14 s n g hs hlt hg).mono ?_
      rintro r ⟨g2, rfl, hg2, hup2, hst2⟩
      rw [ret_some]
      refine ⟨⟨n + 1, g2, rfl, hlt, rfl, hg2, fun x y h => hup2 x y (hup x y h), fun t ht hft i hi q hq => ?_⟩, by simp only; omega⟩
      by_cases e : t = n
      · subst e; exact hst2 (hup s t hft) i hi q hq
      · exact hup2 _ _ (hst t (by omega) hft i hi q hq)
    · have : n = b.Rows.length := by simp at hge; omega
      subst this
      rw [ret_some]
      exact ⟨g, rfl, hg, hup, hst⟩
  have l10 : ∀ (f : Nat → Nat → Bool), Snd f → Ret (loop (fun q => ref10_Pairs_L10 a b q.1 q.2) (tab2 a.Rows.length b.Rows.length f, 0)) fun r => ∃ g, r = tab2 a.Rows.length b.Rows.length g ∧ Snd g ∧ (∀ x y, f x y = true → g x y = true) ∧ (∀ s t, s < a.Rows.length → t < b.Rows.length → f s t = true → ∀ i, i < kk a → ∀ q, nxP a b (s, t) i = some q → g q.1 q.2 = true) := by
    intro f hf
    refine ret_loop (fun q => ∃ (n : Nat) (g : Nat → Nat → Bool), q.2 = (n : Int) ∧ n ≤ a.Rows.length ∧ q.1 = tab2 a.Rows.length b.Rows.length g ∧ Snd g ∧ (∀ x y, f x y = true → g x y = true) ∧ (∀ s t, s < n → t < b.Rows.length → f s t = true → ∀ i, i < kk a → ∀ q, nxP a b (s, t) i = some q → g q.1 q.2 = true)) (fun q => 100 - q.2.toNat) ⟨0, f, rfl, Nat.zero_le _, rfl, hf, fun _ _ h => h, fun s t hs => by omega⟩ (by simp) ?_
    rintro ⟨q, n'⟩ ⟨n, g, hn', hnl, hq, hg, hup, hst⟩
    simp only at hn' hq
    subst hn' hq
    unfold ref10_Pairs_L10 ref10_Pairs_J11
    rw [ret_bif]
    refine ⟨fun hlt => ?_, fun hge => ?_⟩
    · have hlt : n < a.Rows.length := by simpa using hlt
      have hw : w64 ((n : Int) + 1) = ((n + 1 : Nat) : Int) := by rw [w64_in (by omega) (by omega)]; rfl
      simp only
      rw [hw, ret_bind]
      refine (l12 n g hlt hg).mono ?_
      rintro r ⟨g2, rfl, hg2, hup2, hst2⟩
      rw [ret_some]
      refine ⟨⟨n + 1, g2, rfl, hlt, rfl, hg2, fun x y h => hup2 x y (hup x y h), fun s t hs ht hft i hi q hq => ?_⟩, by simp only; omega⟩
      by_cases e : s = n
      · subst e; exact hst2 t ht (hup s t hft) i hi q hq
      · exact hup2 _ _ (hst s t (by omega) ht hft i hi q hq)
    · have : n = a.Rows.length := by simp at hge; omega
      subst this
      rw [ret_some]
      exact ⟨g, rfl, hg, hup, hst⟩
  let Cpl (f : Nat → Nat → Bool) (r : Nat) : Prop := ∀ u q, PathR (kk a) (badP a b) (nxP a b) (0, 0) u q → u.length ≤ r → f q.1 q.2 = true
  have inR : ∀ u q, PathR (kk a) (badP a b) (nxP a b) (0, 0) u q → InP a b q := fun u q hu => (path_rsp va vb hab u q hu).2.2.2.1
  have hmul : w64 (((a.Rows.length : Nat) : Int) * ((b.Rows.length : Nat) : Int)) = ((a.Rows.length * b.Rows.length : Nat) : Int) := by
    rw [← Int.natCast_mul]
    exact w64_in (by omega) (by omega)
  have l8 : ∀ f, Snd f → Cpl f 0 → Ret (loop (fun s => ref10_Pairs_L8 a b s.1 s.2) (tab2 a.Rows.length b.Rows.length f, 0)) fun r => ∃ g, r = tab2 a.Rows.length b.Rows.length g ∧ Snd g ∧ Cpl g (a.Rows.length * b.Rows.length) := by
    intro f hf hc
    refine ret_loop (fun q => ∃ (n : Nat) (g : Nat → Nat → Bool), q.2 = (n : Int) ∧ n ≤ a.Rows.length * b.Rows.length ∧ q.1 = tab2 a.Rows.length b.Rows.length g ∧ Snd g ∧ Cpl g n) (fun q => 5000 - q.2.toNat) ⟨0, f, rfl, Nat.zero_le _, rfl, hf, hc⟩ (by simp) ?_
    rintro ⟨q, n'⟩ ⟨n, g, hn', hnl, hq, hg, hcg⟩
    simp only at hn' hq
    subst hn' hq
    unfold ref10_Pairs_L8 ref10_Pairs_J9
    rw [hmul, ret_bif]
    refine ⟨fun hlt => ?_, fun hge => ?_⟩
    · have hlt : n < a.Rows.length * b.Rows.length := by have := of_decide_eq_true hlt; simp only at this; omega
      have hw : w64 ((n : Int) + 1) = ((n + 1 : Nat) : Int) := by rw [w64_in (by omega) (by omega)]; rfl
      simp only
      rw [hw, ret_bind]
      refine (l10 g hg).mono ?_
      rintro r ⟨g2, rfl, hg2, hup2, hst2⟩
      rw [ret_some]
      refine ⟨⟨n + 1, g2, rfl, hlt, rfl, hg2, fun u q hu hl => ?_⟩, by simp only; omega⟩
      cases u with
      | nil => exact hup2 _ _ (hcg [] q hu (by simp))
      | cons i u =>
        obtain ⟨p, hp, hi, hb, hn⟩ := hu
        have hin := inR u p hp
        exact hst2 p.1 p.2 hin.1 hin.2 (hcg u p hp (by simpa using hl)) i hi q hn
    · have : n = a.Rows.length * b.Rows.length := by have := of_decide_eq_false hge; simp only at this; omega
      subst this
      rw [ret_some]
      exact ⟨g, rfl, hg, hcg⟩
  have l6 : ∀ (f : Nat → Nat → Bool) (s : Nat) (out : List (Arr2 Int)), s < a.Rows.length → out.length ≤ 100000 → loop (fun q => ref10_Pairs_L6 b (tab2 a.Rows.length b.Rows.length f) (s : Int) q.1 q.2) (out, 0) = some (out ++ ((List.range b.Rows.length).filter (f s)).map fun t => pA (s, t)) := by
    intro f s out hs hol
    have := loop_seq (step := fun q => ref10_Pairs_L6 b (tab2 a.Rows.length b.Rows.length f) (s : Int) q.1 q.2) (fun t : Nat => (out ++ ((List.range t).filter (f s)).map fun t => pA (s, t), (t : Int))) b.Rows.length (t := out ++ ((List.range b.Rows.length).filter (f s)).map fun t => pA (s, t)) (by omega) ?_ ?_
    · simpa using this
    · intro t ht
      have hd : decide ((t : Int) < ((b.Rows.length : Nat) : Int)) = true := by simpa using ht
      have hw : w64 ((t : Int) + 1) = ((t + 1 : Nat) : Int) := by rw [w64_in (by omega) (by omega)]; rfl
      have hfl : ((List.range t).filter (f s)).length ≤ t := Nat.le_trans (List.length_filter_le _ _) (by simp)
      simp only [ref10_Pairs_L6, hd, cond_true, ref10_Pairs_J7]
      rw [bdT (tab2_row f hs), bdT (row_at (f s) ht), hw, List.range_succ, List.filter_append, List.map_append]
      cases hft : f s t with
      | true =>
        rw [cond_true, gdT (by simp; omega)]
        simp [List.filter_cons, hft, pA]
      | false =>
        rw [cond_false]
        simp [List.filter_cons, hft]
    · simp only [ref10_Pairs_L6, Int.lt_irrefl, decide_false, cond_false]
  have l4 : ∀ f : Nat → Nat → Bool, loop (fun s => ref10_Pairs_L4 a b (tab2 a.Rows.length b.Rows.length f) s.1 s.2) (([] : List (Arr2 Int)), 0) = some (pairsOf a.Rows.length b.Rows.length f) := by
    intro f
    have plen : ∀ n, (((List.range n).flatMap fun s => ((List.range b.Rows.length).filter (f s)).map fun t => pA (s, t))).length ≤ n * 64 := by
      intro n
      induction n with
      | zero => simp
      | succ n ih =>
        rw [List.range_succ, List.flatMap_append, List.length_append]
        have : ((List.range b.Rows.length).filter (f n)).length ≤ b.Rows.length := Nat.le_trans (List.length_filter_le _ _) (by simp)
        simp only [List.flatMap_cons, List.flatMap_nil, List.append_nil, List.length_map]
        omega
    have := loop_seq (step := fun q => ref10_Pairs_L4 a b (tab2 a.Rows.length b.Rows.length f) q.1 q.2) (fun s : Nat => ((List.range s).flatMap fun s => ((List.range b.Rows.length).filter (f s)).map fun t => pA (s, t), (s : Int))) a.Rows.length (t := pairsOf a.Rows.length b.Rows.length f) (by omega) ?_ ?_
    · exact this
    · intro s hs
      have hd : decide ((s : Int) < ((a.Rows.length : Nat) : Int)) = true := by simpa using hs
      have hw : w64 ((s : Int) + 1) = ((s + 1 : Nat) : Int) := by rw [w64_in (by omega) (by omega)]; rfl
      simp only [ref10_Pairs_L4, hd, cond_true, ref10_Pairs_J5]
      rw [bdT (l6 f s _ hs (by have := plen s; omega)), hw, List.range_succ, List.flatMap_append]
      simp only [List.flatMap_cons, List.flatMap_nil, List.append_nil]
    · simp only [ref10_Pairs_L4, Int.lt_irrefl, decide_false, cond_false]
      rfl
  unfold ref10_Pairs ref10_Pairs_J1 ref10_Pairs_J2 ref10_Pairs_J3
  rw [bdT l16, bdT (show idx (tab2 a.Rows.length b.Rows.length fun _ _ => false) 0 = some _ from tab2_row (s := 0) (fun _ _ => false) la1), bdT (show idx ((List.range b.Rows.length).map fun _ => false) 0 = some _ from row_at (t := 0) (fun _ => false) lb1)]
  have hset := tab2_set (N := a.Rows.length) (M := b.Rows.length) (s := 0) (t := 0) (fun _ _ => false)
  have hset' : (tab2 a.Rows.length b.Rows.length fun _ _ => false).set (0 : Int).toNat (((List.range b.Rows.length).map fun _ => false).set (0 : Int).toNat true) = tab2 a.Rows.length b.Rows.length fun x y => if x = 0 ∧ y = 0 then true else false := hset
  rw [hset', ret_bind]
  refine (l8 (fun x y => if x = 0 ∧ y = 0 then true else false) ?_ ?_).mono ?_
  · intro s t hs ht h
    dsimp only at h
    split at h
    · rename_i e
      exact ⟨[], by simp only [PathR]; rw [e.1, e.2]⟩
    · cases h
  · intro u q hu hl
    cases u with
    | nil =>
      simp only [PathR] at hu
      subst hu
      rfl
    | cons i u => simp at hl
  · rintro r ⟨g, rfl, hg, hc⟩
    rw [bdT (l4 g), ret_some]
    exact ⟨g, rfl, hg, hc⟩
end
end Go.Own

namespace Go.Own
set_option linter.unusedVariables false
set_option linter.unusedSimpArgs false
theorem arr_beq (v x : Arr2 Int) : ((v.e0 == x.e0) && ((v.e1 == x.e1) && true)) = decide (v = x) := by
  obtain ⟨v0, v1⟩ := v
  obtain ⟨x0, x1⟩ := x
  by_cases e0 : v0 = x0
  · by_cases e1 : v1 = x1
    · simp [e0, e1]
    · simp [e0, e1]
  · simp [e0]
theorem in_eq (s : List (Arr2 Int)) (v : Arr2 Int) (hl : s.length ≤ 4611686018427387903) : ref10_In s v = some (if v ∈ s then 1 else 0) := by
  have hloop : loop (fun q => ref10_In_L2 s v q) 0 = some (oS (firstS (fun _ x => if x = v then some (1 : Int) else none) s 0)) := by
    refine loop_list s (by omega) _ ?_ ?_
    · intro i x hx
      have hi := (List.getElem?_eq_some_iff.1 hx).1
      unfold ref10_In_L2
      have hd : decide ((i : Int) < ((s.length : Nat) : Int)) = true := by simpa using hi
      rw [hd, cond_true, idx_nat, bdT hx, arr_beq]
      by_cases e : x = v
      · simp [nS, e]
      · simp [nS, e]
    · unfold ref10_In_L2
      simp
  unfold ref10_In
  rw [bdT hloop]
  cases hf : firstS (fun (_ : Nat) x => if x = v then some (1 : Int) else none) s 0 with
  | some q =>
    obtain ⟨i, x, h1, h2⟩ := firstS_some hf
    split at h2
    · rename_i e
      subst e
      cases h2
      rw [if_pos (List.mem_of_getElem? h1)]
      rfl
    · cases h2
  | none =>
    rw [if_neg]
    · rfl
    · intro hx
      obtain ⟨i, hi⟩ := List.getElem?_of_mem hx
      have := firstS_isNone hf i v hi
      simp at this
theorem pairs_eq (s t : List (Arr2 Int)) (hs : s.length ≤ 4611686018427387903) (h : s = t) : law10_pairs s t = some true := by
  subst h
  have hloop : loop (fun q => law10_pairs_L2 s s q) 0 = some (oS (firstS (fun _ _ => (none : Option Bool)) s 0)) := by
    refine loop_list s (by omega) _ ?_ ?_
    · intro i x hx
      have hi := (List.getElem?_eq_some_iff.1 hx).1
      unfold law10_pairs_L2
      have hd : decide ((i : Int) < ((s.length : Nat) : Int)) = true := by simpa using hi
      rw [hd, cond_true, idx_nat, bdT hx, bdT hx, arr_beq, decide_eq_true rfl]
      rfl
    · unfold law10_pairs_L2
      simp
  unfold law10_pairs
  rw [bne_self_eq_false, cond_false, cond_false, bdT hloop, firstS_none (fun _ _ _ => rfl)]
  rfl
open Classical in
theorem cert_eq {a b : S_api_Machine} (va : VM a) (vb : VM b) (hab : a.Inputs = b.Inputs) (r : List (Arr2 Int)) (hl : r.length ≤ 4096) (hin : ∀ p ∈ r, InAB a b p) : ref10_Certifies a b r = some (if Cert a b r then 1 else 0) := by
  have hka := va.kk_eq; have k16 := va.kk_le
  unfold ref10_Certifies
  rw [bdT (in_eq r _ (by omega))]
  by_cases h0 : Arr2.mk 0 0 ∈ r
  · rw [if_pos h0]
    have l4 : ∀ (k : Nat) (p : Arr2 Int), r[k]? = some p → loop (fun s => ref10_Certifies_L4 a b r (k : Int) s) 0 = some (oS (firstS (fun _ i => if okAt a b r p i then none else some (0 : Int)) (List.range (kk a)) 0)) := by
      intro k p hp
      obtain ⟨p0, p1, p2, p3⟩ := hin p (List.mem_of_getElem? hp)
      have h1 : p.e0.toNat < a.Rows.length := by omega
      have h2 : p.e1.toNat < b.Rows.length := by omega
      have c0 : p.e0 = ((p.e0.toNat : Nat) : Int) := by omega
      have c1 : p.e1 = ((p.e1.toNat : Nat) : Int) := by omega
      refine loop_list (List.range (kk a)) (by simp; omega) _ ?_ ?_
      · intro i x hx
        have hi : i < kk a := by have := (List.getElem?_eq_some_iff.1 hx).1; simpa using this
        have : x = i := by rw [List.getElem?_range hi] at hx; exact (Option.some.inj hx).symm
        subst this
        have hib : x < kk b := by rw [← kk_same hab]; exact hi
        unfold ref10_Certifies_L4 ref10_Certifies_J5
        have hd : decide ((x : Int) < a.Inputs) = true := by rw [← hka]; simpa using hi
        rw [hd, cond_true, idx_nat, bdT hp]
        have e1 := va.edge_eq h1 hi (f := fun Row_e_e => Option.bind (r[k]?) fun r__e1 => Option.bind (idx b.Rows r__e1.e1) fun Row_e1 => Option.bind (idx Row_e1 (x : Int)) fun Row_e_e1 =>
          bif Row_e_e.Out != Row_e_e1.Out then (some (.done (.inr 0))) else (bif decide (Row_e_e.To ≥ 0) then (Option.bind (ref10_In r (Arr2.mk Row_e_e.To Row_e_e1.To)) fun r_2 => bif r_2 == 0 then (some (.done (.inr 0))) else (some (.next (w64 ((x : Int) + 1))))) else ((some (.next (w64 ((x : Int) + 1))) : Option (LR Int (Unit ⊕ Int))))))
        rw [← c0] at e1
        refine e1.trans ?_
        rw [bdT hp]
        have e2 := vb.edge_eq h2 hib (f := fun Row_e_e1 =>
          bif (E a p.e0.toNat x).Out != Row_e_e1.Out then (some (.done (.inr 0))) else (bif decide ((E a p.e0.toNat x).To ≥ 0) then (Option.bind (ref10_In r (Arr2.mk (E a p.e0.toNat x).To Row_e_e1.To)) fun r_2 => bif r_2 == 0 then (some (.done (.inr 0))) else (some (.next (w64 ((x : Int) + 1))))) else ((some (.next (w64 ((x : Int) + 1))) : Option (LR Int (Unit ⊕ Int))))))
        rw [← c1] at e2
        refine e2.trans ?_
        have ea := va.edgeAt h1 hi
        by_cases ho : (E a p.e0.toNat x).Out = (E b p.e1.toNat x).Out
        · rw [show ((E a p.e0.toNat x).Out != (E b p.e1.toNat x).Out) = false by simpa using ho, cond_false]
          by_cases ht : (E a p.e0.toNat x).To ≥ 0
          · rw [decide_eq_true ht, cond_true, bdT (in_eq r _ (by omega))]
            by_cases hm : Arr2.mk (E a p.e0.toNat x).To (E b p.e1.toNat x).To ∈ r
            · have : okAt a b r p x := ⟨ho, .inr hm⟩
              rw [if_pos hm, if_pos this]
              rfl
            · have : ¬ okAt a b r p x := fun h => by
                rcases h.2 with g | g
                · omega
                · exact hm g
              rw [if_neg hm, if_neg this]
              rfl
          · have : okAt a b r p x := ⟨ho, .inl (by omega)⟩
            rw [decide_eq_false ht, cond_false, if_pos this]
            rfl
        · have : ¬ okAt a b r p x := fun h => ho h.1
          rw [show ((E a p.e0.toNat x).Out != (E b p.e1.toNat x).Out) = true by simpa using ho, cond_true, if_neg this]
          rfl
      · unfold ref10_Certifies_L4
        rw [List.length_range, hka]
        simp
    have l2 : loop (fun s => ref10_Certifies_L2 a b r s) 0 = some (oS (firstS (fun _ p => if ∀ i, i < kk a → okAt a b r p i then none else some (0 : Int)) r 0)) := by
      refine loop_list r (by omega) _ ?_ ?_
      · intro k p hp
        have hk := (List.getElem?_eq_some_iff.1 hp).1
        unfold ref10_Certifies_L2 ref10_Certifies_J3
        have hd : decide ((k : Int) < ((r.length : Nat) : Int)) = true := by simpa using hk
        rw [hd, cond_true, bdT (l4 k p hp)]
        cases hf : firstS (fun (_ : Nat) i => if okAt a b r p i then none else some (0 : Int)) (List.range (kk a)) 0 with
        | some q =>
          obtain ⟨i, x, h1, h2⟩ := firstS_some hf
          split at h2
          · cases h2
          · rename_i hno
            cases h2
            have hx : x < kk a := by have := List.mem_of_getElem? h1; simpa using this
            rw [if_neg (fun h => hno (h x hx))]
            rfl
        | none =>
          have : ∀ i, i < kk a → okAt a b r p i := by
            intro i hi
            have := firstS_isNone hf i i (List.getElem?_range hi)
            refine Classical.byContradiction fun h => ?_
            rw [if_neg h] at this
            cases this
          rw [if_pos this]
          rfl
      · unfold ref10_Certifies_L2
        simp
    have h10 : ((1 : Int) == 0) = false := by decide
    rw [h10, cond_false, bdT l2]
    cases hf : firstS (fun (_ : Nat) p => if ∀ i, i < kk a → okAt a b r p i then none else some (0 : Int)) r 0 with
    | some q =>
      obtain ⟨i, x, h1, h2⟩ := firstS_some hf
      split at h2
      · cases h2
      · rename_i hno
        cases h2
        rw [if_neg (fun h => hno (h.2 x (List.mem_of_getElem? h1)))]
        rfl
    | none =>
      rw [if_pos]
      · rfl
      · refine ⟨h0, fun p hp => ?_⟩
        obtain ⟨i, hi⟩ := List.getElem?_of_mem hp
        have := firstS_isNone hf i p hi
        refine Classical.byContradiction fun h => ?_
        rw [if_neg h] at this
        cases this
  · rw [if_neg h0, if_neg (fun h => h0 h.1)]
    rfl
theorem cert_sound {a b : S_api_Machine} (va : VM a) (vb : VM b) (hab : a.Inputs = b.Inputs) {r : List (Arr2 Int)} (h : Cert a b r) : (∀ u q, PathR (kk a) (badP a b) (nxP a b) (0, 0) u q → pA q ∈ r) ∧ ∀ u, ¬ TellR (kk a) (badP a b) (nxP a b) (0, 0) u := by
  have h1 : ∀ u q, PathR (kk a) (badP a b) (nxP a b) (0, 0) u q → pA q ∈ r := by
    intro u
    induction u with
    | nil =>
      intro q hq
      simp only [PathR] at hq
      subst hq
      exact h.1
    | cons i u ih =>
      rintro q ⟨p, hp, hi, hb, hn⟩
      have := h.2 _ (ih p hp) i hi
      unfold okAt pA at this
      simp only [Int.toNat_natCast] at this
      unfold nxP at hn
      split at hn
      · rename_i hc
        cases hn
        rcases this.2 with g | g
        · omega
        · unfold pA
          simp only
          have e1 : (((E a p.1 i).To.toNat : Nat) : Int) = (E a p.1 i).To := by omega
          have e2 : (((E b p.2 i).To.toNat : Nat) : Int) = (E b p.2 i).To := by omega
          rw [e1, e2]
          exact g
      · cases hn
  refine ⟨h1, fun u hu => ?_⟩
  cases u with
  | nil => exact hu
  | cons i u =>
    obtain ⟨p, hp, hi, hb⟩ := hu
    have := h.2 _ (h1 u p hp) i hi
    unfold okAt pA at this
    simp only [Int.toNat_natCast] at this
    unfold badP at hb
    simp [this.1] at hb
theorem reach_cert {a b : S_api_Machine} (va : VM a) (vb : VM b) (hab : a.Inputs = b.Inputs) {r : List (Arr2 Int)} (hno : ∀ u, ¬ TellR (kk a) (badP a b) (nxP a b) (0, 0) u) (hr : ∀ p, p ∈ r → InAB a b p) (hall : ∀ u q, PathR (kk a) (badP a b) (nxP a b) (0, 0) u q → pA q ∈ r)
    (p : Arr2 Int) (hp : ∃ u q, PathR (kk a) (badP a b) (nxP a b) (0, 0) u q ∧ p = pA q) (i : Nat) (hi : i < kk a) : okAt a b r p i := by
  obtain ⟨u, q, hu, rfl⟩ := hp
  have hin := (path_rsp va vb hab u q hu).2.2.2.1
  have hb : badP a b q i = false := by
    cases hb : badP a b q i with
    | false => rfl
    | true => exact (hno (i :: u) ⟨q, hu, hi, hb⟩).elim
  unfold okAt
  simp only [pA, Int.toNat_natCast]
  refine ⟨by simpa [badP] using hb, ?_⟩
  rcases same_out va vb hab hin.1 hin.2 hi hb with ⟨t1, _, _⟩ | ⟨t1, t2, _, _, t5⟩
  · exact .inl t1
  · refine .inr ?_
    have := hall (i :: u) _ ⟨q, hu, hi, hb, t5⟩
    unfold pA at this
    simp only at this
    have e1 : (((E a q.1 i).To.toNat : Nat) : Int) = (E a q.1 i).To := by omega
    have e2 : (((E b q.2 i).To.toNat : Nat) : Int) = (E b q.2 i).To := by omega
    rw [e1, e2] at this
    exact this
end Go.Own

namespace Go.Own
set_option linter.unusedVariables false
set_option linter.unusedSimpArgs false
theorem bfs_all {a b : S_api_Machine} {L : LL} (h : Bfs (kk a) (badP a b) (nxP a b) (0, 0) L L.length 0) {u : List Nat} {q : Nat × Nat} (hu : PathR (kk a) (badP a b) (nxP a b) (0, 0) u q) : ∃ c ∈ L, c.1 = q := by
  obtain ⟨j, c, h1, h2, _⟩ := h.reach u q hu fun c hc => by have := (List.getElem?_eq_some_iff.1 hc).1; omega
  exact ⟨c, List.mem_of_getElem? h1, h2⟩
open Classical in
theorem rel_J2 {a b : S_api_Machine} (va : VM a) (vb : VM b) (hab : a.Inputs = b.Inputs) (more : List (Arr2 Int)) (r1 : List (Arr2 Int) × Bool × Int) (all : List (Arr2 Int)) (hall : ∀ p ∈ all, InAB a b p) (hlen : all.length ≤ 4096)
    (hml : more.length ≤ 1000000) (his : r1.2.1 = true → (∀ u, ¬ TellR (kk a) (badP a b) (nxP a b) (0, 0) u) ∧ (∀ p ∈ r1.1, ∃ u q, PathR (kk a) (badP a b) (nxP a b) (0, 0) u q ∧ p = pA q) ∧ r1.1.length ≤ 4096) (hnot : r1.2.1 = false → ∃ u, TellR (kk a) (badP a b) (nxP a b) (0, 0) u) :
    law10_EqualsRelate_J2 more (a, b) r1 all = some true := by
  have hb := both_of va vb hab
  have relE0 : ∀ l : List (Arr2 Int), (∀ p ∈ l, InAB a b p) → l.length ≤ 4096 → relE a b l = 0 := by
    intro l h1 h2
    unfold relE
    rw [if_neg (by simpa using hb), if_neg (by omega), if_pos h1]
  obtain ⟨⟨yes, e⟩, hc, h1, h2⟩ := rel_ret a b all
  simp only at h1 h2
  rw [relE0 all hall hlen] at h1
  subst h1
  unfold law10_EqualsRelate_J2
  simp only
  rw [bdT hc, bdT (cert_eq va vb hab all hlen hall)]
  simp only [bne_self_eq_false, cond_false]
  have hy : (yes == ((if Cert a b all then (1 : Int) else 0) == 1)) = true := by
    by_cases hct : Cert a b all
    · have : yes = true := h2.2 ⟨relE0 all hall hlen, hct⟩
      rw [if_pos hct, this]
      rfl
    · have : yes = false := by
        cases yes with
        | false => rfl
        | true => exact (hct (h2.1 rfl).2).elim
      rw [if_neg hct, this]
      rfl
  rw [hy, Bool.not_true, cond_false]
  have j3 : law10_EqualsRelate_J3 more (a, b) r1 all = some true := by
    unfold law10_EqualsRelate_J3 law10_EqualsRelate_J4
    cases hi : r1.2.1 with
    | false => simp [lives10]
    | true =>
      obtain ⟨hno, hreach, hrl⟩ := his hi
      rw [cond_true]
      by_cases hl : r1.1.length = 0
      · have : decide (((r1.1.length : Nat) : Int) > 0) = false := by simp [hl]
        rw [this, cond_false, lives10]
        rfl
      · have : decide (((r1.1.length : Nat) : Int) > 0) = true := by simp; omega
        rw [this, cond_true, gdT (by omega)]
        have hm0 := Int.tmod_nonneg (a := ((more.length : Nat) : Int)) ((r1.1.length : Nat) : Int) (by omega)
        have hm1 := Int.tmod_lt_of_pos ((more.length : Nat) : Int) (show (0 : Int) < ((r1.1.length : Nat) : Int) by omega)
        obtain ⟨n, hn⟩ := Int.eq_ofNat_of_zero_le hm0
        have hnl : n < r1.1.length := by omega
        have hx : r1.1[n]? = some r1.1[n] := List.getElem?_eq_getElem hnl
        have hloop : loop (fun s => law10_EqualsRelate_L6 more r1 all s.1 s.2) (([] : List (Arr2 Int)), 0) = some (all.filter fun p => p ≠ r1.1[n]) := by
          refine Ret.eq (ret_loop (fun s => ∃ k : Nat, s.2 = (k : Int) ∧ k ≤ all.length ∧ s.1 = (all.take k).filter fun p => p ≠ r1.1[n]) (fun s => 5000 - s.2.toNat) ⟨0, rfl, Nat.zero_le _, rfl⟩ (by simp) ?_)
          rintro ⟨less, k'⟩ ⟨k, hk, hkl, hle⟩
          simp only at hk hle
          subst hk hle
          unfold law10_EqualsRelate_L6 law10_EqualsRelate_J7
          rw [ret_bif]
          refine ⟨fun hlt => ?_, fun hge => ?_⟩
          · have hlt : k < all.length := by simpa using hlt
            have hxk : all[k]? = some all[k] := List.getElem?_eq_getElem hlt
            have hw : w64 ((k : Int) + 1) = ((k + 1 : Nat) : Int) := by rw [w64_in (by omega) (by omega)]; rfl
            have tk : all.take (k + 1) = all.take k ++ [all[k]] := by rw [List.take_add_one, hxk]; rfl
            have hfl : ((all.take k).filter fun p => p ≠ r1.1[n]).length ≤ k := Nat.le_trans (List.length_filter_le _ _) (by simp; omega)
            rw [idx_nat, bdT hxk, hn, idx_nat, bdT hx, arr_beq, hw, bdT hxk]
            by_cases e : all[k] = r1.1[n]
            · rw [decide_eq_true e, Bool.not_true, cond_false, ret_some]
              refine ⟨⟨k + 1, rfl, hlt, ?_⟩, by simp only; omega⟩
              simp only
              rw [tk, List.filter_append]
              simp [e]
            · rw [decide_eq_false e, Bool.not_false, cond_true, gdT (by simp only [List.length_cons, List.length_nil]; omega), ret_some]
              refine ⟨⟨k + 1, rfl, hlt, ?_⟩, by simp only; omega⟩
              simp only
              rw [tk, List.filter_append]
              congr 1
              simp [e]
          · have : k = all.length := by simp at hge; omega
            subst this
            rw [ret_some, List.take_length]
            rfl
        rw [bdT hloop]
        unfold law10_EqualsRelate_J5 law10_EqualsRelate_J4
        have hin : ∀ p ∈ all.filter (fun p => p ≠ r1.1[n]), InAB a b p := fun p hp => hall p (List.mem_filter.1 hp).1
        have hl2 : (all.filter fun p => p ≠ r1.1[n]).length ≤ 4096 := Nat.le_trans (List.length_filter_le _ _) hlen
        obtain ⟨⟨no, e⟩, hc', g1, g2⟩ := rel_ret a b (all.filter fun p => p ≠ r1.1[n])
        simp only at g1 g2
        rw [relE0 _ hin hl2] at g1
        subst g1
        have hno' : no = false := by
          cases no with
          | false => rfl
          | true =>
            have := cert_sound va vb hab (g2.1 rfl).2
            obtain ⟨u, q, hu, hq⟩ := hreach _ (List.mem_of_getElem? hx)
            have := this.1 u q hu
            rw [← hq] at this
            simp at this
        simp only
        rw [bdT hc']
        simp only [hno', cond_false, bne_self_eq_false, lives10, Option.bind_some]
  cases yes with
  | false => rw [cond_false]; exact j3
  | true =>
    have hi : r1.2.1 = true := by
      cases hi : r1.2.1 with
      | true => rfl
      | false =>
        obtain ⟨u, hu⟩ := hnot hi
        exact ((cert_sound va vb hab (h2.1 rfl).2).2 u hu).elim
    rw [cond_true, hi, Bool.not_true, cond_false]
    exact j3
theorem relate_true (x : S_law10_D) (hx : DOk x) (more : List (Arr2 Int)) (hmore : ∀ p ∈ more, (0 ≤ p.e0 ∧ p.e0 ≤ 255) ∧ 0 ≤ p.e1 ∧ p.e1 ≤ 255) : law10_EqualsRelate x more = some true := by
  unfold law10_EqualsRelate
  by_cases hml : more.length > 40
  · rw [decide_eq_true (by omega)]
    rfl
  rw [decide_eq_false (by omega), cond_false]
  obtain ⟨⟨a, b⟩, ed, va, vb, hab, la, lb⟩ := d_of hx
  simp only at va vb hab la lb
  have hb : bothS a b = 0 := both_of va vb hab
  rw [bdT ed]
  simp only
  obtain ⟨⟨r, is, e⟩, er, he, hR⟩ := Relate_ret hb
  simp only at he hR
  subst he
  obtain ⟨⟨w', there⟩, ew, hw⟩ := refd_ret va vb hab
  rw [bdT er, bdT ew]
  simp only [bne_self_eq_false, cond_false]
  have la1 := va.len1; have lb1 := vb.len1
  have j1 : ∀ all : List (Arr2 Int), (∀ p ∈ all, InAB a b p) → all.length ≤ 1000 → (is = true → (∀ u, ¬ TellR (kk a) (badP a b) (nxP a b) (0, 0) u) ∧ (∀ p ∈ r, ∃ u q, PathR (kk a) (badP a b) (nxP a b) (0, 0) u q ∧ p = pA q) ∧ r.length ≤ 4096) → (is = false → ∃ u, TellR (kk a) (badP a b) (nxP a b) (0, 0) u) → law10_EqualsRelate_J1 more (a, b) (r, is, 0) all = some true := by
    intro all hall hl h1 h2
    have hloop : Ret (loop (fun s => law10_EqualsRelate_L8 more (a, b) s.1 s.2) (all, 0)) fun t => (∀ p ∈ t, InAB a b p) ∧ t.length ≤ 4096 := by
      refine ret_loop (fun s => ∃ k : Nat, s.2 = (k : Int) ∧ k ≤ more.length ∧ (∀ p ∈ s.1, InAB a b p) ∧ s.1.length ≤ 1000 + k) (fun s => 5000 - s.2.toNat) ⟨0, rfl, Nat.zero_le _, hall, by simpa using hl⟩ (by simp) ?_
      rintro ⟨t, k'⟩ ⟨k, hk, hkl, ht, htl⟩
      simp only at hk ht htl
      subst hk
      unfold law10_EqualsRelate_L8
      rw [ret_bif]
      refine ⟨fun hlt => ?_, fun hge => ?_⟩
      · have hlt : k < more.length := by simpa using hlt
        have hxk : more[k]? = some more[k] := List.getElem?_eq_getElem hlt
        have hw : w64 ((k : Int) + 1) = ((k + 1 : Nat) : Int) := by rw [w64_in (by omega) (by omega)]; rfl
        have hm := hmore _ (List.getElem_mem hlt)
        have w0 : w64 more[k].e0 = more[k].e0 := w64_in (by omega) (by omega)
        have w1 : w64 more[k].e1 = more[k].e1 := w64_in (by omega) (by omega)
        simp only
        rw [idx_nat, bdT hxk, gdT (by omega), bdT hxk, gdT (by omega), gdT (by simp only [List.length_cons, List.length_nil]; omega), ret_some, hw, w0, w1]
        refine ⟨⟨k + 1, rfl, hlt, fun p hp => ?_, by simp only [List.length_append, List.length_cons, List.length_nil]; omega⟩, by simp only; omega⟩
        rcases List.mem_append.1 hp with g | g
        · exact ht p g
        · rw [List.mem_singleton.1 g]
          exact ⟨Int.tmod_nonneg _ hm.1.1, Int.tmod_nonneg _ hm.2.1, Int.tmod_lt_of_pos _ (by omega), Int.tmod_lt_of_pos _ (by omega)⟩
      · rw [ret_some]
        exact ⟨ht, by simp only; omega⟩
    obtain ⟨t, et, ht1, ht2⟩ := hloop
    unfold law10_EqualsRelate_J1
    rw [bdT et]
    exact rel_J2 va vb hab more (r, is, 0) t ht1 ht2 (by omega) h1 h2
  rcases hR with ⟨⟨u, hu⟩, rfl, rfl⟩ | ⟨L, hB, hN, hr, rfl⟩
  ·
    have hth : there = true := by
      rcases hw with ⟨_, _, _, _, _, _, q⟩ | ⟨m1, _⟩
      · cases q; rfl
      · exact (m1 _ (tell_mk (tell_fwd hu))).elim
    subst hth
    simp only [List.length_nil]
    exact j1 [] (by simp) (by simp) (fun h => by cases h) (fun _ => ⟨u, hu⟩)
  · have hno := bfs_none hB
    have hth : there = false := by
      rcases hw with ⟨n, w, m1, _⟩ | ⟨_, q⟩
      · obtain ⟨v, hv, _⟩ := Mk.tell m1
        exact (hno _ (tell_rev hv)).elim
      · cases q; rfl
    subst hth
    have hLl : L.length ≤ a.Rows.length * b.Rows.length := by
      have := nodup_bound (a.Rows.length * b.Rows.length) (L.map fun x => x.1.1 * b.Rows.length + x.1.2) ?_ ?_
      · simpa using this
      · have e : (L.map fun x => x.1.1 * b.Rows.length + x.1.2) = (L.map (·.1)).map fun q => q.1 * b.Rows.length + q.2 := by rw [List.map_map]; rfl
        rw [e]
        refine List.Pairwise.map _ ?_ (List.Pairwise.and_mem.1 hN.1)
        rintro p q ⟨hp, hq, hne⟩ e
        apply hne
        obtain ⟨x, hx, rfl⟩ := List.mem_map.1 hp
        obtain ⟨y, hy, rfl⟩ := List.mem_map.1 hq
        have h1 := (hN.2 x hx).2
        have h2 := (hN.2 y hy).2
        have d1 : (x.1.1 * b.Rows.length + x.1.2) / b.Rows.length = x.1.1 := by rw [Nat.mul_comm, Nat.mul_add_div (by omega), Nat.div_eq_of_lt h1, Nat.add_zero]
        have d2 : (y.1.1 * b.Rows.length + y.1.2) / b.Rows.length = y.1.1 := by rw [Nat.mul_comm, Nat.mul_add_div (by omega), Nat.div_eq_of_lt h2, Nat.add_zero]
        have e1 : x.1.1 = y.1.1 := by rw [← d1, e, d2]
        rw [e1] at e
        exact Prod.ext e1 (by omega)
      · intro z hz
        obtain ⟨y, hy, rfl⟩ := List.mem_map.1 hz
        have := hN.2 y hy
        have h3 : (y.1.1 + 1) * b.Rows.length ≤ a.Rows.length * b.Rows.length := Nat.mul_le_mul_right _ this.1
        rw [Nat.succ_mul] at h3
        omega
    have h36 : a.Rows.length * b.Rows.length ≤ 36 := Nat.mul_le_mul la lb
    have hnl : (nodesA L).length = L.length := by simp [nodesA]
    have hperm := isort_perm pc (nodesA L)
    have hmem : ∀ p, p ∈ r ↔ p ∈ nodesA L := fun p => by rw [hr]; exact hperm.mem_iff
    have hrl : r.length = L.length := by rw [hr, hperm.length_eq, hnl]
    have hreach : ∀ p ∈ r, ∃ u q, PathR (kk a) (badP a b) (nxP a b) (0, 0) u q ∧ p = pA q := by
      intro p hp
      obtain ⟨c, hc, rfl⟩ := List.mem_map.1 ((hmem p).1 hp)
      exact ⟨c.2, c.1, hB.path c hc, rfl⟩
    have hall : ∀ u q, PathR (kk a) (badP a b) (nxP a b) (0, 0) u q → pA q ∈ r := by
      intro u q hu
      exact (hmem _).2 (mem_nodes.2 (bfs_all hB hu))
    have hrin : ∀ p ∈ r, InAB a b p := by
      intro p hp
      obtain ⟨u, q, hu, rfl⟩ := hreach p hp
      have hin := (path_rsp va vb hab u q hu).2.2.2.1
      exact ⟨by simp [pA], by simp [pA], by simp only [pA]; have := hin.1; omega, by simp only [pA]; have := hin.2; omega⟩
    obtain ⟨pr, ep, f, rfl, hsnd, hcpl⟩ := pairs_ret va vb hab hno
    have hpr : r = pairsOf a.Rows.length b.Rows.length f := by
      refine sorted_ext (lt := fun x y => pc x y < 0) (fun z => by rw [pc_lt]; omega) (fun y z h => by rw [pc_lt] at *; omega) ?_ (pairsOf_sorted _ _ f) ?_
      · have hs := isort_sorted (pc_ok (nodesA L)) (l := nodesA L) (fun _ h => h)
        have hd : (isort pc (nodesA L)).Nodup := hperm.nodup_iff.2 (by
          unfold nodesA
          have : (L.map fun x => pA x.1) = (L.map (·.1)).map pA := by rw [List.map_map]; rfl
          rw [this]
          exact List.Pairwise.map _ (fun p q h e => h (pA_inj e)) hN.1)
        rw [hr]
        refine List.Pairwise.imp ?_ (List.pairwise_and_iff.2 ⟨hs, hd⟩)
        rintro y z ⟨h1, h2⟩
        rw [pc_lt] at *
        refine Classical.byContradiction fun h3 => h2 ?_
        obtain ⟨y0, y1⟩ := y
        obtain ⟨z0, z1⟩ := z
        simp only at h1 h3
        simp only [Arr2.mk.injEq]
        omega
      · intro p
        rw [hmem, mem_pairsOf]
        constructor
        · intro hp
          obtain ⟨c, hc, rfl⟩ := List.mem_map.1 hp
          obtain ⟨j, hj⟩ := List.getElem?_of_mem hc
          have hjl := (List.getElem?_eq_some_iff.1 hj).1
          have hin := hN.2 c hc
          exact ⟨c.1.1, c.1.2, hin.1, hin.2, hcpl c.2 c.1 (hB.path c hc) (by have := hB.short j c hj; omega), rfl⟩
        · rintro ⟨s, t, hs, ht, hf, rfl⟩
          obtain ⟨u, hu⟩ := hsnd s t hs ht hf
          exact mem_nodes.2 (bfs_all hB hu)
    rw [show (true == false) = false from rfl, cond_false, cond_true, bdT ep, bdT (pairs_eq r _ (by omega) hpr), Bool.not_true, cond_false]
    have hcert : Cert a b r := ⟨hall [] (0, 0) rfl, fun p hp i hi => reach_cert va vb hab hno hrin hall p (hreach p hp) i hi⟩
    obtain ⟨⟨yes, e⟩, hc, g1, g2⟩ := rel_ret a b r
    simp only at g1 g2
    have hrelE : relE a b r = 0 := by unfold relE; rw [if_neg (by simpa using hb), if_neg (by omega), if_pos hrin]
    rw [hrelE] at g1
    subst g1
    have hy : yes = true := g2.2 ⟨hrelE, hcert⟩
    subst hy
    rw [bdT hc, Bool.not_true, cond_false]
    simp only [bne_self_eq_false, cond_false]
    rw [gdT (by simp only [List.length_nil]; omega)]
    exact j1 r hrin (by omega) (fun _ => ⟨hno, hreach, by omega⟩) (fun h => by cases h)
end Go.Own

namespace Go.Own
def Ok5 (a : Int) : Prop := (0) ≤ a ∧ a ≤ 255
def Ok4 (_ : Bool) : Prop := True
def Ok102 (a : Int) : Prop := (0) ≤ a ∧ a ≤ 65535
def Ok22 (l : List Int) : Prop := ∀ a ∈ l, Ok102 a
def Ok24 (a : S_law04_M) : Prop := Ok5 a.States ∧ Ok5 a.Inputs ∧ Ok5 a.Outputs ∧ Ok4 a.Partial ∧ Ok22 a.Edges
def Ok65 (a : Arr2 Int) : Prop := Ok5 a.e0 ∧ Ok5 a.e1
def Ok3 (a : Int) : Prop := (-9223372036854775808) ≤ a ∧ a ≤ 9223372036854775807
def Ok67 (a : S_api_Edge) : Prop := Ok3 a.To ∧ Ok3 a.Out
def Ok69 (a : S_law10_D) : Prop := Ok24 a.M ∧ Ok24 a.X ∧ Ok4 a.Alike ∧ Ok65 a.Swap ∧ Ok65 a.Place ∧ Ok67 a.To
def Ok88 (l : List (Arr2 Int)) : Prop := ∀ a ∈ l, Ok65 a
end Go.Own

namespace Go.Own
theorem law_true {x : S_law10_D} {r : List (Arr2 Int)} (hx : Ok69 x) (hr : ∀ a ∈ r, (0 ≤ a.e0 ∧ a.e0 ≤ 255) ∧ (0 ≤ a.e1 ∧ a.e1 ≤ 255)) : law10_EqualsRelate x r = some true := by
  obtain ⟨hm, hx2, _, hs, hp, _⟩ := hx
  exact relate_true x ⟨⟨hm.1.1, hm.2.1.1, hm.2.2.1.1, fun v hv => hm.2.2.2.2 v hv⟩, ⟨hx2.1.1, hx2.2.1.1, hx2.2.2.1.1, fun v hv => hx2.2.2.2.2 v hv⟩, hs.1, hs.2, hp.1, hp.2⟩ r fun p hp => hr p hp
end Go.Own

namespace Go.Own
def allS (w : World) : Still := fun b o => cellAt w.heap b o
theorem cell_at {w : World} {a : Addr} {v : Value} (h : w.cell? a = some v) : a.spot = none ∧ cellAt w.heap a.block a.off = some v := by
  unfold World.cell? at h
  unfold cellAt
  split at h
  · rename_i c ty fr he
    rw [he]
    split at h
    · cases h
    · rename_i hs
      exact ⟨by simpa using hs, h⟩
  · cases h
section
variable {H : Type} {enc : TypeId × Value → H} {P : Program} {w : World} {base : Nat} {spare : Nat → Bool} {held : Bool}
theorem cells_lie {a : Addr} {n : Nat} {cs : List Value} (h : w.cells? base a n = some cs) (hn : 0 < n) : a.spot = none ∧ cs.length = n ∧ Lies (allS w) a.block a.off cs := by
  obtain ⟨_, h2, h3⟩ := World.cells?_some h
  have h0 : a.spot = none := by
    have h4 := h3 0 hn
    cases hc : cs[0]? with
    | none => rw [List.getElem?_eq_none_iff] at hc; omega
    | some v =>
      rw [hc] at h4
      have := (cell_at h4).1
      simpa [Addr.add] using this
  refine ⟨h0, h2, fun j v hj => ?_⟩
  have hlt := (List.getElem?_eq_some_iff.1 hj).1
  have h4 := h3 j (by omega)
  rw [hj] at h4
  have q := (cell_at h4).2
  unfold Addr.add at q
  split at q
  · rename_i e; subst e; exact q
  · exact q
theorem reps_snoc {S : Still} : ∀ {bs : List A} {cs : List Value} {a : A} {c : List Value}, Reps S bs cs → Rep S a c → Reps S (bs ++ [a]) (cs ++ c)
  | [], cs, a, c, h1, h2 => by
    simp only [Reps] at h1
    subst h1
    simp only [List.nil_append, Reps]
    exact ⟨c, [], by simp, h2, rfl⟩
  | x :: bs, cs, a, c, h1, h2 => by
    simp only [Reps] at h1
    obtain ⟨c1, c2, rfl, r1, r2⟩ := h1
    simp only [List.cons_append, Reps]
    exact ⟨c1, c2 ++ c, by simp, r1, reps_snoc r2 h2⟩
theorem lies_app {S : Still} {b o : Nat} {c1 c2 : List Value} (h1 : Lies S b o c1) (h2 : Lies S b (o + c1.length) c2) : Lies S b o (c1 ++ c2) := by
  intro j v hj
  rcases Nat.lt_or_ge j c1.length with q | q
  · rw [List.getElem?_append_left q] at hj
    exact h1 j v hj
  · rw [List.getElem?_append_right q] at hj
    have := h2 _ _ hj
    rwa [show o + c1.length + (j - c1.length) = o + j by omega] at this
theorem slice_rep {α : Type} {t e sz : Nat} (f : α → A) (ok : α → Prop) (ht : P.underlying t = some (.slice e)) (hsz : P.cellsOf e = sz) (h0 : 0 < sz) (hf : ∀ a, (f a).size = sz)
    (hel : ∀ n cs x, DataW.trod enc P w base spare held n e cs = some x → ∃ a, ok a ∧ Rep (allS w) (f a) cs)
    {fuel : Nat} {cs : List Value} {x : DataW H × List MemPlace} (h : DataW.trod enc P w base spare held fuel t cs = some x) : ∃ l : List α, (∀ a ∈ l, ok a) ∧ Rep (allS w) (.sl sz false (l.map f)) cs := by
  rcases DataW.trod_slice ht h with ⟨rfl, _⟩ | ⟨a, len, cap, elems, rest, n, _, rfl, _, _, hlc, _, hlen, hall, _, _⟩
  · refine ⟨[], by simp, ?_⟩
    simp only [Rep, List.map_nil, List.length_nil]
    exact ⟨none, 0, rfl, by simp, Nat.le_refl _, by simp, .inl trivial⟩
  · have key : ∀ k, k ≤ len → ∃ (l : List α) (cells : List Value), l.length = k ∧ (∀ a ∈ l, ok a) ∧ Reps (allS w) (l.map f) cells ∧ cells.length = k * sz ∧ (0 < k → a.spot = none) ∧ Lies (allS w) a.block a.off cells := by
      intro k
      induction k with
      | zero => intro _; exact ⟨[], [], rfl, by simp, by simp [Reps], by simp, by simp, fun j v h => by simp at h⟩
      | succ k ih =>
        intro hk
        obtain ⟨l, cells, q1, q2, q3, q4, q5, q6⟩ := ih (by omega)
        have hk' := hall k (by omega)
        have hsome : elems[k]? = some elems[k] := List.getElem?_eq_getElem (by omega)
        rw [hsome, Option.bind_eq_some_iff, hsz] at hk'
        obtain ⟨c, hc, htr⟩ := hk'
        obtain ⟨y, hy, hr⟩ := hel _ _ _ htr
        obtain ⟨g1, g2, g3⟩ := cells_lie hc h0
        refine ⟨l ++ [y], cells ++ c, by simp [q1], ?_, ?_, ?_, ?_, ?_⟩
        · intro z hz
          rcases List.mem_append.1 hz with q | q
          · exact q2 z q
          · simp only [List.mem_cons, List.not_mem_nil, or_false] at q; subst q; exact hy
        · rw [List.map_append]; exact reps_snoc q3 hr
        · rw [List.length_append, q4, g2, Nat.succ_mul]
        · intro _
          rcases Nat.eq_zero_or_pos k with rfl | hk0
          · simpa [Addr.add] using g1
          · exact q5 hk0
        · refine lies_app q6 ?_
          rw [q4]
          unfold Addr.add at g3
          split at g3
          · rename_i e0
            rw [e0, Nat.add_zero]
            exact g3
          · exact g3
    obtain ⟨l, cells, q1, q2, q3, q4, q5, q6⟩ := key len (Nat.le_refl _)
    refine ⟨l, q2, ?_⟩
    simp only [Rep, List.length_map]
    refine ⟨some a, cap, by rw [q1], by simp, by omega, ?_, ?_⟩
    · intro y hy
      obtain ⟨z, _, rfl⟩ := List.mem_map.1 hy
      exact hf z
    · rcases Nat.eq_zero_or_pos len with rfl | hl
      · left; rw [List.length_eq_zero_iff.1 q1]; rfl
      · right
        refine ⟨a.block, a.off, cells, ?_, q3, q6⟩
        have := q5 hl
        obtain ⟨b, o, s⟩ := a
        simp only at this
        subst this
        rfl
theorem int_rep {t : Nat} {k : IntKind} {lo hi : Int} (ht : P.underlying t = some (.int k)) (hlo : k.min = lo) (hhi : k.max = hi) {fuel : Nat} {cs : List Value} {x : DataW H × List MemPlace} (h : DataW.trod enc P w base spare held fuel t cs = some x) :
    ∃ n : Int, (lo ≤ n ∧ n ≤ hi) ∧ cs = [.int k n] ∧ Rep (allS w) (.atom (.int k n)) cs := by
  obtain ⟨n, rfl, _, hw⟩ := DataW.trod_int ht h
  simp only [Lit.wf, Bool.and_eq_true, decide_eq_true_eq, hlo, hhi] at hw
  exact ⟨n, hw, rfl, by simp only [Rep]; exact ⟨trivial, rfl⟩⟩
theorem bool_rep {t : Nat} (ht : P.underlying t = some .bool) {fuel : Nat} {cs : List Value} {x : DataW H × List MemPlace} (h : DataW.trod enc P w base spare held fuel t cs = some x) :
    ∃ b : Bool, Rep (allS w) (.atom (.bool b)) cs := by
  obtain ⟨b, rfl, _⟩ := DataW.trod_bool ht h
  exact ⟨b, by simp only [Rep]; exact ⟨trivial, rfl⟩⟩
theorem struct_fields {t : Nat} {fs : List Field} (ht : P.underlying t = some (.struct ⟨fs⟩)) {fuel : Nat} {cs : List Value} {x : DataW H × List MemPlace} (h : DataW.trod enc P w base spare held fuel t cs = some x) :
    cs.length = P.cellsOf t ∧ ∀ (i : Nat) (f : Field), fs[i]? = some f → ∃ n y, DataW.trod enc P w base spare held n f.type ((cs.drop f.offset).take (P.cellsOf f.type)) = some y := by
  obtain ⟨xs, n, _, _, hl, hxl, hall⟩ := DataW.trod_struct ht h
  refine ⟨hl, fun i f hf => ?_⟩
  have hlt := (List.getElem?_eq_some_iff.1 hf).1
  have := hall i f (by simpa using hf)
  rw [List.getElem?_eq_getElem (by rw [hxl]; simpa using hlt)] at this
  exact ⟨n, _, this⟩
end
theorem reps_take {S : Still} {a : A} {bs : List A} {cs : List Value} {n : Nat} (h1 : Rep S a (cs.take n)) (h2 : Reps S bs (cs.drop n)) : Reps S (a :: bs) cs := by
  simp only [Reps]
  exact ⟨cs.take n, cs.drop n, (List.take_append_drop n cs).symm, h1, h2⟩
end Go.Own

namespace Go.Own
set_option linter.unusedVariables false
section
open Go Go.ChangeShapes Go.WideShapes Go.ChangeAt Go.RowKit
theorem post_kept {P : Program} {H : Type} {enc : TypeId × Value → H} {f : Func} {s : ChangeSpec} {apart fresh handsOn again : Bool} {W W' : World} {args : Array Value} {v : Value} {ds : List (DataW H)} {pa : List MemPlace}
    (hvar : s.vars = []) (hvars2 : (s.fn H (ds ++ [])).vars = []) (hW : DataW.Whole enc P f.params.toList s.vars apart W args.toList ds [] (pa ++ [])) (hb : Below W.heap.size W W')
    (hres : ∀ (b : Nat) (sp : Nat → Bool) (hd : Bool), DataW.TrodAll enc P W' b sp hd f.resultTypes.toList (v.resultList f.resultTypes.size) (s.fn H (ds ++ [])).results [])
    (hargs : ∀ sp : Nat → Bool, (∀ p ∈ pa ++ [], sp p.block = true) → DataW.TrodAll enc P W' 0 sp true f.params.toList args.toList (s.fn H (ds ++ [])).args pa)
    (hok : ∀ (j : Nat) (t : TypeId) (r : Value), f.resultTypes[j]? = some t → (v.resultList f.resultTypes.size)[j]? = some r → Value.okWide P W' .any 0 t r) :
    s.post enc P f apart fresh handsOn again W args v W' := by
  have hlt : ∀ p ∈ pa ++ [], p.block < W.heap.size := fun p hp => by simpa using hW.lt p hp
  have hvr : ∀ sp : Nat → Bool, DataW.TrodVars enc P W' sp s.vars (s.fn H (ds ++ [])).vars [] := fun sp => by rw [hvar, hvars2]; rfl
  refine ⟨ds, [], pa ++ [], [], pa, [], hW, hres _ _ _, hargs _ (fun p hp => by simpa using hlt p hp), hvr _, World.keptBut_mono (fun _ q => q.elim) (hb.frame fun _ => False), fun _ => ?_⟩
  obtain ⟨_, _, _, _, _, hz, hn⟩ := hW
  refine ⟨hok, _, _, ([] ++ pa) ++ [], ⟨[] ++ pa, [], trodAll_append (hargs _ (fun _ _ => rfl)) (hres _ _ _), hvr _, rfl, ?_, ?_⟩, ?_⟩
  · intro b off hp
    have hp' : MemPlace.cell b off ∈ pa ++ [] := by simpa using hp
    rw [hb.frozen (p := ⟨b, off, none⟩) (hlt _ hp')]
    exact hz b off hp'
  · intro ha
    simpa using hn ha
  · intro p hp _
    simpa using hp
end
theorem spF_call {P : Program} {k : Nat} {α ρ : Type} {enc : α → List A} {encR : ρ → A} {F : α → Option ρ} {gives : List Bool} {inj : ∀ x y, enc x = enc y → x = y} (h : (spF k enc encR F gives inj).Ok P) {x : α} {r : ρ} (hr : F x = some r) : CallOk P k (enc x) (encR r) := by
  have := h x ⟨r, hr⟩
  simpa only [spF, hr] using this
section
variable {P : Program} {w : World} {r : Reach} {base t : Nat} {v : Value}
theorem val_plain (h : ∀ cs, v ≠ .agg cs) : v = v.cells.toList.headD undef := by
  cases v <;> first | rfl | exact (h _ rfl).elim
theorem val_slice {e : TypeId} (hu : P.underlying t = some (.slice e)) (h : Value.okWide P w r base t v) : v = v.cells.toList.headD undef := by
  refine val_plain fun cs e => ?_
  subst e
  unfold Value.okWide at h
  rw [hu] at h
  simp only [Cell.okWide, hu, Cell.ok] at h
theorem val_struct {fs : Array Field} (hu : P.underlying t = some (.struct fs)) (h : Value.okWide P w r base t v) : v = .agg v.cells.toList.toArray := by
  unfold Value.okWide at h
  rw [hu] at h
  obtain ⟨cs, rfl, _⟩ := h
  rfl
theorem rep1_slice {e : TypeId} {S : Still} {a : A} (hu : P.underlying t = some (.slice e)) (hr : Rep S a v.cells.toList) (h : Value.okWide P w r base t v) (ha : a.isAgg = false) : Rep1 S a v := ⟨_, hr, by cases a <;> first | exact val_slice hu h | cases ha⟩
theorem rep1_struct {fs : Array Field} {S : Still} {a : A} (hu : P.underlying t = some (.struct fs)) (hr : Rep S a v.cells.toList) (h : Value.okWide P w r base t v) (ha : a.isAgg = true) : Rep1 S a v := ⟨_, hr, by cases a <;> first | exact val_struct hu h | cases ha⟩
theorem has_true {S : Still} {h : Array Obj} {v : Value} {F : List Nat} (q : Has S h (.atom (.bool true)) v F) : v = .bool true := by
  rcases q with ⟨q, _⟩ | ⟨cs, q, _, rfl⟩
  · rw [(repV_atom.1 q).1]
  · simp only [Conc, Rep] at q
    obtain ⟨⟨rfl, _⟩, _⟩ := q
    rfl
end
end Go.Own

namespace Go.Own
open Go.Proofs
set_option linter.unusedVariables false
section
variable {H : Type} {enc : TypeId × Value → H} {w : World} {base : Nat} {spare : Nat → Bool} {held : Bool}
theorem cells5 : Try.prog.cellsOf 5 = 1 := by kernel_rfl
theorem rd5 {fuel : Nat} {cs : List Value} {x : DataW H × List MemPlace} (h : DataW.trod enc Try.prog w base spare held fuel 5 cs = some x) : ∃ a : Int, Ok5 a ∧ Rep (allS w) ((eI .u8) a) cs := by
  obtain ⟨n, h1, _, h2⟩ := int_rep Try.underlying5 (lo := 0) (hi := 255) rfl rfl h
  exact ⟨n, h1, h2⟩
theorem cells4 : Try.prog.cellsOf 4 = 1 := by kernel_rfl
theorem rd4 {fuel : Nat} {cs : List Value} {x : DataW H × List MemPlace} (h : DataW.trod enc Try.prog w base spare held fuel 4 cs = some x) : ∃ a : Bool, Ok4 a ∧ Rep (allS w) (eB a) cs := by
  obtain ⟨n, h2⟩ := bool_rep Try.underlying4 h
  exact ⟨n, trivial, h2⟩
theorem cells102 : Try.prog.cellsOf 102 = 1 := by kernel_rfl
theorem rd102 {fuel : Nat} {cs : List Value} {x : DataW H × List MemPlace} (h : DataW.trod enc Try.prog w base spare held fuel 102 cs = some x) : ∃ a : Int, Ok102 a ∧ Rep (allS w) ((eI .u16) a) cs := by
  obtain ⟨n, h1, _, h2⟩ := int_rep Try.underlying102 (lo := 0) (hi := 65535) rfl rfl h
  exact ⟨n, h1, h2⟩
theorem cells22 : Try.prog.cellsOf 22 = 1 := by kernel_rfl
theorem rd22 {fuel : Nat} {cs : List Value} {x : DataW H × List MemPlace} (h : DataW.trod enc Try.prog w base spare held fuel 22 cs = some x) : ∃ a : List Int, Ok22 a ∧ Rep (allS w) ((eSl 1 false (eI .u16)) a) cs := by
  exact slice_rep (eI .u16) Ok102 Try.underlying22 cells102 (by omega) (fun _ => rfl) (fun _ _ _ q => rd102 q) h
theorem cells24 : Try.prog.cellsOf 24 = 5 := by kernel_rfl
theorem rd24 {fuel : Nat} {cs : List Value} {x : DataW H × List MemPlace} (h : DataW.trod enc Try.prog w base spare held fuel 24 cs = some x) : ∃ a : S_law04_M, Ok24 a ∧ Rep (allS w) ((e_law04_M (eI .u8) (eI .u8) (eI .u8) eB (eSl 1 false (eI .u16))) a) cs := by
  obtain ⟨hl, hf⟩ := struct_fields Try.underlying24 h
  rw [cells24] at hl
  obtain ⟨_, _, q0⟩ := hf 0 _ rfl
  obtain ⟨_, _, q1⟩ := hf 1 _ rfl
  obtain ⟨_, _, q2⟩ := hf 2 _ rfl
  obtain ⟨_, _, q3⟩ := hf 3 _ rfl
  obtain ⟨_, _, q4⟩ := hf 4 _ rfl
  simp only [cells22, cells4, cells5] at q0 q1 q2 q3 q4
  obtain ⟨a0, k0, r0⟩ := rd5 q0
  obtain ⟨a1, k1, r1⟩ := rd5 q1
  obtain ⟨a2, k2, r2⟩ := rd5 q2
  obtain ⟨a3, k3, r3⟩ := rd4 q3
  obtain ⟨a4, k4, r4⟩ := rd22 q4
  refine ⟨⟨a0, a1, a2, a3, a4⟩, ⟨k0, k1, k2, k3, k4⟩, ?_⟩
  show Rep (allS w) (.agg [(eI .u8) a0, (eI .u8) a1, (eI .u8) a2, eB a3, (eSl 1 false (eI .u16)) a4]) cs
  simp only [Rep]
  refine reps_take (n := 1) (by simpa [List.drop_drop] using r0) (reps_take (n := 1) (by simpa [List.drop_drop] using r1) (reps_take (n := 1) (by simpa [List.drop_drop] using r2) (reps_take (n := 1) (by simpa [List.drop_drop] using r3) (reps_take (n := 1) (by simpa [List.drop_drop] using r4) ?_))))
  simp only [List.drop_drop, Reps]
  exact List.drop_eq_nil_of_le (by omega)
theorem cells65 : Try.prog.cellsOf 65 = 2 := by kernel_rfl
theorem rd65 {fuel : Nat} {cs : List Value} {x : DataW H × List MemPlace} (h : DataW.trod enc Try.prog w base spare held fuel 65 cs = some x) : ∃ a : Arr2 Int, Ok65 a ∧ Rep (allS w) ((eArr2 (eI .u8)) a) cs := by
  obtain ⟨xs, m, _, _, hl, hx, hall⟩ := DataW.trod_array Try.underlying65 h
  rw [cells65] at hl
  rw [cells5] at hall
  have get : ∀ i, i < 2 → ∃ n : Int, Ok5 n ∧ Rep (allS w) ((eI .u8) n) ((cs.drop (i * 1)).take 1) := by
    intro i hi
    have q := hall i hi
    rw [List.getElem?_eq_getElem (by omega)] at q
    exact rd5 q
  obtain ⟨a0, k0, r0⟩ := get 0 (by omega)
  obtain ⟨a1, k1, r1⟩ := get 1 (by omega)
  refine ⟨⟨a0, a1⟩, ⟨k0, k1⟩, ?_⟩
  show Rep (allS w) (.agg [(eI .u8) a0, (eI .u8) a1]) cs
  simp only [Rep]
  refine reps_take (n := 1) (by simpa [List.drop_drop] using r0) (reps_take (n := 1) (by simpa [List.drop_drop] using r1) ?_)
  simp only [List.drop_drop, Reps]
  exact List.drop_eq_nil_of_le (by omega)
theorem cells3 : Try.prog.cellsOf 3 = 1 := by kernel_rfl
theorem rd3 {fuel : Nat} {cs : List Value} {x : DataW H × List MemPlace} (h : DataW.trod enc Try.prog w base spare held fuel 3 cs = some x) : ∃ a : Int, Ok3 a ∧ Rep (allS w) ((eI .i64) a) cs := by
  obtain ⟨n, h1, _, h2⟩ := int_rep Try.underlying3 (lo := -9223372036854775808) (hi := 9223372036854775807) rfl rfl h
  exact ⟨n, h1, h2⟩
theorem cells67 : Try.prog.cellsOf 67 = 2 := by kernel_rfl
theorem rd67 {fuel : Nat} {cs : List Value} {x : DataW H × List MemPlace} (h : DataW.trod enc Try.prog w base spare held fuel 67 cs = some x) : ∃ a : S_api_Edge, Ok67 a ∧ Rep (allS w) ((e_api_Edge (eI .i64) (eI .i64)) a) cs := by
  obtain ⟨hl, hf⟩ := struct_fields Try.underlying67 h
  rw [cells67] at hl
  obtain ⟨_, _, q0⟩ := hf 0 _ rfl
  obtain ⟨_, _, q1⟩ := hf 1 _ rfl
  simp only [cells3] at q0 q1
  obtain ⟨a0, k0, r0⟩ := rd3 q0
  obtain ⟨a1, k1, r1⟩ := rd3 q1
  refine ⟨⟨a0, a1⟩, ⟨k0, k1⟩, ?_⟩
  show Rep (allS w) (.agg [(eI .i64) a0, (eI .i64) a1]) cs
  simp only [Rep]
  refine reps_take (n := 1) (by simpa [List.drop_drop] using r0) (reps_take (n := 1) (by simpa [List.drop_drop] using r1) ?_)
  simp only [List.drop_drop, Reps]
  exact List.drop_eq_nil_of_le (by omega)
theorem cells69 : Try.prog.cellsOf 69 = 17 := by kernel_rfl
theorem rd69 {fuel : Nat} {cs : List Value} {x : DataW H × List MemPlace} (h : DataW.trod enc Try.prog w base spare held fuel 69 cs = some x) : ∃ a : S_law10_D, Ok69 a ∧ Rep (allS w) ((e_law10_D (e_law04_M (eI .u8) (eI .u8) (eI .u8) eB (eSl 1 false (eI .u16))) (e_law04_M (eI .u8) (eI .u8) (eI .u8) eB (eSl 1 false (eI .u16))) eB (eArr2 (eI .u8)) (eArr2 (eI .u8)) (e_api_Edge (eI .i64) (eI .i64))) a) cs := by
  obtain ⟨hl, hf⟩ := struct_fields Try.underlying69 h
  rw [cells69] at hl
  obtain ⟨_, _, q0⟩ := hf 0 _ rfl
  obtain ⟨_, _, q1⟩ := hf 1 _ rfl
  obtain ⟨_, _, q2⟩ := hf 2 _ rfl
  obtain ⟨_, _, q3⟩ := hf 3 _ rfl
  obtain ⟨_, _, q4⟩ := hf 4 _ rfl
  obtain ⟨_, _, q5⟩ := hf 5 _ rfl
  simp only [cells24, cells4, cells65, cells67] at q0 q1 q2 q3 q4 q5
  obtain ⟨a0, k0, r0⟩ := rd24 q0
  obtain ⟨a1, k1, r1⟩ := rd24 q1
  obtain ⟨a2, k2, r2⟩ := rd4 q2
  obtain ⟨a3, k3, r3⟩ := rd65 q3
  obtain ⟨a4, k4, r4⟩ := rd65 q4
  obtain ⟨a5, k5, r5⟩ := rd67 q5
  refine ⟨⟨a0, a1, a2, a3, a4, a5⟩, ⟨k0, k1, k2, k3, k4, k5⟩, ?_⟩
  show Rep (allS w) (.agg [(e_law04_M (eI .u8) (eI .u8) (eI .u8) eB (eSl 1 false (eI .u16))) a0, (e_law04_M (eI .u8) (eI .u8) (eI .u8) eB (eSl 1 false (eI .u16))) a1, eB a2, (eArr2 (eI .u8)) a3, (eArr2 (eI .u8)) a4, (e_api_Edge (eI .i64) (eI .i64)) a5]) cs
  simp only [Rep]
  refine reps_take (n := 5) (by simpa [List.drop_drop] using r0) (reps_take (n := 5) (by simpa [List.drop_drop] using r1) (reps_take (n := 1) (by simpa [List.drop_drop] using r2) (reps_take (n := 2) (by simpa [List.drop_drop] using r3) (reps_take (n := 2) (by simpa [List.drop_drop] using r4) (reps_take (n := 2) (by simpa [List.drop_drop] using r5) ?_)))))
  simp only [List.drop_drop, Reps]
  exact List.drop_eq_nil_of_le (by omega)
theorem rd88 {fuel : Nat} {cs : List Value} {x : DataW H × List MemPlace} (h : DataW.trod enc Try.prog w base spare held fuel 88 cs = some x) : ∃ a : List (Arr2 Int), Ok88 a ∧ Rep (allS w) ((eSl 2 false (eArr2 (eI .u8))) a) cs := by
  exact slice_rep (eArr2 (eI .u8)) Ok65 Try.underlying88 cells65 (by omega) (fun _ => rfl) (fun _ _ _ q => rd65 q) h
end
end Go.Own
namespace Go.Proofs.Ytdnenbcldibnoaa.equalsRelate
open Go Go.ChangeShapes Go.WideShapes Go.ChangeAt Go.RowKit
set_option linter.unusedVariables false
theorem own : ownKnob Try.prog.godebug = none := by kernel_rfl
theorem laidOut : laidOutB Try.prog = true := by kernel_rfl
section
variable {H : Type} {enc : TypeId × Value → H} {W : World}
set_option maxRecDepth 100000 in
theorem walk {base : Nat} {v0 : Value} {d0 : DataW H} {p0 : List MemPlace} {v1 : Value} {d1 : DataW H} {p1 : List MemPlace} (h0 : DataW.Trod enc Try.prog W 0 (fun _ => true) true 69 v0 d0 p0) (h1 : DataW.Trod enc Try.prog W 0 (fun _ => true) true 88 v1 d1 p1) (k0 : Value.okWide Try.prog W .any base (69 : Nat) v0) (k1 : Value.okWide Try.prog W .any base (88 : Nat) v1) :
    Calls Try.prog 8 #[v0, v1] W fun e w' => e = .returned (.bool true) ∧ Go.Own.Kept (fun k => W.heap.size ≤ k) W w' := by
  obtain ⟨n0, h0⟩ := h0
  obtain ⟨x0, o0, r0⟩ := Go.Own.rd69 h0
  obtain ⟨n1, h1⟩ := h1
  obtain ⟨x1, o1, r1⟩ := Go.Own.rd88 h1
  have q := (Go.Own.spF_call (Go.Own.ctrOf_call Go.Own.L41_ok List.mem_cons_self : Go.Own.sp_law10_EqualsRelate.Ok Try.prog) (x := (x0, x1)) (r := true) (Go.Own.law_true o0 o1)).2 (Go.Own.allS W) W [v0, v1] [] (fun _ _ _ h => h) ?_ (by simp)
  · refine Calls.mono q ?_
    rintro e w' ⟨v, S', F', rfl, hk, _, _, _, hr, _, _⟩
    refine ⟨?_, hk.mono (by rintro k (h | h) <;> simp_all)⟩
    rw [Go.Own.has_true hr]
  · refine Go.Own.all2_hass ?_
    have g0 : Go.Own.Rep1 (Go.Own.allS W) ((Go.Own.e_law10_D (Go.Own.e_law04_M (Go.Own.eI .u8) (Go.Own.eI .u8) (Go.Own.eI .u8) Go.Own.eB (Go.Own.eSl 1 false (Go.Own.eI .u16))) (Go.Own.e_law04_M (Go.Own.eI .u8) (Go.Own.eI .u8) (Go.Own.eI .u8) Go.Own.eB (Go.Own.eSl 1 false (Go.Own.eI .u16))) Go.Own.eB (Go.Own.eArr2 (Go.Own.eI .u8)) (Go.Own.eArr2 (Go.Own.eI .u8)) (Go.Own.e_api_Edge (Go.Own.eI .i64) (Go.Own.eI .i64))) x0) v0 := Go.Own.rep1_struct (t := (69 : Nat)) Try.underlying69 r0 k0 rfl
    have g1 : Go.Own.Rep1 (Go.Own.allS W) ((Go.Own.eSl 2 false (Go.Own.eArr2 (Go.Own.eI .u8))) x1) v1 := Go.Own.rep1_slice (t := (88 : Nat)) Try.underlying88 r1 k1 rfl
    exact ⟨g0, g1, trivial⟩
end
set_option maxRecDepth 100000 in
theorem lifted (os : Os) (started : os.Started) (H : Type) (enc : TypeId × Value → H) :
    ReturnsInHanded {} Try.checked os 8 .any (Rows.equalsRelateSpec.pre6 enc Try.prog Try.f8 Rows.equalsRelateRow.domain false) (Rows.equalsRelateSpec.post enc Try.prog Try.f8 false true false false) := by
  refine returnsInHanded_of_change (C := Try.checked) own started (by kernel_rfl) Try.func8
    (ChangeSpec.witness6 (enc := enc) (C := Try.checked) false ⟨#[], #[.agg #[.int .u8 0, .int .u8 0, .int .u8 0, .bool false, .slice none 0 0, .int .u8 0, .int .u8 0, .int .u8 0, .bool false, .slice none 0 0, .bool false, .int .u8 0, .int .u8 0, .int .u8 0, .int .u8 0, .int .i64 0, .int .i64 0], .slice none 0 0], []⟩ 8 (by kernel_rfl) (by kernel_rfl) (by kernel_rfl) (by kernel_rfl)) ?_
  intro W base args ds gs before hval0 hW hcnd _
  have hval : ∀ (j : Nat) t v, Try.f8.params[j]? = some t → args[j]? = some v → Value.okWide Try.prog W .any base t v := hval0
  have hW' := hW
  obtain ⟨p, q, hA0, hV, rfl, hfz, hnd⟩ := hW
  have hA : DataW.TrodAll enc Try.prog W 0 (fun _ => true) true Try.f8.params.toList args.toList ds p := hA0
  rw [Try.params8] at hA hval
  obtain ⟨v0, v1, d0, d1, p0, p1, rfl, rfl, rfl, h0, h1⟩ := trodAll_two hA
  obtain ⟨rfl, rfl⟩ := trodVars_none hV
  clear hA0 hval0
  refine (walk h0 h1 (hval 0 (69 : Nat) v0 rfl rfl) (hval 1 (88 : Nat) v1 rfl rfl)).mono fun e W' ⟨he, hk⟩ => ?_
  subst he
  have hb : Below W.heap.size W W' := ⟨hk.os, hk.tape, hk.output, hk.size, fun k q => hk.block k (by omega)⟩
  have hlt : ∀ x ∈ p0 ++ p1, x.block < W.heap.size := fun x hx => by simpa using hW'.lt x (by simpa using hx)
  refine ⟨_, rfl, Go.Own.post_kept rfl rfl hW' hb (fun _ _ _ => trodAll_cons_mk (shut_bool Try.underlying4 _) trodAll_mk0) (fun sp hsp => ?_) (ok_one (by kernel_rfl) rfl (okWide_bool_mk Try.underlying4 _))⟩
  have st : ∀ {t : Nat} {v : Value} {d : DataW H} {p' : List MemPlace}, DataW.Trod enc Try.prog W 0 (fun _ => true) true t v d p' → Try.prog.readableRec t = true → t < Try.prog.types.size → (∀ x ∈ p', x ∈ p0 ++ p1) → DataW.Trod enc Try.prog W' 0 sp true t v d p' := by
    intro t v d p' hd h1 h2 hp
    exact WideElems.Trod_stays laidOut h1 h2 hd (fun x hx => hb.same (hlt x (hp x hx))) (fun x hx => hsp x (by simpa using hp x hx))
  have := trodAll_mk2 (st h0 (by kernel_rfl) (of_decide_eq_true (by kernel_rfl)) (fun x hx => by simp [hx])) (st h1 (by kernel_rfl) (of_decide_eq_true (by kernel_rfl)) (fun x hx => by simp [hx]))
  rw [Try.params8]
  exact this
theorem over : Rows.equalsRelateRow.holds Try.pinned (OpenSpec.ofChange Rows.equalsRelateSpec) :=
  OpenClaim.holds_of_wide 8 Try.f8 rfl rfl rfl rfl rfl rfl rfl ⟨rfl, rfl, rfl, rfl, rfl⟩ rfl rfl rfl rfl rfl (by kernel_rfl) Try.func8 (by kernel_rfl)
    (of_decide_eq_true (by kernel_rfl)) (by unfold Func.isWrapper; first | (rw [if_pos (by decide +kernel)]; kernel_rfl) | (rw [if_neg (by decide +kernel)]; exact ⟨rfl, rfl⟩))
    (fun os started H enc _ => lifted os started H enc)
theorem proved : Rows.EqualsRelateSaid :=
  over
#print axioms proved
end Go.Proofs.Ytdnenbcldibnoaa.equalsRelate
