/- EqualsWithin (gauntletlaw10): for every input the law returns true, and its arguments read afterwards as_ they read before. No condition. -/
import Derived.Test.YtdnenbcldibnoaaPartG
import Derived.Test.YtdnenbcldibnoaaPartE
import Derived.Test.YtdnenbcldibnoaaPartB
import Derived.OpenShut
import Derived.ChangeShapes
import Derived.Test.YtdnenbcldibnoaaPartC
import Derived.WalkKit
import Derived.ProofKit
import Derived.Carry
import Derived.Test.YtdnenbcldibnoaaRows
import Derived.Test.YtdnenbcldibnoaaChecked
set_option linter.unusedVariables false
set_option linter.unusedSimpArgs false
namespace Go.Own
set_option linter.unusedVariables false
set_option linter.unusedSimpArgs false
theorem one_mod {a k : Int} (h0 : 0 ≤ a) (hk : 1 ≤ k) (hk2 : k ≤ 1000000) : 1 ≤ w64 (1 + w64 (Int.tmod a k)) ∧ w64 (1 + w64 (Int.tmod a k)) ≤ k := by
  have h1 := Int.tmod_nonneg k h0
  have h2 := Int.tmod_lt_of_pos a (show 0 < k by omega)
  rw [w64_in (x := Int.tmod a k) (by omega) (by omega), w64_in (by omega) (by omega)]
  omega
structure MOk (x : S_law04_M) : Prop where
  s0 : 0 ≤ x.States
  i0 : 0 ≤ x.Inputs
  o0 : 0 ≤ x.Outputs
  e0 : ∀ v ∈ x.Edges, 0 ≤ v ∧ v ≤ 65535
theorem v_ret {x : S_law04_M} {n o : Int} (hn : n = w64 (1 + w64 (Int.tmod x.States 6))) (ho : o = w64 (1 + w64 (Int.tmod x.Outputs 3))) (n1 : 1 ≤ n) (n2 : n ≤ 6) (o1 : 1 ≤ o) (o2 : o ≤ 3) (row : List S_api_Edge) (i v : Int) (hl : row.length ≤ 1000) (v0 : 0 ≤ v) (v1 : v ≤ 65535) :
    ∃ e : S_api_Edge, law04_M_Of_J7 x row i v = some (.next (row ++ [e], w64 (i + 1))) ∧ ((e.To = -1 ∧ e.Out = -1) ∨ (0 ≤ e.To ∧ e.To < n ∧ 0 ≤ e.Out ∧ e.Out < o)) := by
  have hv4 : Int.tdiv v 4 = v / 4 := Int.tdiv_eq_ediv_of_nonneg v0
  have w4 : w64 (Int.tdiv v 4) = v / 4 := by rw [hv4]; exact w64_in (by omega) (by omega)
  have d0 : 0 ≤ v / 4 := by omega
  have hd : Int.tdiv (v / 4) n = v / 4 / n := Int.tdiv_eq_ediv_of_nonneg d0
  have d1 : 0 ≤ v / 4 / n := Int.ediv_nonneg d0 (by omega)
  have d2 : v / 4 / n ≤ v / 4 := Int.ediv_le_self _ d0
  have w5 : w64 (Int.tdiv (v / 4) n) = v / 4 / n := by rw [hd]; exact w64_in (by omega) (by omega)
  have fit : (0 : Int) ≤ Int.tmod (v / 4) n ∧ Int.tmod (v / 4) n < n ∧ 0 ≤ Int.tmod (v / 4 / n) o ∧ Int.tmod (v / 4 / n) o < o :=
    ⟨Int.tmod_nonneg _ d0, Int.tmod_lt_of_pos _ (by omega), Int.tmod_nonneg _ d1, Int.tmod_lt_of_pos _ (by omega)⟩
  unfold law04_M_Of_J7
  rw [← hn, ← ho, w4, w5]
  have g4 : (4 : Int) ≠ 0 := by decide
  have gn : (n : Int) ≠ 0 := by omega
  have go : (o : Int) ≠ 0 := by omega
  have gl : ∀ e : S_api_Edge, row.length + ([e] : List S_api_Edge).length ≤ 4294967296 := fun e => by simp; omega
  simp only [gdT g4, gdT gn, gdT go, gdT (gl _)]
  cases x.Partial
  · exact ⟨_, rfl, .inr fit⟩
  · cases hc : (Int.tmod v 4 == 3)
    · exact ⟨_, rfl, .inr fit⟩
    · exact ⟨_, rfl, .inl ⟨rfl, rfl⟩⟩
theorem of_ret {x : S_law04_M} (h : MOk x) : Ret (law04_M_Of x) fun m => VM m ∧ m.Inputs = w64 (1 + w64 (Int.tmod x.Inputs 3)) ∧ m.Inputs ≤ 3 ∧ m.Outputs ≤ 3 ∧ m.Rows.length ≤ 6 := by
  have hn' := one_mod h.s0 (k := 6) (by omega) (by omega)
  have hi' := one_mod h.i0 (k := 3) (by omega) (by omega)
  have ho' := one_mod h.o0 (k := 3) (by omega) (by omega)
  obtain ⟨n, hn⟩ : ∃ n, n = w64 (1 + w64 (Int.tmod x.States 6)) := ⟨_, rfl⟩
  obtain ⟨k, hk⟩ : ∃ n, n = w64 (1 + w64 (Int.tmod x.Inputs 3)) := ⟨_, rfl⟩
  obtain ⟨o, ho⟩ : ∃ n, n = w64 (1 + w64 (Int.tmod x.Outputs 3)) := ⟨_, rfl⟩
  rw [← hn] at hn'
  rw [← hk] at hi'
  rw [← ho] at ho'
  have inner : ∀ s : Int, 0 ≤ s → s < n → Ret (loop (fun st => law04_M_Of_L5 x s st.1 st.2) (([] : List S_api_Edge), 0)) (fun r => (r.length : Int) = k ∧ ∀ e ∈ r, (e.To = -1 ∧ e.Out = -1) ∨ (0 ≤ e.To ∧ e.To < n ∧ 0 ≤ e.Out ∧ e.Out < o)) := by
    intro s s0 s1
    refine ret_loop (fun st => (st.1.length : Int) = st.2 ∧ st.2 ≤ k ∧ ∀ e ∈ st.1, (e.To = -1 ∧ e.Out = -1) ∨ (0 ≤ e.To ∧ e.To < n ∧ 0 ≤ e.Out ∧ e.Out < o)) (fun st => 10 - st.2.toNat) ⟨by simp, by omega, by simp⟩ (by simp) ?_
    rintro ⟨row, i⟩ ⟨h1, h2, h3⟩
    simp only at h1 h2 h3
    unfold law04_M_Of_L5
    rw [← hk, ret_bif]
    have hsk : s * k ≤ 5 * k := Int.mul_le_mul_of_nonneg_right (by omega) (by omega)
    have hsk0 : 0 ≤ s * k := Int.mul_nonneg s0 (by omega)
    have w1 : w64 (s * k) = s * k := w64_in (by omega) (by omega)
    have w2 : w64 (s * k + i) = s * k + i := w64_in (by omega) (by omega)
    rw [w1, w2]
    refine ⟨fun hlt => ?_, fun hge => ?_⟩
    · have hlt : i < k := of_decide_eq_true hlt
      have hw : w64 (i + 1) = i + 1 := w64_in (by omega) (by omega)
      have fin : ∀ v : Int, 0 ≤ v → v ≤ 65535 → Ret (law04_M_Of_J7 x row i v) (LRP (fun s' => (((s'.1.length : Nat) : Int) = s'.2 ∧ s'.2 ≤ k ∧ ∀ e ∈ s'.1, (e.To = -1 ∧ e.Out = -1) ∨ (0 ≤ e.To ∧ e.To < n ∧ 0 ≤ e.Out ∧ e.Out < o)) ∧ 10 - s'.2.toNat < 10 - i.toNat) (fun r => (r.length : Int) = k ∧ ∀ e ∈ r, (e.To = -1 ∧ e.Out = -1) ∨ (0 ≤ e.To ∧ e.To < n ∧ 0 ≤ e.Out ∧ e.Out < o))) := by
        intro v v0 v1
        obtain ⟨e, g1, g2⟩ := v_ret hn ho hn'.1 hn'.2 ho'.1 ho'.2 row i v (by omega) v0 v1
        rw [g1, hw, ret_some]
        refine ⟨⟨by simp; omega, by simp only; omega, fun e' he => ?_⟩, by simp only; omega⟩
        rcases List.mem_append.1 he with q | q
        · exact h3 e' q
        · simp only [List.mem_cons, List.not_mem_nil, or_false] at q; subst q; exact g2
      rw [ret_bif]
      refine ⟨fun hc => ?_, fun _ => fin 0 (by omega) (by omega)⟩
      have hc : s * k + i < ((x.Edges.length : Nat) : Int) := of_decide_eq_true hc
      rw [ret_bind, ret_idx]
      have hlt' : (s * k + i).toNat < x.Edges.length := by omega
      refine ⟨by omega, _, List.getElem?_eq_getElem hlt', ?_⟩
      have := h.e0 _ (List.getElem_mem hlt')
      rw [w64_in (by omega) (by omega)]
      exact fin _ this.1 this.2
    · have hge : ¬ i < k := of_decide_eq_false hge
      rw [ret_some]
      exact ⟨by simp only; omega, h3⟩
  unfold law04_M_Of
  simp only [ret_gd, ret_bind]
  refine ⟨by decide, by decide, by decide, ?_⟩
  refine (ret_loop (R := fun r => (r.length : Int) = n ∧ ∀ r' ∈ r, (r'.length : Int) = k ∧ ∀ e ∈ r', (e.To = -1 ∧ e.Out = -1) ∨ (0 ≤ e.To ∧ e.To < n ∧ 0 ≤ e.Out ∧ e.Out < o)) (fun st => (st.1.length : Int) = st.2 ∧ st.2 ≤ n ∧ ∀ r' ∈ st.1, (r'.length : Int) = k ∧ ∀ e ∈ r', (e.To = -1 ∧ e.Out = -1) ∨ (0 ≤ e.To ∧ e.To < n ∧ 0 ≤ e.Out ∧ e.Out < o)) (fun st => 10 - st.2.toNat) ⟨by simp, by omega, by simp⟩ (by simp) ?_).mono ?_
  · rintro ⟨rows, s⟩ ⟨h1, h2, h3⟩
    simp only at h1 h2 h3
    unfold law04_M_Of_L2
    rw [← hn, ret_bif]
    refine ⟨fun hlt => ?_, fun hge => ?_⟩
    · have hlt : s < n := of_decide_eq_true hlt
      rw [ret_bind]
      refine (inner s (by omega) hlt).mono fun row hrow => ?_
      unfold law04_M_Of_J4 law04_M_Of_J3
      rw [ret_gd, ret_some, w64_in (by omega) (by omega)]
      refine ⟨by simp; omega, ⟨by simp; omega, by simp only; omega, fun r' hr => ?_⟩, by simp only; omega⟩
      rcases List.mem_append.1 hr with q | q
      · exact h3 r' q
      · simp only [List.mem_cons, List.not_mem_nil, or_false] at q; subst q; exact hrow
    · have hge : ¬ s < n := of_decide_eq_false hge
      rw [ret_some]
      exact ⟨by simp only; omega, h3⟩
  · rintro rows ⟨h1, h2⟩
    unfold law04_M_Of_J1
    rw [ret_some, ← hk, ← ho]
    refine ⟨⟨hi'.1, by simp only; omega, ho'.1, by simp only; omega, by simp only; omega, by simp only; omega, fun r hr => (h2 r hr).1, fun r hr e he => ?_⟩, rfl, hi'.2, ho'.2, by simp only; omega⟩
    simp only [h1]
    exact (h2 r hr).2 e he
/-- The error of two machines. -/
def bothS (a b : S_api_Machine) : Int := if chk a ≠ 0 then chk a else if chk b ≠ 0 then chk b else if a.Inputs ≠ b.Inputs then 5 else 0
theorem or_eq (x y : Int) : cmp_Or_api_Errno [x, y] = some (if x ≠ 0 then x else y) := by
  have hl : loop (fun s => cmp_Or_api_Errno_L2 [x, y] s) 0 = some (oS (firstS (fun _ v => if v ≠ 0 then some v else none) [x, y] 0)) := by
    refine loop_list [x, y] (by simp) _ ?_ ?_
    · intro i v hv
      have hi := (List.getElem?_eq_some_iff.1 hv).1
      unfold cmp_Or_api_Errno_L2
      have hd : decide ((i : Int) < (([x, y].length : Nat) : Int)) = true := by simp at hi ⊢; omega
      rw [hd, cond_true, idx_nat, bdT hv]
      by_cases h : v = 0
      · simp [nS, h]
      · simp [nS, h, Bool.cond_eq_ite]
    · rfl
  unfold cmp_Or_api_Errno
  rw [bdT hl]
  by_cases h : x = 0
  · by_cases q : y = 0
    · simp [firstS, oS, h, q, cmp_Or_api_Errno_J1]
    · simp [firstS, oS, h, q]
  · simp [firstS, oS, h]
theorem both_eq (a b : S_api_Machine) : equals_both a b = some (bothS a b) := by
  unfold equals_both equals_both_J1 bothS
  rw [bdT (check_eq a), bdT (check_eq b), bdT (or_eq _ _)]
  by_cases h : chk a = 0
  · by_cases q : chk b = 0
    · by_cases r : a.Inputs = b.Inputs
      · simp [h, q, r]
      · simp [h, q, r, Bool.cond_eq_ite]
    · simp [h, q, Bool.cond_eq_ite]
  · simp [h, Bool.cond_eq_ite]
theorem both_ok {a b : S_api_Machine} (h : bothS a b = 0) : VM a ∧ VM b ∧ a.Inputs = b.Inputs := by
  unfold bothS at h
  split at h
  · rename_i q; exact (q h).elim
  split at h
  · rename_i q; exact (q h).elim
  split at h
  · cases h
  · rename_i h1 h2 h3
    exact ⟨vm_of (by simpa using h1), vm_of (by simpa using h2), by simpa using h3⟩
theorem both_of {a b : S_api_Machine} (ha : VM a) (hb : VM b) (h : a.Inputs = b.Inputs) : bothS a b = 0 := by
  unfold bothS
  simp [chk_of ha, chk_of hb, h]
/-- The word and whether there is one, or none. -/
def DiffS (a b : S_api_Machine) (w : List Int) (is : Bool) : Prop :=
  (∃ u, TellR (kk a) (badP a b) (nxP a b) (0, 0) u ∧ (∀ w, TellR (kk a) (badP a b) (nxP a b) (0, 0) w → rv (kk a) u ≤ rv (kk a) w) ∧ w = u.reverse.map Int.ofNat ∧ is = true) ∨
  ((∀ u, ¬ TellR (kk a) (badP a b) (nxP a b) (0, 0) u) ∧ w = [] ∧ is = false)
theorem bfs_none {a b : S_api_Machine} {L : LL} (h : Bfs (kk a) (badP a b) (nxP a b) (0, 0) L L.length 0) (u : List Nat) : ¬ TellR (kk a) (badP a b) (nxP a b) (0, 0) u := fun hu =>
  h.least hu fun c hc => by have := (List.getElem?_eq_some_iff.1 hc).1; omega
theorem Differ_ret {a b : S_api_Machine} (h : bothS a b = 0) : Ret (equals_Differ a b) fun r => r.2.2 = 0 ∧ DiffS a b r.1 r.2.1 := by
  obtain ⟨va, vb, hab⟩ := both_ok h
  unfold equals_Differ
  rw [bdT (both_eq a b), h]
  simp only [bne_self_eq_false, cond_false, ret_bind]
  refine (differ_ret va vb hab).mono fun r hr => ?_
  rw [ret_some]
  refine ⟨rfl, ?_⟩
  rcases hr with ⟨u, h1, h2, h3, rfl⟩ | ⟨L, h1, h2, rfl⟩
  · refine .inl ⟨u, h1, h2, rfl, ?_⟩
    cases u with
    | nil => exact h1.elim
    | cons x u => simp
  · exact .inr ⟨bfs_none h1, rfl, rfl⟩
end Go.Own

namespace Go.Own
set_option linter.unusedVariables false
set_option linter.unusedSimpArgs false
structure DOk (x : S_law10_D) : Prop where
  m : MOk x.M
  x2 : MOk x.X
  s0 : 0 ≤ x.Swap.e0 ∧ x.Swap.e0 ≤ 255
  s1 : 0 ≤ x.Swap.e1 ∧ x.Swap.e1 ≤ 255
  p0 : 0 ≤ x.Place.e0 ∧ x.Place.e0 ≤ 255
  p1 : 0 ≤ x.Place.e1 ∧ x.Place.e1 ≤ 255
theorem copy_eq (m : S_api_Machine) (h : m.Rows.length ≤ 100) (h2 : ∀ r ∈ m.Rows, r.length ≤ 1000) : ref04_Copy m = some m := by
  have hl : loop (fun s => ref04_Copy_L2 m s.1 s.2) (([] : List (List S_api_Edge)), 0) = some m.Rows := by
    refine Ret.eq (ret_loop (fun s => ∃ i : Nat, s.2 = (i : Int) ∧ i ≤ m.Rows.length ∧ s.1 = m.Rows.take i) (fun s => 200 - s.2.toNat) ⟨0, rfl, Nat.zero_le _, rfl⟩ (by simp) ?_)
    rintro ⟨out, i'⟩ ⟨i, hi, hil, ho⟩
    simp only at hi ho
    subst hi ho
    unfold ref04_Copy_L2
    rw [ret_bif]
    refine ⟨fun hlt => ?_, fun hge => ?_⟩
    · have hlt : i < m.Rows.length := by simpa using hlt
      have hx : m.Rows[i]? = some m.Rows[i] := List.getElem?_eq_getElem hlt
      have := h2 _ (List.getElem_mem hlt)
      have hw : w64 ((i : Int) + 1) = ((i + 1 : Nat) : Int) := by rw [w64_in (by omega) (by omega)]; rfl
      rw [idx_nat, bdT hx, gdT (by simp; omega), gdT (by simp; omega), ret_some, hw]
      exact ⟨⟨i + 1, rfl, hlt, by rw [List.take_add_one, hx]; rfl⟩, by simp only; omega⟩
    · have : i = m.Rows.length := by simp at hge; omega
      subst this
      rw [ret_some, List.take_length]
      rfl
  unfold ref04_Copy ref04_Copy_J1
  rw [bdT hl]
/-- Rows as_ those of a machine with so many states, inputs and outputs. -/
def RowsOk (n k o : Int) (rows : List (List S_api_Edge)) : Prop := (rows.length : Int) = n ∧ ∀ r ∈ rows, (r.length : Int) = k ∧ ∀ e ∈ r, (e.To = -1 ∧ e.Out = -1) ∨ (0 ≤ e.To ∧ e.To < n ∧ 0 ≤ e.Out ∧ e.Out < o)
theorem rows_of {m : S_api_Machine} (h : VM m) : RowsOk m.Rows.length m.Inputs m.Outputs m.Rows := ⟨rfl, fun r hr => ⟨h.row r hr, fun e he => h.edge r hr e he⟩⟩
theorem RowsOk.set {n k o : Int} {rows : List (List S_api_Edge)} (h : RowsOk n k o rows) {s i : Nat} {r : List S_api_Edge} (hr : rows[s]? = some r) {e : S_api_Edge} (he : (e.To = -1 ∧ e.Out = -1) ∨ (0 ≤ e.To ∧ e.To < n ∧ 0 ≤ e.Out ∧ e.Out < o)) : RowsOk n k o (rows.set s (r.set i e)) := by
  refine ⟨by simpa using h.1, fun r' hr' => ?_⟩
  rcases List.mem_or_eq_of_mem_set hr' with g | g
  · exact h.2 r' g
  · subst g
    have := h.2 r (List.mem_of_getElem? hr)
    refine ⟨by simpa using this.1, fun e' he' => ?_⟩
    rcases List.mem_or_eq_of_mem_set he' with g | g
    · exact this.2 e' g
    · subst g; exact he
theorem vm_rows {m : S_api_Machine} (h : VM m) {rows : List (List S_api_Edge)} (hr : RowsOk m.Rows.length m.Inputs m.Outputs rows) : VM ⟨m.Inputs, m.Outputs, rows⟩ := by
  have e : rows.length = m.Rows.length := by have := hr.1; omega
  refine ⟨h.in1, h.in16, h.out1, h.out16, by rw [e]; exact h.len1, by rw [e]; exact h.len64, fun r q => (hr.2 r q).1, fun r q x hx => ?_⟩
  have := (hr.2 r q).2 x hx
  simp only [e]
  exact this
theorem d_of {x : S_law10_D} (h : DOk x) : Ret (law10_D_Of x) fun r => VM r.1 ∧ VM r.2 ∧ r.1.Inputs = r.2.Inputs ∧ r.1.Rows.length ≤ 6 ∧ r.2.Rows.length ≤ 6 := by
  unfold law10_D_Of
  rw [ret_bind]
  refine (of_ret h.m).mono fun a ha => ?_
  obtain ⟨va, ia, i3, o3, l6⟩ := ha
  rw [ret_bif]
  refine ⟨fun _ => ?_, fun _ => ?_⟩
  · rw [ret_bind]
    refine (of_ret (x := ⟨x.X.States, x.M.Inputs, x.X.Outputs, x.X.Partial, x.X.Edges⟩) ⟨h.x2.s0, h.m.i0, h.x2.o0, h.x2.e0⟩).mono fun b hb => ?_
    rw [ret_some]
    exact ⟨va, hb.1, by rw [ia, hb.2.1], l6, hb.2.2.2.2⟩
  -- the list of states
  have hto : Ret (loop (fun s => law10_D_Of_L8 a s.1 s.2) (([] : List Int), 0)) fun t => t.length = a.Rows.length ∧ ∀ v ∈ t, 0 ≤ v ∧ v < (a.Rows.length : Int) := by
    refine ret_loop (fun s => ∃ i : Nat, s.2 = (i : Int) ∧ i ≤ a.Rows.length ∧ s.1.length = i ∧ ∀ v ∈ s.1, 0 ≤ v ∧ v < (a.Rows.length : Int)) (fun s => 200 - s.2.toNat) ⟨0, rfl, Nat.zero_le _, rfl, by simp⟩ (by simp) ?_
    rintro ⟨t, i'⟩ ⟨i, hi, hil, hl, hv⟩
    simp only at hi hl hv
    subst hi
    unfold law10_D_Of_L8
    rw [ret_bif]
    refine ⟨fun hlt => ?_, fun hge => ?_⟩
    · have hlt : i < a.Rows.length := by simpa using hlt
      have hw : w64 ((i : Int) + 1) = ((i + 1 : Nat) : Int) := by rw [w64_in (by omega) (by omega)]; rfl
      rw [gdT (by simp; omega), ret_some, hw]
      refine ⟨⟨i + 1, rfl, hlt, by simp [hl], fun v hm => ?_⟩, by simp only; omega⟩
      rcases List.mem_append.1 hm with g | g
      · exact hv v g
      · rw [List.mem_singleton.1 g]; omega
    · have : i = a.Rows.length := by simp at hge; omega
      subst this
      rw [ret_some]
      exact ⟨hl, hv⟩
  have rest : ∀ t : List Int, t.length = a.Rows.length → (∀ v ∈ t, 0 ≤ v ∧ v < (a.Rows.length : Int)) → Ret (law10_D_Of_J2 x a t) fun r => VM r.1 ∧ VM r.2 ∧ r.1.Inputs = r.2.Inputs ∧ r.1.Rows.length ≤ 6 ∧ r.2.Rows.length ≤ 6 := by
    intro t tl tv
    have hrl : ∀ r ∈ a.Rows, r.length ≤ 1000 := fun r hr => by have := va.row r hr; omega
    unfold law10_D_Of_J2
    rw [bdT (copy_eq a (by omega) hrl), ret_bind]
    have hk := va.kk_eq
    have k16 := va.kk_le
    have tAt : ∀ s : Nat, s < a.Rows.length → ∃ v, t[s]? = some v ∧ 0 ≤ v ∧ v < (a.Rows.length : Int) := fun s hs => by
      have hs' : s < t.length := by omega
      exact ⟨_, List.getElem?_eq_getElem hs', tv _ (List.getElem_mem hs')⟩
    have inner : ∀ (s : Nat) (rows : List (List S_api_Edge)), s < a.Rows.length → RowsOk a.Rows.length a.Inputs a.Outputs rows → Ret (loop (fun q => law10_D_Of_L6 a t (s : Int) q.1 q.2) (rows, 0)) fun r => RowsOk a.Rows.length a.Inputs a.Outputs r := by
      intro s rows hs hrows
      refine ret_loop (fun q => ∃ i : Nat, q.2 = (i : Int) ∧ i ≤ kk a ∧ RowsOk a.Rows.length a.Inputs a.Outputs q.1) (fun q => 200 - q.2.toNat) ⟨0, rfl, Nat.zero_le _, hrows⟩ (by simp) ?_
      rintro ⟨q, i'⟩ ⟨i, hi, hil, hq⟩
      simp only at hi hq
      subst hi
      unfold law10_D_Of_L6
      rw [ret_bif]
      refine ⟨fun hlt => ?_, fun hge => ?_⟩
      · have hlt : i < kk a := by rw [← hk] at hlt; simpa using hlt
        have hw : w64 ((i : Int) + 1) = ((i + 1 : Nat) : Int) := by rw [w64_in (by omega) (by omega)]; rfl
        have hed := va.edgeAt hs hlt
        rw [va.edge_eq hs hlt]
        have fin : ∀ z : Int, ((z = -1 ∧ (E a s i).Out = -1) ∨ (0 ≤ z ∧ z < (a.Rows.length : Int) ∧ 0 ≤ (E a s i).Out ∧ (E a s i).Out < a.Outputs)) →
            Ret (law10_D_Of_J7 t (s : Int) q (i : Int) (E a s i) z) (LRP (fun s' => (∃ j : Nat, s'.2 = (j : Int) ∧ j ≤ kk a ∧ RowsOk a.Rows.length a.Inputs a.Outputs s'.1) ∧ 200 - s'.2.toNat < 200 - (i : Int).toNat) (fun r => RowsOk a.Rows.length a.Inputs a.Outputs r)) := by
          intro z hz
          obtain ⟨v, v1, v2, v3⟩ := tAt s hs
          unfold law10_D_Of_J7
          rw [idx_nat, bdT v1, ret_bind, ret_idx]
          have hql : v.toNat < q.length := by have := hq.1; omega
          have hqr : q[v.toNat]? = some q[v.toNat] := List.getElem?_eq_getElem hql
          have hrow := (hq.2 _ (List.getElem_mem hql)).1
          have hi2 : i < q[v.toNat].length := by omega
          refine ⟨v2, _, hqr, ?_⟩
          rw [idx_nat, bdT (List.getElem?_eq_getElem hi2), ret_some, hw]
          exact ⟨⟨i + 1, rfl, hlt, hq.set hqr hz⟩, by simp only; omega⟩
        rw [ret_bif]
        refine ⟨fun hto => ?_, fun hto => ?_⟩
        · have hto : (E a s i).To ≥ 0 := of_decide_eq_true hto
          rcases hed with ⟨g1, _⟩ | ⟨g1, g2, g3, g4⟩
          · omega
          · obtain ⟨v, v1, v2, v3⟩ := tAt (E a s i).To.toNat (by omega)
            rw [ret_bind, ret_idx]
            exact ⟨g1, v, v1, fin v (.inr ⟨v2, v3, g3, g4⟩)⟩
        · have hto : ¬ (E a s i).To ≥ 0 := of_decide_eq_false hto
          rcases hed with ⟨g1, g2⟩ | ⟨g1, g2, g3, g4⟩
          · exact fin _ (.inl ⟨g1, g2⟩)
          · omega
      · rw [ret_some]
        exact hq
    have outer : Ret (loop (fun s => law10_D_Of_L4 a t s.1 s.2) (a.Rows, 0)) fun r => RowsOk a.Rows.length a.Inputs a.Outputs r := by
      refine ret_loop (fun q => ∃ i : Nat, q.2 = (i : Int) ∧ i ≤ a.Rows.length ∧ RowsOk a.Rows.length a.Inputs a.Outputs q.1) (fun q => 200 - q.2.toNat) ⟨0, rfl, Nat.zero_le _, rows_of va⟩ (by simp) ?_
      rintro ⟨q, i'⟩ ⟨i, hi, hil, hq⟩
      simp only at hi hq
      subst hi
      unfold law10_D_Of_L4 law10_D_Of_J5
      rw [ret_bif]
      refine ⟨fun hlt => ?_, fun hge => ?_⟩
      · have hlt : i < a.Rows.length := by simpa using hlt
        have hw : w64 ((i : Int) + 1) = ((i + 1 : Nat) : Int) := by rw [w64_in (by omega) (by omega)]; rfl
        rw [ret_bind]
        refine (inner i q hlt hq).mono fun r hr => ?_
        rw [ret_some, hw]
        exact ⟨⟨i + 1, rfl, hlt, hr⟩, by simp only; omega⟩
      · rw [ret_some]
        exact hq
    refine outer.mono fun rows hrows => ?_
    have vb := vm_rows va hrows
    have hrl' : ∀ r ∈ rows, r.length ≤ 1000 := fun r hr => by have := (hrows.2 r hr).1; omega
    have hrn := hrows.1
    unfold law10_D_Of_J3
    have hcp : ref04_Copy (S_api_Machine.mk a.Inputs a.Outputs rows) = some ⟨a.Inputs, a.Outputs, rows⟩ := copy_eq _ (by simp only; omega) hrl'
    rw [bdT hcp]
    have n0 : 1 ≤ a.Rows.length := va.len1
    have k0 : 1 ≤ a.Inputs := va.in1
    have w0 : w64 x.Place.e0 = x.Place.e0 := w64_in (by have := h.p0; omega) (by have := h.p0; omega)
    have w1 : w64 x.Place.e1 = x.Place.e1 := w64_in (by have := h.p1; omega) (by have := h.p1; omega)
    rw [w0, w1]
    have m0 := Int.tmod_nonneg (a.Rows.length : Int) h.p0.1
    have m1 := Int.tmod_lt_of_pos x.Place.e0 (show (0 : Int) < (a.Rows.length : Int) by omega)
    have m2 := Int.tmod_nonneg a.Inputs h.p1.1
    have m3 := Int.tmod_lt_of_pos x.Place.e1 (show (0 : Int) < a.Inputs by omega)
    generalize Int.tmod x.Place.e0 (a.Rows.length : Int) = ps at m0 m1 ⊢
    generalize Int.tmod x.Place.e1 a.Inputs = pi at m2 m3 ⊢
    have hpl : ps.toNat < rows.length := by omega
    rw [ret_gd]
    refine ⟨by omega, ?_⟩
    rw [ret_bind, ret_idx]
    refine ⟨m0, _, List.getElem?_eq_getElem hpl, ?_⟩
    have hrow := (hrows.2 _ (List.getElem_mem hpl)).1
    rw [ret_gd]
    refine ⟨by omega, ?_⟩
    rw [ret_bind, ret_idx]
    refine ⟨m2, _, List.getElem?_eq_getElem (show pi.toNat < rows[ps.toNat].length by omega), ?_⟩
    rw [bdT (ref_check _), ret_bif]
    refine ⟨fun hc => ?_, fun _ => ?_⟩
    · rw [ret_some]
      have hc := vm_of (show chk _ = 0 by simpa using hc)
      refine ⟨va, hc, rfl, l6, ?_⟩
      simp only [List.length_set]
      omega
    · rw [ret_some]
      exact ⟨va, vb, rfl, l6, by simp only; omega⟩
  rw [ret_bind]
  refine hto.mono fun t ht => ?_
  obtain ⟨tl, tv⟩ := ht
  unfold law10_D_Of_J1
  rw [ret_bif]
  refine ⟨fun hn => ?_, fun _ => rest t tl tv⟩
  have hn : (a.Rows.length : Int) > 1 := of_decide_eq_true hn
  have wn : w64 ((a.Rows.length : Int) - 1) = (a.Rows.length : Int) - 1 := w64_in (by omega) (by omega)
  have w0 : w64 x.Swap.e0 = x.Swap.e0 := w64_in (by have := h.s0; omega) (by have := h.s0; omega)
  have w1 : w64 x.Swap.e1 = x.Swap.e1 := w64_in (by have := h.s1; omega) (by have := h.s1; omega)
  rw [wn, w0, w1]
  have m0 := Int.tmod_nonneg ((a.Rows.length : Int) - 1) h.s0.1
  have m1 := Int.tmod_lt_of_pos x.Swap.e0 (show (0 : Int) < (a.Rows.length : Int) - 1 by omega)
  have m2 := Int.tmod_nonneg ((a.Rows.length : Int) - 1) h.s1.1
  have m3 := Int.tmod_lt_of_pos x.Swap.e1 (show (0 : Int) < (a.Rows.length : Int) - 1 by omega)
  generalize Int.tmod x.Swap.e0 ((a.Rows.length : Int) - 1) = p at m0 m1 ⊢
  generalize Int.tmod x.Swap.e1 ((a.Rows.length : Int) - 1) = q at m2 m3 ⊢
  have wp : w64 (1 + p) = 1 + p := w64_in (by omega) (by omega)
  have wq : w64 (1 + q) = 1 + q := w64_in (by omega) (by omega)
  rw [wp, wq, ret_gd]
  refine ⟨by omega, ?_⟩
  rw [ret_gd]
  refine ⟨by omega, ?_⟩
  have hq : (1 + q).toNat < t.length := by omega
  have hp : (1 + p).toNat < t.length := by omega
  rw [ret_bind, ret_idx]
  refine ⟨by omega, _, List.getElem?_eq_getElem hq, ?_⟩
  rw [ret_bind, ret_idx]
  refine ⟨by omega, _, List.getElem?_eq_getElem hp, ?_⟩
  rw [ret_bind, ret_idx]
  refine ⟨by omega, _, List.getElem?_eq_getElem hp, ?_⟩
  rw [ret_bind, ret_idx]
  refine ⟨by omega, _, List.getElem?_eq_getElem (by simpa using hq), ?_⟩
  refine rest _ (by simpa using tl) fun v hv => ?_
  rcases List.mem_or_eq_of_mem_set hv with g | g
  · rcases List.mem_or_eq_of_mem_set g with g | g
    · exact tv v g
    · subst g; exact tv _ (List.getElem_mem hq)
  · subst g; exact tv _ (List.getElem_mem hp)
end Go.Own

namespace Go.Own
set_option linter.unusedVariables false
set_option linter.unusedSimpArgs false
theorem countP_lt {α : Type} {p q : α → Bool} : ∀ {l : List α}, (∀ x ∈ l, p x = true → q x = true) → (∃ x ∈ l, q x = true ∧ p x = false) → l.countP p < l.countP q
  | [], _, ⟨x, hx, _⟩ => by cases hx
  | y :: l, h, ⟨x, hx, h1, h2⟩ => by
    have hm : l.countP p ≤ l.countP q := List.countP_mono_left fun z hz => h z (List.mem_cons_of_mem _ hz)
    simp only [List.countP_cons]
    rcases List.mem_cons.1 hx with rfl | hx
    · simp only [h1, h2, if_true, Bool.false_eq_true, if_false]
      omega
    · have := countP_lt (fun z hz => h z (List.mem_cons_of_mem _ hz)) ⟨x, hx, h1, h2⟩
      cases hp : p y with
      | true => simp only [h y (by simp) hp, if_true]; omega
      | false =>
        simp only [Bool.false_eq_true, if_false]
        split <;> omega
open Classical in
/-- How many classes there are. -/
noncomputable def reps (N : Nat) (R : Nat → Nat → Prop) : Nat := (List.range N).countP fun s => decide (∀ t, t < s → ¬ R s t)
theorem stab {N : Nat} (hN : 0 < N) (R : Nat → Nat → Nat → Prop) (symm : ∀ k s t, s < N → t < N → R k s t → R k t s) (trans : ∀ k s t u, s < N → t < N → u < N → R k s t → R k t u → R k s u)
    (refl : ∀ k s, s < N → R k s s) (mono : ∀ k s t, s < N → t < N → R (k + 1) s t → R k s t) (stat : ∀ k, (∀ s t, s < N → t < N → R k s t → R (k + 1) s t) → ∀ s t, s < N → t < N → R (k + 1) s t → R (k + 2) s t) :
    ∀ s t, s < N → t < N → R (N - 1) s t → ∀ j, R j s t := by
  classical
  have step : ∀ k, (¬ ∀ s t, s < N → t < N → R k s t → R (k + 1) s t) → reps N (R k) < reps N (R (k + 1)) := by
    intro k hk
    simp only [Classical.not_forall] at hk
    obtain ⟨s, t, hs, ht, h1, h2⟩ := hk
    unfold reps
    refine countP_lt (fun x hx => ?_) ?_
    · have hx := List.mem_range.1 hx
      simp only [decide_eq_true_eq]
      exact fun h t ht q => h t ht (mono k x t hx (by omega) q)
    · -- the first one of the class, and one that parts from it
      have hmin : ∃ z, z < N ∧ R k z s ∧ ∀ y, y < z → ¬ R k y s := by
        have key : ∀ n, ∀ z, z ≤ n → z < N → R k z s → ∃ z, z < N ∧ R k z s ∧ ∀ y, y < z → ¬ R k y s := by
          intro n
          induction n with
          | zero => intro z hz hzN hr; exact ⟨z, hzN, hr, fun y hy => by omega⟩
          | succ n ih =>
            intro z hz hzN hr
            by_cases q : ∃ y, y < z ∧ R k y s
            · obtain ⟨y, y1, y2⟩ := q
              exact ih y (by omega) (by omega) y2
            · exact ⟨z, hzN, hr, fun y hy g => q ⟨y, hy, g⟩⟩
        exact key s s (Nat.le_refl _) hs (refl k s hs)
      obtain ⟨z, hz, hzs, hzm⟩ := hmin
      have hzt : R k z t := trans k z s t hz hs ht hzs h1
      obtain ⟨u, hu, hzu, hne⟩ : ∃ u, u < N ∧ R k z u ∧ ¬ R (k + 1) z u := by
        by_cases q : R (k + 1) z s
        · by_cases g : R (k + 1) z t
          · exact (h2 (trans (k + 1) s z t hs hz ht (symm _ _ _ hz hs q) g)).elim
          · exact ⟨t, ht, hzt, g⟩
        · exact ⟨s, hs, hzs, q⟩
      -- the first one of its new class
      have hmin : ∃ y, y < N ∧ R (k + 1) y u ∧ ∀ x, x < y → ¬ R (k + 1) x u := by
        have key : ∀ n, ∀ z, z ≤ n → z < N → R (k + 1) z u → ∃ z, z < N ∧ R (k + 1) z u ∧ ∀ y, y < z → ¬ R (k + 1) y u := by
          intro n
          induction n with
          | zero => intro z hz hzN hr; exact ⟨z, hzN, hr, fun y hy => by omega⟩
          | succ n ih =>
            intro z hz hzN hr
            by_cases q : ∃ y, y < z ∧ R (k + 1) y u
            · obtain ⟨y, y1, y2⟩ := q
              exact ih y (by omega) (by omega) y2
            · exact ⟨z, hzN, hr, fun y hy g => q ⟨y, hy, g⟩⟩
        exact key u u (Nat.le_refl _) hu (refl _ u hu)
      obtain ⟨y, hy, hyu, hym⟩ := hmin
      have hyk : R k y u := mono k y u hy hu hyu
      have hyz : R k y z := trans k y u z hy hu hz hyk (symm _ _ _ hz hu hzu)
      have hzy : z < y := by
        rcases Nat.lt_trichotomy z y with g | g | g
        · exact g
        · subst g; exact (hne hyu).elim
        · exact (hzm y g (trans k y z s hy hz hs hyz hzs)).elim
      refine ⟨y, List.mem_range.2 hy, ?_, ?_⟩
      · simp only [decide_eq_true_eq]
        intro x hx q
        exact hym x hx (trans (k + 1) x y u (by omega) hy hu (symm _ _ _ hy (by omega) q) hyu)
      · simp only [decide_eq_false_iff_not]
        intro q
        exact q z hzy hyz
  have le : ∀ k, reps N (R k) ≤ N := by
    intro k
    unfold reps
    refine Nat.le_trans (List.countP_le_length) ?_
    simp
  have one : ∀ k, 1 ≤ reps N (R k) := by
    intro k
    unfold reps
    refine List.countP_pos_iff.2 ⟨0, List.mem_range.2 hN, ?_⟩
    simp
  have rest : ∃ k, k < N ∧ ∀ s t, s < N → t < N → R k s t → R (k + 1) s t := by
    refine Classical.byContradiction fun hno => ?_
    have : ∀ k, k ≤ N → k + 1 ≤ reps N (R k) := by
      intro k
      induction k with
      | zero => intro _; exact one 0
      | succ k ih =>
        intro hk
        have := step k fun h => hno ⟨k, by omega, h⟩
        have := ih (by omega)
        omega
    have := this N (Nat.le_refl _)
    have := le N
    omega
  obtain ⟨k, hk, hst⟩ := rest
  have up : ∀ d, ∀ s t, s < N → t < N → R (k + d) s t → R (k + d + 1) s t := by
    intro d
    induction d with
    | zero => exact hst
    | succ d ih => exact stat (k + d) ih
  have down : ∀ d j s t, s < N → t < N → R (j + d) s t → R j s t := by
    intro d
    induction d with
    | zero => intro j s t _ _ h; exact h
    | succ d ih => intro j s t hs ht h; exact ih j s t hs ht (mono _ s t hs ht h)
  intro s t hs ht h j
  have hk' : R k s t := down (N - 1 - k) k s t hs ht (by rw [show k + (N - 1 - k) = N - 1 by omega]; exact h)
  have far : ∀ d, R (k + d) s t := by
    intro d
    induction d with
    | zero => exact hk'
    | succ d ih => exact up d s t hs ht ih
  exact down k j s t hs ht (by rw [Nat.add_comm]; exact far j)
section
variable {S S' : Type} {k : Nat} {bad : S → Nat → Bool} {nx : S → Nat → Option S} {bad' : S' → Nat → Bool} {nx' : S' → Nat → Option S'} (φ : S → S') (I : S → Prop)
  (hI : ∀ p i q, I p → i < k → nx p i = some q → I q) (hb : ∀ p i, I p → i < k → bad' (φ p) i = bad p i) (hn : ∀ p i, I p → i < k → nx' (φ p) i = (nx p i).map φ)
include hI hb hn
theorem mk_along : ∀ (n : Nat) (p : S), I p → (Mk k bad' nx' n (φ p) ↔ Mk k bad nx n p)
  | 0, _, _ => Iff.rfl
  | n + 1, p, hp => by
    simp only [Mk]
    rw [mk_along n p hp]
    constructor
    · rintro (h | ⟨i, hi, h | ⟨q, hq, h⟩⟩)
      · exact .inl h
      · exact .inr ⟨i, hi, .inl (by rw [← hb p i hp hi]; exact h)⟩
      · rw [hn p i hp hi] at hq
        obtain ⟨r, hr, rfl⟩ := Option.map_eq_some_iff.1 hq
        exact .inr ⟨i, hi, .inr ⟨r, hr, (mk_along n r (hI p i r hp hi hr)).1 h⟩⟩
    · rintro (h | ⟨i, hi, h | ⟨q, hq, h⟩⟩)
      · exact .inl h
      · exact .inr ⟨i, hi, .inl (by rw [hb p i hp hi]; exact h)⟩
      · exact .inr ⟨i, hi, .inr ⟨φ q, by rw [hn p i hp hi, hq]; rfl, (mk_along n q (hI p i q hp hi hq)).2 h⟩⟩
theorem greedy_along : ∀ (n : Nat) (p : S) (w : List Nat), I p → Greedy k bad' nx' n (φ p) w → Greedy k bad nx n p w
  | 0, _, _, _, h => h
  | n + 1, p, w, hp, ⟨i, u, e, hi, h1, h2, h3, h4⟩ => by
    refine ⟨i, u, e, hi, ?_, ?_, ?_, h4⟩
    · rcases h1 with h | ⟨q, hq, h⟩
      · exact .inl (by rw [← hb p i hp hi]; exact h)
      · rw [hn p i hp hi] at hq
        obtain ⟨r, hr, rfl⟩ := Option.map_eq_some_iff.1 hq
        exact .inr ⟨r, hr, (mk_along φ I hI hb hn n r (hI p i r hp hi hr)).1 h⟩
    · intro j hj h
      apply h2 j hj
      rcases h with h | ⟨q, hq, h⟩
      · exact .inl (by rw [hb p j hp (by omega)]; exact h)
      · exact .inr ⟨φ q, by rw [hn p j hp (by omega), hq]; rfl, (mk_along φ I hI hb hn n q (hI p j q hp (by omega) hq)).2 h⟩
    · intro hn0
      obtain ⟨q, hq, h⟩ := h3 hn0
      rw [hn p i hp hi] at hq
      obtain ⟨r, hr, rfl⟩ := Option.map_eq_some_iff.1 hq
      exact ⟨r, hr, greedy_along n r u (hI p i r hp hi hr) h⟩
end
end Go.Own

namespace Go.Own
set_option linter.unusedVariables false
set_option linter.unusedSimpArgs false
/-- Machines whose rows and edges fit. -/
structure WM (m : S_api_Machine) : Prop where
  in1 : 1 ≤ m.Inputs
  in16 : m.Inputs ≤ 16
  len1 : 1 ≤ m.Rows.length
  len : m.Rows.length ≤ 128
  row : ∀ r ∈ m.Rows, (r.length : Int) = m.Inputs
  edge : ∀ r ∈ m.Rows, ∀ x ∈ r, (x.To = -1 ∧ x.Out = -1) ∨ (0 ≤ x.To ∧ x.To < (m.Rows.length : Int) ∧ 0 ≤ x.Out)
section
variable {m : S_api_Machine} (h : WM m)
include h
theorem WM.kk_eq : ((kk m : Nat) : Int) = m.Inputs := by have := h.in1; unfold kk; omega
theorem WM.kk_le : kk m ≤ 16 := by have := h.in16; unfold kk; omega
theorem WM.rowAt {s : Nat} (hs : s < m.Rows.length) : ∃ r, m.Rows[s]? = some r ∧ r.length = kk m ∧ ∀ i, i < kk m → r[i]? = some (E m s i) := by
  have hr := List.getElem?_eq_getElem hs
  have hl := h.row _ (List.getElem_mem hs)
  have hl' : m.Rows[s].length = kk m := by unfold kk; omega
  refine ⟨_, hr, hl', fun i hi => ?_⟩
  have hi' : i < m.Rows[s].length := by omega
  unfold E
  rw [hr]
  simp only [Option.getD_some]
  rw [List.getElem?_eq_getElem hi']
  rfl
theorem WM.edgeAt {s i : Nat} (hs : s < m.Rows.length) (hi : i < kk m) : ((E m s i).To = -1 ∧ (E m s i).Out = -1) ∨ (0 ≤ (E m s i).To ∧ (E m s i).To < (m.Rows.length : Int) ∧ 0 ≤ (E m s i).Out) := by
  obtain ⟨r, h1, _, h2⟩ := h.rowAt hs
  exact h.edge r (List.mem_of_getElem? h1) _ (List.mem_of_getElem? (h2 i hi))
theorem WM.edge_eq {s i : Nat} (hs : s < m.Rows.length) (hi : i < kk m) {β : Type} {f : S_api_Edge → Option β} :
    (Option.bind (idx m.Rows (s : Int)) fun r => Option.bind (idx r (i : Int)) f) = f (E m s i) := by
  obtain ⟨r, h1, _, h2⟩ := h.rowAt hs
  rw [idx_nat, h1, Option.bind_some, idx_nat, h2 i hi, Option.bind_some]
theorem WM.nx_in {p : Nat × Nat} {i : Nat} {q : Nat × Nat} (h1 : p.1 < m.Rows.length) (h2 : p.2 < m.Rows.length) (hi : i < kk m) (hq : nxP m m p i = some q) : q.1 < m.Rows.length ∧ q.2 < m.Rows.length := by
  unfold nxP at hq
  split at hq
  · rename_i hc
    cases hq
    have a := h.edgeAt h1 hi
    have b := h.edgeAt h2 hi
    simp only
    omega
  · cases hq
end
/-- Marked, as_ a truth value. -/
def mkb (k : Nat) (bad : Nat × Nat → Nat → Bool) (nx : Nat × Nat → Nat → Option (Nat × Nat)) : Nat → Nat × Nat → Bool
  | 0, _ => false
  | n + 1, p => mkb k bad nx n p || (List.range k).any fun i => bad p i || (match nx p i with | some q => mkb k bad nx n q | none => false)
theorem mkb_iff (k : Nat) (bad : Nat × Nat → Nat → Bool) (nx : Nat × Nat → Nat → Option (Nat × Nat)) : ∀ (n : Nat) (p : Nat × Nat), mkb k bad nx n p = true ↔ Mk k bad nx n p
  | 0, p => by simp [mkb, Mk]
  | n + 1, p => by
    simp only [mkb, Mk, Bool.or_eq_true, List.any_eq_true, List.mem_range, mkb_iff k bad nx n p]
    constructor
    · rintro (h | ⟨i, hi, h | h⟩)
      · exact .inl h
      · exact .inr ⟨i, hi, .inl h⟩
      · cases hq : nx p i with
        | none => rw [hq] at h; cases h
        | some q => rw [hq] at h; exact .inr ⟨i, hi, .inr ⟨q, hq, (mkb_iff k bad nx n q).1 h⟩⟩
    · rintro (h | ⟨i, hi, h | ⟨q, hq, h⟩⟩)
      · exact .inl h
      · exact .inr ⟨i, hi, .inl h⟩
      · exact .inr ⟨i, hi, .inr (by rw [hq]; exact (mkb_iff k bad nx n q).2 h)⟩
/-- A table. -/
def tab (N : Nat) (f : Nat → Nat → Bool) : List (List Bool) := (List.range N).map fun s => (List.range N).map fun t => f s t
theorem tab_at {N s t : Nat} (f : Nat → Nat → Bool) (hs : s < N) (ht : t < N) {β : Type} {g : Bool → Option β} : (Option.bind (idx (tab N f) (s : Int)) fun r => Option.bind (idx r (t : Int)) g) = g (f s t) := by
  have e1 : (tab N f)[s]? = some ((List.range N).map fun t => f s t) := by simp [tab, hs]
  have e2 : ((List.range N).map fun t => f s t)[t]? = some (f s t) := by simp [ht]
  rw [idx_nat, e1, Option.bind_some, idx_nat, e2, Option.bind_some]
theorem set_range {α : Type} (N t : Nat) (g : Nat → α) (v : α) : ((List.range N).map g).set t v = (List.range N).map fun x => if x = t then v else g x := by
  refine List.ext_getElem (by simp) fun n h1 h2 => ?_
  simp only [List.getElem_set, List.getElem_map, List.getElem_range]
  by_cases e : t = n
  · rw [if_pos e, if_pos e.symm]
  · rw [if_neg e, if_neg (Ne.symm e)]
def telP (m : S_api_Machine) (f : Nat → Nat → Bool) (p : Nat × Nat) (i : Nat) : Bool := badP m m p i || (match nxP m m p i with | some q => f q.1 q.2 | none => false)
theorem apart_eq {m : S_api_Machine} (h : WM m) (f : Nat → Nat → Bool) {s t : Nat} (hs : s < m.Rows.length) (ht : t < m.Rows.length) :
    ref07_apart m (tab m.Rows.length f) (s : Int) (t : Int) = some (if (List.range (kk m)).any (telP m f (s, t)) = true then 1 else 0) := by
  have hk := h.kk_eq
  have k16 := h.kk_le
  have hl : loop (fun q => ref07_apart_L2 m (tab m.Rows.length f) (s : Int) (t : Int) q) 0 = some (oS (firstS (fun _ i => if telP m f (s, t) i = true then some (1 : Int) else none) (List.range (kk m)) 0)) := by
    refine loop_list (List.range (kk m)) (by simp; omega) _ ?_ ?_
    · intro i x hx
      have hi : i < kk m := by have := (List.getElem?_eq_some_iff.1 hx).1; simpa using this
      have : x = i := by rw [List.getElem?_range hi] at hx; exact (Option.some.inj hx).symm
      subst this
      unfold ref07_apart_L2 ref07_apart_J3
      have hd : decide ((x : Int) < m.Inputs) = true := by rw [← hk]; simpa using hi
      rw [hd, cond_true, h.edge_eq hs hi, h.edge_eq ht hi]
      have e1 := h.edgeAt hs hi
      have e2 := h.edgeAt ht hi
      by_cases hbad : (E m s x).Out = (E m t x).Out
      · have n1 : ((E m s x).Out != (E m t x).Out) = false := by simpa using hbad
        rw [n1, cond_false]
        by_cases t1 : (E m s x).To ≥ 0
        · by_cases t2 : (E m t x).To ≥ 0
          · have hnx : nxP m m (s, t) x = some ((E m s x).To.toNat, (E m t x).To.toNat) := by unfold nxP; rw [if_pos ⟨t1, t2⟩]
            have hin := h.nx_in hs ht hi hnx
            have c1 : (E m s x).To = (((E m s x).To.toNat : Nat) : Int) := by omega
            have c2 : (E m t x).To = (((E m t x).To.toNat : Nat) : Int) := by omega
            have ht1 : telP m f (s, t) x = f (E m s x).To.toNat (E m t x).To.toNat := by
              unfold telP badP
              rw [hnx]
              simp only [n1, Bool.false_or]
            rw [decide_eq_true t1, decide_eq_true t2]
            simp only [cond_true]
            have := tab_at f hin.1 hin.2 (g := fun v => bif v then some (LR.done (Sum.inr (1 : Int)) : LR Int (Unit ⊕ Int)) else some (LR.next (w64 ((x : Int) + 1))))
            rw [← c1, ← c2] at this
            rw [this, ht1]
            cases f (E m s x).To.toNat (E m t x).To.toNat <;> rfl
          · have ht1 : telP m f (s, t) x = false := by
              unfold telP badP nxP
              rw [if_neg (by simp only; omega)]
              simp only [n1, Bool.false_or]
            rw [decide_eq_true t1, decide_eq_false t2, ht1]
            rfl
        · have ht1 : telP m f (s, t) x = false := by
            unfold telP badP nxP
            rw [if_neg (by simp only; omega)]
            simp only [n1, Bool.false_or]
          rw [decide_eq_false t1, ht1]
          rfl
      · have n1 : ((E m s x).Out != (E m t x).Out) = true := by simpa using hbad
        have ht1 : telP m f (s, t) x = true := by
          unfold telP badP
          simp only [n1, Bool.true_or]
        rw [n1, ht1]
        rfl
    · unfold ref07_apart_L2
      rw [List.length_range, hk]
      simp
  unfold ref07_apart
  rw [bdT hl]
  cases hf : firstS (fun (_ : Nat) i => if telP m f (s, t) i = true then some (1 : Int) else none) (List.range (kk m)) 0 with
  | some q =>
    obtain ⟨i, x, h1, h2⟩ := firstS_some hf
    split at h2
    · rename_i hx
      cases h2
      have : (List.range (kk m)).any (telP m f (s, t)) = true := List.any_eq_true.2 ⟨x, List.mem_of_getElem? h1, hx⟩
      rw [if_pos this]
      rfl
    · cases h2
  | none =>
    have : ¬ (List.range (kk m)).any (telP m f (s, t)) = true := by
      rw [List.any_eq_true]
      rintro ⟨x, hx, hx2⟩
      obtain ⟨i, hi⟩ := List.getElem?_of_mem hx
      have := firstS_isNone hf i x hi
      rw [if_pos hx2] at this
      cases this
    rw [if_neg this]
    rfl
theorem rep_row (N : Nat) : List.replicate ((N : Nat) : Int).toNat false = (List.range N).map fun _ => false := by
  refine List.ext_getElem (by simp) fun n h1 h2 => ?_
  simp
/-- One round of marking. -/
def nextF (m : S_api_Machine) (f : Nat → Nat → Bool) (s t : Nat) : Bool := f s t || (List.range (kk m)).any (telP m f (s, t))
theorem round_eq {m : S_api_Machine} (h : WM m) (f : Nat → Nat → Bool) : loop (fun q => ref07_Marked_L6 m (tab m.Rows.length f) q.1 q.2) (([] : List (List Bool)), 0) = some (tab m.Rows.length (nextF m f)) := by
  have l128 := h.len
  -- a row
  have row : ∀ (s : Nat), s < m.Rows.length → loop (fun q => ref07_Marked_L8 m (tab m.Rows.length f) (s : Int) q.1 q.2) (((List.range s).map fun s => (List.range m.Rows.length).map fun t => nextF m f s t) ++ [(List.range m.Rows.length).map fun _ => false], 0) = some ((List.range (s + 1)).map fun s => (List.range m.Rows.length).map fun t => nextF m f s t) := by
    intro s hs
    have hst := loop_seq (step := fun q => ref07_Marked_L8 m (tab m.Rows.length f) (s : Int) q.1 q.2) (fun t : Nat => (((List.range s).map fun s => (List.range m.Rows.length).map fun t => nextF m f s t) ++ [(List.range m.Rows.length).map fun t' => if t' < t then nextF m f s t' else false], (t : Int))) m.Rows.length (t := (List.range (s + 1)).map fun s => (List.range m.Rows.length).map fun t => nextF m f s t) (by omega) ?_ ?_
    · simpa using hst
    · intro t ht
      unfold ref07_Marked_L8
      have hd : decide ((t : Int) < ((m.Rows.length : Nat) : Int)) = true := by simpa using ht
      have hw : w64 ((t : Int) + 1) = ((t + 1 : Nat) : Int) := by rw [w64_in (by omega) (by omega)]; rfl
      simp only [hd, cond_true]
      have e1 : (((List.range s).map fun s => (List.range m.Rows.length).map fun t => nextF m f s t) ++ [(List.range m.Rows.length).map fun t' => if t' < t then nextF m f s t' else false])[s]? = some ((List.range m.Rows.length).map fun t' => if t' < t then nextF m f s t' else false) := by
        rw [List.getElem?_append_right (by simp)]
        simp
      have e2 : ∀ x, ((List.range m.Rows.length).map fun t' => if t' < t then nextF m f s t' else false)[t]? = some x ↔ x = false := by
        intro x
        simp [ht, eq_comm]
      have e2' := (e2 false).2 rfl
      have fin : ∀ v : Bool, v = nextF m f s t → (((List.range s).map fun s => (List.range m.Rows.length).map fun t => nextF m f s t) ++ [(List.range m.Rows.length).map fun t' => if t' < t then nextF m f s t' else false]).set s (((List.range m.Rows.length).map fun t' => if t' < t then nextF m f s t' else false).set t v) = ((List.range s).map fun s => (List.range m.Rows.length).map fun t => nextF m f s t) ++ [(List.range m.Rows.length).map fun t' => if t' < t + 1 then nextF m f s t' else false] := by
        intro v hv
        rw [List.set_append, if_neg (by simp), set_range]
        simp only [List.length_map, List.length_range, Nat.sub_self, List.set_cons_zero]
        congr 3
        funext x
        by_cases e : x = t
        · subst e; rw [if_pos rfl, if_pos (by omega)]; exact hv
        · rw [if_neg e]
          by_cases g : x < t
          · rw [if_pos g, if_pos (by omega)]
          · rw [if_neg g, if_neg (by omega)]
      rw [idx_nat, bdT e1, tab_at f hs ht]
      cases hf : f s t with
      | true =>
        simp only [cond_true]
        rw [idx_nat, bdT e2', hw, Int.toNat_natCast, Int.toNat_natCast, fin true (by simp [nextF, hf])]
      | false =>
        simp only [cond_false]
        rw [bdT (apart_eq h f hs ht), idx_nat, bdT e2', hw, Int.toNat_natCast, Int.toNat_natCast, fin _ ?_]
        unfold nextF
        rw [hf, Bool.false_or]
        cases (List.range (kk m)).any (telP m f (s, t)) <;> rfl
    · unfold ref07_Marked_L8
      simp only [Int.lt_irrefl, decide_false, cond_false]
      congr 3
      rw [List.range_succ, List.map_append]
      congr 1
      simp only [List.map_cons, List.map_nil]
      congr 1
      refine List.map_congr_left fun x hx => ?_
      rw [if_pos (List.mem_range.1 hx)]
  have := loop_seq (step := fun q => ref07_Marked_L6 m (tab m.Rows.length f) q.1 q.2) (fun s : Nat => ((List.range s).map fun s => (List.range m.Rows.length).map fun t => nextF m f s t, (s : Int))) m.Rows.length (t := tab m.Rows.length (nextF m f)) (by omega) ?_ ?_
  · exact this
  · intro s hs
    unfold ref07_Marked_L6 ref07_Marked_J7
    have hd : decide ((s : Int) < ((m.Rows.length : Nat) : Int)) = true := by simpa using hs
    have hw : w64 ((s : Int) + 1) = ((s + 1 : Nat) : Int) := by rw [w64_in (by omega) (by omega)]; rfl
    simp only [hd, cond_true]
    rw [gdT (by omega), gdT (by simp; omega), rep_row, bdT (row s hs), hw]
  · unfold ref07_Marked_L6
    simp only [Int.lt_irrefl, decide_false, cond_false]
    rfl
/-- The table of pairs that are told apart by at most n symbols. -/
def mrk (m : S_api_Machine) (n s t : Nat) : Bool := mkb (kk m) (badP m m) (nxP m m) n (s, t)
theorem next_mrk (m : S_api_Machine) (n : Nat) : nextF m (mrk m n) = mrk m (n + 1) := by
  funext s t
  unfold nextF mrk
  simp only [mkb]
  congr 1
theorem marked_eq {m : S_api_Machine} (h : WM m) (n : Nat) (hn : n ≤ 1000000) : ref07_Marked m (n : Int) = some (tab m.Rows.length (mrk m n)) := by
  have l128 := h.len
  have l9 : loop (fun q => ref07_Marked_L9 m q.1 q.2) (([] : List (List Bool)), 0) = some (tab m.Rows.length (mrk m 0)) := by
    have := loop_seq (step := fun q => ref07_Marked_L9 m q.1 q.2) (fun s : Nat => ((List.range s).map fun _ => (List.range m.Rows.length).map fun _ => false, (s : Int))) m.Rows.length (t := tab m.Rows.length (mrk m 0)) (by omega) ?_ ?_
    · exact this
    · intro s hs
      unfold ref07_Marked_L9
      have hd : decide ((s : Int) < ((m.Rows.length : Nat) : Int)) = true := by simpa using hs
      have hw : w64 ((s : Int) + 1) = ((s + 1 : Nat) : Int) := by rw [w64_in (by omega) (by omega)]; rfl
      simp only [hd, cond_true]
      rw [gdT (by omega), gdT (by simp; omega), rep_row, hw, List.range_succ, List.map_append]
      rfl
    · unfold ref07_Marked_L9
      simp only [Int.lt_irrefl, decide_false, cond_false]
      rfl
  have l3 := loop_seq (step := fun q => ref07_Marked_L3 m (n : Int) q.1 q.2) (fun r : Nat => (tab m.Rows.length (mrk m r), (r : Int))) n (t := tab m.Rows.length (mrk m n)) (by omega) ?_ ?_
  · unfold ref07_Marked ref07_Marked_J1 ref07_Marked_J2
    rw [bdT l9]
    have l3' : loop (fun q => ref07_Marked_L3 m (n : Int) q.1 q.2) (tab m.Rows.length (mrk m 0), 0) = some (tab m.Rows.length (mrk m n)) := l3
    rw [bdT l3']
  · intro r hr
    unfold ref07_Marked_L3 ref07_Marked_J5 ref07_Marked_J4
    have hd : decide ((r : Int) < (n : Int)) = true := by simpa using hr
    have hw : w64 ((r : Int) + 1) = ((r + 1 : Nat) : Int) := by rw [w64_in (by omega) (by omega)]; rfl
    simp only [hd, cond_true]
    rw [bdT (round_eq h (mrk m r)), next_mrk, hw]
  · unfold ref07_Marked_L3
    simp only [Int.lt_irrefl, decide_false, cond_false]
/-- States that no number of symbols less than that of the states tells apart are told apart by none. -/
theorem mk_bound {m : S_api_Machine} (h : WM m) {s t : Nat} (hs : s < m.Rows.length) (ht : t < m.Rows.length) {j : Nat} (hj : Mk (kk m) (badP m m) (nxP m m) j (s, t)) : Mk (kk m) (badP m m) (nxP m m) (m.Rows.length - 1) (s, t) := by
  refine Classical.byContradiction fun hno => ?_
  have same : ∀ {p : Nat × Nat} {i : Nat}, p.1 < m.Rows.length → p.2 < m.Rows.length → i < kk m → badP m m p i = false → ((E m p.1 i).To ≥ 0 ↔ (E m p.2 i).To ≥ 0) := by
    intro p i h1 h2 hi hb
    have e : (E m p.1 i).Out = (E m p.2 i).Out := by simpa [badP] using hb
    have a := h.edgeAt h1 hi
    have b := h.edgeAt h2 hi
    omega
  have symm : ∀ k s t, Mk (kk m) (badP m m) (nxP m m) k (s, t) → Mk (kk m) (badP m m) (nxP m m) k (t, s) := by
    intro k
    induction k with
    | zero => intro s t h; exact h
    | succ k ih =>
      rintro s t (h | ⟨i, hi, h | ⟨q, hq, h⟩⟩)
      · exact .inl (ih _ _ h)
      · exact .inr ⟨i, hi, .inl (by
          unfold badP at h ⊢
          simp only [bne_iff_ne, ne_eq] at h ⊢
          exact fun e => h e.symm)⟩
      · refine .inr ⟨i, hi, .inr ⟨(q.2, q.1), ?_, ih _ _ h⟩⟩
        unfold nxP at hq ⊢
        split at hq
        · rename_i hc
          cases hq
          rw [if_pos ⟨hc.2, hc.1⟩]
        · cases hq
  have trans : ∀ k s t u, s < m.Rows.length → t < m.Rows.length → u < m.Rows.length → Mk (kk m) (badP m m) (nxP m m) k (s, u) → Mk (kk m) (badP m m) (nxP m m) k (s, t) ∨ Mk (kk m) (badP m m) (nxP m m) k (t, u) := by
    intro k
    induction k with
    | zero => intro s t u _ _ _ h; exact h.elim
    | succ k ih =>
      rintro s t u hs ht hu (g | ⟨i, hi, g | ⟨q, hq, g⟩⟩)
      · rcases ih s t u hs ht hu g with g | g
        · exact .inl (.inl g)
        · exact .inr (.inl g)
      · cases b1 : badP m m (s, t) i with
        | true => exact .inl (.inr ⟨i, hi, .inl b1⟩)
        | false =>
          refine .inr (.inr ⟨i, hi, .inl ?_⟩)
          unfold badP at b1 g ⊢
          simp only [bne_iff_ne, ne_eq, bne_eq_false_iff_eq] at b1 g ⊢
          rw [← b1]
          exact g
      · cases b1 : badP m m (s, t) i with
        | true => exact .inl (.inr ⟨i, hi, .inl b1⟩)
        | false =>
          cases b2 : badP m m (t, u) i with
          | true => exact .inr (.inr ⟨i, hi, .inl b2⟩)
          | false =>
            have c1 := same (p := (s, t)) hs ht hi b1
            have c2 := same (p := (t, u)) ht hu hi b2
            simp only at c1 c2
            unfold nxP at hq
            split at hq
            · rename_i hc
              cases hq
              simp only at hc g
              have e1 := h.edgeAt hs hi
              have e2 := h.edgeAt ht hi
              have e3 := h.edgeAt hu hi
              rcases ih (E m s i).To.toNat (E m t i).To.toNat (E m u i).To.toNat (by omega) (by omega) (by omega) g with g | g
              · exact .inl (.inr ⟨i, hi, .inr ⟨_, by unfold nxP; rw [if_pos ⟨hc.1, by simp only; omega⟩], g⟩⟩)
              · exact .inr (.inr ⟨i, hi, .inr ⟨_, by unfold nxP; rw [if_pos ⟨by simp only; omega, hc.2⟩], g⟩⟩)
            · cases hq
  have refl : ∀ k s, ¬ Mk (kk m) (badP m m) (nxP m m) k (s, s) := by
    intro k
    induction k with
    | zero => intro s h; exact h
    | succ k ih =>
      rintro s (g | ⟨i, hi, g | ⟨q, hq, g⟩⟩)
      · exact ih s g
      · simp [badP] at g
      · unfold nxP at hq
        split at hq
        · cases hq; exact ih _ g
        · cases hq
  exact stab (N := m.Rows.length) h.len1 (fun k s t => ¬ Mk (kk m) (badP m m) (nxP m m) k (s, t)) (fun k s t _ _ g q => g (symm k t s q)) (fun k s t u hs ht hu g1 g2 q => by
      rcases trans k s t u hs ht hu q with g | g
      · exact g1 g
      · exact g2 g) (fun k s _ => refl k s) (fun k s t _ _ g q => g (.inl q)) (fun k hk s t hs ht g q => by
      rcases q with q | ⟨i, hi, q | ⟨r, hr, q⟩⟩
      · exact g q
      · exact g (.inr ⟨i, hi, .inl q⟩)
      · have hin := h.nx_in (p := (s, t)) hs ht hi hr
        have : Mk (kk m) (badP m m) (nxP m m) k r := Classical.byContradiction fun c => hk r.1 r.2 hin.1 hin.2 c q
        exact g (.inr ⟨i, hi, .inr ⟨r, hr, this⟩⟩)) s t hs ht hno j hj
end Go.Own

namespace Go.Own
set_option linter.unusedVariables false
set_option linter.unusedSimpArgs false
def shE (n : Nat) (x : S_api_Edge) : S_api_Edge := if x.To ≥ 0 then ⟨x.To + (n : Int), x.Out⟩ else x
/-- Both machines beside each other. -/
def bes (a b : S_api_Machine) : S_api_Machine := ⟨a.Inputs, mx a.Outputs b.Outputs, a.Rows ++ b.Rows.map (List.map (shE a.Rows.length))⟩
section
variable {a b : S_api_Machine} (va : VM a) (vb : VM b) (hab : a.Inputs = b.Inputs)
theorem bes_len : (bes a b).Rows.length = a.Rows.length + b.Rows.length := by simp [bes]
include va vb hab
theorem bes_wm : WM (bes a b) := by
  have := va.len64; have := vb.len64; have := va.len1
  refine ⟨va.in1, va.in16, by rw [bes_len]; omega, by rw [bes_len]; omega, fun r hr => ?_, fun r hr x hx => ?_⟩
  · simp only [bes] at hr ⊢
    rcases List.mem_append.1 hr with g | g
    · exact va.row r g
    · obtain ⟨r', h1, rfl⟩ := List.mem_map.1 g
      rw [List.length_map, hab]
      exact vb.row r' h1
  · rw [bes_len]
    simp only [bes] at hr
    rcases List.mem_append.1 hr with g | g
    · rcases va.edge r g x hx with q | ⟨q1, q2, q3, _⟩
      · exact .inl q
      · exact .inr ⟨q1, by omega, q3⟩
    · obtain ⟨r', h1, rfl⟩ := List.mem_map.1 g
      obtain ⟨x', h2, rfl⟩ := List.mem_map.1 hx
      unfold shE
      rcases vb.edge r' h1 x' h2 with q | ⟨q1, q2, q3, _⟩
      · rw [if_neg (by omega)]
        exact .inl q
      · rw [if_pos q1]
        exact .inr ⟨by simp only; omega, by simp only; omega, q3⟩
end
theorem bes_left {a b : S_api_Machine} {s i : Nat} (hs : s < a.Rows.length) : E (bes a b) s i = E a s i := by
  unfold E bes
  simp only
  rw [List.getElem?_append_left hs]
theorem bes_right {a b : S_api_Machine} (vb : VM b) {s i : Nat} (hs : s < b.Rows.length) (hi : i < kk b) : E (bes a b) (a.Rows.length + s) i = shE a.Rows.length (E b s i) := by
  obtain ⟨r, h1, h2, h3⟩ := vb.rowAt hs
  unfold E bes
  simp only
  rw [List.getElem?_append_right (by omega), Nat.add_sub_cancel_left, List.getElem?_map, h1]
  simp only [Option.map_some, Option.getD_some]
  rw [List.getElem?_map]
  have h3 := h3 i hi
  rw [h3]
  rfl
theorem shE_out (n : Nat) (x : S_api_Edge) : (shE n x).Out = x.Out := by unfold shE; split <;> rfl
theorem beside_eq {a b : S_api_Machine} (va : VM a) (vb : VM b) : ref10_Beside a b = some (bes a b) := by
  have la := va.len64; have lb := vb.len64; have k16 := vb.kk_le; have hk := vb.kk_eq
  have l8 : loop (fun s => ref10_Beside_L8 a s.1 s.2) (([] : List (List S_api_Edge)), 0) = some a.Rows := by
    have := loop_seq (step := fun s => ref10_Beside_L8 a s.1 s.2) (fun i : Nat => (a.Rows.take i, (i : Int))) a.Rows.length (t := a.Rows) (by omega) ?_ ?_
    · exact this
    · intro i hi
      have hx : a.Rows[i]? = some a.Rows[i] := List.getElem?_eq_getElem hi
      have hd : decide ((i : Int) < ((a.Rows.length : Nat) : Int)) = true := by simpa using hi
      have hw : w64 ((i : Int) + 1) = ((i + 1 : Nat) : Int) := by rw [w64_in (by omega) (by omega)]; rfl
      simp only [ref10_Beside_L8, hd, cond_true]
      rw [idx_nat, bdT hx, gdT (by simp; omega), hw, List.take_add_one, hx]
      rfl
    · simp only [ref10_Beside_L8, Int.lt_irrefl, decide_false, cond_false, List.take_length]
  have l6 : ∀ s : Nat, s < b.Rows.length → loop (fun q => ref10_Beside_L6 a b (s : Int) q.1 q.2) (([] : List S_api_Edge), 0) = some ((List.range (kk b)).map fun i => shE a.Rows.length (E b s i)) := by
    intro s hs
    have := loop_seq (step := fun q => ref10_Beside_L6 a b (s : Int) q.1 q.2) (fun i : Nat => ((List.range i).map fun i => shE a.Rows.length (E b s i), (i : Int))) (kk b) (t := (List.range (kk b)).map fun i => shE a.Rows.length (E b s i)) (by omega) ?_ ?_
    · exact this
    · intro i hi
      have hd : decide ((i : Int) < b.Inputs) = true := by rw [← hk]; simpa using hi
      have hw : w64 ((i : Int) + 1) = ((i + 1 : Nat) : Int) := by rw [w64_in (by omega) (by omega)]; rfl
      simp only [ref10_Beside_L6, hd, cond_true]
      rw [vb.edge_eq hs hi]
      have hed := vb.edgeAt hs hi
      unfold ref10_Beside_J7
      have gl : ∀ e : S_api_Edge, ((List.range i).map fun i => shE a.Rows.length (E b s i)).length + ([e] : List S_api_Edge).length ≤ 4294967296 := fun e => by simp; omega
      by_cases ht : (E b s i).To ≥ 0
      · have hw2 : w64 ((E b s i).To + ((a.Rows.length : Nat) : Int)) = (E b s i).To + (a.Rows.length : Int) := w64_in (by omega) (by omega)
        rw [decide_eq_true ht, cond_true, gdT (gl _), hw, hw2, List.range_succ, List.map_append]
        simp only [List.map_cons, List.map_nil, shE, if_pos ht]
      · rw [decide_eq_false ht, cond_false, gdT (gl _), hw, List.range_succ, List.map_append]
        simp only [List.map_cons, List.map_nil, shE, if_neg ht]
    · simp only [ref10_Beside_L6, hk, Int.lt_irrefl, decide_false, cond_false]
  have rowE : ∀ s : Nat, s < b.Rows.length → ((List.range (kk b)).map fun i => shE a.Rows.length (E b s i)) = (b.Rows.map (List.map (shE a.Rows.length)))[s]?.getD [] := by
    intro s hs
    obtain ⟨r, h1, h2, h3⟩ := vb.rowAt hs
    rw [List.getElem?_map, h1]
    simp only [Option.map_some, Option.getD_some]
    refine List.ext_getElem (by simp [h2]) fun n g1 g2 => ?_
    simp only [List.getElem_map, List.getElem_range]
    have := h3 n (by simpa using g1)
    rw [List.getElem?_eq_getElem (by simpa using g2)] at this
    rw [Option.some.inj this]
  have l3 : loop (fun s => ref10_Beside_L3 a b s.1 s.2) (a.Rows, 0) = some (a.Rows ++ b.Rows.map (List.map (shE a.Rows.length))) := by
    have := loop_seq (step := fun s => ref10_Beside_L3 a b s.1 s.2) (fun i : Nat => (a.Rows ++ (b.Rows.map (List.map (shE a.Rows.length))).take i, (i : Int))) b.Rows.length (t := a.Rows ++ b.Rows.map (List.map (shE a.Rows.length))) (by omega) ?_ ?_
    · simpa using this
    · intro i hi
      have hd : decide ((i : Int) < ((b.Rows.length : Nat) : Int)) = true := by simpa using hi
      have hw : w64 ((i : Int) + 1) = ((i + 1 : Nat) : Int) := by rw [w64_in (by omega) (by omega)]; rfl
      simp only [ref10_Beside_L3, hd, cond_true]
      rw [bdT (l6 i hi)]
      unfold ref10_Beside_J5 ref10_Beside_J4
      rw [gdT (by simp; omega), hw, rowE i hi, List.take_add_one]
      obtain ⟨x, hx⟩ : ∃ x, (b.Rows.map (List.map (shE a.Rows.length)))[i]? = some x := ⟨_, List.getElem?_eq_getElem (by simpa using hi)⟩
      rw [hx]
      simp only [Option.getD_some, Option.toList_some, List.append_assoc]
    · simp only [ref10_Beside_L3, Int.lt_irrefl, decide_false, cond_false]
      rw [List.take_of_length_le (by simp)]
  unfold ref10_Beside ref10_Beside_J1 ref10_Beside_J2
  rw [bdT l8, bdT l3]
  rfl
/-- A pair of states, of both machines beside each other. -/
def phi (a : S_api_Machine) (p : Nat × Nat) : Nat × Nat := (p.1, a.Rows.length + p.2)
def InP (a b : S_api_Machine) (p : Nat × Nat) : Prop := p.1 < a.Rows.length ∧ p.2 < b.Rows.length
section
variable {a b : S_api_Machine} (va : VM a) (vb : VM b) (hab : a.Inputs = b.Inputs)
include va vb hab
theorem inP_nx (p : Nat × Nat) (i : Nat) (q : Nat × Nat) (hp : InP a b p) (hi : i < kk a) (hq : nxP a b p i = some q) : InP a b q := by
  unfold nxP at hq
  split at hq
  · rename_i hc
    cases hq
    have h1 := va.edgeAt hp.1 hi
    have h2 := vb.edgeAt hp.2 (by rw [← kk_same hab]; exact hi)
    refine ⟨?_, ?_⟩ <;> simp only <;> omega
  · cases hq
theorem bes_bad (p : Nat × Nat) (i : Nat) (hp : InP a b p) (hi : i < kk a) : badP (bes a b) (bes a b) (phi a p) i = badP a b p i := by
  have := va.in1
  unfold badP phi
  simp only
  rw [bes_left hp.1, bes_right vb hp.2 (by rw [← kk_same hab]; exact hi), shE_out]
theorem bes_nx (p : Nat × Nat) (i : Nat) (hp : InP a b p) (hi : i < kk a) : nxP (bes a b) (bes a b) (phi a p) i = (nxP a b p i).map (phi a) := by
  have := va.in1
  unfold nxP phi
  simp only
  rw [bes_left hp.1, bes_right vb hp.2 (by rw [← kk_same hab]; exact hi)]
  by_cases h2 : (E b p.2 i).To ≥ 0
  · by_cases h1 : (E a p.1 i).To ≥ 0
    · rw [if_pos ⟨h1, by unfold shE; rw [if_pos h2]; simp only; omega⟩, if_pos ⟨h1, h2⟩]
      unfold shE
      rw [if_pos h2]
      exact congrArg some (Prod.ext rfl (by simp only; omega))
    · rw [if_neg (by omega), if_neg (by omega)]
      rfl
  · rw [if_neg (by unfold shE; rw [if_neg h2]; omega), if_neg (by omega)]
    rfl
theorem mk_bes (n : Nat) (p : Nat × Nat) (hp : InP a b p) : Mk (kk a) (badP (bes a b) (bes a b)) (nxP (bes a b) (bes a b)) n (phi a p) ↔ Mk (kk a) (badP a b) (nxP a b) n p :=
  mk_along (phi a) (InP a b) (inP_nx va vb hab) (bes_bad va vb hab) (bes_nx va vb hab) n p hp
theorem greedy_bes (n : Nat) (p : Nat × Nat) (w : List Nat) (hp : InP a b p) : Greedy (kk a) (badP (bes a b) (bes a b)) (nxP (bes a b) (bes a b)) n (phi a p) w → Greedy (kk a) (badP a b) (nxP a b) n p w :=
  greedy_along (phi a) (InP a b) (inP_nx va vb hab) (bes_bad va vb hab) (bes_nx va vb hab) n p w hp
/-- What the reference gives. -/
def RefR (a b : S_api_Machine) (r : List Int × Bool) : Prop :=
  (∃ n w, Mk (kk a) (badP a b) (nxP a b) (n + 1) (0, 0) ∧ ¬ Mk (kk a) (badP a b) (nxP a b) n (0, 0) ∧ Greedy (kk a) (badP a b) (nxP a b) (n + 1) (0, 0) w ∧ n + 1 < a.Rows.length + b.Rows.length ∧ r = (w.map Int.ofNat, true)) ∨
  ((∀ n, ¬ Mk (kk a) (badP a b) (nxP a b) n (0, 0)) ∧ r = ([], false))
end
theorem tel_iff {m : S_api_Machine} {n : Nat} {p : Nat × Nat} {i : Nat} : telP m (mrk m n) p i = true ↔ (badP m m p i = true ∨ ∃ q, nxP m m p i = some q ∧ Mk (kk m) (badP m m) (nxP m m) n q) := by
  unfold telP
  rw [Bool.or_eq_true]
  constructor
  · rintro (h | h)
    · exact .inl h
    · cases hq : nxP m m p i with
      | none => rw [hq] at h; cases h
      | some q => rw [hq] at h; exact .inr ⟨q, rfl, (mkb_iff _ _ _ n q).1 h⟩
  · rintro (h | ⟨q, hq, h⟩)
    · exact .inl h
    · refine .inr ?_
      rw [hq]
      exact (mkb_iff _ _ _ n q).2 h
/-- The least input that tells, or leads on. -/
theorem pick_ret {m : S_api_Machine} (h : WM m) {k : Nat} {p : Nat × Nat} (h1 : p.1 < m.Rows.length) (h2 : p.2 < m.Rows.length) (n w : Int) (ws : List Int) (hw : ws.length ≤ 1000) (hn : n = (k : Int) + 1) (hk1 : k ≤ 1000) (hex : Mk (kk m) (badP m m) (nxP m m) (k + 1) p) (hno : ¬ Mk (kk m) (badP m m) (nxP m m) k p) :
    Ret (loop (fun s => ref10_Differ_L4 m (p.1 : Int) (p.2 : Int) n ws (tab m.Rows.length (mrk m k)) s) 0) fun r => ∃ i, i < kk m ∧ telP m (mrk m k) p i = true ∧ (∀ j, j < i → telP m (mrk m k) p j = false) ∧ r = ((E m p.1 i).To, (E m p.2 i).To, (k : Int), ws ++ [(i : Int)]) := by
  have hk := h.kk_eq
  have k16 := h.kk_le
  obtain ⟨i0, hi0, ht0⟩ : ∃ i, i < kk m ∧ telP m (mrk m k) p i = true := by
    rcases hex with g | ⟨i, hi, g⟩
    · exact (hno g).elim
    · exact ⟨i, hi, tel_iff.2 g⟩
  refine ret_loop (fun s => ∃ i : Nat, s = (i : Int) ∧ i ≤ kk m ∧ ∀ j, j < i → telP m (mrk m k) p j = false) (fun s => 100 - s.toNat) ⟨0, rfl, Nat.zero_le _, fun j hj => by omega⟩ (by simp) ?_
  rintro i' ⟨i, hi', hik, hall⟩
  subst hi'
  unfold ref10_Differ_L4 ref10_Differ_J5
  rw [ret_bif]
  refine ⟨fun hlt => ?_, fun hge => ?_⟩
  · have hlt : i < kk m := by rw [← hk] at hlt; simpa using hlt
    have hw1 : w64 ((i : Int) + 1) = ((i + 1 : Nat) : Int) := by rw [w64_in (by omega) (by omega)]; rfl
    have hn1 : w64 (n - 1) = (k : Int) := by rw [w64_in (by omega) (by omega)]; omega
    rw [h.edge_eq h1 hlt, h.edge_eq h2 hlt, hw1, hn1]
    have e1 := h.edgeAt h1 hlt
    have e2 := h.edgeAt h2 hlt
    have gl : ws.length + ([(i : Int)] : List Int).length ≤ 4294967296 := by simp; omega
    have found : telP m (mrk m k) p i = true → Ret (some (.done ((E m p.1 i).To, (E m p.2 i).To, (k : Int), ws ++ [(i : Int)])) : Option (LR Int (Int × Int × Int × List Int))) (LRP (fun s' => (∃ j : Nat, s' = (j : Int) ∧ j ≤ kk m ∧ ∀ l, l < j → telP m (mrk m k) p l = false) ∧ 100 - s'.toNat < 100 - (i : Int).toNat) (fun r => ∃ i, i < kk m ∧ telP m (mrk m k) p i = true ∧ (∀ j, j < i → telP m (mrk m k) p j = false) ∧ r = ((E m p.1 i).To, (E m p.2 i).To, (k : Int), ws ++ [(i : Int)]))) :=
      fun ht => ret_some.2 ⟨i, hlt, ht, hall, rfl⟩
    have on : telP m (mrk m k) p i = false → Ret (some (.next ((i + 1 : Nat) : Int)) : Option (LR Int (Int × Int × Int × List Int))) (LRP (fun s' => (∃ j : Nat, s' = (j : Int) ∧ j ≤ kk m ∧ ∀ l, l < j → telP m (mrk m k) p l = false) ∧ 100 - s'.toNat < 100 - (i : Int).toNat) (fun r => ∃ i, i < kk m ∧ telP m (mrk m k) p i = true ∧ (∀ j, j < i → telP m (mrk m k) p j = false) ∧ r = ((E m p.1 i).To, (E m p.2 i).To, (k : Int), ws ++ [(i : Int)]))) := by
      intro ht
      refine ret_some.2 ⟨⟨i + 1, rfl, hlt, fun j hj => ?_⟩, by omega⟩
      by_cases e : j = i
      · subst e; exact ht
      · exact hall j (by omega)
    rw [ret_bif]
    refine ⟨fun hb => ?_, fun hb => ?_⟩
    · rw [gdT gl]
      exact found (by unfold telP badP; rw [hb, Bool.true_or])
    · rw [ret_bif]
      refine ⟨fun t1 => ?_, fun t1 => ?_⟩
      · have t1 : (E m p.1 i).To ≥ 0 := of_decide_eq_true t1
        rw [ret_bif]
        refine ⟨fun t2 => ?_, fun t2 => ?_⟩
        · have t2 : (E m p.2 i).To ≥ 0 := of_decide_eq_true t2
          have hnx : nxP m m p i = some ((E m p.1 i).To.toNat, (E m p.2 i).To.toNat) := by unfold nxP; rw [if_pos ⟨t1, t2⟩]
          have hin := h.nx_in h1 h2 hlt hnx
          have c1 : (E m p.1 i).To = (((E m p.1 i).To.toNat : Nat) : Int) := by omega
          have c2 : (E m p.2 i).To = (((E m p.2 i).To.toNat : Nat) : Int) := by omega
          have ht1 : telP m (mrk m k) p i = mrk m k (E m p.1 i).To.toNat (E m p.2 i).To.toNat := by
            unfold telP badP
            rw [hnx, hb, Bool.false_or]
          have := tab_at (mrk m k) hin.1 hin.2 (g := fun v => bif v then gd (ws.length + ([(i : Int)] : List Int).length ≤ 4294967296) (some (LR.done ((E m p.1 i).To, (E m p.2 i).To, (k : Int), ws ++ [(i : Int)])) : Option (LR Int (Int × Int × Int × List Int))) else some (LR.next ((i + 1 : Nat) : Int)))
          rw [← c1, ← c2] at this
          refine (congrArg (fun o => Ret o _) this).mpr ?_
          rw [ret_bif]
          refine ⟨fun g => ?_, fun g => on (by rw [ht1]; exact g)⟩
          rw [gdT gl]
          exact found (by rw [ht1]; exact g)
        · have t2 : ¬ (E m p.2 i).To ≥ 0 := of_decide_eq_false t2
          exact on (by unfold telP badP nxP; rw [hb, if_neg (by omega)]; rfl)
      · have t1 : ¬ (E m p.1 i).To ≥ 0 := of_decide_eq_false t1
        exact on (by unfold telP badP nxP; rw [hb, if_neg (by omega)]; rfl)
  · have : i = kk m := by rw [← hk] at hge; simp at hge; omega
    have := hall i0 (by omega)
    rw [ht0] at this
    cases this
section
variable {a b : S_api_Machine} (va : VM a) (vb : VM b) (hab : a.Inputs = b.Inputs)
include va vb hab
theorem refd_ret : Ret (ref10_Differ a b) (RefR a b) := by
  have hm := bes_wm va vb hab
  have hN := bes_len (a := a) (b := b)
  have la := va.len64; have lb := vb.len64; have la1 := va.len1; have lb1 := vb.len1
  have hp0 : InP a b (0, 0) := ⟨va.len1, vb.len1⟩
  have hkb : kk (bes a b) = kk a := rfl
  have z1 : 0 < (bes a b).Rows.length := by omega
  have z2 : a.Rows.length < (bes a b).Rows.length := by omega
  unfold ref10_Differ
  rw [bdT (beside_eq va vb), ret_bind]
  have l6 : Ret (loop (fun s => ref10_Differ_L6 a (bes a b) s) 0) fun r => ∃ n : Nat, r = (n : Int) ∧ n ≤ (bes a b).Rows.length ∧ (∀ j, j < n → mrk (bes a b) j 0 a.Rows.length = false) ∧ (n < (bes a b).Rows.length → mrk (bes a b) n 0 a.Rows.length = true) := by
    refine ret_loop (fun s => ∃ n : Nat, s = (n : Int) ∧ n ≤ (bes a b).Rows.length ∧ ∀ j, j < n → mrk (bes a b) j 0 a.Rows.length = false) (fun s => 1000 - s.toNat) ⟨0, rfl, Nat.zero_le _, fun j hj => by omega⟩ (by simp) ?_
    rintro n' ⟨n, hn, hnl, hall⟩
    subst hn
    unfold ref10_Differ_L6
    rw [ret_bif]
    refine ⟨fun hlt => ?_, fun hge => ?_⟩
    · have hlt : n < (bes a b).Rows.length := by simpa using hlt
      have hw : w64 ((n : Int) + 1) = ((n + 1 : Nat) : Int) := by rw [w64_in (by omega) (by omega)]; rfl
      rw [bdT (marked_eq hm n (by omega))]
      have := tab_at (mrk (bes a b) n) z1 z2 (g := fun v => bif !v then (some (LR.next (w64 ((n : Int) + 1))) : Option (LR Int Int)) else some (LR.done (n : Int)))
      refine (congrArg (fun o => Ret o _) this).mpr ?_
      rw [ret_bif]
      refine ⟨fun g => ?_, fun g => ?_⟩
      · have g : mrk (bes a b) n 0 a.Rows.length = false := by simpa using g
        rw [ret_some, hw]
        refine ⟨⟨n + 1, rfl, hlt, fun j hj => ?_⟩, by omega⟩
        by_cases e : j = n
        · subst e; exact g
        · exact hall j (by omega)
      · have g : mrk (bes a b) n 0 a.Rows.length = true := by simpa using g
        rw [ret_some]
        exact ⟨n, rfl, hnl, hall, fun _ => g⟩
    · have : n = (bes a b).Rows.length := by simp at hge; omega
      rw [ret_some]
      exact ⟨n, rfl, hnl, hall, fun h => by omega⟩
  refine l6.mono ?_
  rintro n' ⟨n, hn, hnl, hall, hat⟩
  subst hn
  unfold ref10_Differ_J1 ref10_Differ_J2
  rw [ret_bif]
  refine ⟨fun he => ?_, fun hne => ?_⟩
  · have he : n = (bes a b).Rows.length := by simp at he; omega
    rw [ret_some]
    refine .inr ⟨fun j hj => ?_, rfl⟩
    have h1 := (mk_bes va vb hab j (0, 0) hp0).2 hj
    have h2 := mk_bound hm (s := 0) (t := a.Rows.length) z1 z2 h1
    have h3 := hall ((bes a b).Rows.length - 1) (by omega)
    have h4 := (mkb_iff _ _ _ _ _).2 h2
    unfold mrk at h3
    rw [h3] at h4
    cases h4
  · have hne : n ≠ (bes a b).Rows.length := by intro e; rw [e] at hne; simp at hne
    have hat := hat (by omega)
    cases n with
    | zero => simp [mrk, mkb] at hat
    | succ n =>
      have hmk : Mk (kk a) (badP (bes a b) (bes a b)) (nxP (bes a b) (bes a b)) (n + 1) (phi a (0, 0)) := (mkb_iff _ _ _ _ _).1 hat
      have hno : ¬ Mk (kk a) (badP (bes a b) (bes a b)) (nxP (bes a b) (bes a b)) n (phi a (0, 0)) := by
        intro c
        have h4 := (mkb_iff _ _ _ _ _).2 c
        have h3 := hall n (by omega)
        unfold mrk at h3
        have h3' : mkb (kk a) (badP (bes a b) (bes a b)) (nxP (bes a b) (bes a b)) n (phi a (0, 0)) = false := h3
        rw [h3'] at h4
        cases h4
      rw [ret_bind]
      refine (ret_loop (R := fun r => ∃ w, Greedy (kk a) (badP (bes a b) (bes a b)) (nxP (bes a b) (bes a b)) (n + 1) (phi a (0, 0)) w ∧ r = w.map Int.ofNat) (fun s => ∃ (wn : List Nat), s.2.2.2 = wn.map Int.ofNat ∧ wn.length ≤ 200 ∧ ((s.2.2.1 = 0 ∧ Greedy (kk a) (badP (bes a b) (bes a b)) (nxP (bes a b) (bes a b)) (n + 1) (phi a (0, 0)) wn) ∨
        ∃ (k : Nat) (p : Nat × Nat), s.2.2.1 = (k : Int) + 1 ∧ k ≤ n ∧ wn.length + k = n ∧ s.1 = (p.1 : Int) ∧ s.2.1 = (p.2 : Int) ∧ p.1 < (bes a b).Rows.length ∧ p.2 < (bes a b).Rows.length ∧ Mk (kk a) (badP (bes a b) (bes a b)) (nxP (bes a b) (bes a b)) (k + 1) p ∧ ¬ Mk (kk a) (badP (bes a b) (bes a b)) (nxP (bes a b) (bes a b)) k p ∧
          ∀ u, Greedy (kk a) (badP (bes a b) (bes a b)) (nxP (bes a b) (bes a b)) (k + 1) p u → Greedy (kk a) (badP (bes a b) (bes a b)) (nxP (bes a b) (bes a b)) (n + 1) (phi a (0, 0)) (wn ++ u))) (fun s => s.2.2.1.toNat) ⟨[], rfl, by simp, .inr ⟨n, phi a (0, 0), by simp, Nat.le_refl _, by simp, rfl, by simp [phi], by simp [phi]; omega, by simp [phi]; omega, hmk, hno, fun u h => h⟩⟩ ?_ ?_).mono ?_
      · simp only; omega
      · rintro ⟨s, t, c, w⟩ ⟨wn, hw, hwl, hcase⟩
        simp only at hw hcase
        subst hw
        unfold ref10_Differ_L3
        rcases hcase with ⟨hc, hg⟩ | ⟨k, p, hc, hkn, hwk, hs, ht, hp1, hp2, hk1, hk2, hgr⟩
        · subst hc
          rw [ret_bif]
          refine ⟨fun h => by have h := of_decide_eq_true h; simp only at h; omega, fun _ => ?_⟩
          rw [ret_some]
          exact ⟨wn, hg, rfl⟩
        · subst hs ht
          rw [ret_bif]
          refine ⟨fun _ => ?_, fun h => ?_⟩
          · have hn1 : w64 (c - 1) = (k : Int) := by rw [w64_in (by omega) (by omega)]; omega
            rw [hn1, bdT (marked_eq hm k (by omega)), ret_bind]
            refine (pick_ret hm hp1 hp2 c 0 _ (by simp; omega) hc (by omega) hk1 hk2).mono ?_
            rintro r ⟨i, hi, htel, hleast, rfl⟩
            rw [ret_some]
            have htel' := tel_iff.1 htel
            have hleast' : ∀ j, j < i → ¬ (badP (bes a b) (bes a b) p j = true ∨ ∃ q, nxP (bes a b) (bes a b) p j = some q ∧ Mk (kk a) (badP (bes a b) (bes a b)) (nxP (bes a b) (bes a b)) k q) := by
              intro j hj g
              have := hleast j hj
              rw [tel_iff.2 g] at this
              cases this
            refine ⟨⟨wn ++ [i], by simp, by simp; omega, ?_⟩, by simp only; omega⟩
            cases k with
            | zero =>
              refine .inl ⟨rfl, hgr [i] ⟨i, [], rfl, hi, htel', hleast', fun h => absurd h (Nat.lt_irrefl _), fun _ => rfl⟩⟩
            | succ k =>
              have hbad : badP (bes a b) (bes a b) p i ≠ true := fun g => hk2 (Mk.mono (n := 1) (.inr ⟨i, hi, .inl g⟩) (by omega))
              obtain ⟨q, hq, hqm⟩ : ∃ q, nxP (bes a b) (bes a b) p i = some q ∧ Mk (kk a) (badP (bes a b) (bes a b)) (nxP (bes a b) (bes a b)) (k + 1) q := by
                rcases htel' with g | g
                · exact (hbad g).elim
                · exact g
              have hin := hm.nx_in hp1 hp2 hi hq
              have hqv : (E (bes a b) p.1 i).To = (q.1 : Int) ∧ (E (bes a b) p.2 i).To = (q.2 : Int) := by
                unfold nxP at hq
                split at hq
                · cases hq
                  simp only
                  omega
                · cases hq
              refine .inr ⟨k, q, by simp, by omega, by simp; omega, hqv.1, hqv.2, hin.1, hin.2, hqm, fun g => hk2 (.inr ⟨i, hi, .inr ⟨q, hq, g⟩⟩), fun u hu => ?_⟩
              have := hgr (i :: u) ⟨i, u, rfl, hi, htel', hleast', fun _ => ⟨q, hq, hu⟩, fun h => by omega⟩
              simpa using this
          · have h := of_decide_eq_false h
            simp only at h
            omega
      · rintro r ⟨w, hg, rfl⟩
        rw [ret_some]
        exact .inl ⟨n, w, (mk_bes va vb hab _ _ hp0).1 hmk, fun g => hno ((mk_bes va vb hab _ _ hp0).2 g), greedy_bes va vb hab _ _ _ hp0 hg, by omega, rfl⟩
end
end Go.Own

namespace Go.Own
set_option linter.unusedVariables false
set_option linter.unusedSimpArgs false
/-- The search and the reference agree. -/
theorem same_word {a b : S_api_Machine} {w w' : List Int} {is there : Bool} (h1 : DiffS a b w is) (h2 : RefR a b (w', there)) :
    w = w' ∧ is = there ∧ (is = true → ∃ u, TellR (kk a) (badP a b) (nxP a b) (0, 0) u ∧ w = u.reverse.map Int.ofNat ∧ u.length < a.Rows.length + b.Rows.length) := by
  rcases h1 with ⟨u, t1, t2, rfl, rfl⟩ | ⟨t1, rfl, rfl⟩
  · rcases h2 with ⟨n, v, m1, m2, g, hl, e⟩ | ⟨m1, e⟩
    · have hs := search_mark t1 t2 m1 m2 g
      have hlen := (greedy_least m1 m2 g).2.1
      cases e
      refine ⟨by rw [hs], rfl, fun _ => ⟨u, t1, rfl, ?_⟩⟩
      have : u.reverse.length = v.length := by rw [hs]
      rw [List.length_reverse] at this
      omega
    · exact (m1 _ (tell_mk (tell_fwd t1))).elim
  · rcases h2 with ⟨n, v, m1, m2, g, hl, e⟩ | ⟨m1, e⟩
    · obtain ⟨w, hw, _⟩ := Mk.tell m1
      exact (t1 _ (tell_rev hw)).elim
    · cases e
      exact ⟨rfl, rfl, fun h => by cases h⟩
end Go.Own

namespace Go.Own
set_option linter.unusedVariables false
set_option linter.unusedSimpArgs false
set_option maxRecDepth 100000 in
theorem lives10 : law10_lives = some true := by kernel_rfl
theorem Within_ok {a b : S_api_Machine} (h : bothS a b = 0) {w : List Int} {is : Bool} (hw : equals_Differ a b = some (w, is, 0)) (k : Int) : equals_Within a b k = if k < 0 then some (false, 1) else some (!is || decide ((w.length : Int) > k), 0) := by
  unfold equals_Within
  rw [bdT hw]
  simp only [bne_self_eq_false, cond_false, Bool.cond_eq_ite, decide_eq_true_eq]
  by_cases h0 : k < 0
  · simp [h0]
  · cases is <;> simp [h0]
end Go.Own

namespace Go.Own
set_option linter.unusedVariables false
set_option linter.unusedSimpArgs false
theorem within_true (x : S_law10_D) (hx : DOk x) (k : Int) : law10_EqualsWithin x k = some true := by
  obtain ⟨⟨a, b⟩, ed, va, vb, hab, la, lb⟩ := d_of hx
  simp only at va vb hab la lb
  have h0 : bothS a b = 0 := both_of va vb hab
  obtain ⟨⟨w, is, e⟩, ew, he, hd⟩ := Differ_ret h0
  simp only at he hd
  subst he
  obtain ⟨⟨w', there⟩, er, hr⟩ := refd_ret va vb hab
  obtain ⟨hww, his, hlen⟩ := same_word hd hr
  subst hww his
  unfold law10_EqualsWithin
  rw [bdT ed]
  simp only
  rw [Within_ok h0 ew, Within_ok h0 ew]
  have hs : w64 (w64 (((a.Rows.length : Nat) : Int) + ((b.Rows.length : Nat) : Int)) - 1) = (a.Rows.length : Int) + (b.Rows.length : Int) - 1 := by
    have := va.len1
    rw [w64_in (x := ((a.Rows.length : Nat) : Int) + ((b.Rows.length : Nat) : Int)) (by omega) (by omega), w64_in (by omega) (by omega)]
  rw [hs]
  have hn : ¬ ((a.Rows.length : Int) + (b.Rows.length : Int) - 1 < 0) := by have := va.len1; omega
  rw [if_neg hn]
  by_cases hk : k < 0
  · simp [hk, lives10]
  · rw [if_neg hk, decide_eq_false hk]
    simp only [Option.bind_some, cond_false, er, beq_self_eq_true, cond_true]
    cases is with
    | false => simp [lives10]
    | true =>
      obtain ⟨u, _, hu, hl⟩ := hlen rfl
      have : ((w.length : Nat) : Int) ≤ (a.Rows.length : Int) + (b.Rows.length : Int) - 1 := by rw [hu]; simp; omega
      have hd : decide (((w.length : Nat) : Int) > (a.Rows.length : Int) + (b.Rows.length : Int) - 1) = false := by simp; omega
      simp [lives10, hd]
end Go.Own

namespace Go.Own
def Ok5 (a : Int) : Prop := (0) ≤ a ∧ a ≤ 255
def Ok4 (_ : Bool) : Prop := True
def Ok102 (a : Int) : Prop := (0) ≤ a ∧ a ≤ 65535
def Ok22 (l : List Int) : Prop := ∀ a ∈ l, Ok102 a
def Ok24 (a : S_law04_M) : Prop := Ok5 a.States ∧ Ok5 a.Inputs ∧ Ok5 a.Outputs ∧ Ok4 a.Partial ∧ Ok22 a.Edges
def Ok65 (a : Arr2 Int) : Prop := Ok5 a.e0 ∧ Ok5 a.e1
def Ok3 (a : Int) : Prop := (-9223372036854775808) ≤ a ∧ a ≤ 9223372036854775807
def Ok67 (a : S_api_Edge) : Prop := Ok3 a.To ∧ Ok3 a.Out
def Ok69 (a : S_law10_D) : Prop := Ok24 a.M ∧ Ok24 a.X ∧ Ok4 a.Alike ∧ Ok65 a.Swap ∧ Ok65 a.Place ∧ Ok67 a.To
end Go.Own

namespace Go.Own
theorem law_true {x : S_law10_D} {k : Int} (hx : Ok69 x) (_ : Ok3 k) : law10_EqualsWithin x k = some true := by
  obtain ⟨hm, hx2, _, hs, hp, _⟩ := hx
  exact within_true x ⟨⟨hm.1.1, hm.2.1.1, hm.2.2.1.1, fun v hv => hm.2.2.2.2 v hv⟩, ⟨hx2.1.1, hx2.2.1.1, hx2.2.2.1.1, fun v hv => hx2.2.2.2.2 v hv⟩, hs.1, hs.2, hp.1, hp.2⟩ k
end Go.Own

namespace Go.Own
/-- All cells that there are. -/
def allS (w : World) : Still := fun b o => cellAt w.heap b o
theorem cell_at {w : World} {a : Addr} {v : Value} (h : w.cell? a = some v) : a.spot = none ∧ cellAt w.heap a.block a.off = some v := by
  unfold World.cell? at h
  unfold cellAt
  split at h
  · rename_i c ty fr he
    rw [he]
    split at h
    · cases h
    · rename_i hs
      exact ⟨by simpa using hs, h⟩
  · cases h
section
variable {H : Type} {enc : TypeId × Value → H} {P : Program} {w : World} {base : Nat} {spare : Nat → Bool} {held : Bool}
theorem cells_lie {a : Addr} {n : Nat} {cs : List Value} (h : w.cells? base a n = some cs) (hn : 0 < n) : a.spot = none ∧ cs.length = n ∧ Lies (allS w) a.block a.off cs := by
  obtain ⟨_, h2, h3⟩ := World.cells?_some h
  have h0 : a.spot = none := by
    have h4 := h3 0 hn
    cases hc : cs[0]? with
    | none => rw [List.getElem?_eq_none_iff] at hc; omega
    | some v =>
      rw [hc] at h4
      have := (cell_at h4).1
      simpa [Addr.add] using this
  refine ⟨h0, h2, fun j v hj => ?_⟩
  have hlt := (List.getElem?_eq_some_iff.1 hj).1
  have h4 := h3 j (by omega)
  rw [hj] at h4
  have q := (cell_at h4).2
  unfold Addr.add at q
  split at q
  · rename_i e; subst e; exact q
  · exact q
theorem reps_snoc {S : Still} : ∀ {bs : List A} {cs : List Value} {a : A} {c : List Value}, Reps S bs cs → Rep S a c → Reps S (bs ++ [a]) (cs ++ c)
  | [], cs, a, c, h1, h2 => by
    simp only [Reps] at h1
    subst h1
    simp only [List.nil_append, Reps]
    exact ⟨c, [], by simp, h2, rfl⟩
  | x :: bs, cs, a, c, h1, h2 => by
    simp only [Reps] at h1
    obtain ⟨c1, c2, rfl, r1, r2⟩ := h1
    simp only [List.cons_append, Reps]
    exact ⟨c1, c2 ++ c, by simp, r1, reps_snoc r2 h2⟩
theorem lies_app {S : Still} {b o : Nat} {c1 c2 : List Value} (h1 : Lies S b o c1) (h2 : Lies S b (o + c1.length) c2) : Lies S b o (c1 ++ c2) := by
  intro j v hj
  rcases Nat.lt_or_ge j c1.length with q | q
  · rw [List.getElem?_append_left q] at hj
    exact h1 j v hj
  · rw [List.getElem?_append_right q] at hj
    have := h2 _ _ hj
    rwa [show o + c1.length + (j - c1.length) = o + j by omega] at this
theorem slice_rep {α : Type} {t e sz : Nat} (f : α → A) (ok : α → Prop) (ht : P.underlying t = some (.slice e)) (hsz : P.cellsOf e = sz) (h0 : 0 < sz) (hf : ∀ a, (f a).size = sz)
    (hel : ∀ n cs x, DataW.trod enc P w base spare held n e cs = some x → ∃ a, ok a ∧ Rep (allS w) (f a) cs)
    {fuel : Nat} {cs : List Value} {x : DataW H × List MemPlace} (h : DataW.trod enc P w base spare held fuel t cs = some x) : ∃ l : List α, (∀ a ∈ l, ok a) ∧ Rep (allS w) (.sl sz false (l.map f)) cs := by
  rcases DataW.trod_slice ht h with ⟨rfl, _⟩ | ⟨a, len, cap, elems, rest, n, _, rfl, _, _, hlc, _, hlen, hall, _, _⟩
  · refine ⟨[], by simp, ?_⟩
    simp only [Rep, List.map_nil, List.length_nil]
    exact ⟨none, 0, rfl, by simp, Nat.le_refl _, by simp, .inl trivial⟩
  · have key : ∀ k, k ≤ len → ∃ (l : List α) (cells : List Value), l.length = k ∧ (∀ a ∈ l, ok a) ∧ Reps (allS w) (l.map f) cells ∧ cells.length = k * sz ∧ (0 < k → a.spot = none) ∧ Lies (allS w) a.block a.off cells := by
      intro k
      induction k with
      | zero => intro _; exact ⟨[], [], rfl, by simp, by simp [Reps], by simp, by simp, fun j v h => by simp at h⟩
      | succ k ih =>
        intro hk
        obtain ⟨l, cells, q1, q2, q3, q4, q5, q6⟩ := ih (by omega)
        have hk' := hall k (by omega)
        have hsome : elems[k]? = some elems[k] := List.getElem?_eq_getElem (by omega)
        rw [hsome, Option.bind_eq_some_iff, hsz] at hk'
        obtain ⟨c, hc, htr⟩ := hk'
        obtain ⟨y, hy, hr⟩ := hel _ _ _ htr
        obtain ⟨g1, g2, g3⟩ := cells_lie hc h0
        refine ⟨l ++ [y], cells ++ c, by simp [q1], ?_, ?_, ?_, ?_, ?_⟩
        · intro z hz
          rcases List.mem_append.1 hz with q | q
          · exact q2 z q
          · simp only [List.mem_cons, List.not_mem_nil, or_false] at q; subst q; exact hy
        · rw [List.map_append]; exact reps_snoc q3 hr
        · rw [List.length_append, q4, g2, Nat.succ_mul]
        · intro _
          rcases Nat.eq_zero_or_pos k with rfl | hk0
          · simpa [Addr.add] using g1
          · exact q5 hk0
        · refine lies_app q6 ?_
          rw [q4]
          unfold Addr.add at g3
          split at g3
          · rename_i e0
            rw [e0, Nat.add_zero]
            exact g3
          · exact g3
    obtain ⟨l, cells, q1, q2, q3, q4, q5, q6⟩ := key len (Nat.le_refl _)
    refine ⟨l, q2, ?_⟩
    simp only [Rep, List.length_map]
    refine ⟨some a, cap, by rw [q1], by simp, by omega, ?_, ?_⟩
    · intro y hy
      obtain ⟨z, _, rfl⟩ := List.mem_map.1 hy
      exact hf z
    · rcases Nat.eq_zero_or_pos len with rfl | hl
      · left; rw [List.length_eq_zero_iff.1 q1]; rfl
      · right
        refine ⟨a.block, a.off, cells, ?_, q3, q6⟩
        have := q5 hl
        obtain ⟨b, o, s⟩ := a
        simp only at this
        subst this
        rfl
theorem int_rep {t : Nat} {k : IntKind} {lo hi : Int} (ht : P.underlying t = some (.int k)) (hlo : k.min = lo) (hhi : k.max = hi) {fuel : Nat} {cs : List Value} {x : DataW H × List MemPlace} (h : DataW.trod enc P w base spare held fuel t cs = some x) :
    ∃ n : Int, (lo ≤ n ∧ n ≤ hi) ∧ cs = [.int k n] ∧ Rep (allS w) (.atom (.int k n)) cs := by
  obtain ⟨n, rfl, _, hw⟩ := DataW.trod_int ht h
  simp only [Lit.wf, Bool.and_eq_true, decide_eq_true_eq, hlo, hhi] at hw
  exact ⟨n, hw, rfl, by simp only [Rep]; exact ⟨trivial, rfl⟩⟩
theorem bool_rep {t : Nat} (ht : P.underlying t = some .bool) {fuel : Nat} {cs : List Value} {x : DataW H × List MemPlace} (h : DataW.trod enc P w base spare held fuel t cs = some x) :
    ∃ b : Bool, Rep (allS w) (.atom (.bool b)) cs := by
  obtain ⟨b, rfl, _⟩ := DataW.trod_bool ht h
  exact ⟨b, by simp only [Rep]; exact ⟨trivial, rfl⟩⟩
theorem struct_fields {t : Nat} {fs : List Field} (ht : P.underlying t = some (.struct ⟨fs⟩)) {fuel : Nat} {cs : List Value} {x : DataW H × List MemPlace} (h : DataW.trod enc P w base spare held fuel t cs = some x) :
    cs.length = P.cellsOf t ∧ ∀ (i : Nat) (f : Field), fs[i]? = some f → ∃ n y, DataW.trod enc P w base spare held n f.type ((cs.drop f.offset).take (P.cellsOf f.type)) = some y := by
  obtain ⟨xs, n, _, _, hl, hxl, hall⟩ := DataW.trod_struct ht h
  refine ⟨hl, fun i f hf => ?_⟩
  have hlt := (List.getElem?_eq_some_iff.1 hf).1
  have := hall i f (by simpa using hf)
  rw [List.getElem?_eq_getElem (by rw [hxl]; simpa using hlt)] at this
  exact ⟨n, _, this⟩
end
theorem reps_take {S : Still} {a : A} {bs : List A} {cs : List Value} {n : Nat} (h1 : Rep S a (cs.take n)) (h2 : Reps S bs (cs.drop n)) : Reps S (a :: bs) cs := by
  simp only [Reps]
  exact ⟨cs.take n, cs.drop n, (List.take_append_drop n cs).symm, h1, h2⟩
end Go.Own

namespace Go.Own
set_option linter.unusedVariables false
section
open Go Go.ChangeShapes Go.WideShapes Go.ChangeAt Go.RowKit
/-- What is asked behind the call: nothing that was there has turned; what is new is not looked at. -/
theorem post_kept {P : Program} {H : Type} {enc : TypeId × Value → H} {f : Func} {s : ChangeSpec} {apart fresh handsOn again : Bool} {W W' : World} {args : Array Value} {v : Value} {ds : List (DataW H)} {pa : List MemPlace}
    (hvar : s.vars = []) (hvars2 : (s.fn H (ds ++ [])).vars = []) (hW : DataW.Whole enc P f.params.toList s.vars apart W args.toList ds [] (pa ++ [])) (hb : Below W.heap.size W W')
    (hres : ∀ (b : Nat) (sp : Nat → Bool) (hd : Bool), DataW.TrodAll enc P W' b sp hd f.resultTypes.toList (v.resultList f.resultTypes.size) (s.fn H (ds ++ [])).results [])
    (hargs : ∀ sp : Nat → Bool, (∀ p ∈ pa ++ [], sp p.block = true) → DataW.TrodAll enc P W' 0 sp true f.params.toList args.toList (s.fn H (ds ++ [])).args pa)
    (hok : ∀ (j : Nat) (t : TypeId) (r : Value), f.resultTypes[j]? = some t → (v.resultList f.resultTypes.size)[j]? = some r → Value.okWide P W' .any 0 t r) :
    s.post enc P f apart fresh handsOn again W args v W' := by
  have hlt : ∀ p ∈ pa ++ [], p.block < W.heap.size := fun p hp => by simpa using hW.lt p hp
  have hvr : ∀ sp : Nat → Bool, DataW.TrodVars enc P W' sp s.vars (s.fn H (ds ++ [])).vars [] := fun sp => by rw [hvar, hvars2]; rfl
  refine ⟨ds, [], pa ++ [], [], pa, [], hW, hres _ _ _, hargs _ (fun p hp => by simpa using hlt p hp), hvr _, World.keptBut_mono (fun _ q => q.elim) (hb.frame fun _ => False), fun _ => ?_⟩
  obtain ⟨_, _, _, _, _, hz, hn⟩ := hW
  refine ⟨hok, _, _, ([] ++ pa) ++ [], ⟨[] ++ pa, [], trodAll_append (hargs _ (fun _ _ => rfl)) (hres _ _ _), hvr _, rfl, ?_, ?_⟩, ?_⟩
  · intro b off hp
    have hp' : MemPlace.cell b off ∈ pa ++ [] := by simpa using hp
    rw [hb.frozen (p := ⟨b, off, none⟩) (hlt _ hp')]
    exact hz b off hp'
  · intro ha
    simpa using hn ha
  · intro p hp _
    simpa using hp
end
theorem spF_call {P : Program} {k : Nat} {α ρ : Type} {enc : α → List A} {encR : ρ → A} {F : α → Option ρ} {gives : List Bool} {inj : ∀ x y, enc x = enc y → x = y} (h : (spF k enc encR F gives inj).Ok P) {x : α} {r : ρ} (hr : F x = some r) : CallOk P k (enc x) (encR r) := by
  have := h x ⟨r, hr⟩
  simpa only [spF, hr] using this
section
variable {P : Program} {w : World} {r : Reach} {base t : Nat} {v : Value}
theorem val_plain (h : ∀ cs, v ≠ .agg cs) : v = v.cells.toList.headD undef := by
  cases v <;> first | rfl | exact (h _ rfl).elim
theorem val_int {k : IntKind} (hu : P.underlying t = some (.int k)) (h : Value.okWide P w r base t v) : v = v.cells.toList.headD undef := by
  refine val_plain fun cs e => ?_
  subst e
  unfold Value.okWide at h
  rw [hu] at h
  simp only [Cell.okWide, hu, Cell.ok] at h
theorem val_struct {fs : Array Field} (hu : P.underlying t = some (.struct fs)) (h : Value.okWide P w r base t v) : v = .agg v.cells.toList.toArray := by
  unfold Value.okWide at h
  rw [hu] at h
  obtain ⟨cs, rfl, _⟩ := h
  rfl
theorem rep1_int {k : IntKind} {S : Still} {a : A} (hu : P.underlying t = some (.int k)) (hr : Rep S a v.cells.toList) (h : Value.okWide P w r base t v) (ha : a.isAgg = false) : Rep1 S a v := ⟨_, hr, by cases a <;> first | exact val_int hu h | cases ha⟩
theorem rep1_struct {fs : Array Field} {S : Still} {a : A} (hu : P.underlying t = some (.struct fs)) (hr : Rep S a v.cells.toList) (h : Value.okWide P w r base t v) (ha : a.isAgg = true) : Rep1 S a v := ⟨_, hr, by cases a <;> first | exact val_struct hu h | cases ha⟩
theorem has_true {S : Still} {h : Array Obj} {v : Value} {F : List Nat} (q : Has S h (.atom (.bool true)) v F) : v = .bool true := by
  rcases q with ⟨q, _⟩ | ⟨cs, q, _, rfl⟩
  · rw [(repV_atom.1 q).1]
  · simp only [Conc, Rep] at q
    obtain ⟨⟨rfl, _⟩, _⟩ := q
    rfl
end
end Go.Own

namespace Go.Own
open Go.Proofs
set_option linter.unusedVariables false
section
variable {H : Type} {enc : TypeId × Value → H} {w : World} {base : Nat} {spare : Nat → Bool} {held : Bool}
theorem cells5 : Try.prog.cellsOf 5 = 1 := by kernel_rfl
theorem rd5 {fuel : Nat} {cs : List Value} {x : DataW H × List MemPlace} (h : DataW.trod enc Try.prog w base spare held fuel 5 cs = some x) : ∃ a : Int, Ok5 a ∧ Rep (allS w) ((eI .u8) a) cs := by
  obtain ⟨n, h1, _, h2⟩ := int_rep Try.underlying5 (lo := 0) (hi := 255) rfl rfl h
  exact ⟨n, h1, h2⟩
theorem cells4 : Try.prog.cellsOf 4 = 1 := by kernel_rfl
theorem rd4 {fuel : Nat} {cs : List Value} {x : DataW H × List MemPlace} (h : DataW.trod enc Try.prog w base spare held fuel 4 cs = some x) : ∃ a : Bool, Ok4 a ∧ Rep (allS w) (eB a) cs := by
  obtain ⟨n, h2⟩ := bool_rep Try.underlying4 h
  exact ⟨n, trivial, h2⟩
theorem cells102 : Try.prog.cellsOf 102 = 1 := by kernel_rfl
theorem rd102 {fuel : Nat} {cs : List Value} {x : DataW H × List MemPlace} (h : DataW.trod enc Try.prog w base spare held fuel 102 cs = some x) : ∃ a : Int, Ok102 a ∧ Rep (allS w) ((eI .u16) a) cs := by
  obtain ⟨n, h1, _, h2⟩ := int_rep Try.underlying102 (lo := 0) (hi := 65535) rfl rfl h
  exact ⟨n, h1, h2⟩
theorem cells22 : Try.prog.cellsOf 22 = 1 := by kernel_rfl
theorem rd22 {fuel : Nat} {cs : List Value} {x : DataW H × List MemPlace} (h : DataW.trod enc Try.prog w base spare held fuel 22 cs = some x) : ∃ a : List Int, Ok22 a ∧ Rep (allS w) ((eSl 1 false (eI .u16)) a) cs := by
  exact slice_rep (eI .u16) Ok102 Try.underlying22 cells102 (by omega) (fun _ => rfl) (fun _ _ _ q => rd102 q) h
theorem cells24 : Try.prog.cellsOf 24 = 5 := by kernel_rfl
theorem rd24 {fuel : Nat} {cs : List Value} {x : DataW H × List MemPlace} (h : DataW.trod enc Try.prog w base spare held fuel 24 cs = some x) : ∃ a : S_law04_M, Ok24 a ∧ Rep (allS w) ((e_law04_M (eI .u8) (eI .u8) (eI .u8) eB (eSl 1 false (eI .u16))) a) cs := by
  obtain ⟨hl, hf⟩ := struct_fields Try.underlying24 h
  rw [cells24] at hl
  obtain ⟨_, _, q0⟩ := hf 0 _ rfl
  obtain ⟨_, _, q1⟩ := hf 1 _ rfl
  obtain ⟨_, _, q2⟩ := hf 2 _ rfl
  obtain ⟨_, _, q3⟩ := hf 3 _ rfl
  obtain ⟨_, _, q4⟩ := hf 4 _ rfl
  simp only [cells22, cells4, cells5] at q0 q1 q2 q3 q4
  obtain ⟨a0, k0, r0⟩ := rd5 q0
  obtain ⟨a1, k1, r1⟩ := rd5 q1
  obtain ⟨a2, k2, r2⟩ := rd5 q2
  obtain ⟨a3, k3, r3⟩ := rd4 q3
  obtain ⟨a4, k4, r4⟩ := rd22 q4
  refine ⟨⟨a0, a1, a2, a3, a4⟩, ⟨k0, k1, k2, k3, k4⟩, ?_⟩
  show Rep (allS w) (.agg [(eI .u8) a0, (eI .u8) a1, (eI .u8) a2, eB a3, (eSl 1 false (eI .u16)) a4]) cs
  simp only [Rep]
  refine reps_take (n := 1) (by simpa [List.drop_drop] using r0) (reps_take (n := 1) (by simpa [List.drop_drop] using r1) (reps_take (n := 1) (by simpa [List.drop_drop] using r2) (reps_take (n := 1) (by simpa [List.drop_drop] using r3) (reps_take (n := 1) (by simpa [List.drop_drop] using r4) ?_))))
  simp only [List.drop_drop, Reps]
  exact List.drop_eq_nil_of_le (by omega)
theorem cells65 : Try.prog.cellsOf 65 = 2 := by kernel_rfl
theorem rd65 {fuel : Nat} {cs : List Value} {x : DataW H × List MemPlace} (h : DataW.trod enc Try.prog w base spare held fuel 65 cs = some x) : ∃ a : Arr2 Int, Ok65 a ∧ Rep (allS w) ((eArr2 (eI .u8)) a) cs := by
  obtain ⟨xs, m, _, _, hl, hx, hall⟩ := DataW.trod_array Try.underlying65 h
  rw [cells65] at hl
  rw [cells5] at hall
  have get : ∀ i, i < 2 → ∃ n : Int, Ok5 n ∧ Rep (allS w) ((eI .u8) n) ((cs.drop (i * 1)).take 1) := by
    intro i hi
    have q := hall i hi
    rw [List.getElem?_eq_getElem (by omega)] at q
    exact rd5 q
  obtain ⟨a0, k0, r0⟩ := get 0 (by omega)
  obtain ⟨a1, k1, r1⟩ := get 1 (by omega)
  refine ⟨⟨a0, a1⟩, ⟨k0, k1⟩, ?_⟩
  show Rep (allS w) (.agg [(eI .u8) a0, (eI .u8) a1]) cs
  simp only [Rep]
  refine reps_take (n := 1) (by simpa [List.drop_drop] using r0) (reps_take (n := 1) (by simpa [List.drop_drop] using r1) ?_)
  simp only [List.drop_drop, Reps]
  exact List.drop_eq_nil_of_le (by omega)
theorem cells3 : Try.prog.cellsOf 3 = 1 := by kernel_rfl
theorem rd3 {fuel : Nat} {cs : List Value} {x : DataW H × List MemPlace} (h : DataW.trod enc Try.prog w base spare held fuel 3 cs = some x) : ∃ a : Int, Ok3 a ∧ Rep (allS w) ((eI .i64) a) cs := by
  obtain ⟨n, h1, _, h2⟩ := int_rep Try.underlying3 (lo := -9223372036854775808) (hi := 9223372036854775807) rfl rfl h
  exact ⟨n, h1, h2⟩
theorem cells67 : Try.prog.cellsOf 67 = 2 := by kernel_rfl
theorem rd67 {fuel : Nat} {cs : List Value} {x : DataW H × List MemPlace} (h : DataW.trod enc Try.prog w base spare held fuel 67 cs = some x) : ∃ a : S_api_Edge, Ok67 a ∧ Rep (allS w) ((e_api_Edge (eI .i64) (eI .i64)) a) cs := by
  obtain ⟨hl, hf⟩ := struct_fields Try.underlying67 h
  rw [cells67] at hl
  obtain ⟨_, _, q0⟩ := hf 0 _ rfl
  obtain ⟨_, _, q1⟩ := hf 1 _ rfl
  simp only [cells3] at q0 q1
  obtain ⟨a0, k0, r0⟩ := rd3 q0
  obtain ⟨a1, k1, r1⟩ := rd3 q1
  refine ⟨⟨a0, a1⟩, ⟨k0, k1⟩, ?_⟩
  show Rep (allS w) (.agg [(eI .i64) a0, (eI .i64) a1]) cs
  simp only [Rep]
  refine reps_take (n := 1) (by simpa [List.drop_drop] using r0) (reps_take (n := 1) (by simpa [List.drop_drop] using r1) ?_)
  simp only [List.drop_drop, Reps]
  exact List.drop_eq_nil_of_le (by omega)
theorem cells69 : Try.prog.cellsOf 69 = 17 := by kernel_rfl
theorem rd69 {fuel : Nat} {cs : List Value} {x : DataW H × List MemPlace} (h : DataW.trod enc Try.prog w base spare held fuel 69 cs = some x) : ∃ a : S_law10_D, Ok69 a ∧ Rep (allS w) ((e_law10_D (e_law04_M (eI .u8) (eI .u8) (eI .u8) eB (eSl 1 false (eI .u16))) (e_law04_M (eI .u8) (eI .u8) (eI .u8) eB (eSl 1 false (eI .u16))) eB (eArr2 (eI .u8)) (eArr2 (eI .u8)) (e_api_Edge (eI .i64) (eI .i64))) a) cs := by
  obtain ⟨hl, hf⟩ := struct_fields Try.underlying69 h
  rw [cells69] at hl
  obtain ⟨_, _, q0⟩ := hf 0 _ rfl
  obtain ⟨_, _, q1⟩ := hf 1 _ rfl
  obtain ⟨_, _, q2⟩ := hf 2 _ rfl
  obtain ⟨_, _, q3⟩ := hf 3 _ rfl
  obtain ⟨_, _, q4⟩ := hf 4 _ rfl
  obtain ⟨_, _, q5⟩ := hf 5 _ rfl
  simp only [cells24, cells4, cells65, cells67] at q0 q1 q2 q3 q4 q5
  obtain ⟨a0, k0, r0⟩ := rd24 q0
  obtain ⟨a1, k1, r1⟩ := rd24 q1
  obtain ⟨a2, k2, r2⟩ := rd4 q2
  obtain ⟨a3, k3, r3⟩ := rd65 q3
  obtain ⟨a4, k4, r4⟩ := rd65 q4
  obtain ⟨a5, k5, r5⟩ := rd67 q5
  refine ⟨⟨a0, a1, a2, a3, a4, a5⟩, ⟨k0, k1, k2, k3, k4, k5⟩, ?_⟩
  show Rep (allS w) (.agg [(e_law04_M (eI .u8) (eI .u8) (eI .u8) eB (eSl 1 false (eI .u16))) a0, (e_law04_M (eI .u8) (eI .u8) (eI .u8) eB (eSl 1 false (eI .u16))) a1, eB a2, (eArr2 (eI .u8)) a3, (eArr2 (eI .u8)) a4, (e_api_Edge (eI .i64) (eI .i64)) a5]) cs
  simp only [Rep]
  refine reps_take (n := 5) (by simpa [List.drop_drop] using r0) (reps_take (n := 5) (by simpa [List.drop_drop] using r1) (reps_take (n := 1) (by simpa [List.drop_drop] using r2) (reps_take (n := 2) (by simpa [List.drop_drop] using r3) (reps_take (n := 2) (by simpa [List.drop_drop] using r4) (reps_take (n := 2) (by simpa [List.drop_drop] using r5) ?_)))))
  simp only [List.drop_drop, Reps]
  exact List.drop_eq_nil_of_le (by omega)
end
end Go.Own
namespace Go.Proofs.Ytdnenbcldibnoaa.equalsWithin
open Go Go.ChangeShapes Go.WideShapes Go.ChangeAt Go.RowKit
set_option linter.unusedVariables false
theorem own : ownKnob Try.prog.godebug = none := by kernel_rfl
theorem laidOut : laidOutB Try.prog = true := by kernel_rfl
section
variable {H : Type} {enc : TypeId × Value → H} {W : World}
set_option maxRecDepth 100000 in
theorem walk {base : Nat} {v0 : Value} {d0 : DataW H} {p0 : List MemPlace} {v1 : Value} {d1 : DataW H} {p1 : List MemPlace} (h0 : DataW.Trod enc Try.prog W 0 (fun _ => true) true 69 v0 d0 p0) (h1 : DataW.Trod enc Try.prog W 0 (fun _ => true) true 3 v1 d1 p1) (k0 : Value.okWide Try.prog W .any base (69 : Nat) v0) (k1 : Value.okWide Try.prog W .any base (3 : Nat) v1) :
    Calls Try.prog 7 #[v0, v1] W fun e w' => e = .returned (.bool true) ∧ Go.Own.Kept (fun k => W.heap.size ≤ k) W w' := by
  obtain ⟨n0, h0⟩ := h0
  obtain ⟨x0, o0, r0⟩ := Go.Own.rd69 h0
  obtain ⟨n1, h1⟩ := h1
  obtain ⟨x1, o1, r1⟩ := Go.Own.rd3 h1
  have q := (Go.Own.spF_call (Go.Own.ctrOf_call Go.Own.L38_ok List.mem_cons_self : Go.Own.sp_law10_EqualsWithin.Ok Try.prog) (x := (x0, x1)) (r := true) (Go.Own.law_true o0 o1)).2 (Go.Own.allS W) W [v0, v1] [] (fun _ _ _ h => h) ?_ (by simp)
  · refine Calls.mono q ?_
    rintro e w' ⟨v, S', F', rfl, hk, _, _, _, hr, _, _⟩
    refine ⟨?_, hk.mono (by rintro k (h | h) <;> simp_all)⟩
    rw [Go.Own.has_true hr]
  · refine Go.Own.all2_hass ?_
    have g0 : Go.Own.Rep1 (Go.Own.allS W) ((Go.Own.e_law10_D (Go.Own.e_law04_M (Go.Own.eI .u8) (Go.Own.eI .u8) (Go.Own.eI .u8) Go.Own.eB (Go.Own.eSl 1 false (Go.Own.eI .u16))) (Go.Own.e_law04_M (Go.Own.eI .u8) (Go.Own.eI .u8) (Go.Own.eI .u8) Go.Own.eB (Go.Own.eSl 1 false (Go.Own.eI .u16))) Go.Own.eB (Go.Own.eArr2 (Go.Own.eI .u8)) (Go.Own.eArr2 (Go.Own.eI .u8)) (Go.Own.e_api_Edge (Go.Own.eI .i64) (Go.Own.eI .i64))) x0) v0 := Go.Own.rep1_struct (t := (69 : Nat)) Try.underlying69 r0 k0 rfl
    have g1 : Go.Own.Rep1 (Go.Own.allS W) ((Go.Own.eI .i64) x1) v1 := Go.Own.rep1_int (t := (3 : Nat)) Try.underlying3 r1 k1 rfl
    exact ⟨g0, g1, trivial⟩
end
set_option maxRecDepth 100000 in
theorem lifted (os : Os) (started : os.Started) (H : Type) (enc : TypeId × Value → H) :
    ReturnsInHanded {} Try.checked os 7 .any (Rows.equalsWithinSpec.pre6 enc Try.prog Try.f7 Rows.equalsWithinRow.domain false) (Rows.equalsWithinSpec.post enc Try.prog Try.f7 false true false false) := by
  refine returnsInHanded_of_change (C := Try.checked) own started (by kernel_rfl) Try.func7
    (ChangeSpec.witness6 (enc := enc) (C := Try.checked) false ⟨#[], #[.agg #[.int .u8 0, .int .u8 0, .int .u8 0, .bool false, .slice none 0 0, .int .u8 0, .int .u8 0, .int .u8 0, .bool false, .slice none 0 0, .bool false, .int .u8 0, .int .u8 0, .int .u8 0, .int .u8 0, .int .i64 0, .int .i64 0], .int .i64 0], []⟩ 8 (by kernel_rfl) (by kernel_rfl) (by kernel_rfl) (by kernel_rfl)) ?_
  intro W base args ds gs before hval0 hW hcnd _
  have hval : ∀ (j : Nat) t v, Try.f7.params[j]? = some t → args[j]? = some v → Value.okWide Try.prog W .any base t v := hval0
  have hW' := hW
  obtain ⟨p, q, hA0, hV, rfl, hfz, hnd⟩ := hW
  have hA : DataW.TrodAll enc Try.prog W 0 (fun _ => true) true Try.f7.params.toList args.toList ds p := hA0
  rw [Try.params7] at hA hval
  obtain ⟨v0, v1, d0, d1, p0, p1, rfl, rfl, rfl, h0, h1⟩ := trodAll_two hA
  obtain ⟨rfl, rfl⟩ := trodVars_none hV
  clear hA0 hval0
  refine (walk h0 h1 (hval 0 (69 : Nat) v0 rfl rfl) (hval 1 (3 : Nat) v1 rfl rfl)).mono fun e W' ⟨he, hk⟩ => ?_
  subst he
  have hb : Below W.heap.size W W' := ⟨hk.os, hk.tape, hk.output, hk.size, fun k q => hk.block k (by omega)⟩
  have hlt : ∀ x ∈ p0 ++ p1, x.block < W.heap.size := fun x hx => by simpa using hW'.lt x (by simpa using hx)
  refine ⟨_, rfl, Go.Own.post_kept rfl rfl hW' hb (fun _ _ _ => trodAll_cons_mk (shut_bool Try.underlying4 _) trodAll_mk0) (fun sp hsp => ?_) (ok_one (by kernel_rfl) rfl (okWide_bool_mk Try.underlying4 _))⟩
  have st : ∀ {t : Nat} {v : Value} {d : DataW H} {p' : List MemPlace}, DataW.Trod enc Try.prog W 0 (fun _ => true) true t v d p' → Try.prog.readableRec t = true → t < Try.prog.types.size → (∀ x ∈ p', x ∈ p0 ++ p1) → DataW.Trod enc Try.prog W' 0 sp true t v d p' := by
    intro t v d p' hd h1 h2 hp
    exact WideElems.Trod_stays laidOut h1 h2 hd (fun x hx => hb.same (hlt x (hp x hx))) (fun x hx => hsp x (by simpa using hp x hx))
  have := trodAll_mk2 (st h0 (by kernel_rfl) (of_decide_eq_true (by kernel_rfl)) (fun x hx => by simp [hx])) (st h1 (by kernel_rfl) (of_decide_eq_true (by kernel_rfl)) (fun x hx => by simp [hx]))
  rw [Try.params7]
  exact this
theorem over : Rows.equalsWithinRow.holds Try.pinned (OpenSpec.ofChange Rows.equalsWithinSpec) :=
  OpenClaim.holds_of_wide 7 Try.f7 rfl rfl rfl rfl rfl rfl rfl ⟨rfl, rfl, rfl, rfl, rfl⟩ rfl rfl rfl rfl rfl (by kernel_rfl) Try.func7 (by kernel_rfl)
    (of_decide_eq_true (by kernel_rfl)) (by unfold Func.isWrapper; first | (rw [if_pos (by decide +kernel)]; kernel_rfl) | (rw [if_neg (by decide +kernel)]; exact ⟨rfl, rfl⟩))
    (fun os started H enc _ => lifted os started H enc)
/-- The statement. -/
theorem proved : Rows.EqualsWithinSaid :=
  over
#print axioms proved
end Go.Proofs.Ytdnenbcldibnoaa.equalsWithin
