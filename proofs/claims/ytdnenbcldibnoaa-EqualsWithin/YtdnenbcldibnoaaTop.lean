/- EqualsWithin (gauntletlaw10): for every input the law returns true, and its arguments read afterwards as_ they read before. No condition. -/
import Derived.Test.YtdnenbcldibnoaaPartG
import Derived.Test.YtdnenbcldibnoaaPartE
import Derived.Test.YtdnenbcldibnoaaPartB
import Derived.OpenShut
import Derived.ChangeShapes
import Derived.Test.YtdnenbcldibnoaaPartC
import Derived.WalkKit
import Derived.ProofKit
import Derived.Carry
import Derived.Test.YtdnenbcldibnoaaRows
import Derived.Test.YtdnenbcldibnoaaChecked
set_option linter.unusedVariables false
set_option linter.unusedSimpArgs false
namespace Go.Own
set_option linter.unusedVariables false
set_option linter.unusedSimpArgs false
def shE (n : Nat) (x : S_api_Edge) : S_api_Edge := if x.To ≥ 0 then ⟨x.To + (n : Int), x.Out⟩ else x
/-- Both machines beside each other. -/
def bes (a b : S_api_Machine) : S_api_Machine := ⟨a.Inputs, mx a.Outputs b.Outputs, a.Rows ++ b.Rows.map (List.map (shE a.Rows.length))⟩
section
variable {a b : S_api_Machine} (va : VM a) (vb : VM b) (hab : a.Inputs = b.Inputs)
theorem bes_len : (bes a b).Rows.length = a.Rows.length + b.Rows.length := by simp [bes]
include va vb hab
theorem bes_wm : WM (bes a b) := by
  have := va.len64; have := vb.len64; have := va.len1
  refine ⟨va.in1, va.in16, by rw [bes_len]; omega, by rw [bes_len]; omega, fun r hr => ?_, fun r hr x hx => ?_⟩
  · simp only [bes] at hr ⊢
    rcases List.mem_append.1 hr with g | g
    · exact va.row r g
    · obtain ⟨r', h1, rfl⟩ := List.mem_map.1 g
      rw [List.length_map, hab]
      exact vb.row r' h1
  · rw [bes_len]
    simp only [bes] at hr
    rcases List.mem_append.1 hr with g | g
    · rcases va.edge r g x hx with q | ⟨q1, q2, q3, _⟩
      · exact .inl q
      · exact .inr ⟨q1, by omega, q3⟩
    · obtain ⟨r', h1, rfl⟩ := List.mem_map.1 g
      obtain ⟨x', h2, rfl⟩ := List.mem_map.1 hx
      unfold shE
      rcases vb.edge r' h1 x' h2 with q | ⟨q1, q2, q3, _⟩
      · rw [if_neg (by omega)]
        exact .inl q
      · rw [if_pos q1]
        exact .inr ⟨by simp only; omega, by simp only; omega, q3⟩
end
theorem bes_left {a b : S_api_Machine} {s i : Nat} (hs : s < a.Rows.length) : E (bes a b) s i = E a s i := by
  unfold E bes
  simp only
  rw [List.getElem?_append_left hs]
theorem bes_right {a b : S_api_Machine} (vb : VM b) {s i : Nat} (hs : s < b.Rows.length) (hi : i < kk b) : E (bes a b) (a.Rows.length + s) i = shE a.Rows.length (E b s i) := by
  obtain ⟨r, h1, h2, h3⟩ := vb.rowAt hs
  unfold E bes
  simp only
  rw [List.getElem?_append_right (by omega), Nat.add_sub_cancel_left, List.getElem?_map, h1]
  simp only [Option.map_some, Option.getD_some]
  rw [List.getElem?_map]
  have h3 := h3 i hi
  rw [h3]
  rfl
theorem shE_out (n : Nat) (x : S_api_Edge) : (shE n x).Out = x.Out := by unfold shE; split <;> rfl
theorem beside_eq {a b : S_api_Machine} (va : VM a) (vb : VM b) : ref10_Beside a b = some (bes a b) := by
  have la := va.len64; have lb := vb.len64; have k16 := vb.kk_le; have hk := vb.kk_eq
  have l8 : loop (fun s => ref10_Beside_L8 a s.1 s.2) (([] : List (List S_api_Edge)), 0) = some a.Rows := by
    have := loop_seq (step := fun s => ref10_Beside_L8 a s.1 s.2) (fun i : Nat => (a.Rows.take i, (i : Int))) a.Rows.length (t := a.Rows) (by omega) ?_ ?_
    · exact this
    · intro i hi
      have hx : a.Rows[i]? = some a.Rows[i] := List.getElem?_eq_getElem hi
      have hd : decide ((i : Int) < ((a.Rows.length : Nat) : Int)) = true := by simpa using hi
      have hw : w64 ((i : Int) + 1) = ((i + 1 : Nat) : Int) := by rw [w64_in (by omega) (by omega)]; rfl
      simp only [ref10_Beside_L8, hd, cond_true]
      rw [idx_nat, bdT hx, gdT (by simp; omega), hw, List.take_add_one, hx]
      rfl
    · simp only [ref10_Beside_L8, Int.lt_irrefl, decide_false, cond_false, List.take_length]
  have l6 : ∀ s : Nat, s < b.Rows.length → loop (fun q => ref10_Beside_L6 a b (s : Int) q.1 q.2) (([] : List S_api_Edge), 0) = some ((List.range (kk b)).map fun i => shE a.Rows.length (E b s i)) := by
    intro s hs
    have := loop_seq (step := fun q => ref10_Beside_L6 a b (s : Int) q.1 q.2) (fun i : Nat => ((List.range i).map fun i => shE a.Rows.length (E b s i), (i : Int))) (kk b) (t := (List.range (kk b)).map fun i => shE a.Rows.length (E b s i)) (by omega) ?_ ?_
    · exact this
    · intro i hi
      have hd : decide ((i : Int) < b.Inputs) = true := by rw [← hk]; simpa using hi
      have hw : w64 ((i : Int) + 1) = ((i + 1 : Nat) : Int) := by rw [w64_in (by omega) (by omega)]; rfl
      simp only [ref10_Beside_L6, hd, cond_true]
      rw [vb.edge_eq hs hi]
      have hed := vb.edgeAt hs hi
      unfold ref10_Beside_J7
      have gl : ∀ e : S_api_Edge, ((List.range i).map fun i => shE a.Rows.length (E b s i)).length + ([e] : List S_api_Edge).length ≤ 4294967296 := fun e => by simp; omega
      by_cases ht : (E b s i).To ≥ 0
      · have hw2 : w64 ((E b s i).To + ((a.Rows.length : Nat) : Int)) = (E b s i).To + (a.Rows.length : Int) := w64_in (by omega) (by omega)
        rw [decide_eq_true ht, cond_true, gdT (gl _), hw, hw2, List.range_succ, List.map_append]
        simp only [List.map_cons, List.map_nil, shE, if_pos ht]
      · rw [decide_eq_false ht, cond_false, gdT (gl _), hw, List.range_succ, List.map_append]
        simp only [List.map_cons, List.map_nil, shE, if_neg ht]
    · simp only [ref10_Beside_L6, hk, Int.lt_irrefl, decide_false, cond_false]
  have rowE : ∀ s : Nat, s < b.Rows.length → ((List.range (kk b)).map fun i => shE a.Rows.length (E b s i)) = (b.Rows.map (List.map (shE a.Rows.length)))[s]?.getD [] := by
    intro s hs
    obtain ⟨r, h1, h2, h3⟩ := vb.rowAt hs
    rw [List.getElem?_map, h1]
    simp only [Option.map_some, Option.getD_some]
    refine List.ext_getElem (by simp [h2]) fun n g1 g2 => ?_
    simp only [List.getElem_map, List.getElem_range]
    have := h3 n (by simpa using g1)
    rw [List.getElem?_eq_getElem (by simpa using g2)] at this
    rw [Option.some.inj this]
  have l3 : loop (fun s => ref10_Beside_L3 a b s.1 s.2) (a.Rows, 0) = some (a.Rows ++ b.Rows.map (List.map (shE a.Rows.length))) := by
    have := loop_seq (step := fun s => ref10_Beside_L3 a b s.1 s.2) (fun i : Nat => (a.Rows ++ (b.Rows.map (List.map (shE a.Rows.length))).take i, (i : Int))) b.Rows.length (t := a.Rows ++ b.Rows.map (List.map (shE a.Rows.length))) (by omega) ?_ ?_
    · simpa using this
    · intro i hi
      have hd : decide ((i : Int) < ((b.Rows.length : Nat) : Int)) = true := by simpa using hi
      have hw : w64 ((i : Int) + 1) = ((i + 1 : Nat) : Int) := by rw [w64_in (by omega) (by omega)]; rfl
      simp only [ref10_Beside_L3, hd, cond_true]
      rw [bdT (l6 i hi)]
      unfold ref10_Beside_J5 ref10_Beside_J4
      rw [gdT (by simp; omega), hw, rowE i hi, List.take_add_one]
      obtain ⟨x, hx⟩ : ∃ x, (b.Rows.map (List.map (shE a.Rows.length)))[i]? = some x := ⟨_, List.getElem?_eq_getElem (by simpa using hi)⟩
      rw [hx]
      simp only [Option.getD_some, Option.toList_some, List.append_assoc]
    · simp only [ref10_Beside_L3, Int.lt_irrefl, decide_false, cond_false]
      rw [List.take_of_length_le (by simp)]
  unfold ref10_Beside ref10_Beside_J1 ref10_Beside_J2
  rw [bdT l8, bdT l3]
  rfl
/-- A pair of states, of both machines beside each other. -/
def phi (a : S_api_Machine) (p : Nat × Nat) : Nat × Nat := (p.1, a.Rows.length + p.2)
def InP (a b : S_api_Machine) (p : Nat × Nat) : Prop := p.1 < a.Rows.length ∧ p.2 < b.Rows.length
section
variable {a b : S_api_Machine} (va : VM a) (vb : VM b) (hab : a.Inputs = b.Inputs)
include va vb hab
theorem inP_nx (p : Nat × Nat) (i : Nat) (q : Nat × Nat) (hp : InP a b p) (hi : i < kk a) (hq : nxP a b p i = some q) : InP a b q := by
  unfold nxP at hq
  split at hq
  · rename_i hc
    cases hq
    have h1 := va.edgeAt hp.1 hi
    have h2 := vb.edgeAt hp.2 (by rw [← kk_same hab]; exact hi)
    refine ⟨?_, ?_⟩ <;> simp only <;> omega
  · cases hq
theorem bes_bad (p : Nat × Nat) (i : Nat) (hp : InP a b p) (hi : i < kk a) : badP (bes a b) (bes a b) (phi a p) i = badP a b p i := by
  have := va.in1
  unfold badP phi
  simp only
  rw [bes_left hp.1, bes_right vb hp.2 (by rw [← kk_same hab]; exact hi), shE_out]
theorem bes_nx (p : Nat × Nat) (i : Nat) (hp : InP a b p) (hi : i < kk a) : nxP (bes a b) (bes a b) (phi a p) i = (nxP a b p i).map (phi a) := by
  have := va.in1
  unfold nxP phi
  simp only
  rw [bes_left hp.1, bes_right vb hp.2 (by rw [← kk_same hab]; exact hi)]
  by_cases h2 : (E b p.2 i).To ≥ 0
  · by_cases h1 : (E a p.1 i).To ≥ 0
    · rw [if_pos ⟨h1, by unfold shE; rw [if_pos h2]; simp only; omega⟩, if_pos ⟨h1, h2⟩]
      unfold shE
      rw [if_pos h2]
      exact congrArg some (Prod.ext rfl (by simp only; omega))
    · rw [if_neg (by omega), if_neg (by omega)]
      rfl
  · rw [if_neg (by unfold shE; rw [if_neg h2]; omega), if_neg (by omega)]
    rfl
theorem mk_bes (n : Nat) (p : Nat × Nat) (hp : InP a b p) : Mk (kk a) (badP (bes a b) (bes a b)) (nxP (bes a b) (bes a b)) n (phi a p) ↔ Mk (kk a) (badP a b) (nxP a b) n p :=
  mk_along (phi a) (InP a b) (inP_nx va vb hab) (bes_bad va vb hab) (bes_nx va vb hab) n p hp
theorem greedy_bes (n : Nat) (p : Nat × Nat) (w : List Nat) (hp : InP a b p) : Greedy (kk a) (badP (bes a b) (bes a b)) (nxP (bes a b) (bes a b)) n (phi a p) w → Greedy (kk a) (badP a b) (nxP a b) n p w :=
  greedy_along (phi a) (InP a b) (inP_nx va vb hab) (bes_bad va vb hab) (bes_nx va vb hab) n p w hp
/-- What the reference gives. -/
def RefR (a b : S_api_Machine) (r : List Int × Bool) : Prop :=
  (∃ n w, Mk (kk a) (badP a b) (nxP a b) (n + 1) (0, 0) ∧ ¬ Mk (kk a) (badP a b) (nxP a b) n (0, 0) ∧ Greedy (kk a) (badP a b) (nxP a b) (n + 1) (0, 0) w ∧ n + 1 < a.Rows.length + b.Rows.length ∧ r = (w.map Int.ofNat, true)) ∨
  ((∀ n, ¬ Mk (kk a) (badP a b) (nxP a b) n (0, 0)) ∧ r = ([], false))
end
theorem tel_iff {m : S_api_Machine} {n : Nat} {p : Nat × Nat} {i : Nat} : telP m (mrk m n) p i = true ↔ (badP m m p i = true ∨ ∃ q, nxP m m p i = some q ∧ Mk (kk m) (badP m m) (nxP m m) n q) := by
  unfold telP
  rw [Bool.or_eq_true]
  constructor
  · rintro (h | h)
    · exact .inl h
    · cases hq : nxP m m p i with
      | none => rw [hq] at h; cases h
      | some q => rw [hq] at h; exact .inr ⟨q, rfl, (mkb_iff _ _ _ n q).1 h⟩
  · rintro (h | ⟨q, hq, h⟩)
    · exact .inl h
    · refine .inr ?_
      rw [hq]
      exact (mkb_iff _ _ _ n q).2 h
/-- The least input that tells, or leads on. -/
theorem pick_ret {m : S_api_Machine} (h : WM m) {k : Nat} {p : Nat × Nat} (h1 : p.1 < m.Rows.length) (h2 : p.2 < m.Rows.length) (n w : Int) (ws : List Int) (hw : ws.length ≤ 1000) (hn : n = (k : Int) + 1) (hk1 : k ≤ 1000) (hex : Mk (kk m) (badP m m) (nxP m m) (k + 1) p) (hno : ¬ Mk (kk m) (badP m m) (nxP m m) k p) :
    Ret (loop (fun s => ref10_Differ_L4 m (p.1 : Int) (p.2 : Int) n ws (tab m.Rows.length (mrk m k)) s) 0) fun r => ∃ i, i < kk m ∧ telP m (mrk m k) p i = true ∧ (∀ j, j < i → telP m (mrk m k) p j = false) ∧ r = ((E m p.1 i).To, (E m p.2 i).To, (k : Int), ws ++ [(i : Int)]) := by
  have hk := h.kk_eq
  have k16 := h.kk_le
  obtain ⟨i0, hi0, ht0⟩ : ∃ i, i < kk m ∧ telP m (mrk m k) p i = true := by
    rcases hex with g | ⟨i, hi, g⟩
    · exact (hno g).elim
    · exact ⟨i, hi, tel_iff.2 g⟩
  refine ret_loop (fun s => ∃ i : Nat, s = (i : Int) ∧ i ≤ kk m ∧ ∀ j, j < i → telP m (mrk m k) p j = false) (fun s => 100 - s.toNat) ⟨0, rfl, Nat.zero_le _, fun j hj => by omega⟩ (by simp) ?_
  rintro i' ⟨i, hi', hik, hall⟩
  subst hi'
  unfold ref10_Differ_L4 ref10_Differ_J5
  rw [ret_bif]
  refine ⟨fun hlt => ?_, fun hge => ?_⟩
  · have hlt : i < kk m := by rw [← hk] at hlt; simpa using hlt
    have hw1 : w64 ((i : Int) + 1) = ((i + 1 : Nat) : Int) := by rw [w64_in (by omega) (by omega)]; rfl
    have hn1 : w64 (n - 1) = (k : Int) := by rw [w64_in (by omega) (by omega)]; omega
    rw [h.edge_eq h1 hlt, h.edge_eq h2 hlt, hw1, hn1]
    have e1 := h.edgeAt h1 hlt
    have e2 := h.edgeAt h2 hlt
    have gl : ws.length + ([(i : Int)] : List Int).length ≤ 4294967296 := by simp; omega
    have found : telP m (mrk m k) p i = true → Ret (some (.done ((E m p.1 i).To, (E m p.2 i).To, (k : Int), ws ++ [(i : Int)])) : Option (LR Int (Int × Int × Int × List Int))) (LRP (fun s' => (∃ j : Nat, s' = (j : Int) ∧ j ≤ kk m ∧ ∀ l, l < j → telP m (mrk m k) p l = false) ∧ 100 - s'.toNat < 100 - (i : Int).toNat) (fun r => ∃ i, i < kk m ∧ telP m (mrk m k) p i = true ∧ (∀ j, j < i → telP m (mrk m k) p j = false) ∧ r = ((E m p.1 i).To, (E m p.2 i).To, (k : Int), ws ++ [(i : Int)]))) :=
      fun ht => ret_some.2 ⟨i, hlt, ht, hall, rfl⟩
    have on : telP m (mrk m k) p i = false → Ret (some (.next ((i + 1 : Nat) : Int)) : Option (LR Int (Int × Int × Int × List Int))) (LRP (fun s' => (∃ j : Nat, s' = (j : Int) ∧ j ≤ kk m ∧ ∀ l, l < j → telP m (mrk m k) p l = false) ∧ 100 - s'.toNat < 100 - (i : Int).toNat) (fun r => ∃ i, i < kk m ∧ telP m (mrk m k) p i = true ∧ (∀ j, j < i → telP m (mrk m k) p j = false) ∧ r = ((E m p.1 i).To, (E m p.2 i).To, (k : Int), ws ++ [(i : Int)]))) := by
      intro ht
      refine ret_some.2 ⟨⟨i + 1, rfl, hlt, fun j hj => ?_⟩, by omega⟩
      by_cases e : j = i
      · subst e; exact ht
      · exact hall j (by omega)
    rw [ret_bif]
    refine ⟨fun hb => ?_, fun hb => ?_⟩
    · rw [gdT gl]
      exact found (by unfold telP badP; rw [hb, Bool.true_or])
    · rw [ret_bif]
      refine ⟨fun t1 => ?_, fun t1 => ?_⟩
      · have t1 : (E m p.1 i).To ≥ 0 := of_decide_eq_true t1
        rw [ret_bif]
        refine ⟨fun t2 => ?_, fun t2 => ?_⟩
        · have t2 : (E m p.2 i).To ≥ 0 := of_decide_eq_true t2
          have hnx : nxP m m p i = some ((E m p.1 i).To.toNat, (E m p.2 i).To.toNat) := by unfold nxP; rw [if_pos ⟨t1, t2⟩]
          have hin := h.nx_in h1 h2 hlt hnx
          have c1 : (E m p.1 i).To = (((E m p.1 i).To.toNat : Nat) : Int) := by omega
          have c2 : (E m p.2 i).To = (((E m p.2 i).To.toNat : Nat) : Int) := by omega
          have ht1 : telP m (mrk m k) p i = mrk m k (E m p.1 i).To.toNat (E m p.2 i).To.toNat := by
            unfold telP badP
            rw [hnx, hb, Bool.false_or]
          have := tab_at (mrk m k) hin.1 hin.2 (g := fun v => bif v then gd (ws.length + ([(i : Int)] : List Int).length ≤ 4294967296) (some (LR.done ((E m p.1 i).To, (E m p.2 i).To, (k : Int), ws ++ [(i : Int)])) : Option (LR Int (Int × Int × Int × List Int))) else some (LR.next ((i + 1 : Nat) : Int)))
          rw [← c1, ← c2] at this
          refine (congrArg (fun o => Ret o _) this).mpr ?_
          rw [ret_bif]
          refine ⟨fun g => ?_, fun g => on (by rw [ht1]; exact g)⟩
          rw [gdT gl]
          exact found (by rw [ht1]; exact g)
        · have t2 : ¬ (E m p.2 i).To ≥ 0 := of_decide_eq_false t2
          exact on (by unfold telP badP nxP; rw [hb, if_neg (by omega)]; rfl)
      · have t1 : ¬ (E m p.1 i).To ≥ 0 := of_decide_eq_false t1
        exact on (by unfold telP badP nxP; rw [hb, if_neg (by omega)]; rfl)
  · have : i = kk m := by rw [← hk] at hge; simp at hge; omega
    have := hall i0 (by omega)
    rw [ht0] at this
    cases this
section
variable {a b : S_api_Machine} (va : VM a) (vb : VM b) (hab : a.Inputs = b.Inputs)
include va vb hab
theorem refd_ret : Ret (ref10_Differ a b) (RefR a b) := by
  have hm := bes_wm va vb hab
  have hN := bes_len (a := a) (b := b)
  have la := va.len64; have lb := vb.len64; have la1 := va.len1; have lb1 := vb.len1
  have hp0 : InP a b (0, 0) := ⟨va.len1, vb.len1⟩
  have hkb : kk (bes a b) = kk a := rfl
  have z1 : 0 < (bes a b).Rows.length := by omega
  have z2 : a.Rows.length < (bes a b).Rows.length := by omega
  unfold ref10_Differ
  rw [bdT (beside_eq va vb), ret_bind]
  have l6 : Ret (loop (fun s => ref10_Differ_L6 a (bes a b) s) 0) fun r => ∃ n : Nat, r = (n : Int) ∧ n ≤ (bes a b).Rows.length ∧ (∀ j, j < n → mrk (bes a b) j 0 a.Rows.length = false) ∧ (n < (bes a b).Rows.length → mrk (bes a b) n 0 a.Rows.length = true) := by
    refine ret_loop (fun s => ∃ n : Nat, s = (n : Int) ∧ n ≤ (bes a b).Rows.length ∧ ∀ j, j < n → mrk (bes a b) j 0 a.Rows.length = false) (fun s => 1000 - s.toNat) ⟨0, rfl, Nat.zero_le _, fun j hj => by omega⟩ (by simp) ?_
    rintro n' ⟨n, hn, hnl, hall⟩
    subst hn
    unfold ref10_Differ_L6
    rw [ret_bif]
    refine ⟨fun hlt => ?_, fun hge => ?_⟩
    · have hlt : n < (bes a b).Rows.length := by simpa using hlt
      have hw : w64 ((n : Int) + 1) = ((n + 1 : Nat) : Int) := by rw [w64_in (by omega) (by omega)]; rfl
      rw [bdT (marked_eq hm n (by omega))]
      have := tab_at (mrk (bes a b) n) z1 z2 (g := fun v => bif !v then (some (LR.next (w64 ((n : Int) + 1))) : Option (LR Int Int)) else some (LR.done (n : Int)))
      refine (congrArg (fun o => Ret o _) this).mpr ?_
      rw [ret_bif]
      refine ⟨fun g => ?_, fun g => ?_⟩
      · have g : mrk (bes a b) n 0 a.Rows.length = false := by simpa using g
        rw [ret_some, hw]
        refine ⟨⟨n + 1, rfl, hlt, fun j hj => ?_⟩, by omega⟩
        by_cases e : j = n
        · subst e; exact g
        · exact hall j (by omega)
      · have g : mrk (bes a b) n 0 a.Rows.length = true := by simpa using g
        rw [ret_some]
        exact ⟨n, rfl, hnl, hall, fun _ => g⟩
    · have : n = (bes a b).Rows.length := by simp at hge; omega
      rw [ret_some]
      exact ⟨n, rfl, hnl, hall, fun h => by omega⟩
  refine l6.mono ?_
  rintro n' ⟨n, hn, hnl, hall, hat⟩
  subst hn
  unfold ref10_Differ_J1 ref10_Differ_J2
  rw [ret_bif]
  refine ⟨fun he => ?_, fun hne => ?_⟩
  · have he : n = (bes a b).Rows.length := by simp at he; omega
    rw [ret_some]
    refine .inr ⟨fun j hj => ?_, rfl⟩
    have h1 := (mk_bes va vb hab j (0, 0) hp0).2 hj
    have h2 := mk_bound hm (s := 0) (t := a.Rows.length) z1 z2 h1
    have h3 := hall ((bes a b).Rows.length - 1) (by omega)
    have h4 := (mkb_iff _ _ _ _ _).2 h2
    unfold mrk at h3
    rw [h3] at h4
    cases h4
  · have hne : n ≠ (bes a b).Rows.length := by intro e; rw [e] at hne; simp at hne
    have hat := hat (by omega)
    cases n with
    | zero => simp [mrk, mkb] at hat
    | succ n =>
      have hmk : Mk (kk a) (badP (bes a b) (bes a b)) (nxP (bes a b) (bes a b)) (n + 1) (phi a (0, 0)) := (mkb_iff _ _ _ _ _).1 hat
      have hno : ¬ Mk (kk a) (badP (bes a b) (bes a b)) (nxP (bes a b) (bes a b)) n (phi a (0, 0)) := by
        intro c
        have h4 := (mkb_iff _ _ _ _ _).2 c
        have h3 := hall n (by omega)
        unfold mrk at h3
        have h3' : mkb (kk a) (badP (bes a b) (bes a b)) (nxP (bes a b) (bes a b)) n (phi a (0, 0)) = false := h3
        rw [h3'] at h4
        cases h4
      rw [ret_bind]
      refine (ret_loop (R := fun r => ∃ w, Greedy (kk a) (badP (bes a b) (bes a b)) (nxP (bes a b) (bes a b)) (n + 1) (phi a (0, 0)) w ∧ r = w.map Int.ofNat) (fun s => ∃ (wn : List Nat), s.2.2.2 = wn.map Int.ofNat ∧ wn.length ≤ 200 ∧ ((s.2.2.1 = 0 ∧ Greedy (kk a) (badP (bes a b) (bes a b)) (nxP (bes a b) (bes a b)) (n + 1) (phi a (0, 0)) wn) ∨
        ∃ (k : Nat) (p : Nat × Nat), s.2.2.1 = (k : Int) + 1 ∧ k ≤ n ∧ wn.length + k = n ∧ s.1 = (p.1 : Int) ∧ s.2.1 = (p.2 : Int) ∧ p.1 < (bes a b).Rows.length ∧ p.2 < (bes a b).Rows.length ∧ Mk (kk a) (badP (bes a b) (bes a b)) (nxP (bes a b) (bes a b)) (k + 1) p ∧ ¬ Mk (kk a) (badP (bes a b) (bes a b)) (nxP (bes a b) (bes a b)) k p ∧
          ∀ u, Greedy (kk a) (badP (bes a b) (bes a b)) (nxP (bes a b) (bes a b)) (k + 1) p u → Greedy (kk a) (badP (bes a b) (bes a b)) (nxP (bes a b) (bes a b)) (n + 1) (phi a (0, 0)) (wn ++ u))) (fun s => s.2.2.1.toNat) ⟨[], rfl, by simp, .inr ⟨n, phi a (0, 0), by simp, Nat.le_refl _, by simp, rfl, by simp [phi], by simp [phi]; omega, by simp [phi]; omega, hmk, hno, fun u h => h⟩⟩ ?_ ?_).mono ?_
      · simp only; omega
      · rintro ⟨s, t, c, w⟩ ⟨wn, hw, hwl, hcase⟩
        simp only at hw hcase
        subst hw
        unfold ref10_Differ_L3
        rcases hcase with ⟨hc, hg⟩ | ⟨k, p, hc, hkn, hwk, hs, ht, hp1, hp2, hk1, hk2, hgr⟩
        · subst hc
          rw [ret_bif]
          refine ⟨fun h => by have h := of_decide_eq_true h; simp only at h; omega, fun _ => ?_⟩
          rw [ret_some]
          exact ⟨wn, hg, rfl⟩
        · subst hs ht
          rw [ret_bif]
          refine ⟨fun _ => ?_, fun h => ?_⟩
          · have hn1 : w64 (c - 1) = (k : Int) := by rw [w64_in (by omega) (by omega)]; omega
            rw [hn1, bdT (marked_eq hm k (by omega)), ret_bind]
            refine (pick_ret hm hp1 hp2 c 0 _ (by simp; omega) hc (by omega) hk1 hk2).mono ?_
            rintro r ⟨i, hi, htel, hleast, rfl⟩
            rw [ret_some]
            have htel' := tel_iff.1 htel
            have hleast' : ∀ j, j < i → ¬ (badP (bes a b) (bes a b) p j = true ∨ ∃ q, nxP (bes a b) (bes a b) p j = some q ∧ Mk (kk a) (badP (bes a b) (bes a b)) (nxP (bes a b) (bes a b)) k q) := by
              intro j hj g
              have := hleast j hj
              rw [tel_iff.2 g] at this
              cases this
            refine ⟨⟨wn ++ [i], by simp, by simp; omega, ?_⟩, by simp only; omega⟩
            cases k with
            | zero =>
              refine .inl ⟨rfl, hgr [i] ⟨i, [], rfl, hi, htel', hleast', fun h => absurd h (Nat.lt_irrefl _), fun _ => rfl⟩⟩
            | succ k =>
              have hbad : badP (bes a b) (bes a b) p i ≠ true := fun g => hk2 (Mk.mono (n := 1) (.inr ⟨i, hi, .inl g⟩) (by omega))
              obtain ⟨q, hq, hqm⟩ : ∃ q, nxP (bes a b) (bes a b) p i = some q ∧ Mk (kk a) (badP (bes a b) (bes a b)) (nxP (bes a b) (bes a b)) (k + 1) q := by
                rcases htel' with g | g
                · exact (hbad g).elim
                · exact g
              have hin := hm.nx_in hp1 hp2 hi hq
              have hqv : (E (bes a b) p.1 i).To = (q.1 : Int) ∧ (E (bes a b) p.2 i).To = (q.2 : Int) := by
                unfold nxP at hq
                split at hq
                · cases hq
                  simp only
                  omega
                · cases hq
              refine .inr ⟨k, q, by simp, by omega, by simp; omega, hqv.1, hqv.2, hin.1, hin.2, hqm, fun g => hk2 (.inr ⟨i, hi, .inr ⟨q, hq, g⟩⟩), fun u hu => ?_⟩
              have := hgr (i :: u) ⟨i, u, rfl, hi, htel', hleast', fun _ => ⟨q, hq, hu⟩, fun h => by omega⟩
              simpa using this
          · have h := of_decide_eq_false h
            simp only at h
            omega
      · rintro r ⟨w, hg, rfl⟩
        rw [ret_some]
        exact .inl ⟨n, w, (mk_bes va vb hab _ _ hp0).1 hmk, fun g => hno ((mk_bes va vb hab _ _ hp0).2 g), greedy_bes va vb hab _ _ _ hp0 hg, by omega, rfl⟩
end
end Go.Own

namespace Go.Own
set_option linter.unusedVariables false
set_option linter.unusedSimpArgs false
/-- The search and the reference agree. -/
theorem same_word {a b : S_api_Machine} {w w' : List Int} {is there : Bool} (h1 : DiffS a b w is) (h2 : RefR a b (w', there)) :
    w = w' ∧ is = there ∧ (is = true → ∃ u, TellR (kk a) (badP a b) (nxP a b) (0, 0) u ∧ w = u.reverse.map Int.ofNat ∧ u.length < a.Rows.length + b.Rows.length) := by
  rcases h1 with ⟨u, t1, t2, rfl, rfl⟩ | ⟨t1, rfl, rfl⟩
  · rcases h2 with ⟨n, v, m1, m2, g, hl, e⟩ | ⟨m1, e⟩
    · have hs := search_mark t1 t2 m1 m2 g
      have hlen := (greedy_least m1 m2 g).2.1
      cases e
      refine ⟨by rw [hs], rfl, fun _ => ⟨u, t1, rfl, ?_⟩⟩
      have : u.reverse.length = v.length := by rw [hs]
      rw [List.length_reverse] at this
      omega
    · exact (m1 _ (tell_mk (tell_fwd t1))).elim
  · rcases h2 with ⟨n, v, m1, m2, g, hl, e⟩ | ⟨m1, e⟩
    · obtain ⟨w, hw, _⟩ := Mk.tell m1
      exact (t1 _ (tell_rev hw)).elim
    · cases e
      exact ⟨rfl, rfl, fun h => by cases h⟩
end Go.Own

namespace Go.Own
set_option linter.unusedVariables false
set_option linter.unusedSimpArgs false
set_option maxRecDepth 100000 in
theorem lives10 : law10_lives = some true := by kernel_rfl
theorem Within_ok {a b : S_api_Machine} (h : bothS a b = 0) {w : List Int} {is : Bool} (hw : equals_Differ a b = some (w, is, 0)) (k : Int) : equals_Within a b k = if k < 0 then some (false, 1) else some (!is || decide ((w.length : Int) > k), 0) := by
  unfold equals_Within
  rw [bdT hw]
  simp only [bne_self_eq_false, cond_false, Bool.cond_eq_ite, decide_eq_true_eq]
  by_cases h0 : k < 0
  · simp [h0]
  · cases is <;> simp [h0]
end Go.Own

namespace Go.Own
set_option linter.unusedVariables false
set_option linter.unusedSimpArgs false
theorem within_true (x : S_law10_D) (hx : DOk x) (k : Int) : law10_EqualsWithin x k = some true := by
  obtain ⟨⟨a, b⟩, ed, va, vb, hab, la, lb⟩ := d_of hx
  simp only at va vb hab la lb
  have h0 : bothS a b = 0 := both_of va vb hab
  obtain ⟨⟨w, is, e⟩, ew, he, hd⟩ := Differ_ret h0
  simp only at he hd
  subst he
  obtain ⟨⟨w', there⟩, er, hr⟩ := refd_ret va vb hab
  obtain ⟨hww, his, hlen⟩ := same_word hd hr
  subst hww his
  unfold law10_EqualsWithin
  rw [bdT ed]
  simp only
  rw [Within_ok h0 ew, Within_ok h0 ew]
  have hs : w64 (w64 (((a.Rows.length : Nat) : Int) + ((b.Rows.length : Nat) : Int)) - 1) = (a.Rows.length : Int) + (b.Rows.length : Int) - 1 := by
    have := va.len1
    rw [w64_in (x := ((a.Rows.length : Nat) : Int) + ((b.Rows.length : Nat) : Int)) (by omega) (by omega), w64_in (by omega) (by omega)]
  rw [hs]
  have hn : ¬ ((a.Rows.length : Int) + (b.Rows.length : Int) - 1 < 0) := by have := va.len1; omega
  rw [if_neg hn]
  by_cases hk : k < 0
  · simp [hk, lives10]
  · rw [if_neg hk, decide_eq_false hk]
    simp only [Option.bind_some, cond_false, er, beq_self_eq_true, cond_true]
    cases is with
    | false => simp [lives10]
    | true =>
      obtain ⟨u, _, hu, hl⟩ := hlen rfl
      have : ((w.length : Nat) : Int) ≤ (a.Rows.length : Int) + (b.Rows.length : Int) - 1 := by rw [hu]; simp; omega
      have hd : decide (((w.length : Nat) : Int) > (a.Rows.length : Int) + (b.Rows.length : Int) - 1) = false := by simp; omega
      simp [lives10, hd]
end Go.Own

namespace Go.Own
def Ok5 (a : Int) : Prop := (0) ≤ a ∧ a ≤ 255
def Ok4 (_ : Bool) : Prop := True
def Ok102 (a : Int) : Prop := (0) ≤ a ∧ a ≤ 65535
def Ok22 (l : List Int) : Prop := ∀ a ∈ l, Ok102 a
def Ok24 (a : S_law04_M) : Prop := Ok5 a.States ∧ Ok5 a.Inputs ∧ Ok5 a.Outputs ∧ Ok4 a.Partial ∧ Ok22 a.Edges
def Ok65 (a : Arr2 Int) : Prop := Ok5 a.e0 ∧ Ok5 a.e1
def Ok3 (a : Int) : Prop := (-9223372036854775808) ≤ a ∧ a ≤ 9223372036854775807
def Ok67 (a : S_api_Edge) : Prop := Ok3 a.To ∧ Ok3 a.Out
def Ok69 (a : S_law10_D) : Prop := Ok24 a.M ∧ Ok24 a.X ∧ Ok4 a.Alike ∧ Ok65 a.Swap ∧ Ok65 a.Place ∧ Ok67 a.To
end Go.Own

namespace Go.Own
theorem law_true {x : S_law10_D} {k : Int} (hx : Ok69 x) (_ : Ok3 k) : law10_EqualsWithin x k = some true := by
  obtain ⟨hm, hx2, _, hs, hp, _⟩ := hx
  exact within_true x ⟨⟨hm.1.1, hm.2.1.1, hm.2.2.1.1, fun v hv => hm.2.2.2.2 v hv⟩, ⟨hx2.1.1, hx2.2.1.1, hx2.2.2.1.1, fun v hv => hx2.2.2.2.2 v hv⟩, hs.1, hs.2, hp.1, hp.2⟩ k
end Go.Own

namespace Go.Own
/-- All cells that there are. -/
def allS (w : World) : Still := fun b o => cellAt w.heap b o
theorem cell_at {w : World} {a : Addr} {v : Value} (h : w.cell? a = some v) : a.spot = none ∧ cellAt w.heap a.block a.off = some v := by
  unfold World.cell? at h
  unfold cellAt
  split at h
  · rename_i c ty fr he
    rw [he]
    split at h
    · cases h
    · rename_i hs
      exact ⟨by simpa using hs, h⟩
  · cases h
section
variable {H : Type} {enc : TypeId × Value → H} {P : Program} {w : World} {base : Nat} {spare : Nat → Bool} {held : Bool}
theorem cells_lie {a : Addr} {n : Nat} {cs : List Value} (h : w.cells? base a n = some cs) (hn : 0 < n) : a.spot = none ∧ cs.length = n ∧ Lies (allS w) a.block a.off cs := by
  obtain ⟨_, h2, h3⟩ := World.cells?_some h
  have h0 : a.spot = none := by
    have h4 := h3 0 hn
    cases hc : cs[0]? with
    | none => rw [List.getElem?_eq_none_iff] at hc; omega
    | some v =>
      rw [hc] at h4
      have := (cell_at h4).1
      simpa [Addr.add] using this
  refine ⟨h0, h2, fun j v hj => ?_⟩
  have hlt := (List.getElem?_eq_some_iff.1 hj).1
  have h4 := h3 j (by omega)
  rw [hj] at h4
  have q := (cell_at h4).2
  unfold Addr.add at q
  split at q
  · rename_i e; subst e; exact q
  · exact q
theorem reps_snoc {S : Still} : ∀ {bs : List A} {cs : List Value} {a : A} {c : List Value}, Reps S bs cs → Rep S a c → Reps S (bs ++ [a]) (cs ++ c)
  | [], cs, a, c, h1, h2 => by
    simp only [Reps] at h1
    subst h1
    simp only [List.nil_append, Reps]
    exact ⟨c, [], by simp, h2, rfl⟩
  | x :: bs, cs, a, c, h1, h2 => by
    simp only [Reps] at h1
    obtain ⟨c1, c2, rfl, r1, r2⟩ := h1
    simp only [List.cons_append, Reps]
    exact ⟨c1, c2 ++ c, by simp, r1, reps_snoc r2 h2⟩
theorem lies_app {S : Still} {b o : Nat} {c1 c2 : List Value} (h1 : Lies S b o c1) (h2 : Lies S b (o + c1.length) c2) : Lies S b o (c1 ++ c2) := by
  intro j v hj
  rcases Nat.lt_or_ge j c1.length with q | q
  · rw [List.getElem?_append_left q] at hj
    exact h1 j v hj
  · rw [List.getElem?_append_right q] at hj
    have := h2 _ _ hj
    rwa [show o + c1.length + (j - c1.length) = o + j by omega] at this
theorem slice_rep {α : Type} {t e sz : Nat} (f : α → A) (ok : α → Prop) (ht : P.underlying t = some (.slice e)) (hsz : P.cellsOf e = sz) (h0 : 0 < sz) (hf : ∀ a, (f a).size = sz)
    (hel : ∀ n cs x, DataW.trod enc P w base spare held n e cs = some x → ∃ a, ok a ∧ Rep (allS w) (f a) cs)
    {fuel : Nat} {cs : List Value} {x : DataW H × List MemPlace} (h : DataW.trod enc P w base spare held fuel t cs = some x) : ∃ l : List α, (∀ a ∈ l, ok a) ∧ Rep (allS w) (.sl sz false (l.map f)) cs := by
  rcases DataW.trod_slice ht h with ⟨rfl, _⟩ | ⟨a, len, cap, elems, rest, n, _, rfl, _, _, hlc, _, hlen, hall, _, _⟩
  · refine ⟨[], by simp, ?_⟩
    simp only [Rep, List.map_nil, List.length_nil]
    exact ⟨none, 0, rfl, by simp, Nat.le_refl _, by simp, .inl trivial⟩
  · have key : ∀ k, k ≤ len → ∃ (l : List α) (cells : List Value), l.length = k ∧ (∀ a ∈ l, ok a) ∧ Reps (allS w) (l.map f) cells ∧ cells.length = k * sz ∧ (0 < k → a.spot = none) ∧ Lies (allS w) a.block a.off cells := by
      intro k
      induction k with
      | zero => intro _; exact ⟨[], [], rfl, by simp, by simp [Reps], by simp, by simp, fun j v h => by simp at h⟩
      | succ k ih =>
        intro hk
        obtain ⟨l, cells, q1, q2, q3, q4, q5, q6⟩ := ih (by omega)
        have hk' := hall k (by omega)
        have hsome : elems[k]? = some elems[k] := List.getElem?_eq_getElem (by omega)
        rw [hsome, Option.bind_eq_some_iff, hsz] at hk'
        obtain ⟨c, hc, htr⟩ := hk'
        obtain ⟨y, hy, hr⟩ := hel _ _ _ htr
        obtain ⟨g1, g2, g3⟩ := cells_lie hc h0
        refine ⟨l ++ [y], cells ++ c, by simp [q1], ?_, ?_, ?_, ?_, ?_⟩
        · intro z hz
          rcases List.mem_append.1 hz with q | q
          · exact q2 z q
          · simp only [List.mem_cons, List.not_mem_nil, or_false] at q; subst q; exact hy
        · rw [List.map_append]; exact reps_snoc q3 hr
        · rw [List.length_append, q4, g2, Nat.succ_mul]
        · intro _
          rcases Nat.eq_zero_or_pos k with rfl | hk0
          · simpa [Addr.add] using g1
          · exact q5 hk0
        · refine lies_app q6 ?_
          rw [q4]
          unfold Addr.add at g3
          split at g3
          · rename_i e0
            rw [e0, Nat.add_zero]
            exact g3
          · exact g3
    obtain ⟨l, cells, q1, q2, q3, q4, q5, q6⟩ := key len (Nat.le_refl _)
    refine ⟨l, q2, ?_⟩
    simp only [Rep, List.length_map]
    refine ⟨some a, cap, by rw [q1], by simp, by omega, ?_, ?_⟩
    · intro y hy
      obtain ⟨z, _, rfl⟩ := List.mem_map.1 hy
      exact hf z
    · rcases Nat.eq_zero_or_pos len with rfl | hl
      · left; rw [List.length_eq_zero_iff.1 q1]; rfl
      · right
        refine ⟨a.block, a.off, cells, ?_, q3, q6⟩
        have := q5 hl
        obtain ⟨b, o, s⟩ := a
        simp only at this
        subst this
        rfl
theorem int_rep {t : Nat} {k : IntKind} {lo hi : Int} (ht : P.underlying t = some (.int k)) (hlo : k.min = lo) (hhi : k.max = hi) {fuel : Nat} {cs : List Value} {x : DataW H × List MemPlace} (h : DataW.trod enc P w base spare held fuel t cs = some x) :
    ∃ n : Int, (lo ≤ n ∧ n ≤ hi) ∧ cs = [.int k n] ∧ Rep (allS w) (.atom (.int k n)) cs := by
  obtain ⟨n, rfl, _, hw⟩ := DataW.trod_int ht h
  simp only [Lit.wf, Bool.and_eq_true, decide_eq_true_eq, hlo, hhi] at hw
  exact ⟨n, hw, rfl, by simp only [Rep]; exact ⟨trivial, rfl⟩⟩
theorem bool_rep {t : Nat} (ht : P.underlying t = some .bool) {fuel : Nat} {cs : List Value} {x : DataW H × List MemPlace} (h : DataW.trod enc P w base spare held fuel t cs = some x) :
    ∃ b : Bool, Rep (allS w) (.atom (.bool b)) cs := by
  obtain ⟨b, rfl, _⟩ := DataW.trod_bool ht h
  exact ⟨b, by simp only [Rep]; exact ⟨trivial, rfl⟩⟩
theorem struct_fields {t : Nat} {fs : List Field} (ht : P.underlying t = some (.struct ⟨fs⟩)) {fuel : Nat} {cs : List Value} {x : DataW H × List MemPlace} (h : DataW.trod enc P w base spare held fuel t cs = some x) :
    cs.length = P.cellsOf t ∧ ∀ (i : Nat) (f : Field), fs[i]? = some f → ∃ n y, DataW.trod enc P w base spare held n f.type ((cs.drop f.offset).take (P.cellsOf f.type)) = some y := by
  obtain ⟨xs, n, _, _, hl, hxl, hall⟩ := DataW.trod_struct ht h
  refine ⟨hl, fun i f hf => ?_⟩
  have hlt := (List.getElem?_eq_some_iff.1 hf).1
  have := hall i f (by simpa using hf)
  rw [List.getElem?_eq_getElem (by rw [hxl]; simpa using hlt)] at this
  exact ⟨n, _, this⟩
end
theorem reps_take {S : Still} {a : A} {bs : List A} {cs : List Value} {n : Nat} (h1 : Rep S a (cs.take n)) (h2 : Reps S bs (cs.drop n)) : Reps S (a :: bs) cs := by
  simp only [Reps]
  exact ⟨cs.take n, cs.drop n, (List.take_append_drop n cs).symm, h1, h2⟩
end Go.Own

namespace Go.Own
set_option linter.unusedVariables false
section
open Go Go.ChangeShapes Go.WideShapes Go.ChangeAt Go.RowKit
/-- What is asked behind the call: nothing that was there has turned; what is new is not looked at. -/
theorem post_kept {P : Program} {H : Type} {enc : TypeId × Value → H} {f : Func} {s : ChangeSpec} {apart fresh handsOn again : Bool} {W W' : World} {args : Array Value} {v : Value} {ds : List (DataW H)} {pa : List MemPlace}
    (hvar : s.vars = []) (hvars2 : (s.fn H (ds ++ [])).vars = []) (hW : DataW.Whole enc P f.params.toList s.vars apart W args.toList ds [] (pa ++ [])) (hb : Below W.heap.size W W')
    (hres : ∀ (b : Nat) (sp : Nat → Bool) (hd : Bool), DataW.TrodAll enc P W' b sp hd f.resultTypes.toList (v.resultList f.resultTypes.size) (s.fn H (ds ++ [])).results [])
    (hargs : ∀ sp : Nat → Bool, (∀ p ∈ pa ++ [], sp p.block = true) → DataW.TrodAll enc P W' 0 sp true f.params.toList args.toList (s.fn H (ds ++ [])).args pa)
    (hok : ∀ (j : Nat) (t : TypeId) (r : Value), f.resultTypes[j]? = some t → (v.resultList f.resultTypes.size)[j]? = some r → Value.okWide P W' .any 0 t r) :
    s.post enc P f apart fresh handsOn again W args v W' := by
  have hlt : ∀ p ∈ pa ++ [], p.block < W.heap.size := fun p hp => by simpa using hW.lt p hp
  have hvr : ∀ sp : Nat → Bool, DataW.TrodVars enc P W' sp s.vars (s.fn H (ds ++ [])).vars [] := fun sp => by rw [hvar, hvars2]; rfl
  refine ⟨ds, [], pa ++ [], [], pa, [], hW, hres _ _ _, hargs _ (fun p hp => by simpa using hlt p hp), hvr _, World.keptBut_mono (fun _ q => q.elim) (hb.frame fun _ => False), fun _ => ?_⟩
  obtain ⟨_, _, _, _, _, hz, hn⟩ := hW
  refine ⟨hok, _, _, ([] ++ pa) ++ [], ⟨[] ++ pa, [], trodAll_append (hargs _ (fun _ _ => rfl)) (hres _ _ _), hvr _, rfl, ?_, ?_⟩, ?_⟩
  · intro b off hp
    have hp' : MemPlace.cell b off ∈ pa ++ [] := by simpa using hp
    rw [hb.frozen (p := ⟨b, off, none⟩) (hlt _ hp')]
    exact hz b off hp'
  · intro ha
    simpa using hn ha
  · intro p hp _
    simpa using hp
end
theorem spF_call {P : Program} {k : Nat} {α ρ : Type} {enc : α → List A} {encR : ρ → A} {F : α → Option ρ} {gives : List Bool} {inj : ∀ x y, enc x = enc y → x = y} (h : (spF k enc encR F gives inj).Ok P) {x : α} {r : ρ} (hr : F x = some r) : CallOk P k (enc x) (encR r) := by
  have := h x ⟨r, hr⟩
  simpa only [spF, hr] using this
section
variable {P : Program} {w : World} {r : Reach} {base t : Nat} {v : Value}
theorem val_plain (h : ∀ cs, v ≠ .agg cs) : v = v.cells.toList.headD undef := by
  cases v <;> first | rfl | exact (h _ rfl).elim
theorem val_int {k : IntKind} (hu : P.underlying t = some (.int k)) (h : Value.okWide P w r base t v) : v = v.cells.toList.headD undef := by
  refine val_plain fun cs e => ?_
  subst e
  unfold Value.okWide at h
  rw [hu] at h
  simp only [Cell.okWide, hu, Cell.ok] at h
theorem val_struct {fs : Array Field} (hu : P.underlying t = some (.struct fs)) (h : Value.okWide P w r base t v) : v = .agg v.cells.toList.toArray := by
  unfold Value.okWide at h
  rw [hu] at h
  obtain ⟨cs, rfl, _⟩ := h
  rfl
theorem rep1_int {k : IntKind} {S : Still} {a : A} (hu : P.underlying t = some (.int k)) (hr : Rep S a v.cells.toList) (h : Value.okWide P w r base t v) (ha : a.isAgg = false) : Rep1 S a v := ⟨_, hr, by cases a <;> first | exact val_int hu h | cases ha⟩
theorem rep1_struct {fs : Array Field} {S : Still} {a : A} (hu : P.underlying t = some (.struct fs)) (hr : Rep S a v.cells.toList) (h : Value.okWide P w r base t v) (ha : a.isAgg = true) : Rep1 S a v := ⟨_, hr, by cases a <;> first | exact val_struct hu h | cases ha⟩
theorem has_true {S : Still} {h : Array Obj} {v : Value} {F : List Nat} (q : Has S h (.atom (.bool true)) v F) : v = .bool true := by
  rcases q with ⟨q, _⟩ | ⟨cs, q, _, rfl⟩
  · rw [(repV_atom.1 q).1]
  · simp only [Conc, Rep] at q
    obtain ⟨⟨rfl, _⟩, _⟩ := q
    rfl
end
end Go.Own

namespace Go.Own
open Go.Proofs
set_option linter.unusedVariables false
section
variable {H : Type} {enc : TypeId × Value → H} {w : World} {base : Nat} {spare : Nat → Bool} {held : Bool}
theorem cells5 : Try.prog.cellsOf 5 = 1 := by kernel_rfl
theorem rd5 {fuel : Nat} {cs : List Value} {x : DataW H × List MemPlace} (h : DataW.trod enc Try.prog w base spare held fuel 5 cs = some x) : ∃ a : Int, Ok5 a ∧ Rep (allS w) ((eI .u8) a) cs := by
  obtain ⟨n, h1, _, h2⟩ := int_rep Try.underlying5 (lo := 0) (hi := 255) rfl rfl h
  exact ⟨n, h1, h2⟩
theorem cells4 : Try.prog.cellsOf 4 = 1 := by kernel_rfl
theorem rd4 {fuel : Nat} {cs : List Value} {x : DataW H × List MemPlace} (h : DataW.trod enc Try.prog w base spare held fuel 4 cs = some x) : ∃ a : Bool, Ok4 a ∧ Rep (allS w) (eB a) cs := by
  obtain ⟨n, h2⟩ := bool_rep Try.underlying4 h
  exact ⟨n, trivial, h2⟩
theorem cells102 : Try.prog.cellsOf 102 = 1 := by kernel_rfl
theorem rd102 {fuel : Nat} {cs : List Value} {x : DataW H × List MemPlace} (h : DataW.trod enc Try.prog w base spare held fuel 102 cs = some x) : ∃ a : Int, Ok102 a ∧ Rep (allS w) ((eI .u16) a) cs := by
  obtain ⟨n, h1, _, h2⟩ := int_rep Try.underlying102 (lo := 0) (hi := 65535) rfl rfl h
  exact ⟨n, h1, h2⟩
theorem cells22 : Try.prog.cellsOf 22 = 1 := by kernel_rfl
theorem rd22 {fuel : Nat} {cs : List Value} {x : DataW H × List MemPlace} (h : DataW.trod enc Try.prog w base spare held fuel 22 cs = some x) : ∃ a : List Int, Ok22 a ∧ Rep (allS w) ((eSl 1 false (eI .u16)) a) cs := by
  exact slice_rep (eI .u16) Ok102 Try.underlying22 cells102 (by omega) (fun _ => rfl) (fun _ _ _ q => rd102 q) h
theorem cells24 : Try.prog.cellsOf 24 = 5 := by kernel_rfl
theorem rd24 {fuel : Nat} {cs : List Value} {x : DataW H × List MemPlace} (h : DataW.trod enc Try.prog w base spare held fuel 24 cs = some x) : ∃ a : S_law04_M, Ok24 a ∧ Rep (allS w) ((e_law04_M (eI .u8) (eI .u8) (eI .u8) eB (eSl 1 false (eI .u16))) a) cs := by
  obtain ⟨hl, hf⟩ := struct_fields Try.underlying24 h
  rw [cells24] at hl
  obtain ⟨_, _, q0⟩ := hf 0 _ rfl
  obtain ⟨_, _, q1⟩ := hf 1 _ rfl
  obtain ⟨_, _, q2⟩ := hf 2 _ rfl
  obtain ⟨_, _, q3⟩ := hf 3 _ rfl
  obtain ⟨_, _, q4⟩ := hf 4 _ rfl
  simp only [cells22, cells4, cells5] at q0 q1 q2 q3 q4
  obtain ⟨a0, k0, r0⟩ := rd5 q0
  obtain ⟨a1, k1, r1⟩ := rd5 q1
  obtain ⟨a2, k2, r2⟩ := rd5 q2
  obtain ⟨a3, k3, r3⟩ := rd4 q3
  obtain ⟨a4, k4, r4⟩ := rd22 q4
  refine ⟨⟨a0, a1, a2, a3, a4⟩, ⟨k0, k1, k2, k3, k4⟩, ?_⟩
  show Rep (allS w) (.agg [(eI .u8) a0, (eI .u8) a1, (eI .u8) a2, eB a3, (eSl 1 false (eI .u16)) a4]) cs
  simp only [Rep]
  refine reps_take (n := 1) (by simpa [List.drop_drop] using r0) (reps_take (n := 1) (by simpa [List.drop_drop] using r1) (reps_take (n := 1) (by simpa [List.drop_drop] using r2) (reps_take (n := 1) (by simpa [List.drop_drop] using r3) (reps_take (n := 1) (by simpa [List.drop_drop] using r4) ?_))))
  simp only [List.drop_drop, Reps]
  exact List.drop_eq_nil_of_le (by omega)
theorem cells65 : Try.prog.cellsOf 65 = 2 := by kernel_rfl
theorem rd65 {fuel : Nat} {cs : List Value} {x : DataW H × List MemPlace} (h : DataW.trod enc Try.prog w base spare held fuel 65 cs = some x) : ∃ a : Arr2 Int, Ok65 a ∧ Rep (allS w) ((eArr2 (eI .u8)) a) cs := by
  obtain ⟨xs, m, _, _, hl, hx, hall⟩ := DataW.trod_array Try.underlying65 h
  rw [cells65] at hl
  rw [cells5] at hall
  have get : ∀ i, i < 2 → ∃ n : Int, Ok5 n ∧ Rep (allS w) ((eI .u8) n) ((cs.drop (i * 1)).take 1) := by
    intro i hi
    have q := hall i hi
    rw [List.getElem?_eq_getElem (by omega)] at q
    exact rd5 q
  obtain ⟨a0, k0, r0⟩ := get 0 (by omega)
  obtain ⟨a1, k1, r1⟩ := get 1 (by omega)
  refine ⟨⟨a0, a1⟩, ⟨k0, k1⟩, ?_⟩
  show Rep (allS w) (.agg [(eI .u8) a0, (eI .u8) a1]) cs
  simp only [Rep]
  refine reps_take (n := 1) (by simpa [List.drop_drop] using r0) (reps_take (n := 1) (by simpa [List.drop_drop] using r1) ?_)
  simp only [List.drop_drop, Reps]
  exact List.drop_eq_nil_of_le (by omega)
theorem cells3 : Try.prog.cellsOf 3 = 1 := by kernel_rfl
theorem rd3 {fuel : Nat} {cs : List Value} {x : DataW H × List MemPlace} (h : DataW.trod enc Try.prog w base spare held fuel 3 cs = some x) : ∃ a : Int, Ok3 a ∧ Rep (allS w) ((eI .i64) a) cs := by
  obtain ⟨n, h1, _, h2⟩ := int_rep Try.underlying3 (lo := -9223372036854775808) (hi := 9223372036854775807) rfl rfl h
  exact ⟨n, h1, h2⟩
theorem cells67 : Try.prog.cellsOf 67 = 2 := by kernel_rfl
theorem rd67 {fuel : Nat} {cs : List Value} {x : DataW H × List MemPlace} (h : DataW.trod enc Try.prog w base spare held fuel 67 cs = some x) : ∃ a : S_api_Edge, Ok67 a ∧ Rep (allS w) ((e_api_Edge (eI .i64) (eI .i64)) a) cs := by
  obtain ⟨hl, hf⟩ := struct_fields Try.underlying67 h
  rw [cells67] at hl
  obtain ⟨_, _, q0⟩ := hf 0 _ rfl
  obtain ⟨_, _, q1⟩ := hf 1 _ rfl
  simp only [cells3] at q0 q1
  obtain ⟨a0, k0, r0⟩ := rd3 q0
  obtain ⟨a1, k1, r1⟩ := rd3 q1
  refine ⟨⟨a0, a1⟩, ⟨k0, k1⟩, ?_⟩
  show Rep (allS w) (.agg [(eI .i64) a0, (eI .i64) a1]) cs
  simp only [Rep]
  refine reps_take (n := 1) (by simpa [List.drop_drop] using r0) (reps_take (n := 1) (by simpa [List.drop_drop] using r1) ?_)
  simp only [List.drop_drop, Reps]
  exact List.drop_eq_nil_of_le (by omega)
theorem cells69 : Try.prog.cellsOf 69 = 17 := by kernel_rfl
theorem rd69 {fuel : Nat} {cs : List Value} {x : DataW H × List MemPlace} (h : DataW.trod enc Try.prog w base spare held fuel 69 cs = some x) : ∃ a : S_law10_D, Ok69 a ∧ Rep (allS w) ((e_law10_D (e_law04_M (eI .u8) (eI .u8) (eI .u8) eB (eSl 1 false (eI .u16))) (e_law04_M (eI .u8) (eI .u8) (eI .u8) eB (eSl 1 false (eI .u16))) eB (eArr2 (eI .u8)) (eArr2 (eI .u8)) (e_api_Edge (eI .i64) (eI .i64))) a) cs := by
  obtain ⟨hl, hf⟩ := struct_fields Try.underlying69 h
  rw [cells69] at hl
  obtain ⟨_, _, q0⟩ := hf 0 _ rfl
  obtain ⟨_, _, q1⟩ := hf 1 _ rfl
  obtain ⟨_, _, q2⟩ := hf 2 _ rfl
  obtain ⟨_, _, q3⟩ := hf 3 _ rfl
  obtain ⟨_, _, q4⟩ := hf 4 _ rfl
  obtain ⟨_, _, q5⟩ := hf 5 _ rfl
  simp only [cells24, cells4, cells65, cells67] at q0 q1 q2 q3 q4 q5
  obtain ⟨a0, k0, r0⟩ := rd24 q0
  obtain ⟨a1, k1, r1⟩ := rd24 q1
  obtain ⟨a2, k2, r2⟩ := rd4 q2
  obtain ⟨a3, k3, r3⟩ := rd65 q3
  obtain ⟨a4, k4, r4⟩ := rd65 q4
  obtain ⟨a5, k5, r5⟩ := rd67 q5
  refine ⟨⟨a0, a1, a2, a3, a4, a5⟩, ⟨k0, k1, k2, k3, k4, k5⟩, ?_⟩
  show Rep (allS w) (.agg [(e_law04_M (eI .u8) (eI .u8) (eI .u8) eB (eSl 1 false (eI .u16))) a0, (e_law04_M (eI .u8) (eI .u8) (eI .u8) eB (eSl 1 false (eI .u16))) a1, eB a2, (eArr2 (eI .u8)) a3, (eArr2 (eI .u8)) a4, (e_api_Edge (eI .i64) (eI .i64)) a5]) cs
  simp only [Rep]
  refine reps_take (n := 5) (by simpa [List.drop_drop] using r0) (reps_take (n := 5) (by simpa [List.drop_drop] using r1) (reps_take (n := 1) (by simpa [List.drop_drop] using r2) (reps_take (n := 2) (by simpa [List.drop_drop] using r3) (reps_take (n := 2) (by simpa [List.drop_drop] using r4) (reps_take (n := 2) (by simpa [List.drop_drop] using r5) ?_)))))
  simp only [List.drop_drop, Reps]
  exact List.drop_eq_nil_of_le (by omega)
end
end Go.Own
namespace Go.Proofs.Ytdnenbcldibnoaa.equalsWithin
open Go Go.ChangeShapes Go.WideShapes Go.ChangeAt Go.RowKit
set_option linter.unusedVariables false
theorem own : ownKnob Try.prog.godebug = none := by kernel_rfl
theorem laidOut : laidOutB Try.prog = true := by kernel_rfl
section
variable {H : Type} {enc : TypeId × Value → H} {W : World}
set_option maxRecDepth 100000 in
theorem walk {base : Nat} {v0 : Value} {d0 : DataW H} {p0 : List MemPlace} {v1 : Value} {d1 : DataW H} {p1 : List MemPlace} (h0 : DataW.Trod enc Try.prog W 0 (fun _ => true) true 69 v0 d0 p0) (h1 : DataW.Trod enc Try.prog W 0 (fun _ => true) true 3 v1 d1 p1) (k0 : Value.okWide Try.prog W .any base (69 : Nat) v0) (k1 : Value.okWide Try.prog W .any base (3 : Nat) v1) :
    Calls Try.prog 7 #[v0, v1] W fun e w' => e = .returned (.bool true) ∧ Go.Own.Kept (fun k => W.heap.size ≤ k) W w' := by
  obtain ⟨n0, h0⟩ := h0
  obtain ⟨x0, o0, r0⟩ := Go.Own.rd69 h0
  obtain ⟨n1, h1⟩ := h1
  obtain ⟨x1, o1, r1⟩ := Go.Own.rd3 h1
  have q := (Go.Own.spF_call (Go.Own.ctrOf_call Go.Own.L38_ok List.mem_cons_self : Go.Own.sp_law10_EqualsWithin.Ok Try.prog) (x := (x0, x1)) (r := true) (Go.Own.law_true o0 o1)).2 (Go.Own.allS W) W [v0, v1] [] (fun _ _ _ h => h) ?_ (by simp)
  · refine Calls.mono q ?_
    rintro e w' ⟨v, S', F', rfl, hk, _, _, _, hr, _, _⟩
    refine ⟨?_, hk.mono (by rintro k (h | h) <;> simp_all)⟩
    rw [Go.Own.has_true hr]
  · refine Go.Own.all2_hass ?_
    have g0 : Go.Own.Rep1 (Go.Own.allS W) ((Go.Own.e_law10_D (Go.Own.e_law04_M (Go.Own.eI .u8) (Go.Own.eI .u8) (Go.Own.eI .u8) Go.Own.eB (Go.Own.eSl 1 false (Go.Own.eI .u16))) (Go.Own.e_law04_M (Go.Own.eI .u8) (Go.Own.eI .u8) (Go.Own.eI .u8) Go.Own.eB (Go.Own.eSl 1 false (Go.Own.eI .u16))) Go.Own.eB (Go.Own.eArr2 (Go.Own.eI .u8)) (Go.Own.eArr2 (Go.Own.eI .u8)) (Go.Own.e_api_Edge (Go.Own.eI .i64) (Go.Own.eI .i64))) x0) v0 := Go.Own.rep1_struct (t := (69 : Nat)) Try.underlying69 r0 k0 rfl
    have g1 : Go.Own.Rep1 (Go.Own.allS W) ((Go.Own.eI .i64) x1) v1 := Go.Own.rep1_int (t := (3 : Nat)) Try.underlying3 r1 k1 rfl
    exact ⟨g0, g1, trivial⟩
end
set_option maxRecDepth 100000 in
theorem lifted (os : Os) (started : os.Started) (H : Type) (enc : TypeId × Value → H) :
    ReturnsInHanded {} Try.checked os 7 .any (Rows.equalsWithinSpec.pre6 enc Try.prog Try.f7 Rows.equalsWithinRow.domain false) (Rows.equalsWithinSpec.post enc Try.prog Try.f7 false true false false) := by
  refine returnsInHanded_of_change (C := Try.checked) own started (by kernel_rfl) Try.func7
    (ChangeSpec.witness6 (enc := enc) (C := Try.checked) false ⟨#[], #[.agg #[.int .u8 0, .int .u8 0, .int .u8 0, .bool false, .slice none 0 0, .int .u8 0, .int .u8 0, .int .u8 0, .bool false, .slice none 0 0, .bool false, .int .u8 0, .int .u8 0, .int .u8 0, .int .u8 0, .int .i64 0, .int .i64 0], .int .i64 0], []⟩ 8 (by kernel_rfl) (by kernel_rfl) (by kernel_rfl) (by kernel_rfl)) ?_
  intro W base args ds gs before hval0 hW hcnd _
  have hval : ∀ (j : Nat) t v, Try.f7.params[j]? = some t → args[j]? = some v → Value.okWide Try.prog W .any base t v := hval0
  have hW' := hW
  obtain ⟨p, q, hA0, hV, rfl, hfz, hnd⟩ := hW
  have hA : DataW.TrodAll enc Try.prog W 0 (fun _ => true) true Try.f7.params.toList args.toList ds p := hA0
  rw [Try.params7] at hA hval
  obtain ⟨v0, v1, d0, d1, p0, p1, rfl, rfl, rfl, h0, h1⟩ := trodAll_two hA
  obtain ⟨rfl, rfl⟩ := trodVars_none hV
  clear hA0 hval0
  refine (walk h0 h1 (hval 0 (69 : Nat) v0 rfl rfl) (hval 1 (3 : Nat) v1 rfl rfl)).mono fun e W' ⟨he, hk⟩ => ?_
  subst he
  have hb : Below W.heap.size W W' := ⟨hk.os, hk.tape, hk.output, hk.size, fun k q => hk.block k (by omega)⟩
  have hlt : ∀ x ∈ p0 ++ p1, x.block < W.heap.size := fun x hx => by simpa using hW'.lt x (by simpa using hx)
  refine ⟨_, rfl, Go.Own.post_kept rfl rfl hW' hb (fun _ _ _ => trodAll_cons_mk (shut_bool Try.underlying4 _) trodAll_mk0) (fun sp hsp => ?_) (ok_one (by kernel_rfl) rfl (okWide_bool_mk Try.underlying4 _))⟩
  have st : ∀ {t : Nat} {v : Value} {d : DataW H} {p' : List MemPlace}, DataW.Trod enc Try.prog W 0 (fun _ => true) true t v d p' → Try.prog.readableRec t = true → t < Try.prog.types.size → (∀ x ∈ p', x ∈ p0 ++ p1) → DataW.Trod enc Try.prog W' 0 sp true t v d p' := by
    intro t v d p' hd h1 h2 hp
    exact WideElems.Trod_stays laidOut h1 h2 hd (fun x hx => hb.same (hlt x (hp x hx))) (fun x hx => hsp x (by simpa using hp x hx))
  have := trodAll_mk2 (st h0 (by kernel_rfl) (of_decide_eq_true (by kernel_rfl)) (fun x hx => by simp [hx])) (st h1 (by kernel_rfl) (of_decide_eq_true (by kernel_rfl)) (fun x hx => by simp [hx]))
  rw [Try.params7]
  exact this
theorem over : Rows.equalsWithinRow.holds Try.pinned (OpenSpec.ofChange Rows.equalsWithinSpec) :=
  OpenClaim.holds_of_wide 7 Try.f7 rfl rfl rfl rfl rfl rfl rfl ⟨rfl, rfl, rfl, rfl, rfl⟩ rfl rfl rfl rfl rfl (by kernel_rfl) Try.func7 (by kernel_rfl)
    (of_decide_eq_true (by kernel_rfl)) (by unfold Func.isWrapper; first | (rw [if_pos (by decide +kernel)]; kernel_rfl) | (rw [if_neg (by decide +kernel)]; exact ⟨rfl, rfl⟩))
    (fun os started H enc _ => lifted os started H enc)
/-- The statement. -/
theorem proved : Rows.EqualsWithinSaid :=
  over
#print axioms proved
end Go.Proofs.Ytdnenbcldibnoaa.equalsWithin
