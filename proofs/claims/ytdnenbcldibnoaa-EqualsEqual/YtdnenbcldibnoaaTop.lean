/- -/
import Derived.Test.YtdnenbcldibnoaaPartG
import Derived.Test.YtdnenbcldibnoaaPartE
import Derived.Test.YtdnenbcldibnoaaPartB
import Derived.OpenShut
import Derived.ChangeShapes
import Derived.Test.YtdnenbcldibnoaaPartC
import Derived.WalkKit
import Derived.ProofKit
import Derived.Carry
import Derived.Test.YtdnenbcldibnoaaRows
import Derived.Test.YtdnenbcldibnoaaChecked
set_option linter.unusedVariables false
set_option linter.unusedSimpArgs false
namespace Go.Own
set_option linter.unusedVariables false
set_option linter.unusedSimpArgs false
structure WM (m : S_api_Machine) : Prop where
 in1 : 1 ≤ m.Inputs
 in16 : m.Inputs ≤ 16
 len1 : 1 ≤ m.Rows.length
 len : m.Rows.length ≤ 128
 row : ∀ r ∈ m.Rows, (r.length : Int) = m.Inputs
 edge : ∀ r ∈ m.Rows, ∀ x ∈ r, (x.To = -1 ∧ x.Out = -1) ∨ (0 ≤ x.To ∧ x.To < (m.Rows.length : Int) ∧ 0 ≤ x.Out)
theorem VM.wm {m : S_api_Machine} (h : VM m) : WM m := ⟨h.in1, h.in16, h.len1, by have := h.len64; omega, h.row, fun r hr x hx => by
 rcases h.edge r hr x hx with g | ⟨g1, g2, g3, _⟩
 ·exact .inl g
 ·exact .inr ⟨g1, g2, g3⟩⟩
section
variable {m : S_api_Machine} (h : WM m)
include h
theorem WM.kk_eq : ((kk m : Nat) : Int) = m.Inputs := by have := h.in1; unfold kk; omega
theorem WM.kk_pos : 1 ≤ kk m := by have := h.in1; unfold kk; omega
theorem WM.kk_le : kk m ≤ 16 := by have := h.in16; unfold kk; omega
theorem WM.rowAt {s : Nat} (hs : s < m.Rows.length) : ∃ r, m.Rows[s]? = some r ∧ r.length = kk m ∧ ∀ i, i < kk m → r[i]? = some (E m s i) := by
 have hr := List.getElem?_eq_getElem hs
 have hl := h.row _ (List.getElem_mem hs)
 have hl' : m.Rows[s].length = kk m := by unfold kk; omega
 refine ⟨_, hr, hl', fun i hi => ?_⟩
 have hi' : i < m.Rows[s].length := by omega
 unfold E
 rw [hr]
 simp only [Option.getD_some]
 rw [List.getElem?_eq_getElem hi']
 rfl
theorem WM.edgeAt {s i : Nat} (hs : s < m.Rows.length) (hi : i < kk m) : ((E m s i).To = -1 ∧ (E m s i).Out = -1) ∨ (0 ≤ (E m s i).To ∧ (E m s i).To < (m.Rows.length : Int) ∧ 0 ≤ (E m s i).Out) := by
 obtain ⟨r, h1, _, h2⟩ := h.rowAt hs
 exact h.edge r (List.mem_of_getElem? h1) _ (List.mem_of_getElem? (h2 i hi))
theorem WM.edge_eq {s i : Nat} (hs : s < m.Rows.length) (hi : i < kk m) {β : Type} {f : S_api_Edge → Option β} :
  (Option.bind (idx m.Rows (s : Int)) fun r => Option.bind (idx r (i : Int)) f) = f (E m s i) := by
 obtain ⟨r, h1, _, h2⟩ := h.rowAt hs
 rw [idx_nat, h1, Option.bind_some, idx_nat, h2 i hi, Option.bind_some]
theorem WM.nx_in {p : Nat × Nat} {i : Nat} {q : Nat × Nat} (h1 : p.1 < m.Rows.length) (h2 : p.2 < m.Rows.length) (hi : i < kk m) (hq : nxP m m p i = some q) : q.1 < m.Rows.length ∧ q.2 < m.Rows.length := by
 unfold nxP at hq
 split at hq
 ·rename_i hc
  cases hq
  have a := h.edgeAt h1 hi
  have b := h.edgeAt h2 hi
  simp only
  omega
 ·cases hq
end
def mkb (k : Nat) (bad : Nat × Nat → Nat → Bool) (nx : Nat × Nat → Nat → Option (Nat × Nat)) : Nat → Nat × Nat → Bool
 | 0, _ => false
 | n + 1, p => mkb k bad nx n p || (List.range k).any fun i => bad p i || (match nx p i with | some q => mkb k bad nx n q | none => false)
theorem mkb_iff (k : Nat) (bad : Nat × Nat → Nat → Bool) (nx : Nat × Nat → Nat → Option (Nat × Nat)) : ∀ (n : Nat) (p : Nat × Nat), mkb k bad nx n p = true ↔ Mk k bad nx n p
 | 0, p => by simp [mkb, Mk]
 | n + 1, p => by
  simp only [mkb, Mk, Bool.or_eq_true, List.any_eq_true, List.mem_range, mkb_iff k bad nx n p]
  constructor
  ·rintro (h | ⟨i, hi, h | h⟩)
   ·exact .inl h
   ·exact .inr ⟨i, hi, .inl h⟩
   ·cases hq : nx p i with
    | none => rw [hq] at h; cases h
    | some q => rw [hq] at h; exact .inr ⟨i, hi, .inr ⟨q, hq, (mkb_iff k bad nx n q).1 h⟩⟩
  ·rintro (h | ⟨i, hi, h | ⟨q, hq, h⟩⟩)
   ·exact .inl h
   ·exact .inr ⟨i, hi, .inl h⟩
   ·exact .inr ⟨i, hi, .inr (by rw [hq]; exact (mkb_iff k bad nx n q).2 h)⟩
def tab (N : Nat) (f : Nat → Nat → Bool) : List (List Bool) := (List.range N).map fun s => (List.range N).map fun t => f s t
theorem tab_at {N s t : Nat} (f : Nat → Nat → Bool) (hs : s < N) (ht : t < N) {β : Type} {g : Bool → Option β} : (Option.bind (idx (tab N f) (s : Int)) fun r => Option.bind (idx r (t : Int)) g) = g (f s t) := by
 have e1 : (tab N f)[s]? = some ((List.range N).map fun t => f s t) := by simp [tab, hs]
 have e2 : ((List.range N).map fun t => f s t)[t]? = some (f s t) := by simp [ht]
 rw [idx_nat, e1, Option.bind_some, idx_nat, e2, Option.bind_some]
theorem set_range {α : Type} (N t : Nat) (g : Nat → α) (v : α) : ((List.range N).map g).set t v = (List.range N).map fun x => if x = t then v else g x := by
 refine List.ext_getElem (by simp) fun n h1 h2 => ?_
 simp only [List.getElem_set, List.getElem_map, List.getElem_range]
 by_cases e : t = n
 ·rw [if_pos e, if_pos e.symm]
 ·rw [if_neg e, if_neg (Ne.symm e)]
def telP (m : S_api_Machine) (f : Nat → Nat → Bool) (p : Nat × Nat) (i : Nat) : Bool := badP m m p i || (match nxP m m p i with | some q => f q.1 q.2 | none => false)
theorem apart_eq {m : S_api_Machine} (h : WM m) (f : Nat → Nat → Bool) {s t : Nat} (hs : s < m.Rows.length) (ht : t < m.Rows.length) :
  ref07_apart m (tab m.Rows.length f) (s : Int) (t : Int) = some (if (List.range (kk m)).any (telP m f (s, t)) = true then 1 else 0) := by
 have hk := h.kk_eq
 have k16 := h.kk_le
 have hl : loop (fun q => ref07_apart_L2 m (tab m.Rows.length f) (s : Int) (t : Int) q) 0 = some (oS (firstS (fun _ i => if telP m f (s, t) i = true then some (1 : Int) else none) (List.range (kk m)) 0)) := by
  refine loop_list (List.range (kk m)) (by simp; omega) _ ?_ ?_
  ·intro i x hx
   have hi : i < kk m := by have := (List.getElem?_eq_some_iff.1 hx).1; simpa using this
   have : x = i := by rw [List.getElem?_range hi] at hx; exact (Option.some.inj hx).symm
   subst this
   unfold ref07_apart_L2 ref07_apart_J3
   have hd : decide ((x : Int) < m.Inputs) = true := by rw [← hk]; simpa using hi
   rw [hd, cond_true, h.edge_eq hs hi, h.edge_eq ht hi]
   have e1 := h.edgeAt hs hi
   have e2 := h.edgeAt ht hi
   by_cases hbad : (E m s x).Out = (E m t x).Out
   ·have n1 : ((E m s x).Out != (E m t x).Out) = false := by simpa using hbad
    rw [n1, cond_false]
    by_cases t1 : (E m s x).To ≥ 0
    ·by_cases t2 : (E m t x).To ≥ 0
     ·have hnx : nxP m m (s, t) x = some ((E m s x).To.toNat, (E m t x).To.toNat) := by unfold nxP; rw [if_pos ⟨t1, t2⟩]
      have hin := h.nx_in hs ht hi hnx
      have c1 : (E m s x).To = (((E m s x).To.toNat : Nat) : Int) := by omega
      have c2 : (E m t x).To = (((E m t x).To.toNat : Nat) : Int) := by omega
      have ht1 : telP m f (s, t) x = f (E m s x).To.toNat (E m t x).To.toNat := by
       unfold telP badP
       rw [hnx]
       simp only [n1, Bool.false_or]
      rw [decide_eq_true t1, decide_eq_true t2]
      simp only [cond_true]
      have := tab_at f hin.1 hin.2 (g := fun v => bif v then some (LR.done (Sum.inr (1 : Int)) : LR Int (Unit ⊕ Int)) else some (LR.next (w64 ((x : Int) + 1))))
      rw [← c1, ← c2] at this
      rw [this, ht1]
      cases f (E m s x).To.toNat (E m t x).To.toNat <;> rfl
     ·have ht1 : telP m f (s, t) x = false := by
       unfold telP badP nxP
       rw [if_neg (by simp only; omega)]
       simp only [n1, Bool.false_or]
      rw [decide_eq_true t1, decide_eq_false t2, ht1]
      rfl
    ·have ht1 : telP m f (s, t) x = false := by
      unfold telP badP nxP
      rw [if_neg (by simp only; omega)]
      simp only [n1, Bool.false_or]
     rw [decide_eq_false t1, ht1]
     rfl
   ·have n1 : ((E m s x).Out != (E m t x).Out) = true := by simpa using hbad
    have ht1 : telP m f (s, t) x = true := by
     unfold telP badP
     simp only [n1, Bool.true_or]
    rw [n1, ht1]
    rfl
  ·unfold ref07_apart_L2
   rw [List.length_range, hk]
   simp
 unfold ref07_apart
 rw [bdT hl]
 cases hf : firstS (fun (_ : Nat) i => if telP m f (s, t) i = true then some (1 : Int) else none) (List.range (kk m)) 0 with
 | some q =>
  obtain ⟨i, x, h1, h2⟩ := firstS_some hf
  split at h2
  ·rename_i hx
   cases h2
   have : (List.range (kk m)).any (telP m f (s, t)) = true := List.any_eq_true.2 ⟨x, List.mem_of_getElem? h1, hx⟩
   rw [if_pos this]
   rfl
  ·cases h2
 | none =>
  have : ¬ (List.range (kk m)).any (telP m f (s, t)) = true := by
   rw [List.any_eq_true]
   rintro ⟨x, hx, hx2⟩
   obtain ⟨i, hi⟩ := List.getElem?_of_mem hx
   have := firstS_isNone hf i x hi
   rw [if_pos hx2] at this
   cases this
  rw [if_neg this]
  rfl
theorem rep_row (N : Nat) : List.replicate ((N : Nat) : Int).toNat false = (List.range N).map fun _ => false := by
 refine List.ext_getElem (by simp) fun n h1 h2 => ?_
 simp
def nextF (m : S_api_Machine) (f : Nat → Nat → Bool) (s t : Nat) : Bool := f s t || (List.range (kk m)).any (telP m f (s, t))
theorem round_eq {m : S_api_Machine} (h : WM m) (f : Nat → Nat → Bool) : loop (fun q => ref07_Marked_L6 m (tab m.Rows.length f) q.1 q.2) (([] : List (List Bool)), 0) = some (tab m.Rows.length (nextF m f)) := by
 have l128 := h.len
 have row : ∀ (s : Nat), s < m.Rows.length → loop (fun q => ref07_Marked_L8 m (tab m.Rows.length f) (s : Int) q.1 q.2) (((List.range s).map fun s => (List.range m.Rows.length).map fun t => nextF m f s t) ++ [(List.range m.Rows.length).map fun _ => false], 0) = some ((List.range (s + 1)).map fun s => (List.range m.Rows.length).map fun t => nextF m f s t) := by
  intro s hs
  have hst := loop_seq (step := fun q => ref07_Marked_L8 m (tab m.Rows.length f) (s : Int) q.1 q.2) (fun t : Nat => (((List.range s).map fun s => (List.range m.Rows.length).map fun t => nextF m f s t) ++ [(List.range m.Rows.length).map fun t' => if t' < t then nextF m f s t' else false], (t : Int))) m.Rows.length (t := (List.range (s + 1)).map fun s => (List.range m.Rows.length).map fun t => nextF m f s t) (by omega) ?_ ?_
  ·simpa using hst
  ·intro t ht
   unfold ref07_Marked_L8
   have hd : decide ((t : Int) < ((m.Rows.length : Nat) : Int)) = true := by simpa using ht
   have hw : w64 ((t : Int) + 1) = ((t + 1 : Nat) : Int) := by rw [w64_in (by omega) (by omega)]; rfl
   simp only [hd, cond_true]
   have e1 : (((List.range s).map fun s => (List.range m.Rows.length).map fun t => nextF m f s t) ++ [(List.range m.Rows.length).map fun t' => if t' < t then nextF m f s t' else false])[s]? = some ((List.range m.Rows.length).map fun t' => if t' < t then nextF m f s t' else false) := by
    rw [List.getElem?_append_right (by simp)]
    simp
   have e2 : ∀ x, ((List.range m.Rows.length).map fun t' => if t' < t then nextF m f s t' else false)[t]? = some x ↔ x = false := by
    intro x
    simp [ht, eq_comm]
   have e2' := (e2 false).2 rfl
   have fin : ∀ v : Bool, v = nextF m f s t → (((List.range s).map fun s => (List.range m.Rows.length).map fun t => nextF m f s t) ++ [(List.range m.Rows.length).map fun t' => if t' < t then nextF m f s t' else false]).set s (((List.range m.Rows.length).map fun t' => if t' < t then nextF m f s t' else false).set t v) = ((List.range s).map fun s => (List.range m.Rows.length).map fun t => nextF m f s t) ++ [(List.range m.Rows.length).map fun t' => if t' < t + 1 then nextF m f s t' else false] := by
    intro v hv
    rw [List.set_append, if_neg (by simp), set_range]
    simp only [List.length_map, List.length_range, Nat.sub_self, List.set_cons_zero]
    congr 3
    funext x
    by_cases e : x = t
    ·subst e; rw [if_pos rfl, if_pos (by omega)]; exact hv
    ·rw [if_neg e]
     by_cases g : x < t
     ·rw [if_pos g, if_pos (by omega)]
     ·rw [if_neg g, if_neg (by omega)]
   rw [idx_nat, bdT e1, tab_at f hs ht]
   cases hf : f s t with
   | true =>
    simp only [cond_true]
    rw [idx_nat, bdT e2', hw, Int.toNat_natCast, Int.toNat_natCast, fin true (by simp [nextF, hf])]
   | false =>
    simp only [cond_false]
    rw [bdT (apart_eq h f hs ht), idx_nat, bdT e2', hw, Int.toNat_natCast, Int.toNat_natCast, fin _ ?_]
    unfold nextF
    rw [hf, Bool.false_or]
    cases (List.range (kk m)).any (telP m f (s, t)) <;> rfl
  ·unfold ref07_Marked_L8
   simp only [Int.lt_irrefl, decide_false, cond_false]
   congr 3
   rw [List.range_succ, List.map_append]
   congr 1
   simp only [List.map_cons, List.map_nil]
   congr 1
   refine List.map_congr_left fun x hx => ?_
   rw [if_pos (List.mem_range.1 hx)]
 have := loop_seq (step := fun q => ref07_Marked_L6 m (tab m.Rows.length f) q.1 q.2) (fun s : Nat => ((List.range s).map fun s => (List.range m.Rows.length).map fun t => nextF m f s t, (s : Int))) m.Rows.length (t := tab m.Rows.length (nextF m f)) (by omega) ?_ ?_
 ·exact this
 ·intro s hs
  unfold ref07_Marked_L6 ref07_Marked_J7
  have hd : decide ((s : Int) < ((m.Rows.length : Nat) : Int)) = true := by simpa using hs
  have hw : w64 ((s : Int) + 1) = ((s + 1 : Nat) : Int) := by rw [w64_in (by omega) (by omega)]; rfl
  simp only [hd, cond_true]
  rw [gdT (by omega), gdT (by simp; omega), rep_row, bdT (row s hs), hw]
 ·unfold ref07_Marked_L6
  simp only [Int.lt_irrefl, decide_false, cond_false]
  rfl
def mrk (m : S_api_Machine) (n s t : Nat) : Bool := mkb (kk m) (badP m m) (nxP m m) n (s, t)
theorem next_mrk (m : S_api_Machine) (n : Nat) : nextF m (mrk m n) = mrk m (n + 1) := by
 funext s t
 unfold nextF mrk
 simp only [mkb]
 congr 1
theorem marked_eq {m : S_api_Machine} (h : WM m) (n : Nat) (hn : n ≤ 1000000) : ref07_Marked m (n : Int) = some (tab m.Rows.length (mrk m n)) := by
 have l128 := h.len
 have l9 : loop (fun q => ref07_Marked_L9 m q.1 q.2) (([] : List (List Bool)), 0) = some (tab m.Rows.length (mrk m 0)) := by
  have := loop_seq (step := fun q => ref07_Marked_L9 m q.1 q.2) (fun s : Nat => ((List.range s).map fun _ => (List.range m.Rows.length).map fun _ => false, (s : Int))) m.Rows.length (t := tab m.Rows.length (mrk m 0)) (by omega) ?_ ?_
  ·exact this
  ·intro s hs
   unfold ref07_Marked_L9
   have hd : decide ((s : Int) < ((m.Rows.length : Nat) : Int)) = true := by simpa using hs
   have hw : w64 ((s : Int) + 1) = ((s + 1 : Nat) : Int) := by rw [w64_in (by omega) (by omega)]; rfl
   simp only [hd, cond_true]
   rw [gdT (by omega), gdT (by simp; omega), rep_row, hw, List.range_succ, List.map_append]
   rfl
  ·unfold ref07_Marked_L9
   simp only [Int.lt_irrefl, decide_false, cond_false]
   rfl
 have l3 := loop_seq (step := fun q => ref07_Marked_L3 m (n : Int) q.1 q.2) (fun r : Nat => (tab m.Rows.length (mrk m r), (r : Int))) n (t := tab m.Rows.length (mrk m n)) (by omega) ?_ ?_
 ·unfold ref07_Marked ref07_Marked_J1 ref07_Marked_J2
  rw [bdT l9]
  have l3' : loop (fun q => ref07_Marked_L3 m (n : Int) q.1 q.2) (tab m.Rows.length (mrk m 0), 0) = some (tab m.Rows.length (mrk m n)) := l3
  rw [bdT l3']
 ·intro r hr
  unfold ref07_Marked_L3 ref07_Marked_J5 ref07_Marked_J4
  have hd : decide ((r : Int) < (n : Int)) = true := by simpa using hr
  have hw : w64 ((r : Int) + 1) = ((r + 1 : Nat) : Int) := by rw [w64_in (by omega) (by omega)]; rfl
  simp only [hd, cond_true]
  rw [bdT (round_eq h (mrk m r)), next_mrk, hw]
 ·unfold ref07_Marked_L3
  simp only [Int.lt_irrefl, decide_false, cond_false]
theorem mk_bound {m : S_api_Machine} (h : WM m) {s t : Nat} (hs : s < m.Rows.length) (ht : t < m.Rows.length) {j : Nat} (hj : Mk (kk m) (badP m m) (nxP m m) j (s, t)) : Mk (kk m) (badP m m) (nxP m m) (m.Rows.length - 1) (s, t) := by
 refine Classical.byContradiction fun hno => ?_
 have same : ∀ {p : Nat × Nat} {i : Nat}, p.1 < m.Rows.length → p.2 < m.Rows.length → i < kk m → badP m m p i = false → ((E m p.1 i).To ≥ 0 ↔ (E m p.2 i).To ≥ 0) := by
  intro p i h1 h2 hi hb
  have e : (E m p.1 i).Out = (E m p.2 i).Out := by simpa [badP] using hb
  have a := h.edgeAt h1 hi
  have b := h.edgeAt h2 hi
  omega
 have symm : ∀ k s t, Mk (kk m) (badP m m) (nxP m m) k (s, t) → Mk (kk m) (badP m m) (nxP m m) k (t, s) := by
  intro k
  induction k with
  | zero => intro s t h; exact h
  | succ k ih =>
   rintro s t (h | ⟨i, hi, h | ⟨q, hq, h⟩⟩)
   ·exact .inl (ih _ _ h)
   ·exact .inr ⟨i, hi, .inl (by
     unfold badP at h ⊢
     simp only [bne_iff_ne, ne_eq] at h ⊢
     exact fun e => h e.symm)⟩
   ·refine .inr ⟨i, hi, .inr ⟨(q.2, q.1), ?_, ih _ _ h⟩⟩
    unfold nxP at hq ⊢
    split at hq
    ·rename_i hc
     cases hq
     rw [if_pos ⟨hc.2, hc.1⟩]
    ·cases hq
 have trans : ∀ k s t u, s < m.Rows.length → t < m.Rows.length → u < m.Rows.length → Mk (kk m) (badP m m) (nxP m m) k (s, u) → Mk (kk m) (badP m m) (nxP m m) k (s, t) ∨ Mk (kk m) (badP m m) (nxP m m) k (t, u) := by
  intro k
  induction k with
  | zero => intro s t u _ _ _ h; exact h.elim
  | succ k ih =>
   rintro s t u hs ht hu (g | ⟨i, hi, g | ⟨q, hq, g⟩⟩)
   ·rcases ih s t u hs ht hu g with g | g
    ·exact .inl (.inl g)
    ·exact .inr (.inl g)
   ·cases b1 : badP m m (s, t) i with
    | true => exact .inl (.inr ⟨i, hi, .inl b1⟩)
    | false =>
     refine .inr (.inr ⟨i, hi, .inl ?_⟩)
     unfold badP at b1 g ⊢
     simp only [bne_iff_ne, ne_eq, bne_eq_false_iff_eq] at b1 g ⊢
     rw [← b1]
     exact g
   ·cases b1 : badP m m (s, t) i with
    | true => exact .inl (.inr ⟨i, hi, .inl b1⟩)
    | false =>
     cases b2 : badP m m (t, u) i with
     | true => exact .inr (.inr ⟨i, hi, .inl b2⟩)
     | false =>
      have c1 := same (p := (s, t)) hs ht hi b1
      have c2 := same (p := (t, u)) ht hu hi b2
      simp only at c1 c2
      unfold nxP at hq
      split at hq
      ·rename_i hc
       cases hq
       simp only at hc g
       have e1 := h.edgeAt hs hi
       have e2 := h.edgeAt ht hi
       have e3 := h.edgeAt hu hi
       rcases ih (E m s i).To.toNat (E m t i).To.toNat (E m u i).To.toNat (by omega) (by omega) (by omega) g with g | g
       ·exact .inl (.inr ⟨i, hi, .inr ⟨_, by unfold nxP; rw [if_pos ⟨hc.1, by simp only; omega⟩], g⟩⟩)
       ·exact .inr (.inr ⟨i, hi, .inr ⟨_, by unfold nxP; rw [if_pos ⟨by simp only; omega, hc.2⟩], g⟩⟩)
      ·cases hq
 have refl : ∀ k s, ¬ Mk (kk m) (badP m m) (nxP m m) k (s, s) := by
  intro k
  induction k with
  | zero => intro s h; exact h
  | succ k ih =>
   rintro s (g | ⟨i, hi, g | ⟨q, hq, g⟩⟩)
   ·exact ih s g
   ·simp [badP] at g
   ·unfold nxP at hq
    split at hq
    ·cases hq; exact ih _ g
    ·cases hq
 exact stab (N := m.Rows.length) h.len1 (fun k s t => ¬ Mk (kk m) (badP m m) (nxP m m) k (s, t)) (fun k s t _ _ g q => g (symm k t s q)) (fun k s t u hs ht hu g1 g2 q => by
   rcases trans k s t u hs ht hu q with g | g
   ·exact g1 g
   ·exact g2 g) (fun k s _ => refl k s) (fun k s t _ _ g q => g (.inl q)) (fun k hk s t hs ht g q => by
   rcases q with q | ⟨i, hi, q | ⟨r, hr, q⟩⟩
   ·exact g q
   ·exact g (.inr ⟨i, hi, .inl q⟩)
   ·have hin := h.nx_in (p := (s, t)) hs ht hi hr
    have : Mk (kk m) (badP m m) (nxP m m) k r := Classical.byContradiction fun c => hk r.1 r.2 hin.1 hin.2 c q
    exact g (.inr ⟨i, hi, .inr ⟨r, hr, this⟩⟩)) s t hs ht hno j hj
end Go.Own

namespace Go.Own
set_option linter.unusedVariables false
set_option linter.unusedSimpArgs false
def InP (a b : S_api_Machine) (p : Nat × Nat) : Prop := p.1 < a.Rows.length ∧ p.2 < b.Rows.length
section
variable {a b : S_api_Machine} (va : VM a) (vb : VM b) (hab : a.Inputs = b.Inputs)
include va vb hab
theorem inP_nx (p : Nat × Nat) (i : Nat) (q : Nat × Nat) (hp : InP a b p) (hi : i < kk a) (hq : nxP a b p i = some q) : InP a b q := by
 unfold nxP at hq
 split at hq
 ·rename_i hc
  cases hq
  have h1 := va.edgeAt hp.1 hi
  have h2 := vb.edgeAt hp.2 (by rw [← kk_same hab]; exact hi)
  refine ⟨?_, ?_⟩ <;> simp only <;> omega
 ·cases hq
end
end Go.Own

namespace Go.Own
set_option linter.unusedVariables false
set_option linter.unusedSimpArgs false
theorem same_eq (s t : List Int) (hs : s.length < 4611686018427387904) (ht : t.length < 4611686018427387904) : ref01_Same s t = some (decide (s = t)) := by
 unfold ref01_Same ref01_Compare
 by_cases h1 : s.length < t.length
 ·rw [decide_eq_true (show ((s.length : Nat) : Int) < ((t.length : Nat) : Int) by omega), cond_true, Option.bind_some]
  rw [decide_eq_false (fun e => by rw [e] at h1; omega)]
  rfl
 by_cases h2 : t.length < s.length
 ·rw [decide_eq_false (show ¬ ((s.length : Nat) : Int) < ((t.length : Nat) : Int) by omega), cond_false, decide_eq_true (show ((s.length : Nat) : Int) > ((t.length : Nat) : Int) by omega), cond_true, Option.bind_some]
  rw [decide_eq_false (fun e => by rw [e] at h2; omega)]
  rfl
 rw [decide_eq_false (show ¬ ((s.length : Nat) : Int) < ((t.length : Nat) : Int) by omega), cond_false, decide_eq_false (show ¬ ((s.length : Nat) : Int) > ((t.length : Nat) : Int) by omega), cond_false]
 have hlen : s.length = t.length := by omega
 have hl : loop (fun q => ref01_Compare_L2 s t q) 0 = some (oS (firstS (fun i x => match t[i]? with | none => none | some y => if x < y then some (-1) else if y < x then some (1 : Int) else none) s 0)) := by
  refine loop_list s hs _ ?_ ?_
  ·intro i x hx
   have hi := (List.getElem?_eq_some_iff.1 hx).1
   have hit : i < t.length := by omega
   have ht := List.getElem?_eq_getElem hit
   unfold ref01_Compare_L2
   have hd : decide ((i : Int) < ((s.length : Nat) : Int)) = true := by simpa using hi
   rw [hd, cond_true]
   simp only [idx_nat, hx, ht, Option.bind_some]
   generalize t[i] = y
   by_cases h1 : x < y
   ·simp [Bool.cond_eq_ite, h1, nS]
   ·by_cases h2 : y < x
    ·simp [Bool.cond_eq_ite, h1, h2, nS]
    ·simp [Bool.cond_eq_ite, h1, h2, nS]
  ·unfold ref01_Compare_L2
   simp
 rw [hl, Option.bind_some]
 cases hf : firstS (fun i x => match t[i]? with | none => none | some y => if x < y then some (-1) else if y < x then some (1 : Int) else none) s 0 with
 | some r =>
  obtain ⟨i, x, h3, h4⟩ := firstS_some hf
  have hne : s ≠ t := by
   intro e
   rw [Nat.zero_add, ← e, h3] at h4
   simp at h4
  have hr : r ≠ 0 := by
   rw [Nat.zero_add] at h4
   cases ht : t[i]? with
   | none => rw [ht] at h4; cases h4
   | some y =>
    rw [ht] at h4
    simp only at h4
    split at h4
    ·cases h4; decide
    ·split at h4
     ·cases h4; decide
     ·cases h4
  simp only [oS, Option.bind_some, decide_eq_false hne]
  congr 1
  simpa using hr
 | none =>
  have he : s = t := by
   refine List.ext_getElem? fun n => ?_
   rcases Nat.lt_or_ge n s.length with g | g
   ·have hx := List.getElem?_eq_getElem g
    have ht := List.getElem?_eq_getElem (show n < t.length by omega)
    have := firstS_isNone hf n _ hx
    rw [Nat.zero_add, ht] at this
    simp only at this
    rw [hx, ht]
    split at this
    ·cases this
    ·split at this
     ·cases this
     ·rename_i g1 g2
      congr 1
      omega
   ·rw [List.getElem?_eq_none_iff.2 g, List.getElem?_eq_none_iff.2 (by omega)]
  simp only [oS, ref01_Compare_J1, Option.bind_some, decide_eq_true he]
  rfl
def nxE (m : S_api_Machine) (s : Int) (i : Nat) : S_api_Edge := if s < 0 then ⟨-1, -1⟩ else E m s.toNat i
def rsp (m : S_api_Machine) : Int → List Nat → List Int
 | _, [] => []
 | s, i :: w => (nxE m s i).Out :: rsp m (nxE m s i).To w
def aft (m : S_api_Machine) : Int → List Nat → Int
 | s, [] => s
 | s, i :: w => aft m (nxE m s i).To w
theorem rsp_snoc (m : S_api_Machine) : ∀ (w : List Nat) (s : Int) (i : Nat), rsp m s (w ++ [i]) = rsp m s w ++ [(nxE m (aft m s w) i).Out] ∧ aft m s (w ++ [i]) = (nxE m (aft m s w) i).To
 | [], s, i => ⟨rfl, rfl⟩
 | j :: w, s, i => by
  have := rsp_snoc m w (nxE m s j).To i
  simp only [List.cons_append, rsp, aft, this.1, this.2, and_self]
theorem rsp_len (m : S_api_Machine) : ∀ (w : List Nat) (s : Int), (rsp m s w).length = w.length
 | [], _ => rfl
 | i :: w, s => by simp [rsp, rsp_len m w]
def StIn (m : S_api_Machine) (s : Int) : Prop := -1 ≤ s ∧ s < (m.Rows.length : Int)
theorem next_eq {m : S_api_Machine} (h : VM m) {s : Int} (hs : StIn m s) {i : Nat} (hi : i < kk m) : ref04_Next m s (i : Int) = some (nxE m s i) ∧ StIn m (nxE m s i).To := by
 unfold ref04_Next nxE
 have := h.len1
 by_cases h0 : s < 0
 ·rw [decide_eq_true h0, cond_true, if_pos h0]
  exact ⟨rfl, by unfold StIn; simp only; omega⟩
 ·rw [decide_eq_false h0, cond_false, if_neg h0]
  have hl : s.toNat < m.Rows.length := by have := hs.2; omega
  have he := h.edge_eq hl hi (f := fun e => some e)
  have hc : ((s.toNat : Nat) : Int) = s := by omega
  rw [hc] at he
  refine ⟨he, ?_⟩
  have := h.edgeAt hl hi
  unfold StIn
  omega
theorem run_eq {m : S_api_Machine} (h : VM m) {s : Int} (hs : StIn m s) (w : List Nat) (hw : ∀ i ∈ w, i < kk m) (hl : w.length ≤ 100000) : ref04_Run m s (w.map Int.ofNat) = some (rsp m s w) := by
 have hloop : loop (fun q => ref04_Run_L2 m (w.map Int.ofNat) q.1 q.2.1 q.2.2) (s, ([] : List Int), 0) = some (rsp m s w) := by
  refine Ret.eq (ret_loop (fun q => ∃ k : Nat, q.2.2 = (k : Int) ∧ k ≤ w.length ∧ StIn m q.1 ∧ q.2.1.length = k ∧ q.2.1 ++ rsp m q.1 (w.drop k) = rsp m s w) (fun q => 200000 - q.2.2.toNat) ⟨0, rfl, Nat.zero_le _, hs, rfl, rfl⟩ (by simp) ?_)
  rintro ⟨s', out, k'⟩ ⟨k, hk, hkl, hst, hol, ho⟩
  simp only at hk hst hol ho
  subst hk
  unfold ref04_Run_L2
  rw [ret_bif]
  refine ⟨fun hlt => ?_, fun hge => ?_⟩
  ·have hlt : k < w.length := by simpa using hlt
   have hx : (w.map Int.ofNat)[k]? = some ((w[k] : Nat) : Int) := by simp [hlt]
   have hi := hw _ (List.getElem_mem hlt)
   have hn := next_eq h hst hi
   have hw1 : w64 ((k : Int) + 1) = ((k + 1 : Nat) : Int) := by rw [w64_in (by omega) (by omega)]; rfl
   rw [idx_nat, bdT hx, bdT hn.1, gdT (by simp; omega), ret_some, hw1]
   refine ⟨⟨k + 1, rfl, hlt, hn.2, by simp [hol], ?_⟩, by simp only; omega⟩
   rw [← ho, List.drop_eq_getElem_cons hlt]
   simp [rsp]
  ·have : k = w.length := by simp at hge; omega
   subst this
   rw [ret_some]
   rw [List.drop_length] at ho
   show out = rsp m s w
   simpa [rsp] using ho
 unfold ref04_Run ref04_Run_J1
 rw [bdT hloop]
section
variable {a b : S_api_Machine} (va : VM a) (vb : VM b) (hab : a.Inputs = b.Inputs)
include va vb hab
theorem path_rsp : ∀ (u : List Nat) (q : Nat × Nat), PathR (kk a) (badP a b) (nxP a b) (0, 0) u q → rsp a 0 u.reverse = rsp b 0 u.reverse ∧ aft a 0 u.reverse = (q.1 : Int) ∧ aft b 0 u.reverse = (q.2 : Int) ∧ InP a b q ∧ ∀ i ∈ u, i < kk a
 | [], q, h => by
  simp only [PathR] at h
  subst h
  exact ⟨rfl, rfl, rfl, ⟨va.len1, vb.len1⟩, by simp⟩
 | i :: u, q, ⟨p, hp, hi, hb, hn⟩ => by
  obtain ⟨h1, h2, h3, h4, h5⟩ := path_rsp u p hp
  have ea : nxE a (p.1 : Int) i = E a p.1 i := by unfold nxE; rw [if_neg (by omega), Int.toNat_natCast]
  have eb : nxE b (p.2 : Int) i = E b p.2 i := by unfold nxE; rw [if_neg (by omega), Int.toNat_natCast]
  have ho : (E a p.1 i).Out = (E b p.2 i).Out := by simpa [badP] using hb
  have hq : (E a p.1 i).To = (q.1 : Int) ∧ (E b p.2 i).To = (q.2 : Int) := by
   unfold nxP at hn
   split at hn
   ·cases hn; simp only; omega
   ·cases hn
  rw [List.reverse_cons, (rsp_snoc a _ _ _).1, (rsp_snoc b _ _ _).1, (rsp_snoc a _ _ _).2, (rsp_snoc b _ _ _).2, h1, h2, h3, ea, eb, ho]
  refine ⟨rfl, hq.1, hq.2, inP_nx va vb hab p i q h4 hi hn, fun j hj => ?_⟩
  rcases List.mem_cons.1 hj with rfl | g
  ·exact hi
  ·exact h5 j g
theorem tell_rsp {i : Nat} {u : List Nat} (h : TellR (kk a) (badP a b) (nxP a b) (0, 0) (i :: u)) : rsp a 0 (u.reverse ++ [i]) ≠ rsp b 0 (u.reverse ++ [i]) ∧ rsp a 0 u.reverse = rsp b 0 u.reverse ∧ ∀ j ∈ i :: u, j < kk a := by
 obtain ⟨p, hp, hi, hb⟩ := h
 obtain ⟨h1, h2, h3, h4, h5⟩ := path_rsp va vb hab u p hp
 have ea : nxE a (p.1 : Int) i = E a p.1 i := by unfold nxE; rw [if_neg (by omega), Int.toNat_natCast]
 have eb : nxE b (p.2 : Int) i = E b p.2 i := by unfold nxE; rw [if_neg (by omega), Int.toNat_natCast]
 have ho : (E a p.1 i).Out ≠ (E b p.2 i).Out := by simpa [badP] using hb
 refine ⟨?_, h1, fun j hj => ?_⟩
 ·rw [(rsp_snoc a _ _ _).1, (rsp_snoc b _ _ _).1, h1, h2, h3, ea, eb]
  intro e
  have := List.append_cancel_left e
  simp at this
  exact ho this
 ·rcases List.mem_cons.1 hj with rfl | g
  ·exact hi
  ·exact h5 j g
end
end Go.Own

namespace Go.Own
set_option linter.unusedVariables false
section
variable {N : Nat} {f : Nat → Nat → Bool}
structure PartI (N : Nat) (f : Nat → Nat → Bool) (out : List Int) (n : Int) (s : Nat) : Prop where
 len : out.length = s
 sN : s ≤ N
 n0 : 0 ≤ n
 nS : n ≤ (s : Int)
 lt : ∀ (i : Nat) (x : Int), out[i]? = some x → 0 ≤ x ∧ x < n
 cls : ∀ (i j : Nat), i < s → j < s → (out[i]? = out[j]? ↔ f i j = false)
theorem part_ret (hN : N ≤ 1000) (hr : ∀ s, s < N → f s s = false) (hs : ∀ s t, s < N → t < N → f s t = false → f t s = false) (ht : ∀ s t u, s < N → t < N → u < N → f s t = false → f t u = false → f s u = false) :
  Ret (ref07_Partition (tab N f)) fun out => out.length = N ∧ ∀ i j, i < N → j < N → (out[i]? = out[j]? ↔ f i j = false) := by
 have hl : (tab N f).length = N := by simp [tab]
 unfold ref07_Partition
 rw [ret_bind]
 refine Ret.mono (Q := fun out => out.length = N ∧ ∀ i j, i < N → j < N → (out[i]? = out[j]? ↔ f i j = false)) ?_ fun out h => ret_some.2 h
 refine ret_loop (fun q => PartI N f q.1 q.2.1 q.2.2.toNat ∧ 0 ≤ q.2.2) (fun q => N - q.2.2.toNat) ⟨⟨rfl, Nat.zero_le _, Int.le_refl 0, Int.le_refl 0, fun i x h => by simp at h, fun i j h => by simp at h⟩, Int.le_refl 0⟩ (by show N - 0 < _; omega) ?_
 rintro ⟨out, n, s⟩ ⟨hI, h0⟩
 obtain ⟨s, rfl⟩ := Int.eq_ofNat_of_zero_le h0
 simp only [Int.toNat_natCast] at hI ⊢
 unfold ref07_Partition_L2
 rw [ret_bif]
 refine ⟨fun hc => ?_, fun hc => ?_⟩
 ·rw [hl] at hc
  have hsN : s < N := by simpa using hc
  rw [ret_bind]
  have inner : Ret (loop (fun s_1 => ref07_Partition_L6 (tab N f) out (s : Int) s_1.1 s_1.2) (-1, 0)) fun b => (b = -1 ∧ ∀ t, t < s → f s t = true) ∨ ∃ t, t < s ∧ f s t = false ∧ out[t]? = some b := by
   refine ret_loop (fun q => 0 ≤ q.2 ∧ q.2 ≤ (s : Int) ∧ ((q.1 = -1 ∧ ∀ t : Nat, (t : Int) < q.2 → f s t = true) ∨ ∃ t, t < s ∧ f s t = false ∧ out[t]? = some q.1)) (fun q => s - q.2.toNat) ⟨by omega, by omega, .inl ⟨rfl, fun t ht => by simp at ht; omega⟩⟩ (by show s - 0 < _; omega) ?_
   rintro ⟨b, t⟩ ⟨g0, g1, g2⟩
   simp only at g0 g1 g2 ⊢
   obtain ⟨t, rfl⟩ := Int.eq_ofNat_of_zero_le g0
   unfold ref07_Partition_L6 ref07_Partition_J7
   rw [ret_bif]
   refine ⟨fun hc => ?_, fun hc => ?_⟩
   ·have hts : t < s := by simpa using hc
    have hw : w64 ((t : Int) + 1) = ((t + 1 : Nat) : Int) := by rw [w64_in (by omega) (by omega)]; rfl
    rw [tab_at f hsN (by omega), hw, ret_bif]
    refine ⟨fun hf => ?_, fun hf => ?_⟩
    ·rw [ret_bind, ret_idx]
     have : ∃ x, out[t]? = some x := ⟨out[t]'(by rw [hI.len]; exact hts), List.getElem?_eq_getElem _⟩
     obtain ⟨x, hx⟩ := this
     refine ⟨by omega, x, by rw [Int.toNat_natCast]; exact hx, ret_some.2 ⟨⟨by omega, by omega, .inr ⟨t, hts, by simpa using hf, hx⟩⟩, by simp only [Int.toNat_natCast]; omega⟩⟩
    ·refine ret_some.2 ⟨⟨by omega, by omega, ?_⟩, by simp only [Int.toNat_natCast]; omega⟩
     rcases g2 with ⟨e, g2⟩ | g2
     ·refine .inl ⟨e, fun u hu => ?_⟩
      rcases Nat.lt_or_ge u t with q | q
      ·exact g2 u (by omega)
      ·have : u = t := by omega
       subst this; simpa using hf
     ·exact .inr g2
   ·have hts : ¬ t < s := by simpa using hc
    refine ret_some.2 ?_
    rcases g2 with ⟨e, g2⟩ | g2
    ·exact .inl ⟨e, fun u hu => g2 u (by omega)⟩
    ·exact .inr g2
  refine inner.mono fun b hb => ?_
  have hw : w64 ((s : Int) + 1) = ((s + 1 : Nat) : Int) := by rw [w64_in (by omega) (by omega)]; rfl
  have hlen := hI.len
  have hnS := hI.nS
  have hn0 := hI.n0
  have fin : ∀ (n' c : Int), 0 ≤ n' → n' ≤ ((s + 1 : Nat) : Int) → n ≤ n' → 0 ≤ c → c < n' → (∀ t, t < s → (out[t]? = some c ↔ f s t = false)) →
    Ret (ref07_Partition_J5 out (s : Int) n' c) (LRP (fun s' => (PartI N f s'.1 s'.2.1 s'.2.2.toNat ∧ 0 ≤ s'.2.2) ∧ N - s'.2.2.toNat < N - s) fun out => out.length = N ∧ ∀ i j, i < N → j < N → (out[i]? = out[j]? ↔ f i j = false)) := by
   intro n' c a1 a2 a3 a4 a5 a6
   unfold ref07_Partition_J5 ref07_Partition_J3
   rw [ret_gd, hw]
   refine ⟨by simp [hlen]; omega, ret_some.2 ⟨⟨⟨by simp [hlen], by simp only [Int.toNat_natCast]; omega, a1, by simp only [Int.toNat_natCast]; exact a2, ?_, ?_⟩, Int.natCast_nonneg _⟩, by simp only [Int.toNat_natCast]; omega⟩⟩
   ·intro i x hx
    rcases Nat.lt_or_ge i s with q | q
    ·rw [List.getElem?_append_left (by omega)] at hx
     have := hI.lt i x hx
     exact ⟨this.1, by have := this.2; simp only; omega⟩
    ·rw [List.getElem?_append_right (by omega)] at hx
     cases hh : i - out.length with
     | zero => rw [hh] at hx; simp at hx; subst hx; exact ⟨a4, a5⟩
     | succ k => rw [hh] at hx; simp at hx
   ·intro i j hi hj
    simp only [Int.toNat_natCast] at hi hj
    have at_ : ∀ i, i < s → (out ++ [c])[i]? = out[i]? := fun i h => List.getElem?_append_left (by omega)
    have at_s : (out ++ [c])[s]? = some c := by rw [← hlen, List.getElem?_append_right (Nat.le_refl _)]; simp
    rcases Nat.lt_or_ge i s with q | q <;> rcases Nat.lt_or_ge j s with q' | q'
    ·show (out ++ [c])[i]? = (out ++ [c])[j]? ↔ _
     rw [at_ i q, at_ j q']; exact hI.cls i j q q'
    ·have : j = s := by omega
     subst this
     show (out ++ [c])[i]? = (out ++ [c])[j]? ↔ _
     rw [at_ i q, at_s, a6 i q]
     exact ⟨fun h => hs _ _ (by omega) (by omega) h, fun h => hs _ _ (by omega) (by omega) h⟩
    ·have : i = s := by omega
     subst this
     show (out ++ [c])[i]? = (out ++ [c])[j]? ↔ _
     rw [at_ j q', at_s, eq_comm, a6 j q']
    ·have e1 : i = s := by omega
     have e2 : j = s := by omega
     subst e1; subst e2
     exact ⟨fun _ => hr _ hsN, fun _ => rfl⟩
  unfold ref07_Partition_J4
  rw [ret_bif]
  rcases hb with ⟨rfl, hb⟩ | ⟨t, ht1, ht2, ht3⟩
  ·refine ⟨fun _ => ?_, fun h => by simp at h⟩
   rw [w64_in (by omega) (by omega)]
   refine fin (n + 1) n (by omega) (by omega) (by omega) hn0 (by omega) fun t hts => ?_
   rw [hb t hts]
   refine ⟨fun h => ?_, fun h => by cases h⟩
   have := hI.lt t n h
   omega
  ·have hb0 := hI.lt t b ht3
   refine ⟨fun h => by simp at h; omega, fun _ => fin n b hn0 (by omega) (by omega) hb0.1 hb0.2 fun u hu => ?_⟩
   rw [← ht3, hI.cls u t hu ht1]
   exact ⟨fun h => ht _ _ _ (by omega) (by omega) (by omega) ht2 (hs _ _ (by omega) (by omega) h), fun h => ht _ _ _ (by omega) (by omega) (by omega) (hs _ _ (by omega) (by omega) h) ht2⟩
 ·rw [hl] at hc
  have hsN : ¬ s < N := by simpa using hc
  have : s = N := by have := hI.sN; omega
  subst this
  exact ret_some.2 ⟨hI.len, hI.cls⟩
end
end Go.Own

namespace Go.Own
set_option linter.unusedVariables false
def SEq (m : S_api_Machine) (s t : Nat) : Prop := ∀ w : List Nat, (∀ i ∈ w, i < kk m) → rsp m (s : Int) w = rsp m (t : Int) w
theorem rsp_neg (m : S_api_Machine) : ∀ (w : List Nat) (s : Int), s < 0 → rsp m s w = w.map fun _ => -1
 | [], _, _ => rfl
 | i :: w, s, h => by
  simp only [rsp, nxE, if_pos h, List.map_cons]
  rw [rsp_neg m w (-1) (by omega)]
theorem nxE_nat (m : S_api_Machine) (s i : Nat) : nxE m (s : Int) i = E m s i := by
 unfold nxE
 rw [if_neg (by omega), Int.toNat_natCast]
section
variable {m : S_api_Machine} (h : WM m)
include h
theorem mk_word : ∀ (n : Nat) (p : Nat × Nat), p.1 < m.Rows.length → p.2 < m.Rows.length → Mk (kk m) (badP m m) (nxP m m) n p → ∃ w : List Nat, (∀ i ∈ w, i < kk m) ∧ rsp m (p.1 : Int) w ≠ rsp m (p.2 : Int) w
 | 0, p, _, _, q => q.elim
 | n + 1, p, h1, h2, q => by
  rcases q with q | ⟨i, hi, q | ⟨r, hr, q⟩⟩
  ·exact mk_word n p h1 h2 q
  ·refine ⟨[i], by simpa using hi, fun e => ?_⟩
   simp only [rsp, nxE_nat, List.cons.injEq, and_true] at e
   simp [badP, e] at q
  ·have hin := h.nx_in h1 h2 hi hr
   obtain ⟨w, hw, hne⟩ := mk_word n r hin.1 hin.2 q
   refine ⟨i :: w, fun j hj => by rcases List.mem_cons.1 hj with rfl | hj; exact hi; exact hw j hj, fun e => hne ?_⟩
   simp only [rsp, nxE_nat, List.cons.injEq] at e
   unfold nxP at hr
   split at hr
   ·rename_i hc
    cases hr
    have e1 : (((E m p.1 i).To.toNat : Nat) : Int) = (E m p.1 i).To := by omega
    have e2 : (((E m p.2 i).To.toNat : Nat) : Int) = (E m p.2 i).To := by omega
    simp only [e1, e2]
    exact e.2
   ·cases hr
theorem word_mk : ∀ (w : List Nat) (p : Nat × Nat), p.1 < m.Rows.length → p.2 < m.Rows.length → (∀ i ∈ w, i < kk m) → rsp m (p.1 : Int) w ≠ rsp m (p.2 : Int) w → Mk (kk m) (badP m m) (nxP m m) w.length p
 | [], p, _, _, _, q => (q rfl).elim
 | i :: w, p, h1, h2, hw, q => by
  have hi := hw i (by simp)
  refine .inr ⟨i, hi, ?_⟩
  by_cases hb : badP m m p i = true
  ·exact .inl hb
  ·have he : (E m p.1 i).Out = (E m p.2 i).Out := by simpa [badP] using hb
   simp only [rsp, nxE_nat, he, ne_eq, List.cons.injEq, true_and] at q
   have a := h.edgeAt h1 hi
   have b := h.edgeAt h2 hi
   by_cases hc : 0 ≤ (E m p.1 i).To ∧ 0 ≤ (E m p.2 i).To
   ·have hr : nxP m m p i = some ((E m p.1 i).To.toNat, (E m p.2 i).To.toNat) := by unfold nxP; rw [if_pos hc]
    have hin := h.nx_in h1 h2 hi hr
    have e1 : (((E m p.1 i).To.toNat : Nat) : Int) = (E m p.1 i).To := by omega
    have e2 : (((E m p.2 i).To.toNat : Nat) : Int) = (E m p.2 i).To := by omega
    exact .inr ⟨_, hr, word_mk w _ hin.1 hin.2 (fun j hj => hw j (by simp [hj])) (by simpa only [e1, e2] using q)⟩
   ·exfalso
    refine q ?_
    have e1 : (E m p.1 i).To = -1 := by omega
    have e2 : (E m p.2 i).To = -1 := by omega
    rw [e1, e2]
theorem mrk_sem {s t : Nat} (hs : s < m.Rows.length) (ht : t < m.Rows.length) : mrk m m.Rows.length s t = false ↔ SEq m s t := by
 have e : mrk m m.Rows.length s t = true ↔ ¬ SEq m s t := by
  unfold mrk
  rw [mkb_iff]
  constructor
  ·intro q g
   obtain ⟨w, hw, hne⟩ := mk_word h _ (s, t) hs ht q
   exact hne (g w hw)
  ·intro q
   obtain ⟨w, hw⟩ := Classical.not_forall.1 q
   obtain ⟨hw, hne⟩ := Classical.not_imp.1 hw
   have := mk_bound h hs ht (word_mk h w (s, t) hs ht hw hne)
   exact this.mono (by omega)
 constructor
 ·intro q
  exact Classical.byContradiction fun g => by rw [e.2 g] at q; cases q
 ·intro q
  cases hm : mrk m m.Rows.length s t with
  | false => rfl
  | true => exact (e.1 hm q).elim
theorem classes_ret : Ret (ref07_Classes m) fun l => l.length = m.Rows.length ∧ ∀ s t, s < m.Rows.length → t < m.Rows.length → (l[s]? = l[t]? ↔ SEq m s t) := by
 have hl := h.len
 unfold ref07_Classes ref07_Rounds
 rw [ret_bind, bdT (marked_eq h m.Rows.length (by omega)), ret_bind]
 refine Ret.mono (part_ret (by omega) (fun s hs => (mrk_sem h hs hs).2 fun w _ => rfl) (fun s t hs ht q => (mrk_sem h ht hs).2 fun w hw => ((mrk_sem h hs ht).1 q w hw).symm) (fun s t u hs ht hu q r => (mrk_sem h hs hu).2 fun w hw => ((mrk_sem h hs ht).1 q w hw).trans ((mrk_sem h ht hu).1 r w hw))) ?_
 rintro l ⟨h1, h2⟩
 exact ret_some.2 (ret_some.2 ⟨h1, fun s t hs ht => (h2 s t hs ht).trans (mrk_sem h hs ht)⟩)
end
end Go.Own

namespace Go.Own
set_option linter.unusedVariables false
theorem after_eq {m : S_api_Machine} (h : VM m) : ∀ (w : List Nat) (n : Nat) (s : Int), StIn m s → (∀ i ∈ w, i < kk m) → w.length < n → ref04_After_f n m s (w.map Int.ofNat) = some (aft m s w)
 | w, 0, _, _, _, hn => by omega
 | [], n + 1, s, hs, _, _ => by
  show ref04_After_b (ref04_After_f n) m s [] = _
  rfl
 | i :: w, n + 1, s, hs, hw, hn => by
  show ref04_After_b (ref04_After_f n) m s ((i : Int) :: w.map Int.ofNat) = _
  have hi := hw i (by simp)
  have hx := next_eq h hs hi
  unfold ref04_After_b
  have hz : (((((i : Int) :: w.map Int.ofNat).length : Nat) : Int) == 0) = false := by
   rw [beq_eq_false_iff_ne]
   simp only [List.length_cons]
   omega
  rw [hz, cond_false]
  have e0 : idx ((i : Int) :: w.map Int.ofNat) 0 = some (i : Int) := rfl
  rw [bdT e0, bdT hx.1, gdT (by simp; omega)]
  have e1 : ((i : Int) :: w.map Int.ofNat).drop (1 : Int).toNat = w.map Int.ofNat := rfl
  rw [e1, bdT (after_eq h w n _ hx.2 (fun j hj => hw j (by simp [hj])) (by simp at hn; omega))]
  rfl
theorem After_eq {m : S_api_Machine} (h : VM m) {s : Int} (hs : StIn m s) (w : List Nat) (hw : ∀ i ∈ w, i < kk m) : ref04_After m s (w.map Int.ofNat) = some (aft m s w) := by
 unfold ref04_After
 exact after_eq h w _ s hs hw (by simp)
def incr (k : Nat) : List Nat → Option (List Nat)
 | [] => none
 | d :: r => if d + 1 < k then some ((d + 1) :: r) else (incr k r).map (0 :: ·)
def valR (k : Nat) : List Nat → Nat
 | [] => 0
 | d :: r => d + k * valR k r
theorem valR_lt {k : Nat} : ∀ {r : List Nat}, (∀ d ∈ r, d < k) → valR k r < k ^ r.length
 | [], _ => by simp [valR]
 | d :: r, h => by
  have ih := valR_lt (k := k) (r := r) fun x hx => h x (by simp [hx])
  have hd := h d (by simp)
  simp only [valR, List.length_cons, Nat.pow_succ]
  have : k * (valR k r + 1) ≤ k * k ^ r.length := Nat.mul_le_mul_left k ih
  rw [Nat.mul_add, Nat.mul_one] at this
  rw [Nat.mul_comm (k ^ r.length) k]
  omega
theorem valR_inj {k : Nat} : ∀ {r s : List Nat}, r.length = s.length → (∀ d ∈ r, d < k) → (∀ d ∈ s, d < k) → valR k r = valR k s → r = s
 | [], [], _, _, _, _ => rfl
 | [], _ :: _, h, _, _, _ => by simp at h
 | _ :: _, [], h, _, _, _ => by simp at h
 | d :: r, e :: s, h, h1, h2, hv => by
  have hd := h1 d (by simp)
  have he := h2 e (by simp)
  simp only [valR] at hv
  have a1 : (d + k * valR k r) % k = d := by rw [Nat.add_mul_mod_self_left, Nat.mod_eq_of_lt hd]
  have a2 : (e + k * valR k s) % k = e := by rw [Nat.add_mul_mod_self_left, Nat.mod_eq_of_lt he]
  have hde : d = e := by rw [← a1, ← a2, hv]
  subst hde
  have hk : 0 < k := by omega
  have : k * valR k r = k * valR k s := by omega
  have := Nat.eq_of_mul_eq_mul_left hk this
  rw [valR_inj (by simpa using h) (fun x hx => h1 x (by simp [hx])) (fun x hx => h2 x (by simp [hx])) this]
theorem incr_some {k : Nat} : ∀ {r s : List Nat}, (∀ d ∈ r, d < k) → incr k r = some s → s.length = r.length ∧ (∀ d ∈ s, d < k) ∧ valR k s = valR k r + 1
 | [], s, _, h => by cases h
 | d :: r, s, hr, h => by
  have hd := hr d (by simp)
  unfold incr at h
  split at h
  ·rename_i hc
   cases h
   exact ⟨rfl, fun x hx => by rcases List.mem_cons.1 hx with rfl | hx; exact hc; exact hr x (by simp [hx]), by simp only [valR]; omega⟩
  ·rename_i hc
   obtain ⟨s', h1, rfl⟩ := Option.map_eq_some_iff.1 h
   obtain ⟨g1, g2, g3⟩ := incr_some (fun x hx => hr x (by simp [hx])) h1
   refine ⟨by simp [g1], fun x hx => by rcases List.mem_cons.1 hx with rfl | hx; omega; exact g2 x hx, ?_⟩
   simp only [valR, g3, Nat.mul_add, Nat.mul_one]
   omega
theorem incr_none {k : Nat} (hk : 0 < k) : ∀ {r : List Nat}, (∀ d ∈ r, d < k) → incr k r = none → valR k r + 1 = k ^ r.length
 | [], _, _ => by simp [valR]
 | d :: r, hr, h => by
  have hd := hr d (by simp)
  unfold incr at h
  split at h
  ·cases h
  ·rename_i hc
   have h1 : incr k r = none := by cases e : incr k r with | none => rfl | some x => rw [e] at h; cases h
   have := incr_none hk (fun x hx => hr x (by simp [hx])) h1
   simp only [valR, List.length_cons, Nat.pow_succ, ← this, Nat.add_mul, Nat.one_mul, Nat.mul_comm k]
   omega
def nextW (k : Nat) (w : List Nat) : List Nat := match incr k w.reverse with | some r => r.reverse | none => List.replicate (w.length + 1) 0
theorem next_word {k : Nat} (hk : 1 ≤ k) (hk2 : k ≤ 1000) {w : List Nat} (hw : ∀ i ∈ w, i < k) (hl : w.length ≤ 100000) : ref06_next (w.map Int.ofNat) (k : Int) = some ((nextW k w).map Int.ofNat) := by
 have hloop : Ret (loop (fun s => ref06_next_L2 (k : Int) s.1 s.2) (w.map Int.ofNat, w64 ((((w.map Int.ofNat).length : Nat) : Int) - 1))) fun r => match r with
   | .inl o => incr k w.reverse = none ∧ o = List.replicate w.length (0 : Int)
   | .inr o => ∃ r, incr k w.reverse = some r ∧ o = r.reverse.map Int.ofNat := by
  refine ret_loop (fun q => ∃ (p : List Nat) (z : Nat), q.1 = (p ++ List.replicate z 0).map Int.ofNat ∧ q.2 = (p.length : Int) - 1 ∧ (∀ i ∈ p, i < k) ∧ p.length + z = w.length ∧ incr k w.reverse = (incr k p.reverse).map (fun r => List.replicate z 0 ++ r)) (fun q => (q.2 + 1).toNat) ⟨w, 0, by simp, by rw [w64_in (by simp; omega) (by simp; omega)]; simp, hw, by simp, by cases incr k w.reverse <;> simp⟩ (by simp only; rw [w64_in (by simp; omega) (by simp; omega)]; simp; omega) ?_
  rintro ⟨out, j⟩ ⟨p, z, h1, h2, h3, h4, h5⟩
  simp only at h1 h2
  subst h1; subst h2
  unfold ref06_next_L2
  rw [ret_bif]
  refine ⟨fun hc => ?_, fun hc => ?_⟩
  ·have hp : 1 ≤ p.length := by simp at hc; omega
   obtain ⟨p', d, rfl⟩ : ∃ p' d, p = p' ++ [d] := by
    rcases List.eq_nil_or_concat p with e | ⟨p', d, e⟩
    ·subst e; simp at hp
    ·exact ⟨p', d, by simpa using e⟩
   have hd := h3 d (by simp)
   have hj : (((p' ++ [d]).length : Nat) : Int) - 1 = ((p'.length : Nat) : Int) := by simp
   have hx : ((p' ++ [d] ++ List.replicate z 0).map Int.ofNat)[p'.length]? = some (d : Int) := by
    simp
   have hset : ∀ e : Nat, ((p' ++ [d] ++ List.replicate z 0).map Int.ofNat).set p'.length (e : Int) = (p' ++ e :: List.replicate z 0).map Int.ofNat := by
    intro e
    rw [List.append_assoc, List.map_append, List.set_append, if_neg (by simp)]
    simp
   have hr : (p' ++ [d]).reverse = d :: p'.reverse := by simp
   rw [hr] at h5
   have hin : incr k (d :: p'.reverse) = if d + 1 < k then some ((d + 1) :: p'.reverse) else (incr k p'.reverse).map (0 :: ·) := rfl
   have hw1 : w64 ((d : Int) + 1) = ((d + 1 : Nat) : Int) := by rw [w64_in (by omega) (by omega)]; rfl
   rw [hj, idx_nat, bdT hx, hw1, ret_bif]
   refine ⟨fun hc => ?_, fun hc => ?_⟩
   ·have hdk : d + 1 < k := by simp at hc; omega
    rw [bdT hx, bdT hx, hw1, Int.toNat_natCast, hset]
    refine ret_some.2 ?_
    rw [hin, if_pos hdk] at h5
    exact ⟨_, h5, by simp⟩
   ·have hdk : ¬ d + 1 < k := by simp at hc; omega
    rw [bdT hx, Int.toNat_natCast, w64_in (by omega) (by omega)]
    have h0 := hset 0
    simp only [Int.natCast_zero] at h0
    refine ret_some.2 ⟨⟨p', z + 1, ?_, rfl, fun i hi => h3 i (by simp [hi]), by simp at h4; omega, ?_⟩, ?_⟩
    ·rw [List.replicate_succ]; exact h0
    ·rw [hin, if_neg hdk] at h5
     rw [h5]
     cases incr k p'.reverse with
     | none => rfl
     | some r => simp [List.replicate_succ']
    ·simp only
     omega
  ·have hp : p = [] := List.eq_nil_of_length_eq_zero (by simp at hc; omega)
   subst hp
   refine ret_some.2 ⟨?_, ?_⟩
   ·rw [h5]; rfl
   ·simp at h4; simp [h4]
 unfold ref06_next
 rw [gdT (by simp; omega)]
 obtain ⟨r, e, hr⟩ := hloop
 rw [bdT e]
 unfold nextW
 cases r with
 | inl o =>
  obtain ⟨g1, rfl⟩ := hr
  show ref06_next_J1 _ = _
  unfold ref06_next_J1
  rw [gdT (by simp; omega), g1]
  simp [List.replicate_succ']
 | inr o =>
  obtain ⟨r, g1, rfl⟩ := hr
  show some _ = _
  rw [g1]
end Go.Own

namespace Go.Own
set_option linter.unusedVariables false
def GG (k : Nat) : Nat → Nat
 | 0 => 0
 | n + 1 => GG k n + k ^ n
theorem GG_mono {k n m : Nat} (h : n ≤ m) : GG k n ≤ GG k m := by
 induction h with
 | refl => exact Nat.le_refl _
 | step _ ih => exact Nat.le_trans ih (Nat.le_add_right _ _)
def rk (k : Nat) (w : List Nat) : Nat := GG k w.length + valR k w.reverse
def Wd (k : Nat) (w : List Nat) : Prop := ∀ i ∈ w, i < k
theorem Wd.rev {k : Nat} {w : List Nat} (h : Wd k w) : ∀ d ∈ w.reverse, d < k := fun d hd => h d (by simpa using hd)
theorem rk_lt {k : Nat} {w : List Nat} (h : Wd k w) : rk k w < GG k (w.length + 1) := by
 have := valR_lt h.rev
 rw [List.length_reverse] at this
 show GG k w.length + valR k w.reverse < GG k w.length + k ^ w.length
 omega
theorem rk_len {k : Nat} {w u : List Nat} (hw : Wd k w) (h : w.length < u.length) : rk k w < rk k u := by
 have h1 := rk_lt hw
 have h2 := GG_mono (k := k) (show w.length + 1 ≤ u.length from h)
 unfold rk at *
 omega
theorem rk_inj {k : Nat} {w u : List Nat} (hw : Wd k w) (hu : Wd k u) (h : rk k w = rk k u) : w = u := by
 have hl : w.length = u.length := by
  rcases Nat.lt_trichotomy w.length u.length with q | q | q
  ·have := rk_len hw q; omega
  ·exact q
  ·have := rk_len hu q; omega
 have hv : valR k w.reverse = valR k u.reverse := by unfold rk at h; rw [hl] at h; omega
 have := valR_inj (by simpa using hl) hw.rev hu.rev hv
 simpa using congrArg List.reverse this
theorem valR_zero (k : Nat) : ∀ n, valR k (List.replicate n 0) = 0
 | 0 => rfl
 | n + 1 => by simp [List.replicate_succ, valR, valR_zero k n]
theorem nextW_ok {k : Nat} (hk : 1 ≤ k) {w : List Nat} (hw : Wd k w) : Wd k (nextW k w) ∧ rk k (nextW k w) = rk k w + 1 ∧ (nextW k w).length ≤ w.length + 1 := by
 unfold nextW
 cases e : incr k w.reverse with
 | some r =>
  obtain ⟨h1, h2, h3⟩ := incr_some hw.rev e
  rw [List.length_reverse] at h1
  refine ⟨fun i hi => h2 i (by simpa using hi), ?_, by simp [h1]⟩
  simp only [rk, List.length_reverse, List.reverse_reverse, h1, h3]
  omega
 | none =>
  have h := incr_none (by omega) hw.rev e
  rw [List.length_reverse] at h
  refine ⟨fun i hi => by have := (List.mem_replicate.1 hi).2; omega, ?_, by simp⟩
  simp only [rk, List.length_replicate, List.reverse_replicate, valR_zero, GG, ← h]
  omega
section
variable {m : S_api_Machine}
def PathAt (m : S_api_Machine) (from_ : Int) (l : List (List Int)) (is : List Bool) (r t : Nat) : Prop :=
 (is[t]? = some true ∧ ∃ v : List Nat, l[t]? = some (v.map Int.ofNat) ∧ rk (kk m) v < r ∧ Wd (kk m) v ∧ v.length < m.Rows.length ∧ aft m from_ v = (t : Int) ∧ ∀ u, Wd (kk m) u → aft m from_ u = (t : Int) → rk (kk m) v ≤ rk (kk m) u) ∨
 (is[t]? = some false ∧ l[t]? = some [] ∧ ∀ u, Wd (kk m) u → rk (kk m) u < r → aft m from_ u ≠ (t : Int))
theorem aft_in (h : VM m) : ∀ (w : List Nat) (s : Int), StIn m s → Wd (kk m) w → StIn m (aft m s w)
 | [], s, hs, _ => hs
 | i :: w, s, hs, hw => aft_in h w _ (next_eq h hs (hw i (by simp))).2 fun j hj => hw j (by simp [hj])
theorem paths_ret (h : VM m) (hG : GG (kk m) m.Rows.length ≤ 1000000000) {from_ : Int} (hf : StIn m from_) :
  Ret (ref06_Paths m from_) fun r => r.1.length = m.Rows.length ∧ r.2.length = m.Rows.length ∧ ∀ t, t < m.Rows.length → PathAt m from_ r.1 r.2 (GG (kk m) m.Rows.length) t := by
 have l64 := h.len64
 have l1 := h.len1
 have hk := h.kk_pos
 have hk2 := h.kk_le
 have hke := h.kk_eq
 unfold ref06_Paths ref06_Paths_J1
 rw [ret_gd, ret_gd]
 refine ⟨by omega, by omega, ?_⟩
 rw [ret_bind]
 refine Ret.mono ?_ fun r hr => ret_some.2 hr
 refine ret_loop (fun q => ∃ w : List Nat, q.2.2 = w.map Int.ofNat ∧ Wd (kk m) w ∧ w.length ≤ m.Rows.length ∧ rk (kk m) w ≤ GG (kk m) m.Rows.length ∧ q.1.length = m.Rows.length ∧ q.2.1.length = m.Rows.length ∧ ∀ t, t < m.Rows.length → PathAt m from_ q.1 q.2.1 (rk (kk m) w) t)
  (fun q => GG (kk m) m.Rows.length - rk (kk m) (q.2.2.map Int.toNat)) ⟨[], rfl, fun i hi => by simp at hi, by simp, by simp [rk, GG, valR], by simp, by simp, fun t ht => .inr ⟨by simp [ht], by simp [ht], fun u _ hu => by simp [rk, GG, valR] at hu⟩⟩ (by simp only; omega) ?_
 rintro ⟨l, is, wi⟩ ⟨w, h1, hw, hwl, hwr, h2, h3, h4⟩
 simp only at h1 h2 h3 h4
 subst h1
 have hback : ∀ w : List Nat, (w.map Int.ofNat).map Int.toNat = w := fun w => by induction w with | nil => rfl | cons a w ih => simp only [List.map_cons, ih]; rfl
 simp only [hback]
 unfold ref06_Paths_L2
 rw [ret_bif]
 refine ⟨fun hc => ?_, fun hc => ?_⟩
 ·have hlt : w.length < m.Rows.length := by simpa using hc
  have hrk : rk (kk m) w < GG (kk m) m.Rows.length := Nat.lt_of_lt_of_le (rk_lt hw) (GG_mono hlt)
  obtain ⟨n1, n2, n3⟩ := nextW_ok hk hw
  have hnx : ref06_next (w.map Int.ofNat) m.Inputs = some ((nextW (kk m) w).map Int.ofNat) := by rw [← hke]; exact next_word hk (by omega) hw (by omega)
  have fin : ∀ (l2 : List (List Int)) (is2 : List Bool), l2.length = m.Rows.length → is2.length = m.Rows.length → (∀ t, t < m.Rows.length → PathAt m from_ l2 is2 (rk (kk m) w + 1) t) →
    Ret (ref06_Paths_J3 m (w.map Int.ofNat) l2 is2) (LRP (fun s' => (∃ w : List Nat, s'.2.2 = w.map Int.ofNat ∧ Wd (kk m) w ∧ w.length ≤ m.Rows.length ∧ rk (kk m) w ≤ GG (kk m) m.Rows.length ∧ s'.1.length = m.Rows.length ∧ s'.2.1.length = m.Rows.length ∧ ∀ t, t < m.Rows.length → PathAt m from_ s'.1 s'.2.1 (rk (kk m) w) t) ∧ GG (kk m) m.Rows.length - rk (kk m) (s'.2.2.map Int.toNat) < GG (kk m) m.Rows.length - rk (kk m) w)
     fun r => r.1.length = m.Rows.length ∧ r.2.length = m.Rows.length ∧ ∀ t, t < m.Rows.length → PathAt m from_ r.1 r.2 (GG (kk m) m.Rows.length) t) := by
   intro l2 is2 a1 a2 a3
   unfold ref06_Paths_J3
   rw [bdT hnx]
   refine ret_some.2 ⟨⟨_, rfl, n1, by omega, by omega, a1, a2, fun t ht => by rw [n2]; exact a3 t ht⟩, ?_⟩
   rw [hback, n2]
   omega
  have hin := aft_in h w from_ hf hw
  rw [bdT (After_eq h hf w hw), ret_bif]
  have stay : ∀ t, t < m.Rows.length → (aft m from_ w = (t : Int) → is[t]? = some true) → PathAt m from_ l is (rk (kk m) w + 1) t := by
   intro t ht hn
   rcases h4 t ht with ⟨g1, v, g2, g3, g4⟩ | ⟨g1, g2, g3⟩
   ·exact .inl ⟨g1, v, g2, by omega, g4⟩
   ·refine .inr ⟨g1, g2, fun u hu hr e => ?_⟩
    rcases Nat.lt_or_ge (rk (kk m) u) (rk (kk m) w) with q | q
    ·exact g3 u hu q e
    ·have := rk_inj hu hw (by omega)
     subst this
     rw [hn e] at g1
     cases g1
  refine ⟨fun hc => ?_, fun hc => ?_⟩
  ·have hs0 : 0 ≤ aft m from_ w := by simpa using hc
   obtain ⟨s, hs⟩ := Int.eq_ofNat_of_zero_le hs0
   have hsN : s < m.Rows.length := by have := hin.2; omega
   rw [hs]
   rcases h4 s hsN with ⟨g1, v, g2, g3⟩ | ⟨g1, g2, g3⟩
   ·rw [idx_nat, bdT g1]
    simp only [Bool.not_true, cond_false]
    refine fin l is h2 h3 fun t ht => stay t ht fun e => ?_
    have : t = s := by omega
    subst this; exact g1
   ·rw [idx_nat, bdT g1]
    simp only [Bool.not_false, cond_true]
    rw [bdT g1, idx_nat, bdT g2, Int.toNat_natCast]
    refine fin _ _ (by simpa using h2) (by simpa using h3) fun t ht => ?_
    by_cases e : t = s
    ·subst e
     refine .inl ⟨by simp [h3, ht], w, by simp [h2, ht], by omega, hw, hlt, hs, fun u hu he => ?_⟩
     rcases Nat.lt_or_ge (rk (kk m) u) (rk (kk m) w) with q | q
     ·exact (g3 u hu q he).elim
     ·exact q
    ·have := stay t ht fun e2 => by omega
     unfold PathAt at this ⊢
     rw [List.getElem?_set_ne (by omega), List.getElem?_set_ne (by omega)]
     exact this
  ·have hs0 : ¬ 0 ≤ aft m from_ w := by simpa using hc
   exact fin l is h2 h3 fun t ht => stay t ht fun e => by omega
 ·have hlt : ¬ w.length < m.Rows.length := by simpa using hc
  have hle : w.length = m.Rows.length := by omega
  have hrk : rk (kk m) w = GG (kk m) m.Rows.length := by
   have : GG (kk m) m.Rows.length ≤ rk (kk m) w := by rw [← hle]; unfold rk; omega
   omega
  refine ret_some.2 ⟨h2, h3, fun t ht => ?_⟩
  rw [← hrk]
  exact h4 t ht
end
end Go.Own

namespace Go.Own
set_option linter.unusedVariables false
theorem valR_snoc (k : Nat) : ∀ (r : List Nat) (d : Nat), valR k (r ++ [d]) = valR k r + d * k ^ r.length
 | [], d => by simp [valR]
 | e :: r, d => by
  simp only [List.cons_append, valR, valR_snoc k r d, List.length_cons, Nat.pow_succ, Nat.mul_add]
  rw [Nat.mul_left_comm k d, Nat.mul_comm k (k ^ r.length)]
  omega
theorem val_lt {k : Nat} : ∀ (i : Nat) (a b : List Nat), a.length = b.length → Wd k a → Wd k b → ∀ x y, a.take i = b.take i → a[i]? = some x → b[i]? = some y → x < y → valR k a.reverse < valR k b.reverse
 | 0, a, b, hl, ha, hb, x, y, _, h1, h2, h => by
  cases a with
  | nil => simp at h1
  | cons d a =>
   cases b with
   | nil => simp at h2
   | cons e b =>
    simp at h1 h2 hl
    subst h1; subst h2
    rw [List.reverse_cons, List.reverse_cons, valR_snoc, valR_snoc, List.length_reverse, List.length_reverse, ← hl]
    have := valR_lt (k := k) (r := a.reverse) (fun z hz => ha z (by simp at hz; simp [hz]))
    rw [List.length_reverse] at this
    have h3 : (d + 1) * k ^ a.length ≤ e * k ^ a.length := Nat.mul_le_mul_right _ h
    rw [Nat.add_mul, Nat.one_mul] at h3
    omega
 | i + 1, a, b, hl, ha, hb, x, y, ht, h1, h2, h => by
  cases a with
  | nil => simp at h1
  | cons d a =>
   cases b with
   | nil => simp at h2
   | cons e b =>
    simp only [List.take_succ_cons, List.cons.injEq] at ht
    simp at h1 h2 hl
    have ih := val_lt i a b hl (fun z hz => ha z (by simp [hz])) (fun z hz => hb z (by simp [hz])) x y ht.2 h1 h2 h
    rw [List.reverse_cons, List.reverse_cons, valR_snoc, valR_snoc, List.length_reverse, List.length_reverse, ← hl, ht.1]
    omega
theorem less_eq {k : Nat} {a b : List Nat} (ha : Wd k a) (hb : Wd k b) (hl : a.length ≤ 100000) (hl2 : b.length ≤ 100000) : ref06_less (a.map Int.ofNat) (b.map Int.ofNat) = some (if rk k a < rk k b then 1 else 0) := by
  refine Ret.eq ?_
  unfold ref06_less
  rw [ret_bif]
  refine ⟨fun hc => ?_, fun hc => ?_⟩
  · have hne : a.length ≠ b.length := by intro e; simp [e] at hc
    rw [ret_bif]
    refine ⟨fun hc => ?_, fun hc => ?_⟩
    · have : a.length < b.length := by simpa using hc
      exact ret_some.2 (by rw [if_pos (rk_len ha this)])
    · have : ¬ a.length < b.length := by simpa using hc
      have := rk_len hb (u := a) (w := b) (by omega)
      exact ret_some.2 (by rw [if_neg (by omega)])
  · have he : a.length = b.length := by
      have : ((a.length : Nat) : Int) = ((b.length : Nat) : Int) := by simpa using hc
      omega
    rw [ret_bind]
    have hloop : Ret (loop (fun s => ref06_less_L2 (a.map Int.ofNat) (b.map Int.ofNat) s) 0) fun r => match r with
        | .inl _ => a = b
        | .inr r => r = if rk k a < rk k b then 1 else 0 := by
      refine ret_loop (fun q => ∃ i : Nat, q = (i : Int) ∧ i ≤ a.length ∧ a.take i = b.take i) (fun q => 100000 - q.toNat) ⟨0, rfl, Nat.zero_le _, rfl⟩ (by simp) ?_
      rintro q ⟨i, rfl, hi, ht⟩
      unfold ref06_less_L2
      rw [ret_bif]
      refine ⟨fun hc => ?_, fun hc => ?_⟩
      · have hia : i < a.length := by simpa using hc
        have hib : i < b.length := by omega
        have ea : (a.map Int.ofNat)[i]? = some ((a[i] : Nat) : Int) := by simp [hia]
        have eb : (b.map Int.ofNat)[i]? = some ((b[i] : Nat) : Int) := by simp [hib]
        have ea' : a[i]? = some a[i] := List.getElem?_eq_getElem hia
        have eb' : b[i]? = some b[i] := List.getElem?_eq_getElem hib
        rw [idx_nat, bdT ea, idx_nat, bdT eb, ret_bif]
        refine ⟨fun hc => ?_, fun hc => ?_⟩
        · rw [bdT ea, bdT eb, ret_bif]
          refine ⟨fun hc => ?_, fun hc2 => ?_⟩
          · have hlt : a[i] < b[i] := by simpa using hc
            have := val_lt i a b he ha hb _ _ ht ea' eb' hlt
            refine ret_some.2 ?_
            show (1 : Int) = _
            rw [if_pos (by unfold rk; rw [he]; omega)]
          · have h1 : ¬ a[i] < b[i] := by simpa using hc2
            have h2 : a[i] ≠ b[i] := by intro e; simp [e] at hc
            have := val_lt i b a he.symm hb ha _ _ ht.symm eb' ea' (by omega)
            refine ret_some.2 ?_
            show (0 : Int) = _
            rw [if_neg (by unfold rk; rw [he]; omega)]
        · have h2 : a[i] = b[i] := by
            have : ((a[i] : Nat) : Int) = ((b[i] : Nat) : Int) := by simpa using hc
            omega
          rw [w64_in (by omega) (by omega)]
          refine ret_some.2 ⟨⟨i + 1, rfl, hia, ?_⟩, by simp only [Int.toNat_natCast]; omega⟩
          rw [List.take_add_one, List.take_add_one, ht, ea', eb', h2]
      · have : i = a.length := by have : ¬ i < a.length := by simpa using hc
                                  omega
        subst this
        refine ret_some.2 ?_
        show a = b
        rw [List.take_length] at ht
        rw [ht, he, List.take_length]
    refine hloop.mono fun r hr => ?_
    cases r with
    | inl u =>
      have hr : a = b := hr
      subst hr
      exact ret_some.2 (by rw [if_neg (Nat.lt_irrefl _)])
    | inr r => exact ret_some.2 hr
end Go.Own

namespace Go.Own
set_option linter.unusedVariables false
theorem aft_app (m : S_api_Machine) : ∀ (u w : List Nat) (s : Int), aft m s (u ++ w) = aft m (aft m s u) w
 | [], _, _ => rfl
 | i :: u, w, s => by simp only [List.cons_append, aft, aft_app m u w]
theorem rsp_app (m : S_api_Machine) : ∀ (u w : List Nat) (s : Int), rsp m s (u ++ w) = rsp m s u ++ rsp m (aft m s u) w
 | [], _, _ => rfl
 | i :: u, w, s => by simp only [List.cons_append, rsp, aft, rsp_app m u w]
theorem aft_neg (m : S_api_Machine) : ∀ (w : List Nat) (s : Int), s < 0 → aft m s w < 0
 | [], s, h => h
 | i :: w, s, h => by
  simp only [aft, nxE, if_pos h]
  exact aft_neg m w (-1) (by omega)
section
variable {m : S_api_Machine} (h : VM m)
include h
theorem reach_short : ∀ (n : Nat) (u : List Nat), u.length ≤ n → Wd (kk m) u → 0 ≤ aft m 0 u → ∃ w, Wd (kk m) w ∧ w.length < m.Rows.length ∧ w.length ≤ u.length ∧ aft m 0 w = aft m 0 u
 | n, u, hn, hu, h0 => by
  have l1 := h.len1
  rcases Nat.lt_or_ge u.length m.Rows.length with q | q
  ·exact ⟨u, hu, q, Nat.le_refl _, rfl⟩
  ·cases n with
   | zero => omega
   | succ n =>
    have hin0 : StIn m 0 := ⟨by omega, by omega⟩
    have hpre : ∀ i, 0 ≤ aft m 0 (u.take i) ∧ aft m 0 (u.take i) < (m.Rows.length : Int) := by
     intro i
     have e := aft_app m (u.take i) (u.drop i) 0
     rw [List.take_append_drop] at e
     have h1 := aft_in h (u.take i) 0 hin0 fun j hj => hu j (List.mem_of_mem_take hj)
     refine ⟨?_, h1.2⟩
     rcases Int.lt_or_le (aft m 0 (u.take i)) 0 with g | g
     ·have := aft_neg m (u.drop i) _ g
      omega
     ·exact g
    have hex : ∃ i j, i < j ∧ j ≤ m.Rows.length ∧ aft m 0 (u.take i) = aft m 0 (u.take j) := by
     refine Classical.byContradiction fun hno => ?_
     have hnd : ((List.range (m.Rows.length + 1)).map fun i => (aft m 0 (u.take i)).toNat).Nodup := by
      unfold List.Nodup
      rw [List.pairwise_map]
      refine List.Pairwise.imp_of_mem ?_ (List.pairwise_lt_range (n := m.Rows.length + 1))
      intro a b ha hb hab e
      have h1 := (hpre a).1
      have h2 := (hpre b).1
      exact hno ⟨a, b, hab, by have := List.mem_range.1 hb; omega, by omega⟩
     have := nodup_bound m.Rows.length _ hnd fun x hx => by
      obtain ⟨i, _, rfl⟩ := List.mem_map.1 hx
      have := hpre i
      omega
     simp at this
     omega
    obtain ⟨i, j, hij, hj, e⟩ := hex
    have e1 : aft m 0 (u.take i ++ u.drop j) = aft m 0 u := by
     rw [aft_app, e, ← aft_app, List.take_append_drop]
    have hlen : (u.take i ++ u.drop j).length ≤ n := by simp; omega
    obtain ⟨w, w1, w2, w3, w4⟩ := reach_short n (u.take i ++ u.drop j) hlen (fun x hx => by
     rcases List.mem_append.1 hx with q | q
     ·exact hu x (List.mem_of_mem_take q)
     ·exact hu x (List.mem_of_mem_drop q)) (by rw [e1]; exact h0)
    exact ⟨w, w1, w2, by simp at w3; omega, w4.trans e1⟩
end
structure Acc (m : S_api_Machine) (t : Nat) (v : List Nat) : Prop where
 wd : Wd (kk m) v
 len : v.length < m.Rows.length
 aft : aft m 0 v = (t : Int)
 least : ∀ u, Wd (kk m) u → Go.Own.aft m 0 u = (t : Int) → rk (kk m) v ≤ rk (kk m) u
section
variable {m : S_api_Machine} (h : VM m) (hG : GG (kk m) m.Rows.length ≤ 1000000000)
include h hG
def AccOk (m : S_api_Machine) (r : List (List Int) × List Bool) : Prop :=
 r.1.length = m.Rows.length ∧ r.2.length = m.Rows.length ∧ ∀ t, t < m.Rows.length →
  (r.2[t]? = some true ∧ ∃ v : List Nat, r.1[t]? = some (v.map Int.ofNat) ∧ Acc m t v) ∨ (r.2[t]? = some false ∧ ∀ u, Wd (kk m) u → aft m 0 u ≠ (t : Int))
theorem access_ret : Ret (ref06_Access m) (AccOk m) := by
 have l1 := h.len1
 unfold ref06_Access
 rw [ret_bind]
 refine (paths_ret h hG (from_ := 0) ⟨by omega, by omega⟩).mono fun r hr => ret_some.2 ⟨hr.1, hr.2.1, fun t ht => ?_⟩
 rcases hr.2.2 t ht with ⟨g1, v, g2, g3, g4, g5, g6, g7⟩ | ⟨g1, g2, g3⟩
 ·exact .inl ⟨g1, v, g2, ⟨g4, g5, g6, g7⟩⟩
 ·refine .inr ⟨g1, fun u hu e => ?_⟩
  obtain ⟨w, w1, w2, w3, w4⟩ := reach_short h u.length u (Nat.le_refl _) hu (by omega)
  exact g3 w w1 (Nat.lt_of_lt_of_le (rk_lt w1) (GG_mono w2)) (w4.trans e)
end
end Go.Own

namespace Go.Own
set_option linter.unusedVariables false
theorem acc_inj {m : S_api_Machine} {s t : Nat} {v w : List Nat} (hv : Acc m s v) (hw : Acc m t w) (h : rk (kk m) v = rk (kk m) w) : s = t := by
 have := rk_inj hv.wd hw.wd h
 subst this
 have h1 := hv.aft
 have h2 := hw.aft
 omega
def Sorted (m : S_api_Machine) (L : List Nat) : Prop := L.Pairwise fun s t => ∀ v w, Acc m s v → Acc m t w → rk (kk m) v < rk (kk m) w
theorem acc_uniq {m : S_api_Machine} {s : Nat} {v w : List Nat} (hv : Acc m s v) (hw : Acc m s w) : v = w :=
 rk_inj hv.wd hw.wd (Nat.le_antisymm (hv.least w hw.wd hw.aft) (hw.least v hv.wd hv.aft))
section
variable {m : S_api_Machine} (h : VM m) (hG : GG (kk m) m.Rows.length ≤ 1000000000)
include h hG
theorem order_ret : Ret (ref06_Order m) fun o => ∃ L : List Nat, o = L.map Int.ofNat ∧ Sorted m L ∧ (∀ t ∈ L, t < m.Rows.length ∧ ∃ v, Acc m t v) ∧ ∀ t, t < m.Rows.length → t ∉ L → ∀ u, Wd (kk m) u → aft m 0 u ≠ (t : Int) := by
 have l64 := h.len64
 unfold ref06_Order
 rw [ret_bind]
 refine (access_ret h hG).mono ?_
 rintro r ⟨r1, r2, r3⟩
 rw [ret_bind]
 let I : List Nat → Nat → Prop := fun L s => s ≤ m.Rows.length ∧ L.length ≤ s ∧ Sorted m L ∧ (∀ t ∈ L, t < s ∧ ∃ v, Acc m t v) ∧ ∀ t, t < s → t ∉ L → ∀ u, Wd (kk m) u → aft m 0 u ≠ (t : Int)
 have hI : ∀ L s, I L s = (s ≤ m.Rows.length ∧ L.length ≤ s ∧ Sorted m L ∧ (∀ t ∈ L, t < s ∧ ∃ v, Acc m t v) ∧ ∀ t, t < s → t ∉ L → ∀ u, Wd (kk m) u → aft m 0 u ≠ (t : Int)) := fun _ _ => rfl
 suffices hloop : Ret (loop (fun s => ref06_Order_L2 r s.1 s.2) (([] : List Int), 0)) fun o => ∃ L : List Nat, o = L.map Int.ofNat ∧ I L m.Rows.length from by
  refine hloop.mono ?_
  rintro o ⟨L, rfl, q1, q2, q3, q4, q5⟩
  exact ret_some.2 ⟨L, rfl, q3, q4, q5⟩
 refine ret_loop (fun q => ∃ (L : List Nat) (s : Nat), q.1 = L.map Int.ofNat ∧ q.2 = (s : Int) ∧ I L s) (fun q => 1000 - q.2.toNat) ⟨[], 0, rfl, rfl, Nat.zero_le _, Nat.le_refl _, List.Pairwise.nil, fun t ht => by simp at ht, fun t ht => by omega⟩ (by simp) ?_
 rintro ⟨out, q⟩ ⟨L, s, e1, e2, i1, i2, i3, i4, i5⟩
 simp only at e1 e2
 subst e1; subst e2
 unfold ref06_Order_L2
 rw [ret_bif]
 refine ⟨fun hc => ?_, fun hc => ?_⟩
 ·have hs : s < m.Rows.length := by rw [r1] at hc; simpa using hc
  have hw : w64 ((s : Int) + 1) = ((s + 1 : Nat) : Int) := by rw [w64_in (by omega) (by omega)]; rfl
  have fin : ∀ L' : List Nat, I L' (s + 1) → Ret (ref06_Order_J3 (s : Int) (L'.map Int.ofNat)) (LRP (fun s' => (∃ (L : List Nat) (s : Nat), s'.1 = L.map Int.ofNat ∧ s'.2 = (s : Int) ∧ I L s) ∧ 1000 - s'.2.toNat < 1000 - (s : Int).toNat) fun o => ∃ L : List Nat, o = L.map Int.ofNat ∧ I L m.Rows.length) := by
   intro L' hL
   unfold ref06_Order_J3
   rw [hw]
   exact ret_some.2 ⟨⟨L', s + 1, rfl, rfl, hL⟩, by simp only [Int.toNat_natCast]; omega⟩
  rcases r3 s hs with ⟨g1, v, g2, g3⟩ | ⟨g1, g2⟩
  ·rw [idx_nat, bdT g1]
   simp only [Bool.not_true, cond_false]
   rw [ret_bind]
   have inner : Ret (loop (fun k => ref06_Order_L5 r (L.map Int.ofNat) (s : Int) k) 0) fun k => ∃ n : Nat, k = (n : Int) ∧ n ≤ L.length ∧ (∀ t ∈ L.take n, ∀ w, Acc m t w → rk (kk m) w < rk (kk m) v) ∧ ∀ t, L[n]? = some t → ∀ w, Acc m t w → rk (kk m) v < rk (kk m) w := by
    refine ret_loop (fun k => ∃ n : Nat, k = (n : Int) ∧ n ≤ L.length ∧ ∀ t ∈ L.take n, ∀ w, Acc m t w → rk (kk m) w < rk (kk m) v) (fun k => 1000 - k.toNat) ⟨0, rfl, Nat.zero_le _, fun t ht => by simp at ht⟩ (by simp) ?_
    rintro k ⟨n, rfl, n1, n2⟩
    unfold ref06_Order_L5
    rw [ret_bif]
    refine ⟨fun hc => ?_, fun hc => ?_⟩
    ·have hn : n < L.length := by simpa using hc
     have hx : (L.map Int.ofNat)[n]? = some ((L[n] : Nat) : Int) := by simp [hn]
     have hx' : L[n]? = some L[n] := List.getElem?_eq_getElem hn
     obtain ⟨ht, w, hw2⟩ := i4 L[n] (List.getElem_mem hn)
     have hacc : r.1[L[n]]? = some (w.map Int.ofNat) := by
      rcases r3 L[n] (by omega) with ⟨_, w', k2, k3⟩ | ⟨_, k2⟩
      ·rw [k2, acc_uniq k3 hw2]
      ·exact (k2 w hw2.wd hw2.aft).elim
     have hle := hw2.len
     have hlv := g3.len
     rw [idx_nat, bdT hx, idx_nat, bdT hacc, idx_nat, bdT g2, bdT (less_eq hw2.wd g3.wd (by omega) (by omega)), ret_bif]
     by_cases hlt : rk (kk m) w < rk (kk m) v
     ·rw [if_pos hlt]
      refine ⟨fun _ => ?_, fun e => by simp at e⟩
      rw [w64_in (by omega) (by omega)]
      refine ret_some.2 ⟨⟨n + 1, rfl, hn, fun t ht => ?_⟩, by simp only [Int.toNat_natCast]; omega⟩
      rw [List.take_add_one, hx', List.mem_append] at ht
      rcases ht with ht | ht
      ·exact n2 t ht
      ·have : t = L[n] := by simpa using ht
       subst this
       intro w' hw'
       rw [acc_uniq hw' hw2]; exact hlt
     ·rw [if_neg hlt]
      refine ⟨fun e => by simp at e, fun _ => ret_some.2 ⟨n, rfl, n1, n2, fun t ht w' hw' => ?_⟩⟩
      rw [hx'] at ht
      cases ht
      rw [acc_uniq hw' hw2]
      rcases Nat.lt_or_ge (rk (kk m) v) (rk (kk m) w) with q | q
      ·exact q
      ·have := acc_inj hw2 g3 (by omega)
       omega
    ·have hn : ¬ n < L.length := by simpa using hc
     refine ret_some.2 ⟨n, rfl, n1, n2, fun t ht => ?_⟩
     have : n < L.length := (List.getElem?_eq_some_iff.1 ht).1
     omega
   refine inner.mono ?_
   rintro k ⟨n, rfl, n1, n2, n3⟩
   unfold ref06_Order_J4
   have e1 : (((L.map Int.ofNat).drop 0).take ((n : Int).toNat - 0)) = (L.take n).map Int.ofNat := by simp [List.map_take]
   have e2 : (L.map Int.ofNat).drop (n : Int).toNat = (L.drop n).map Int.ofNat := by simp [List.map_drop]
   rw [e1, e2, ret_gd, ret_gd, ret_gd, ret_gd, ret_gd]
   refine ⟨by simp; omega, by simp; omega, by simp; omega, by simp; omega, by simp; omega, ?_⟩
   have e3 : ((L.take n).map Int.ofNat ++ ([(s : Int)] : List Int)) ++ (L.drop n).map Int.ofNat = (L.take n ++ s :: L.drop n).map Int.ofNat := by simp
   rw [e3]
   have hperm : ∀ t, t ∈ L.take n ++ s :: L.drop n ↔ t = s ∨ t ∈ L := by
    intro t
    have : t ∈ L ↔ t ∈ L.take n ∨ t ∈ L.drop n := by rw [← List.mem_append, List.take_append_drop]
    rw [this, List.mem_append, List.mem_cons]
    constructor
    ·rintro (q | q | q)
     ·exact .inr (.inl q)
     ·exact .inl q
     ·exact .inr (.inr q)
    ·rintro (q | q | q)
     ·exact .inr (.inl q)
     ·exact .inl q
     ·exact .inr (.inr q)
   have hdrop : ∀ t ∈ L.drop n, ∀ w, Acc m t w → rk (kk m) v < rk (kk m) w := by
    intro t ht w hw'
    rcases Nat.lt_or_ge n L.length with q | q
    ·rw [List.drop_eq_getElem_cons q] at ht
     have hx' : L[n]? = some L[n] := List.getElem?_eq_getElem q
     obtain ⟨_, w0, hw0⟩ := i4 L[n] (List.getElem_mem q)
     have h0 := n3 L[n] hx' w0 hw0
     rcases List.mem_cons.1 ht with rfl | ht
     ·rw [acc_uniq hw' hw0]; exact h0
     ·have hd : (L.drop n).Pairwise fun s t => ∀ v w, Acc m s v → Acc m t w → rk (kk m) v < rk (kk m) w := List.Pairwise.sublist (List.drop_sublist n L) i3
      rw [List.drop_eq_getElem_cons q] at hd
      exact Nat.lt_trans h0 ((List.pairwise_cons.1 hd).1 t ht w0 w hw0 hw')
    ·rw [List.drop_eq_nil_of_le q] at ht
     cases ht
   refine fin _ ⟨hs, by simp; omega, ?_, fun t ht => ?_, fun t ht hn u hu => ?_⟩
   ·show List.Pairwise _ _
    rw [List.pairwise_append]
    refine ⟨List.Pairwise.sublist (List.take_sublist n L) i3, List.pairwise_cons.2 ⟨fun t ht v' w hv' hw' => ?_, List.Pairwise.sublist (List.drop_sublist n L) i3⟩, ?_⟩
    ·rw [acc_uniq hv' g3]
     exact hdrop t ht w hw'
    ·intro a ha b hb v' w hv' hw'
     have hav := n2 a ha v' hv'
     rcases List.mem_cons.1 hb with rfl | hb
     ·rw [acc_uniq hw' g3]; exact hav
     ·exact Nat.lt_trans hav (hdrop b hb w hw')
   ·rcases (hperm t).1 ht with rfl | ht
    ·exact ⟨by omega, v, g3⟩
    ·have := i4 t ht
     exact ⟨by omega, this.2⟩
   ·have hne : t ≠ s := fun e => hn ((hperm t).2 (.inl e))
    exact i5 t (by omega) (fun q => hn ((hperm t).2 (.inr q))) u hu
  ·rw [idx_nat, bdT g1]
   simp only [Bool.not_false, cond_true]
   refine fin L ⟨hs, by omega, i3, fun t ht => ⟨by have := (i4 t ht).1; omega, (i4 t ht).2⟩, fun t ht hn u hu => ?_⟩
   rcases Nat.lt_or_ge t s with q | q
   ·exact i5 t q hn u hu
   ·have : t = s := by omega
    subst this; exact g2 u hu
 ·have hs : ¬ s < m.Rows.length := by rw [r1] at hc; simpa using hc
  have : s = m.Rows.length := by omega
  subst this
  exact ret_some.2 ⟨L, rfl, i1, i2, i3, i4, i5⟩
end
end Go.Own

namespace Go.Own
set_option linter.unusedVariables false
theorem SEq.refl {m : S_api_Machine} (s : Nat) : SEq m s s := fun _ _ => rfl
theorem SEq.symm {m : S_api_Machine} {s t : Nat} (h : SEq m s t) : SEq m t s := fun w hw => (h w hw).symm
theorem SEq.trans {m : S_api_Machine} {s t u : Nat} (h : SEq m s t) (k : SEq m t u) : SEq m s u := fun w hw => (h w hw).trans (k w hw)
structure FirstOk (m : S_api_Machine) (F : List Nat) : Prop where
 sorted : Sorted m F
 acc : ∀ t ∈ F, t < m.Rows.length ∧ ∃ v, Acc m t v
 dist : F.Pairwise fun s t => ¬ SEq m s t
 all : ∀ t v, t < m.Rows.length → Acc m t v → ∃ s ∈ F, SEq m s t ∧ ∃ w, Acc m s w ∧ rk (kk m) w ≤ rk (kk m) v
section
variable {m : S_api_Machine} (h : VM m) (hG : GG (kk m) m.Rows.length ≤ 1000000000)
include h hG
theorem firsts_ret : Ret (ref09_Firsts m) fun o => ∃ F : List Nat, o = F.map Int.ofNat ∧ FirstOk m F := by
  have l64 := h.len64
  unfold ref09_Firsts ref09_Firsts_J1
  rw [ret_bind]
  refine (classes_ret h.wm).mono ?_
  rintro p ⟨p1, p2⟩
  rw [ret_bind]
  refine (order_ret h hG).mono ?_
  rintro o ⟨L, rfl, s1, s2, s3⟩
  have hLn : L.length ≤ m.Rows.length := by
    refine nodup_bound _ L ?_ fun x hx => (s2 x hx).1
    refine List.Pairwise.imp_of_mem ?_ s1
    intro a b ha hb q e
    subst e
    obtain ⟨v, hv⟩ := (s2 a ha).2
    exact Nat.lt_irrefl _ (q v v hv hv)
  rw [ret_bind]
  refine Ret.mono (Q := fun o => ∃ F : List Nat, o = F.map Int.ofNat ∧ FirstOk m F) ?_ fun o ho => ret_some.2 ho
  let J : List Nat → Nat → Prop := fun F k => k ≤ L.length ∧ F.length ≤ k ∧ F.Sublist (L.take k) ∧ (F.Pairwise fun s t => ¬ SEq m s t) ∧ ∀ t ∈ L.take k, ∃ s ∈ F, SEq m s t ∧ ∀ v w, Acc m s w → Acc m t v → rk (kk m) w ≤ rk (kk m) v
  refine ret_loop (fun q => ∃ (F : List Nat) (k : Nat), q.1 = F.map Int.ofNat ∧ q.2 = (k : Int) ∧ J F k) (fun q => 1000 - q.2.toNat) ⟨[], 0, rfl, rfl, Nat.zero_le _, Nat.le_refl _, List.nil_sublist _, List.Pairwise.nil, fun t ht => by simp at ht⟩ (by simp) ?_
  rintro ⟨out, q⟩ ⟨F, k, e1, e2, j1, j2, j3, j4, j5⟩
  simp only at e1 e2
  subst e1; subst e2
  have cl : ∀ n, n < L.length → ∃ x, p[L[n]!]? = some x := by
    intro n hn
    have hm : L[n]! ∈ L := by rw [getElem!_pos L n hn]; exact List.getElem_mem hn
    have := (s2 _ hm).1
    exact ⟨_, List.getElem?_eq_getElem (by omega)⟩
  have gx : ∀ n, n < L.length → (L.map Int.ofNat)[n]? = some ((L[n]! : Nat) : Int) := by
    intro n hn
    rw [getElem!_pos L n hn]
    simp [hn]
  have gl : ∀ n, n < L.length → L[n]! ∈ L ∧ L[n]! < m.Rows.length := by
    intro n hn
    have hm : L[n]! ∈ L := by rw [getElem!_pos L n hn]; exact List.getElem_mem hn
    exact ⟨hm, (s2 _ hm).1⟩
  unfold ref09_Firsts_L2
  rw [ret_bif]
  refine ⟨fun hc => ?_, fun hc => ?_⟩
  · have hk : k < L.length := by simpa using hc
    have hw : ∀ k : Nat, k < 1000 → w64 ((k : Int) + 1) = ((k + 1 : Nat) : Int) := fun k hk => by rw [w64_in (by omega) (by omega)]; rfl
    rw [ret_bind]
    have inner : Ret (loop (fun s => ref09_Firsts_L5 p (L.map Int.ofNat) (k : Int) s.1 s.2) (0, 0)) fun c => (c = 0 ∧ ∀ n, n < k → ¬ SEq m L[n]! L[k]!) ∨ (c = 1 ∧ ∃ n, n < k ∧ SEq m L[n]! L[k]!) := by
      refine ret_loop (fun q => ∃ n : Nat, q.2 = (n : Int) ∧ n ≤ k ∧ ((q.1 = 0 ∧ ∀ i, i < n → ¬ SEq m L[i]! L[k]!) ∨ (q.1 = 1 ∧ ∃ i, i < k ∧ SEq m L[i]! L[k]!))) (fun q => 1000 - q.2.toNat) ⟨0, rfl, Nat.zero_le _, .inl ⟨rfl, fun i hi => by omega⟩⟩ (by simp) ?_
      rintro ⟨c, q⟩ ⟨n, e2, n1, n2⟩
      simp only at e2 n2
      subst e2
      unfold ref09_Firsts_L5 ref09_Firsts_J6
      rw [ret_bif]
      refine ⟨fun hc => ?_, fun hc => ?_⟩
      · have hn : n < k := by simpa using hc
        obtain ⟨x, hx⟩ := cl n (by omega)
        obtain ⟨y, hy⟩ := cl k hk
        rw [idx_nat, bdT (gx n (by omega)), idx_nat, bdT hx, idx_nat, bdT (gx k hk), idx_nat, bdT hy, hw n (by omega), ret_bif]
        have hs := p2 _ _ (gl n (by omega)).2 (gl k hk).2
        rw [hx, hy, Option.some.injEq] at hs
        refine ⟨fun e => ?_, fun e => ?_⟩
        · have : SEq m L[n]! L[k]! := hs.1 (by simpa using e)
          exact ret_some.2 ⟨⟨n + 1, rfl, hn, .inr ⟨rfl, n, hn, this⟩⟩, by simp only [Int.toNat_natCast]; omega⟩
        · have hno : ¬ SEq m L[n]! L[k]! := fun g => by have := hs.2 g; simp [this] at e
          refine ret_some.2 ⟨⟨n + 1, rfl, hn, ?_⟩, by simp only [Int.toNat_natCast]; omega⟩
          rcases n2 with ⟨c0, n2⟩ | n2
          · refine .inl ⟨c0, fun i hi => ?_⟩
            rcases Nat.lt_or_ge i n with q | q
            · exact n2 i q
            · have : i = n := by omega
              subst this; exact hno
          · exact .inr n2
      · have : n = k := by have : ¬ n < k := by simpa using hc
                           omega
        subst this
        exact ret_some.2 n2
    refine inner.mono fun c hc => ?_
    have hx' : L[k]? = some L[k]! := by rw [getElem!_pos L k hk]; exact List.getElem?_eq_getElem hk
    have htk : L.take (k + 1) = L.take k ++ [L[k]!] := by rw [List.take_add_one, hx']; rfl
    have hmt : ∀ n, n < k → L[n]! ∈ L.take k := by
      intro n hn
      rw [getElem!_pos L n (by omega)]
      have : (L.take k)[n]'(by simp; omega) = L[n] := by simp
      rw [← this]; exact List.getElem_mem _
    unfold ref09_Firsts_J4
    rw [ret_bif]
    have fin : ∀ F' : List Nat, J F' (k + 1) → Ret (ref09_Firsts_J3 (k : Int) (F'.map Int.ofNat)) (LRP (fun s' => (∃ (F : List Nat) (k : Nat), s'.1 = F.map Int.ofNat ∧ s'.2 = (k : Int) ∧ J F k) ∧ 1000 - s'.2.toNat < 1000 - (k : Int).toNat) fun o => ∃ F : List Nat, o = F.map Int.ofNat ∧ FirstOk m F) := by
      intro F' hF
      unfold ref09_Firsts_J3
      rw [hw k (by omega)]
      exact ret_some.2 ⟨⟨F', k + 1, rfl, rfl, hF⟩, by simp only [Int.toNat_natCast]; omega⟩
    rcases hc with ⟨rfl, hc⟩ | ⟨rfl, n, hn, hc⟩
    · refine ⟨fun _ => ?_, fun e => by simp at e⟩
      rw [idx_nat, bdT (gx k hk), ret_gd]
      refine ⟨by simp; omega, ?_⟩
      have e3 : F.map Int.ofNat ++ ([((L[k]! : Nat) : Int)] : List Int) = (F ++ [L[k]!]).map Int.ofNat := by simp
      rw [e3]
      refine fin _ ⟨hk, by simp; omega, by rw [htk]; exact List.Sublist.append j3 (List.Sublist.refl _), ?_, fun t ht => ?_⟩
      · rw [List.pairwise_append]
        refine ⟨j4, List.pairwise_singleton _ _, fun a ha b hb e => ?_⟩
        have hb : b = L[k]! := by simpa using hb
        subst hb
        have ha' : a ∈ L.take k := j3.subset ha
        obtain ⟨i, hi, e4⟩ := List.getElem_of_mem ha'
        have hi' : i < k ∧ i < L.length := by rw [List.length_take] at hi; omega
        have : L[i]! = a := by rw [getElem!_pos L i (by omega), ← e4]; simp
        exact hc i hi'.1 (by rw [this]; exact e)
      · rw [htk, List.mem_append] at ht
        rcases ht with ht | ht
        · obtain ⟨s, q1, q2, q3⟩ := j5 t ht
          exact ⟨s, List.mem_append.2 (.inl q1), q2, q3⟩
        · have : t = L[k]! := by simpa using ht
          subst this
          exact ⟨_, List.mem_append.2 (.inr (by simp)), SEq.refl _, fun v w hv hv' => by rw [acc_uniq hv hv']; exact Nat.le_refl _⟩
    · refine ⟨fun e => by simp at e, fun _ => fin F ⟨hk, by omega, by rw [htk]; exact j3.trans (List.sublist_append_left _ _), j4, fun t ht => ?_⟩⟩
      rw [htk, List.mem_append] at ht
      rcases ht with ht | ht
      · exact j5 t ht
      · have : t = L[k]! := by simpa using ht
        subst this
        obtain ⟨s, q1, q2, q3⟩ := j5 _ (hmt n hn)
        refine ⟨s, q1, q2.trans hc, fun v w hw' hv' => ?_⟩
        obtain ⟨u, hu⟩ := (s2 _ (gl n (by omega)).1).2
        refine Nat.le_trans (q3 u w hw' hu) (Nat.le_of_lt ?_)
        have := List.pairwise_iff_getElem.1 s1 n k (by omega) hk hn
        rw [← getElem!_pos L n (by omega), ← getElem!_pos L k hk] at this
        exact this u v hu hv'
  · have hk : ¬ k < L.length := by simpa using hc
    have : k = L.length := by omega
    subst this
    rw [List.take_length] at j3 j5
    refine ret_some.2 ⟨F, rfl, List.Pairwise.sublist j3 s1, fun t ht => s2 t (j3.subset ht), j4, fun t v ht hv => ?_⟩
    have hmem : t ∈ L := Classical.byContradiction fun g => s3 t ht g v hv.wd hv.aft
    obtain ⟨s, q1, q2, q3⟩ := j5 t hmem
    obtain ⟨w, hw⟩ := (s2 s (j3.subset q1)).2
    exact ⟨s, q1, q2, w, hw, q3 v w hw hv⟩
end
end Go.Own

namespace Go.Own
set_option linter.unusedVariables false
def Rch (m : S_api_Machine) (t : Nat) : Prop := ∃ u, Wd (kk m) u ∧ aft m 0 u = (t : Int)
theorem tr_set {out : List Bool} {j t : Nat} (hj : j < out.length) : (out.set j true)[t]? = some true ↔ t = j ∨ out[t]? = some true := by
 by_cases e : t = j
 ·subst e; simp [hj]
 ·rw [List.getElem?_set_ne (Ne.symm e)]
  exact ⟨.inr, fun q => q.resolve_left e⟩
section
variable {m : S_api_Machine} (h : VM m)
include h
omit h in theorem rch_step {s i : Nat} (hs : Rch m s) (hi : i < kk m) (h0 : 0 ≤ (E m s i).To) : Rch m (E m s i).To.toNat := by
 obtain ⟨u, hu, e⟩ := hs
 refine ⟨u ++ [i], fun j hj => ?_, ?_⟩
 ·rcases List.mem_append.1 hj with q | q
  ·exact hu j q
  ·have : j = i := by simpa using q
   omega
 ·have := (rsp_snoc m u 0 i).2
  rw [e, nxE_nat] at this
  rw [this]
  omega
theorem reached_ret : Ret (ref04_Reached m 0) fun is => is.length = m.Rows.length ∧ ∀ t, t < m.Rows.length → (is[t]? = some true ↔ Rch m t) := by
  have l64 := h.len64
  have l1 := h.len1
  have hk2 := h.kk_le
  have hke := h.kk_eq
  have w1 : ∀ n : Nat, n < 1000 → w64 ((n : Int) + 1) = ((n + 1 : Nat) : Int) := fun n hn => by rw [w64_in (by omega) (by omega)]; rfl
  unfold ref04_Reached ref04_Reached_J1
  rw [ret_gd]
  refine ⟨by omega, ?_⟩
  have e0 : idx (List.replicate ((m.Rows.length : Nat) : Int).toNat false) 0 = some false := by
    show (List.replicate ((m.Rows.length : Nat) : Int).toNat false)[0]? = some false
    rw [List.getElem?_replicate, if_pos (by rw [Int.toNat_natCast]; omega)]
  rw [bdT e0, ret_bind]
  let S : List Bool → Prop := fun out => out.length = m.Rows.length ∧ ∀ t : Nat, out[t]? = some true → Rch m t
  refine Ret.mono (Q := fun is => is.length = m.Rows.length ∧ ∀ t, t < m.Rows.length → (is[t]? = some true ↔ Rch m t)) ?_ fun o ho => ret_some.2 ho
  refine ret_loop (fun q => ∃ r : Nat, q.2 = (r : Int) ∧ r ≤ m.Rows.length ∧ S q.1 ∧ ∀ (u : List Nat) (t : Nat), Wd (kk m) u → u.length ≤ r → aft m 0 u = ((t : Nat) : Int) → q.1[t]? = some true) (fun q => 1000 - q.2.toNat) ⟨0, rfl, Nat.zero_le _, ⟨by simp, fun t ht => ?_⟩, fun u t hu hl e => ?_⟩ (by simp) ?_
  · rw [show (0 : Int).toNat = 0 from rfl, tr_set (by rw [List.length_replicate, Int.toNat_natCast]; omega)] at ht
    rcases ht with rfl | ht
    · exact ⟨[], fun i hi => by simp at hi, rfl⟩
    · rw [List.getElem?_replicate] at ht
      split at ht <;> simp at ht
  · have : u = [] := List.eq_nil_of_length_eq_zero (by omega)
    subst this
    have : t = 0 := by simp [aft] at e; omega
    subst this
    rw [show (0 : Int).toNat = 0 from rfl, tr_set (by rw [List.length_replicate, Int.toNat_natCast]; omega)]
    exact .inl rfl
  rintro ⟨out1, q⟩ ⟨r, e1, r1, r2, r3⟩
  simp only at e1 r2 r3
  subst e1
  unfold ref04_Reached_L2 ref04_Reached_J3
  rw [ret_bif]
  refine ⟨fun hc => ?_, fun hc => ?_⟩
  · have hr : r < m.Rows.length := by simpa using hc
    rw [ret_bind]
    let C : List Bool → Nat → Nat → Prop := fun out s i => S out ∧ (∀ t : Nat, out1[t]? = some true → out[t]? = some true) ∧ ∀ s' i' : Nat, (s' < s ∨ s' = s ∧ i' < i) → i' < kk m → s' < m.Rows.length → out1[s']? = some true → 0 ≤ (E m s' i').To → out[(E m s' i').To.toNat]? = some true
    have round : Ret (loop (fun s => ref04_Reached_L4 m s.1 s.2) (out1, 0)) fun out => C out m.Rows.length 0 := by
      refine ret_loop (fun q => ∃ s : Nat, q.2 = (s : Int) ∧ s ≤ m.Rows.length ∧ C q.1 s 0) (fun q => 1000 - q.2.toNat) ⟨0, rfl, Nat.zero_le _, r2, fun t ht => ht, fun s' i' hh => by omega⟩ (by simp) ?_
      rintro ⟨out3, q⟩ ⟨s, e1, s1, s2⟩
      simp only at e1 s2
      subst e1
      unfold ref04_Reached_L4 ref04_Reached_J5
      rw [ret_bif]
      refine ⟨fun hc => ?_, fun hc => ?_⟩
      · have hs : s < m.Rows.length := by simpa using hc
        rw [ret_bind]
        have row : Ret (loop (fun q => ref04_Reached_L6 m (s : Int) q.1 q.2) (out3, 0)) fun out => C out s (kk m) := by
          refine ret_loop (fun q => ∃ i : Nat, q.2 = (i : Int) ∧ i ≤ kk m ∧ C q.1 s i) (fun q => 1000 - q.2.toNat) ⟨0, rfl, Nat.zero_le _, s2⟩ (by simp) ?_
          rintro ⟨out5, q⟩ ⟨i, e1, i1, c1, c2, c3⟩
          simp only at e1 c1 c2 c3
          subst e1
          unfold ref04_Reached_L6 ref04_Reached_J7
          rw [ret_bif]
          refine ⟨fun hc => ?_, fun hc => ?_⟩
          · have hi : i < kk m := by rw [← hke] at hc; simpa using hc
            have he := h.edgeAt hs hi
            have hl : s < out5.length := by rw [c1.1]; exact hs
            rw [h.edge_eq hs hi, idx_nat, bdT (List.getElem?_eq_getElem hl), ret_bif, w1 i (by omega)]
            have fin : ∀ out : List Bool, C out s (i + 1) → Ret (some (LR.next (out, ((i + 1 : Nat) : Int)) : LR (List Bool × Int) (List Bool))) (LRP (fun s' => (∃ i : Nat, s'.2 = (i : Int) ∧ i ≤ kk m ∧ C s'.1 s i) ∧ 1000 - s'.2.toNat < 1000 - (i : Int).toNat) fun out => C out s (kk m)) := by
              intro out hC
              exact ret_some.2 ⟨⟨i + 1, rfl, hi, hC⟩, by simp only [Int.toNat_natCast]; omega⟩
            have keep : (out1[s]? = some true → 0 ≤ (E m s i).To → out5[(E m s i).To.toNat]? = some true) → C out5 s (i + 1) := by
              intro hh
              refine ⟨c1, c2, fun s' i' g1 g2 g3 g4 g5 => ?_⟩
              by_cases e : s' = s ∧ i' = i
              · obtain ⟨rfl, rfl⟩ := e
                exact hh g4 g5
              · exact c3 s' i' (by omega) g2 g3 g4 g5
            refine ⟨fun hb => ?_, fun hb => ?_⟩
            · have hb' : out5[s]? = some true := by rw [List.getElem?_eq_getElem hl, hb]
              rw [ret_bif]
              refine ⟨fun hc => ?_, fun hc => ?_⟩
              · have h0 : 0 ≤ (E m s i).To := by simpa using hc
                have ht : (E m s i).To.toNat < out5.length := by rw [c1.1]; omega
                obtain ⟨n, hn⟩ := Int.eq_ofNat_of_zero_le h0
                obtain ⟨y, hx⟩ : ∃ y, idx out5 (E m s i).To = some y := by
                  rw [hn] at ht ⊢
                  exact ⟨_, List.getElem?_eq_getElem ht⟩
                rw [bdT hx]
                refine fin _ ⟨⟨by simpa using c1.1, fun t hh => ?_⟩, fun t hh => (tr_set ht).2 (.inr (c2 t hh)), fun s' i' g1 g2 g3 g4 g5 => (tr_set ht).2 ?_⟩
                · rcases (tr_set ht).1 hh with rfl | hh
                  · exact rch_step (c1.2 s hb') hi h0
                  · exact c1.2 t hh
                · by_cases e : s' = s ∧ i' = i
                  · obtain ⟨rfl, rfl⟩ := e
                    exact .inl rfl
                  · exact .inr (c3 s' i' (by omega) g2 g3 g4 g5)
              · have h0 : ¬ 0 ≤ (E m s i).To := by simpa using hc
                exact fin _ (keep fun _ g => (h0 g).elim)
            · have hb' : out5[s]? = some false := by rw [List.getElem?_eq_getElem hl, hb]
              refine fin _ (keep fun g _ => ?_)
              have := c2 s g
              rw [hb'] at this
              cases this
          · have : i = kk m := by have : ¬ i < kk m := by rw [← hke] at hc; simpa using hc
                                  omega
            subst this
            exact ret_some.2 ⟨c1, c2, c3⟩
        refine row.mono ?_
        rintro out ⟨c1, c2, c3⟩
        rw [w1 s (by omega)]
        exact ret_some.2 ⟨⟨s + 1, rfl, hs, c1, c2, fun s' i' g1 g2 g3 => c3 s' i' (by omega) g2 g3⟩, by simp only [Int.toNat_natCast]; omega⟩
      · have : s = m.Rows.length := by have : ¬ s < m.Rows.length := by simpa using hc
                                       omega
        subst this
        exact ret_some.2 s2
    refine round.mono ?_
    rintro out ⟨c1, c2, c3⟩
    rw [w1 r (by omega)]
    refine ret_some.2 ⟨⟨r + 1, rfl, hr, c1, fun u t hu hl e => ?_⟩, by simp only [Int.toNat_natCast]; omega⟩
    rcases Nat.lt_or_ge r u.length with q | q
    · obtain ⟨u', i, rfl⟩ : ∃ u' i, u = u' ++ [i] := by
        rcases List.eq_nil_or_concat u with e | ⟨u', i, e⟩
        · subst e; simp at q
        · exact ⟨u', i, by simpa using e⟩
      have hu' : Wd (kk m) u' := fun j hj => hu j (by simp [hj])
      have hi := hu i (by simp)
      rw [(rsp_snoc m u' 0 i).2] at e
      have h1 := aft_in h u' 0 ⟨by omega, by omega⟩ hu'
      have h0 : 0 ≤ aft m 0 u' := by
        rcases Int.lt_or_le (aft m 0 u') 0 with g | g
        · unfold nxE at e
          rw [if_pos g] at e
          simp only at e
          omega
        · exact g
      obtain ⟨s, hs⟩ := Int.eq_ofNat_of_zero_le h0
      have hsN : s < m.Rows.length := by have := h1.2; omega
      rw [hs, nxE_nat] at e
      have := c3 s i (.inl hsN) hi hsN (r3 u' s hu' (by simp at hl; omega) hs) (by omega)
      rw [e] at this
      simpa using this
    · exact c2 t (r3 u t hu (by omega) e)
  · have : r = m.Rows.length := by have : ¬ r < m.Rows.length := by simpa using hc
                                   omega
    subst this
    refine ret_some.2 ⟨r2.1, fun t ht => ⟨r2.2 t, ?_⟩⟩
    rintro ⟨u, hu, e⟩
    obtain ⟨w, x1, x2, x3, x4⟩ := reach_short h u.length u (Nat.le_refl _) hu (by omega)
    exact r3 w t x1 (by omega) (x4.trans e)
end
end Go.Own

namespace Go.Own
set_option linter.unusedVariables false
structure MinOk (m : S_api_Machine) (F : List Nat) (p : S_api_Machine) : Prop where
 inp : p.Inputs = m.Inputs
 out : p.Outputs = m.Outputs
 len : p.Rows.length = F.length
 row : ∀ k : Nat, k < F.length → ∃ row, p.Rows[k]? = some row ∧ row.length = kk m ∧ ∀ i : Nat, i < kk m → ∃ e, row[i]? = some e ∧ e.Out = (E m F[k]! i).Out ∧
  ((0 ≤ (E m F[k]! i).To ∧ ∃ n : Nat, e.To = (n : Int) ∧ n < F.length ∧ SEq m F[n]! (E m F[k]! i).To.toNat) ∨ ((E m F[k]! i).To = -1 ∧ e.To = -1))
theorem FirstOk.at {m : S_api_Machine} {F : List Nat} (hF : FirstOk m F) {k : Nat} (hk : k < F.length) : F[k]! ∈ F ∧ F[k]! < m.Rows.length ∧ F[k]? = some F[k]! := by
 have hm : F[k]! ∈ F := by rw [getElem!_pos F k hk]; exact List.getElem_mem hk
 exact ⟨hm, (hF.acc _ hm).1, by rw [getElem!_pos F k hk]; exact List.getElem?_eq_getElem hk⟩
theorem FirstOk.uniq {m : S_api_Machine} {F : List Nat} (hF : FirstOk m F) {i j : Nat} (hi : i < F.length) (hj : j < F.length) (h : SEq m F[i]! F[j]!) : i = j := by
 rw [getElem!_pos F i hi, getElem!_pos F j hj] at h
 have := List.pairwise_iff_getElem.1 hF.dist
 rcases Nat.lt_trichotomy i j with q | q | q
 ·exact (this i j hi hj q h).elim
 ·exact q
 ·exact (this j i hj hi q h.symm).elim
theorem FirstOk.len {m : S_api_Machine} {F : List Nat} (hF : FirstOk m F) : F.length ≤ m.Rows.length := by
 refine nodup_bound _ F ?_ fun x hx => (hF.acc x hx).1
 refine List.Pairwise.imp ?_ hF.dist
 intro a b q e
 subst e
 exact q (SEq.refl _)
section
variable {m : S_api_Machine} (h : VM m) (hG : GG (kk m) m.Rows.length ≤ 1000000000) {F : List Nat} (hF : FirstOk m F)
include h hG hF
theorem first_of {s : Nat} (hs : s < m.Rows.length) (hr : Rch m s) : ∃ i, i < F.length ∧ SEq m F[i]! s := by
 obtain ⟨r, _, _, _, r3⟩ := access_ret h hG
 rcases r3 s hs with ⟨_, v, _, hv⟩ | ⟨_, hno⟩
 ·obtain ⟨t, ht, q, _⟩ := hF.all s v hs hv
  obtain ⟨i, hi, e⟩ := List.getElem_of_mem ht
  exact ⟨i, hi, by rw [getElem!_pos F i hi, e]; exact q⟩
 ·obtain ⟨u, hu, e⟩ := hr
  exact (hno u hu e).elim
theorem map_ret (hf : ref09_Firsts m = some (F.map Int.ofNat)) : Ret (ref09_Map m) fun o => o.length = m.Rows.length ∧ ∀ s, s < m.Rows.length → Rch m s → ∃ n : Nat, o[s]? = some (n : Int) ∧ n < F.length ∧ SEq m F[n]! s := by
  have l64 := h.len64
  have hFl := hF.len
  unfold ref09_Map ref09_Map_J1
  rw [ret_bind]
  refine (classes_ret h.wm).mono ?_
  rintro p ⟨p1, p2⟩
  rw [bdT hf, ret_bind]
  refine (reached_ret h).mono ?_
  rintro is ⟨q1, q2⟩
  rw [ret_bind]
  have w1 : ∀ n : Nat, n < 1000 → w64 ((n : Int) + 1) = ((n + 1 : Nat) : Int) := fun n hn => by rw [w64_in (by omega) (by omega)]; rfl
  refine Ret.mono (Q := fun o => o.length = m.Rows.length ∧ ∀ s, s < m.Rows.length → Rch m s → ∃ n : Nat, o[s]? = some (n : Int) ∧ n < F.length ∧ SEq m F[n]! s) ?_ fun o ho => ret_some.2 ho
  refine ret_loop (fun q => ∃ s : Nat, q.2 = (s : Int) ∧ s ≤ m.Rows.length ∧ q.1.length = s ∧ ∀ t : Nat, t < s → Rch m t → ∃ n : Nat, q.1[t]? = some (n : Int) ∧ n < F.length ∧ SEq m F[n]! t) (fun q => 1000 - q.2.toNat) ⟨0, rfl, Nat.zero_le _, rfl, fun t ht => by omega⟩ (by simp) ?_
  rintro ⟨out, q⟩ ⟨s, e1, s1, s2, s3⟩
  simp only at e1 s2 s3
  subst e1
  unfold ref09_Map_L2
  rw [ret_bif]
  refine ⟨fun hc => ?_, fun hc => ?_⟩
  · have hs : s < m.Rows.length := by rw [p1] at hc; simpa using hc
    rw [ret_bind]
    have hl : s < is.length := by omega
    obtain ⟨y, hy⟩ : ∃ y, p[s]? = some y := ⟨_, List.getElem?_eq_getElem (by omega)⟩
    have inner : Ret (loop (fun q => ref09_Map_L5 p (F.map Int.ofNat) is (s : Int) q.1 q.2) ((-1), 0)) fun k => Rch m s → ∃ n : Nat, k = (n : Int) ∧ n < F.length ∧ SEq m F[n]! s := by
      refine ret_loop (fun q => ∃ n : Nat, q.2 = (n : Int) ∧ n ≤ F.length ∧ (Rch m s → (∀ i, i < n → ¬ SEq m F[i]! s) ∨ ∃ i : Nat, q.1 = (i : Int) ∧ i < F.length ∧ SEq m F[i]! s)) (fun q => 1000 - q.2.toNat) ⟨0, rfl, Nat.zero_le _, fun _ => .inl fun i hi => by omega⟩ (by simp) ?_
      rintro ⟨k, q⟩ ⟨n, e1, n1, n2⟩
      simp only at e1 n2
      subst e1
      unfold ref09_Map_L5 ref09_Map_J6
      rw [ret_bif]
      refine ⟨fun hc => ?_, fun hc => ?_⟩
      · have hn : n < F.length := by simpa using hc
        obtain ⟨f1, f2, f3⟩ := hF.at hn
        have hx : (F.map Int.ofNat)[n]? = some ((F[n]! : Nat) : Int) := by rw [List.getElem?_map, f3]; rfl
        obtain ⟨x, hx2⟩ : ∃ x, p[F[n]!]? = some x := ⟨_, List.getElem?_eq_getElem (by omega)⟩
        have hcl := p2 _ _ f2 hs
        rw [hx2, hy, Option.some.injEq] at hcl
        rw [idx_nat, bdT (List.getElem?_eq_getElem hl), ret_bif, w1 n (by omega)]
        have step : ∀ k', (Rch m s → (∀ i, i < n + 1 → ¬ SEq m F[i]! s) ∨ ∃ i : Nat, k' = (i : Int) ∧ i < F.length ∧ SEq m F[i]! s) → Ret (some (LR.next (k', ((n + 1 : Nat) : Int)) : LR (Int × Int) Int)) (LRP (fun s' => (∃ n : Nat, s'.2 = (n : Int) ∧ n ≤ F.length ∧ (Rch m s → (∀ i, i < n → ¬ SEq m F[i]! s) ∨ ∃ i : Nat, s'.1 = (i : Int) ∧ i < F.length ∧ SEq m F[i]! s)) ∧ 1000 - s'.2.toNat < 1000 - (n : Int).toNat) fun k => Rch m s → ∃ n : Nat, k = (n : Int) ∧ n < F.length ∧ SEq m F[n]! s) := by
          intro k' hk'
          exact ret_some.2 ⟨⟨n + 1, rfl, hn, hk'⟩, by simp only [Int.toNat_natCast]; omega⟩
        have grow : ¬ SEq m F[n]! s → Rch m s → (∀ i, i < n + 1 → ¬ SEq m F[i]! s) ∨ ∃ i : Nat, k = (i : Int) ∧ i < F.length ∧ SEq m F[i]! s := by
          intro hno hr
          rcases n2 hr with g | g
          · refine .inl fun i hi => ?_
            rcases Nat.lt_or_ge i n with q | q
            · exact g i q
            · have : i = n := by omega
              subst this; exact hno
          · exact .inr g
        refine ⟨fun hb => ?_, fun hb => step k fun hr => ?_⟩
        · rw [idx_nat, bdT hx, idx_nat, bdT hx2, idx_nat, bdT hy, ret_bif]
          refine ⟨fun e => step _ fun _ => .inr ⟨n, rfl, hn, hcl.1 (by simpa using e)⟩, fun e => step _ (grow fun g => ?_)⟩
          have := hcl.2 g
          simp [this] at e
        · have := (q2 s hs).2 hr
          rw [List.getElem?_eq_getElem hl, hb] at this
          cases this
      · have : n = F.length := by have : ¬ n < F.length := by simpa using hc
                                  omega
        subst this
        refine ret_some.2 fun hr => ?_
        rcases n2 hr with g | g
        · obtain ⟨i, hi, q⟩ := first_of h hG hF hs hr
          exact (g i hi q).elim
        · exact g
    refine inner.mono fun k hk => ?_
    unfold ref09_Map_J4 ref09_Map_J3
    rw [ret_gd, w1 s (by omega)]
    refine ⟨by simp; omega, ret_some.2 ⟨⟨s + 1, rfl, hs, by simp [s2], fun t ht hr => ?_⟩, by simp only [Int.toNat_natCast]; omega⟩⟩
    rcases Nat.lt_or_ge t s with q | q
    · rw [List.getElem?_append_left (show t < out.length from by rw [s2]; exact q)]
      exact s3 t q hr
    · have : t = s := by omega
      subst this
      obtain ⟨n, rfl, g⟩ := hk hr
      exact ⟨n, by rw [← s2, List.getElem?_append_right (Nat.le_refl _)]; simp, g⟩
  · have : s = m.Rows.length := by have : ¬ s < m.Rows.length := by rw [p1] at hc; simpa using hc
                                   omega
    subst this
    exact ret_some.2 ⟨s2, s3⟩
end
end Go.Own

namespace Go.Own
set_option linter.unusedVariables false
section
variable {m : S_api_Machine} (h : VM m) (hG : GG (kk m) m.Rows.length ≤ 1000000000)
include h hG
theorem minimal_ret : Ret (ref09_Minimal m) fun p => ∃ F, FirstOk m F ∧ MinOk m F p := by
  have l64 := h.len64
  have hk2 := h.kk_le
  have hke := h.kk_eq
  obtain ⟨o, hf, F, rfl, hF⟩ := firsts_ret h hG
  have hFl := hF.len
  obtain ⟨mp, hm, m1, m2⟩ := map_ret h hG hF hf
  have w1 : ∀ n : Nat, n < 1000 → w64 ((n : Int) + 1) = ((n + 1 : Nat) : Int) := fun n hn => by rw [w64_in (by omega) (by omega)]; rfl
  unfold ref09_Minimal ref09_Minimal_J1
  rw [bdT hf, bdT hm, ret_bind]
  let RowI : Nat → List S_api_Edge → Nat → Prop := fun k row n => row.length = n ∧ ∀ i : Nat, i < n → ∃ e, row[i]? = some e ∧ e.Out = (E m F[k]! i).Out ∧
    ((0 ≤ (E m F[k]! i).To ∧ ∃ n : Nat, e.To = (n : Int) ∧ n < F.length ∧ SEq m F[n]! (E m F[k]! i).To.toNat) ∨ ((E m F[k]! i).To = -1 ∧ e.To = -1))
  have hrow : ∀ k : Nat, k < F.length → Ret (loop (fun s => ref09_Minimal_L5 m (F.map Int.ofNat) mp (k : Int) s.1 s.2) (([] : List S_api_Edge), 0)) fun row => RowI k row (kk m) := by
    intro k hk
    obtain ⟨f1, f2, f3⟩ := hF.at hk
    have hx : (F.map Int.ofNat)[k]? = some ((F[k]! : Nat) : Int) := by rw [List.getElem?_map, f3]; rfl
    have hrch : Rch m F[k]! := by obtain ⟨_, v, hv⟩ := hF.acc _ f1; exact ⟨v, hv.wd, hv.aft⟩
    refine ret_loop (fun q => ∃ i : Nat, q.2 = (i : Int) ∧ i ≤ kk m ∧ RowI k q.1 i) (fun q => 1000 - q.2.toNat) ⟨0, rfl, Nat.zero_le _, rfl, fun i hi => by omega⟩ (by simp) ?_
    rintro ⟨row, q⟩ ⟨i, e1, i1, i2, i3⟩
    simp only at e1 i2 i3
    subst e1
    unfold ref09_Minimal_L5
    rw [ret_bif]
    refine ⟨fun hc => ?_, fun hc => ?_⟩
    · have hi : i < kk m := by rw [← hke] at hc; simpa using hc
      have he := h.edgeAt f2 hi
      rw [idx_nat, bdT hx, h.edge_eq f2 hi, ret_bif]
      have fin : ∀ to : Int, ((0 ≤ (E m F[k]! i).To ∧ ∃ n : Nat, to = (n : Int) ∧ n < F.length ∧ SEq m F[n]! (E m F[k]! i).To.toNat) ∨ ((E m F[k]! i).To = -1 ∧ to = -1)) →
          Ret (ref09_Minimal_J6 row (i : Int) (E m F[k]! i) to) (LRP (fun s' => (∃ i : Nat, s'.2 = (i : Int) ∧ i ≤ kk m ∧ RowI k s'.1 i) ∧ 1000 - s'.2.toNat < 1000 - (i : Int).toNat) fun row => RowI k row (kk m)) := by
        intro to hto
        unfold ref09_Minimal_J6
        rw [ret_gd, w1 i (by omega)]
        refine ⟨by simp; omega, ret_some.2 ⟨⟨i + 1, rfl, hi, by simp [i2], fun j hj => ?_⟩, by simp only [Int.toNat_natCast]; omega⟩⟩
        rcases Nat.lt_or_ge j i with q | q
        · rw [List.getElem?_append_left (show j < row.length from by rw [i2]; exact q)]
          exact i3 j q
        · have : j = i := by omega
          subst this
          refine ⟨⟨to, (E m F[k]! j).Out⟩, ?_, rfl, hto⟩
          conv => lhs; arg 2; rw [← i2]
          rw [List.getElem?_append_right (Nat.le_refl _)]
          simp
      refine ⟨fun hc => ?_, fun hc => ?_⟩
      · have h0 : 0 ≤ (E m F[k]! i).To := by simpa using hc
        obtain ⟨t, ht⟩ := Int.eq_ofNat_of_zero_le h0
        have htN : t < m.Rows.length := by omega
        have hr : Rch m t := by have := rch_step hrch hi h0; rw [ht] at this; simpa using this
        obtain ⟨n, n1, n2, n3⟩ := m2 t htN hr
        rw [ht, idx_nat, bdT n1]
        exact fin _ (.inl ⟨h0, n, rfl, n2, by rw [ht]; simpa using n3⟩)
      · have h0 : ¬ 0 ≤ (E m F[k]! i).To := by simpa using hc
        have : (E m F[k]! i).To = -1 := by omega
        exact fin _ (.inr ⟨this, this⟩)
    · have : i = kk m := by have : ¬ i < kk m := by rw [← hke] at hc; simpa using hc
                            omega
      subst this
      exact ret_some.2 ⟨i2, i3⟩
  have hloop : Ret (loop (fun s => ref09_Minimal_L2 m (F.map Int.ofNat) mp s.1 s.2) (([] : List (List S_api_Edge)), 0)) fun rows => rows.length = F.length ∧ ∀ k : Nat, k < F.length → ∃ row, rows[k]? = some row ∧ RowI k row (kk m) := by
    refine ret_loop (fun q => ∃ k : Nat, q.2 = (k : Int) ∧ k ≤ F.length ∧ q.1.length = k ∧ ∀ j : Nat, j < k → ∃ row, q.1[j]? = some row ∧ RowI j row (kk m)) (fun q => 1000 - q.2.toNat) ⟨0, rfl, Nat.zero_le _, rfl, fun i hi => by omega⟩ (by simp) ?_
    rintro ⟨rows, q⟩ ⟨k, e1, k1, k2, k3⟩
    simp only at e1 k2 k3
    subst e1
    unfold ref09_Minimal_L2
    rw [ret_bif]
    refine ⟨fun hc => ?_, fun hc => ?_⟩
    · have hk : k < F.length := by simpa using hc
      rw [ret_bind]
      refine (hrow k hk).mono fun row hr => ?_
      unfold ref09_Minimal_J4 ref09_Minimal_J3
      rw [ret_gd, w1 k (by omega)]
      refine ⟨by simp; omega, ret_some.2 ⟨⟨k + 1, rfl, hk, by simp [k2], fun j hj => ?_⟩, by simp only [Int.toNat_natCast]; omega⟩⟩
      rcases Nat.lt_or_ge j k with q | q
      · rw [List.getElem?_append_left (show j < rows.length from by rw [k2]; exact q)]
        exact k3 j q
      · have : j = k := by omega
        subst this
        refine ⟨row, ?_, hr⟩
        conv => lhs; arg 2; rw [← k2]
        rw [List.getElem?_append_right (Nat.le_refl _)]
        simp
    · have : k = F.length := by have : ¬ k < F.length := by simpa using hc
                                omega
      subst this
      exact ret_some.2 ⟨k2, k3⟩
  refine hloop.mono ?_
  rintro rows ⟨r1, r2⟩
  refine ret_some.2 ⟨F, hF, rfl, rfl, r1, fun k hk => ?_⟩
  obtain ⟨row, e, q1, q2⟩ := r2 k hk
  exact ⟨row, e, q1, q2⟩
end
end Go.Own

namespace Go.Own
set_option linter.unusedVariables false
section
variable {m : S_api_Machine} (h : VM m)
include h
theorem acc_ex (hG : GG (kk m) m.Rows.length ≤ 1000000000) {u : List Nat} (hu : Wd (kk m) u) {t : Nat} (ht : aft m 0 u = (t : Int)) : t < m.Rows.length ∧ ∃ v, Acc m t v := by
 have l1 := h.len1
 have hin := aft_in h u 0 ⟨by omega, by omega⟩ hu
 have htN : t < m.Rows.length := by have := hin.2; omega
 obtain ⟨r, _, _, _, r3⟩ := access_ret h hG
 rcases r3 t htN with ⟨_, v, _, hv⟩ | ⟨_, hno⟩
 ·exact ⟨htN, v, hv⟩
 ·exact (hno u hu ht).elim
def Fst (m : S_api_Machine) (u : List Nat) : Prop := Wd (kk m) u ∧ ∃ t : Nat, aft m 0 u = (t : Int) ∧ ∀ (u' : List Nat) (t' : Nat), Wd (kk m) u' → aft m 0 u' = (t' : Int) → SEq m t' t → rk (kk m) u ≤ rk (kk m) u'
theorem words_of (hG : GG (kk m) m.Rows.length ≤ 1000000000) {F : List Nat} (hF : FirstOk m F) : ∃ W : List (List Nat), W.length = F.length ∧ (∀ k, k < F.length → Acc m F[k]! W[k]!) ∧ W.Pairwise (fun u v => rk (kk m) u < rk (kk m) v) ∧ ∀ u, u ∈ W ↔ Fst m u := by
 classical
 have hex : ∀ t : Nat, ∃ v : List Nat, t ∈ F → Acc m t v := fun t => by
  by_cases ht : t ∈ F
  ·obtain ⟨_, v, hv⟩ := hF.acc t ht
   exact ⟨v, fun _ => hv⟩
  ·exact ⟨[], fun q => (ht q).elim⟩
 let g : Nat → List Nat := fun t => (hex t).choose
 have hg : ∀ t, t ∈ F → Acc m t (g t) := fun t ht => (hex t).choose_spec ht
 refine ⟨F.map g, by simp, fun k hk => ?_, ?_, fun u => ?_⟩
 ·have : (F.map g)[k]! = g F[k]! := by rw [getElem!_pos (F.map g) k (by simpa using hk), getElem!_pos F k hk]; simp
  rw [this]
  exact hg _ (hF.at hk).1
 ·rw [List.pairwise_map]
  refine List.Pairwise.imp_of_mem ?_ hF.sorted
  intro a b ha hb q
  exact q _ _ (hg a ha) (hg b hb)
 ·constructor
  ·intro hu
   obtain ⟨s, hs, rfl⟩ := List.mem_map.1 hu
   have ha := hg s hs
   refine ⟨ha.wd, s, ha.aft, fun u' t' hu' ht' q => ?_⟩
   obtain ⟨htN, v', hv'⟩ := acc_ex h hG hu' ht'
   obtain ⟨s', hs', q1, w, hw, hle⟩ := hF.all t' v' htN hv'
   have e : s' = s := by
    obtain ⟨i, hi, ei⟩ := List.getElem_of_mem hs'
    obtain ⟨j, hj, ej⟩ := List.getElem_of_mem hs
    have hij := hF.uniq hi hj (by rw [getElem!_pos F i hi, getElem!_pos F j hj, ei, ej]; exact q1.trans q)
    subst hij
    exact ei.symm.trans ej
   subst e
   rw [acc_uniq ha hw]
   exact Nat.le_trans hle (hv'.least u' hu' ht')
  ·rintro ⟨hu, t, ht, hmin⟩
   obtain ⟨htN, v, hv⟩ := acc_ex h hG hu ht
   obtain ⟨s, hs, q1, w, hw, hle⟩ := hF.all t v htN hv
   have h1 := hmin w s hw.wd hw.aft q1
   have h2 := hv.least u hu ht
   have : u = w := rk_inj hu hw.wd (by omega)
   subst this
   exact List.mem_map.2 ⟨s, hs, (acc_uniq hw (hg s hs)).symm⟩
omit h in
theorem E_of {F : List Nat} {p : S_api_Machine} (hp : MinOk m F p) (hk : kk p = kk m) {k i : Nat} (h1 : k < F.length) (hi : i < kk m) : (E p k i).Out = (E m F[k]! i).Out ∧ ((0 ≤ (E m F[k]! i).To ∧ ∃ n : Nat, (E p k i).To = (n : Int) ∧ n < F.length ∧ SEq m F[n]! (E m F[k]! i).To.toNat) ∨ ((E m F[k]! i).To = -1 ∧ (E p k i).To = -1)) := by
 obtain ⟨row, q1, q2, q3⟩ := hp.row k h1
 obtain ⟨e, e1, e2⟩ := q3 i hi
 have : E p k i = e := by unfold E; rw [q1, Option.getD_some, e1]; rfl
 rw [this]
 exact e2
omit h in
theorem rsp_min {F : List Nat} (hF : FirstOk m F) {p : S_api_Machine} (hp : MinOk m F p) : ∀ (w : List Nat) (k : Nat), k < F.length → Wd (kk m) w → rsp p (k : Int) w = rsp m ((F[k]! : Nat) : Int) w
 | [], _, _, _ => rfl
 | i :: w, k, hk, hw => by
  have hkk : kk p = kk m := by unfold kk; rw [hp.inp]
  have hi := hw i (by simp)
  have hw' : Wd (kk m) w := fun j hj => hw j (by simp [hj])
  obtain ⟨e1, e2⟩ := E_of hp hkk hk hi
  simp only [rsp, nxE_nat, e1, List.cons.injEq, true_and]
  rcases e2 with ⟨h0, n, g1, g2, g3⟩ | ⟨g1, g2⟩
  ·rw [g1, rsp_min hF hp w n g2 hw', g3 w hw']
   congr 1
   omega
  ·rw [g1, g2, rsp_neg _ _ _ (by omega), rsp_neg _ _ _ (by omega)]
theorem first_zero {F : List Nat} (hF : FirstOk m F) : 0 < F.length ∧ F[0]! = 0 := by
  have l1 := h.len1
  have hacc : Acc m 0 [] := ⟨fun i hi => by simp at hi, by show 0 < m.Rows.length; omega, rfl, fun u _ _ => by simp [rk, GG, valR]⟩
  obtain ⟨s, hs, _, w, hw, hle⟩ := hF.all 0 [] (by omega) hacc
  have hw0 : w = [] := rk_inj hw.wd hacc.wd (by have : rk (kk m) ([] : List Nat) = 0 := by simp [rk, GG, valR]
                                                omega)
  subst hw0
  have hs0 : s = 0 := by have := hw.aft; simp [aft] at this; omega
  subst hs0
  obtain ⟨j, hj, ej⟩ := List.getElem_of_mem hs
  refine ⟨by omega, ?_⟩
  rcases Nat.eq_zero_or_pos j with rfl | q
  · rw [getElem!_pos F 0 (by omega)]; exact ej
  · have h0 : 0 < F.length := by omega
    have := List.pairwise_iff_getElem.1 hF.sorted 0 j h0 hj q
    obtain ⟨_, v, hv⟩ := hF.acc F[0] (List.getElem_mem h0)
    have := this v [] hv (by rw [ej]; exact hacc)
    simp [rk, GG, valR] at this
theorem out_to {s : Int} (hs : StIn m s) {i : Nat} (hi : i < kk m) : 0 ≤ (nxE m s i).To ↔ 0 ≤ (nxE m s i).Out := by
 unfold nxE
 split
 ·simp
 ·have := hs.2
  have := h.edgeAt (s := s.toNat) (by omega) hi
  omega
end
theorem sorted_eq {α : Type} (f : α → Nat) : ∀ {l r : List α}, l.Pairwise (fun a b => f a < f b) → r.Pairwise (fun a b => f a < f b) → (∀ x, x ∈ l ↔ x ∈ r) → l = r
 | [], [], _, _, _ => rfl
 | [], b :: r, _, _, h => by have := (h b).2 (by simp); simp at this
 | a :: l, [], _, _, h => by have := (h a).1 (by simp); simp at this
 | a :: l, b :: r, h1, h2, h => by
  rw [List.pairwise_cons] at h1 h2
  have e : a = b := by
   have ha := (h a).1 (by simp)
   have hb := (h b).2 (by simp)
   rcases List.mem_cons.1 ha with q | q
   ·exact q
   ·rcases List.mem_cons.1 hb with q' | q'
    ·exact q'.symm
    ·have := h2.1 a q
     have := h1.1 b q'
     omega
  subst e
  rw [sorted_eq f h1.2 h2.2 fun x => ?_]
  constructor
  ·intro hx
   rcases List.mem_cons.1 ((h x).1 (by simp [hx])) with rfl | q
   ·have := h1.1 x hx; omega
   ·exact q
  ·intro hx
   rcases List.mem_cons.1 ((h x).2 (by simp [hx])) with rfl | q
   ·have := h2.1 x hx; omega
   ·exact q
theorem eqm_tail {a b : S_api_Machine} (he : ∀ w, Wd (kk a) w → rsp a 0 w = rsp b 0 w) {u w : List Nat} (hu : Wd (kk a) u) (hw : Wd (kk a) w) : rsp a (aft a 0 u) w = rsp b (aft b 0 u) w := by
 have := he (u ++ w) fun i hi => by rcases List.mem_append.1 hi with q | q; exact hu i q; exact hw i q
 rw [rsp_app, rsp_app] at this
 exact (List.append_inj this (by rw [rsp_len, rsp_len])).2
section
variable {a b : S_api_Machine} (va : VM a) (vb : VM b) (hab : a.Inputs = b.Inputs)
include va vb hab
theorem eqm_def (he : ∀ w, Wd (kk a) w → rsp a 0 w = rsp b 0 w) {u : List Nat} (hu : Wd (kk a) u) : 0 ≤ aft a 0 u ↔ 0 ≤ aft b 0 u := by
 have l1 := va.len1
 have l2 := vb.len1
 have hk : kk a = kk b := by unfold kk; rw [hab]
 rcases List.eq_nil_or_concat u with e | ⟨u', i, e⟩
 ·subst e; simp [aft]
 ·have e : u = u' ++ [i] := by simpa using e
  subst e
  have hu' : Wd (kk a) u' := fun j hj => hu j (by simp [hj])
  have hi := hu i (by simp)
  have h1 := eqm_tail he hu' (w := [i]) (by simpa [Wd] using hi)
  simp only [rsp, List.cons.injEq, and_true] at h1
  rw [(rsp_snoc a u' 0 i).2, (rsp_snoc b u' 0 i).2, out_to va (aft_in va u' 0 ⟨by omega, by omega⟩ hu') hi, out_to vb (aft_in vb u' 0 ⟨by omega, by omega⟩ (hk ▸ hu')) (hk ▸ hi), h1]
omit va vb in
theorem eqm_seq (he : ∀ w, Wd (kk a) w → rsp a 0 w = rsp b 0 w) {u v : List Nat} (hu : Wd (kk a) u) (hv : Wd (kk a) v) {s t s' t' : Nat} (h1 : aft a 0 u = (s : Int)) (h2 : aft a 0 v = (t : Int)) (h3 : aft b 0 u = (s' : Int)) (h4 : aft b 0 v = (t' : Int)) (q : SEq a s t) : SEq b s' t' := by
 have hk : kk a = kk b := by unfold kk; rw [hab]
 intro w hw
 have hw' : Wd (kk a) w := fun i hi => by rw [hk]; exact hw i hi
 have e1 := eqm_tail he hu hw'
 have e2 := eqm_tail he hv hw'
 rw [h1, h3] at e1
 rw [h2, h4] at e2
 rw [← e1, ← e2]
 exact q w hw'
theorem eqm_fst (he : ∀ w, Wd (kk a) w → rsp a 0 w = rsp b 0 w) {u : List Nat} (q : Fst a u) : Fst b u := by
 have hk : kk a = kk b := by unfold kk; rw [hab]
 obtain ⟨hu, t, ht, hmin⟩ := q
 have h0 := (eqm_def va vb hab he hu).1 (by omega)
 obtain ⟨s, hs⟩ := Int.eq_ofNat_of_zero_le h0
 refine ⟨hk ▸ hu, s, hs, fun u' t' hu' ht' q => ?_⟩
 have hua : Wd (kk a) u' := hk ▸ hu'
 have h1 := (eqm_def va vb hab he hua).2 (by omega)
 obtain ⟨r, hr⟩ := Int.eq_ofNat_of_zero_le h1
 have he' : ∀ w, Wd (kk b) w → rsp b 0 w = rsp a 0 w := fun w hw => (he w (hk ▸ hw)).symm
 rw [← hk]
 exact hmin u' r hua hr (eqm_seq hab.symm he' hu' (hk ▸ hu) ht' hs hr ht q)
theorem min_same (ha : GG (kk a) a.Rows.length ≤ 1000000000) (hb : GG (kk b) b.Rows.length ≤ 1000000000) {F G : List Nat} (hF : FirstOk a F) (hG : FirstOk b G) {p q : S_api_Machine} (hp : MinOk a F p) (hq : MinOk b G q)
  (he : ∀ w, Wd (kk a) w → rsp a 0 w = rsp b 0 w) : p.Rows = q.Rows := by
 have hk : kk a = kk b := by unfold kk; rw [hab]
 have he' : ∀ w, Wd (kk b) w → rsp b 0 w = rsp a 0 w := fun w hw => (he w (hk ▸ hw)).symm
 obtain ⟨W, w1, w2, w3, w4⟩ := words_of va ha hF
 obtain ⟨V, v1, v2, v3, v4⟩ := words_of vb hb hG
 have hWV : W = V := by
  rw [← hk] at v3
  refine sorted_eq (rk (kk a)) w3 v3 fun x => ?_
  rw [w4, v4]
  exact ⟨eqm_fst va vb hab he, eqm_fst vb va hab.symm he'⟩
 subst hWV
 have hlen : F.length = G.length := by omega
 refine List.ext_getElem? fun k => ?_
 rcases Nat.lt_or_ge k F.length with hkF | hkF
 ·obtain ⟨r1, a1, a2, a3⟩ := hp.row k hkF
  obtain ⟨r2, b1, b2, b3⟩ := hq.row k (by omega)
  rw [a1, b1]
  congr 1
  refine List.ext_getElem? fun i => ?_
  rcases Nat.lt_or_ge i (kk a) with hi | hi
  ·obtain ⟨e, c1, c2, c3⟩ := a3 i hi
   obtain ⟨e', d1, d2, d3⟩ := b3 i (by omega)
   rw [c1, d1]
   have hka := w2 k hkF
   have hkb := v2 k (by omega)
   have hWi : Wd (kk a) [i] := by simpa [Wd] using hi
   have ho : (E a F[k]! i).Out = (E b G[k]! i).Out := by
    have := eqm_tail he hka.wd hWi
    rw [hka.aft, hkb.aft] at this
    simpa only [rsp, nxE_nat, List.cons.injEq, and_true] using this
   have hin : Wd (kk a) (W[k]! ++ [i]) := fun j hj => by
    rcases List.mem_append.1 hj with g | g
    ·exact hka.wd j g
    ·exact hWi j g
   have ea : aft a 0 (W[k]! ++ [i]) = (E a F[k]! i).To := by rw [(rsp_snoc a _ 0 i).2, hka.aft, nxE_nat]
   have eb : aft b 0 (W[k]! ++ [i]) = (E b G[k]! i).To := by rw [(rsp_snoc b _ 0 i).2, hkb.aft, nxE_nat]
   have hd := eqm_def va vb hab he hin
   rw [ea, eb] at hd
   have hto : e.To = e'.To := by
    rcases c3 with ⟨x1, n, x2, x3, x4⟩ | ⟨x1, x2⟩
    ·rcases d3 with ⟨y1, n', y2, y3, y4⟩ | ⟨y1, y2⟩
     ·rw [x2, y2]
      have : n = n' := by
       refine hG.uniq (by omega) y3 ?_
       have hna := w2 n x3
       have hnb := v2 n (by omega)
       have := eqm_seq hab he hna.wd hin hna.aft (t := (E a F[k]! i).To.toNat) (t' := (E b G[k]! i).To.toNat) (by rw [ea]; omega) hnb.aft (by rw [eb]; omega) x4
       exact this.trans y4.symm
      rw [this]
     ·omega
    ·rcases d3 with ⟨y1, n', y2, y3, y4⟩ | ⟨y1, y2⟩
     ·omega
     ·rw [x2, y2]
   congr 1
   cases e; cases e'
   simp only at hto c2 d2
   rw [hto, c2, d2, ho]
  ·rw [List.getElem?_eq_none (by omega), List.getElem?_eq_none (by omega)]
 ·rw [List.getElem?_eq_none (by rw [hp.len]; omega), List.getElem?_eq_none (by rw [hq.len]; omega)]
theorem same_min {F G : List Nat} (hF : FirstOk a F) (hG : FirstOk b G) {p q : S_api_Machine} (hp : MinOk a F p) (hq : MinOk b G q) (e : p.Rows = q.Rows) : ∀ w, Wd (kk a) w → rsp a 0 w = rsp b 0 w := by
 have hk : kk a = kk b := by unfold kk; rw [hab]
 intro w hw
 obtain ⟨f1, f2⟩ := first_zero va hF
 obtain ⟨g1, g2⟩ := first_zero vb hG
 have h1 := rsp_min hF hp w 0 f1 hw
 have h2 := rsp_min hG hq w 0 g1 (hk ▸ hw)
 rw [f2] at h1
 rw [g2] at h2
 have hE : ∀ (w : List Nat) (s : Int), rsp p s w = rsp q s w := by
  intro w
  induction w with
  | nil => intro s; rfl
  | cons i w ih =>
   intro s
   have : nxE p s i = nxE q s i := by unfold nxE E; rw [e]
   simp only [rsp, this, ih]
 exact h1.symm.trans ((hE w _).trans h2)
end
end Go.Own

namespace Go.Own
set_option linter.unusedVariables false
set_option linter.unusedSimpArgs false
set_option maxRecDepth 100000 in
theorem lives10 : law10_lives = some true := by kernel_rfl
end Go.Own

namespace Go.Own
set_option linter.unusedVariables false
set_option linter.unusedSimpArgs false
theorem word_mk2 {a b : S_api_Machine} (va : VM a) (vb : VM b) (hab : a.Inputs = b.Inputs) : ∀ (w : List Nat) (p : Nat × Nat), InP a b p → Wd (kk a) w → rsp a (p.1 : Int) w ≠ rsp b (p.2 : Int) w → Mk (kk a) (badP a b) (nxP a b) w.length p
 | [], p, _, _, q => (q rfl).elim
 | i :: w, p, hp, hw, q => by
  have hi := hw i (by simp)
  have hk : kk a = kk b := by unfold kk; rw [hab]
  refine .inr ⟨i, hi, ?_⟩
  by_cases hb : badP a b p i = true
  ·exact .inl hb
  ·have he : (E a p.1 i).Out = (E b p.2 i).Out := by simpa [badP] using hb
   simp only [rsp, nxE_nat, he, ne_eq, List.cons.injEq, true_and] at q
   have x := va.wm.edgeAt hp.1 hi
   have y := vb.wm.edgeAt hp.2 (hk ▸ hi)
   by_cases hc : 0 ≤ (E a p.1 i).To ∧ 0 ≤ (E b p.2 i).To
   ·have hr : nxP a b p i = some ((E a p.1 i).To.toNat, (E b p.2 i).To.toNat) := by unfold nxP; rw [if_pos hc]
    have e1 : (((E a p.1 i).To.toNat : Nat) : Int) = (E a p.1 i).To := by omega
    have e2 : (((E b p.2 i).To.toNat : Nat) : Int) = (E b p.2 i).To := by omega
    refine .inr ⟨_, hr, word_mk2 va vb hab w _ ⟨?_, ?_⟩ (fun j hj => hw j (by simp [hj])) (by simpa only [e1, e2] using q)⟩
    ·show (E a p.1 i).To.toNat < _
     omega
    ·show (E b p.2 i).To.toNat < _
     omega
   ·exfalso
    refine q ?_
    have e1 : (E a p.1 i).To = -1 := by omega
    have e2 : (E b p.2 i).To = -1 := by omega
    rw [e1, e2, rsp_neg _ _ _ (by omega), rsp_neg _ _ _ (by omega)]
theorem none_iff {a b : S_api_Machine} (va : VM a) (vb : VM b) (hab : a.Inputs = b.Inputs) : (∀ u, ¬ TellR (kk a) (badP a b) (nxP a b) (0, 0) u) ↔ ∀ w, Wd (kk a) w → rsp a 0 w = rsp b 0 w := by
 constructor
 ·intro hno w hw
  refine Classical.byContradiction fun hne => ?_
  obtain ⟨u, hu, _⟩ := Mk.tell (word_mk2 va vb hab w (0, 0) ⟨va.len1, vb.len1⟩ hw hne)
  exact hno _ (tell_rev hu)
 ·intro he u hu
  cases u with
  | nil => exact hu
  | cons i u =>
   obtain ⟨r1, _, r3⟩ := tell_rsp va vb hab hu
   refine r1 (he _ fun j hj => r3 j ?_)
   rcases List.mem_append.1 hj with g | g
   ·exact List.mem_cons_of_mem _ (List.mem_reverse.1 g)
   ·rw [List.mem_singleton.1 g]; exact List.mem_cons_self
instance edgeDec : DecidableEq S_api_Edge := fun x y => if h : x.To = y.To ∧ x.Out = y.Out then isTrue (by cases x; cases y; simp_all) else isFalse (by rintro rfl; exact h ⟨rfl, rfl⟩)
theorem edge_eta {x y : S_api_Edge} : ((x.To == y.To) && ((x.Out == y.Out) && true)) = decide (x = y) := by
 cases x; cases y
 simp only [S_api_Edge.mk.injEq, Bool.and_true, Bool.decide_and]
 rfl
theorem same04 {p q : S_api_Machine} (hi : p.Inputs = q.Inputs) (ho : p.Outputs = q.Outputs) (hp : p.Rows.length ≤ 1000) (hr : ∀ r ∈ p.Rows, r.length ≤ 1000) : ref04_Same p q = some (decide (p.Rows = q.Rows)) := by
  have w1 : ∀ n : Nat, n < 1000 → w64 ((n : Int) + 1) = ((n + 1 : Nat) : Int) := fun n hn => by rw [w64_in (by omega) (by omega)]; rfl
  refine Ret.eq ?_
  unfold ref04_Same
  rw [hi, ho]
  simp only [bne_self_eq_false, cond_false]
  rw [ret_bif]
  refine ⟨fun hc => ?_, fun hc => ?_⟩
  · refine ret_some.2 ?_
    rw [decide_eq_false]
    intro e
    simp [e] at hc
  · have hl : p.Rows.length = q.Rows.length := by
      have : ((p.Rows.length : Nat) : Int) = ((q.Rows.length : Nat) : Int) := by simpa using hc
      omega
    rw [ret_bind]
    have hloop : Ret (loop (fun s => ref04_Same_L2 p q s) 0) fun r => match r with
        | .inl _ => p.Rows = q.Rows
        | .inr v => v = false ∧ p.Rows ≠ q.Rows := by
      refine ret_loop (fun k => ∃ s : Nat, k = (s : Int) ∧ s ≤ p.Rows.length ∧ ∀ j : Nat, j < s → p.Rows[j]? = q.Rows[j]?) (fun k => 2000 - k.toNat) ⟨0, rfl, Nat.zero_le _, fun j hj => by omega⟩ (by simp) ?_
      rintro k ⟨s, rfl, s1, s2⟩
      unfold ref04_Same_L2
      rw [ret_bif]
      refine ⟨fun hc => ?_, fun hc => ?_⟩
      · have hs : s < p.Rows.length := by simpa using hc
        have hx : p.Rows[s]? = some p.Rows[s] := List.getElem?_eq_getElem hs
        have hy : q.Rows[s]? = some (q.Rows[s]'(by omega)) := List.getElem?_eq_getElem (by omega)
        have hrl := hr _ (List.getElem_mem hs)
        rw [idx_nat, bdT hx, idx_nat, bdT hy, ret_bif]
        have neq : p.Rows[s] ≠ q.Rows[s]'(by omega) → p.Rows ≠ q.Rows := fun g e => g (by
          have : p.Rows[s]? = q.Rows[s]? := by rw [e]
          rw [hx, hy] at this
          exact Option.some.inj this)
        refine ⟨fun hc => ?_, fun hc => ?_⟩
        · refine ret_some.2 ⟨rfl, neq fun e => ?_⟩
          rw [e] at hc
          simp at hc
        · have hll : p.Rows[s].length = (q.Rows[s]'(by omega)).length := by
            have : ((p.Rows[s].length : Nat) : Int) = (((q.Rows[s]'(by omega)).length : Nat) : Int) := by simpa using hc
            omega
          rw [ret_bind]
          have inner : Ret (loop (fun i => ref04_Same_L4 p q (s : Int) i) 0) fun r => match r with
              | .inl _ => p.Rows[s] = q.Rows[s]'(by omega)
              | .inr v => v = false ∧ p.Rows[s] ≠ q.Rows[s]'(by omega) := by
            refine ret_loop (fun k => ∃ i : Nat, k = (i : Int) ∧ i ≤ p.Rows[s].length ∧ ∀ j : Nat, j < i → p.Rows[s][j]? = (q.Rows[s]'(by omega))[j]?) (fun k => 2000 - k.toNat) ⟨0, rfl, Nat.zero_le _, fun j hj => by omega⟩ (by simp) ?_
            rintro k ⟨i, rfl, i1, i2⟩
            unfold ref04_Same_L4
            rw [idx_nat, bdT hx, ret_bif]
            refine ⟨fun hc => ?_, fun hc => ?_⟩
            · have hi : i < p.Rows[s].length := by simpa using hc
              have ex : p.Rows[s][i]? = some p.Rows[s][i] := List.getElem?_eq_getElem hi
              have ey : (q.Rows[s]'(by omega))[i]? = some ((q.Rows[s]'(by omega))[i]'(by omega)) := List.getElem?_eq_getElem (by omega)
              rw [bdT hx, idx_nat, bdT ex, idx_nat, bdT hy, idx_nat, bdT ey, edge_eta, ret_bif]
              refine ⟨fun hc => ?_, fun hc => ?_⟩
              · have hne : p.Rows[s][i] ≠ (q.Rows[s]'(by omega))[i]'(by omega) := by simpa using hc
                refine ret_some.2 ⟨rfl, fun e => hne ?_⟩
                have : p.Rows[s][i]? = (q.Rows[s]'(by omega))[i]? := by rw [e]
                rw [ex, ey] at this
                exact Option.some.inj this
              · have he : p.Rows[s][i] = (q.Rows[s]'(by omega))[i]'(by omega) := by simpa using hc
                rw [w1 i (by omega)]
                refine ret_some.2 ⟨⟨i + 1, rfl, hi, fun j hj => ?_⟩, by simp only [Int.toNat_natCast]; omega⟩
                rcases Nat.lt_or_ge j i with g | g
                · exact i2 j g
                · have : j = i := by omega
                  subst this
                  rw [ex, ey, he]
            · have : i = p.Rows[s].length := by have : ¬ i < p.Rows[s].length := by simpa using hc
                                                omega
              subst this
              refine ret_some.2 (show p.Rows[s] = q.Rows[s]'(by omega) from List.ext_getElem? fun j => ?_)
              rcases Nat.lt_or_ge j p.Rows[s].length with g | g
              · exact i2 j g
              · rw [List.getElem?_eq_none g, List.getElem?_eq_none (by omega)]
          refine inner.mono fun r hr => ?_
          cases r with
          | inl u =>
            have hr : p.Rows[s] = q.Rows[s]'(by omega) := hr
            unfold ref04_Same_J3
            rw [w1 s (by omega)]
            refine ret_some.2 ⟨⟨s + 1, rfl, hs, fun j hj => ?_⟩, by simp only [Int.toNat_natCast]; omega⟩
            rcases Nat.lt_or_ge j s with g | g
            · exact s2 j g
            · have : j = s := by omega
              subst this
              rw [hx, hy, hr]
          | inr v => exact ret_some.2 ⟨hr.1, neq hr.2⟩
      · have : s = p.Rows.length := by have : ¬ s < p.Rows.length := by simpa using hc
                                       omega
        subst this
        refine ret_some.2 (show p.Rows = q.Rows from List.ext_getElem? fun j => ?_)
        rcases Nat.lt_or_ge j p.Rows.length with g | g
        · exact s2 j g
        · rw [List.getElem?_eq_none g, List.getElem?_eq_none (by omega)]
    refine hloop.mono fun r hr => ?_
    cases r with
    | inl u =>
      have hr : p.Rows = q.Rows := hr
      exact ret_some.2 (by rw [decide_eq_true hr])
    | inr v => exact ret_some.2 (by rw [hr.1, decide_eq_false hr.2])
theorem w_of (y : S_law01_W) (hy : ∀ v ∈ y.Symbols, 0 ≤ v ∧ v ≤ 65535) {k : Nat} (hk : 1 ≤ k) (hk2 : k ≤ 1000) : Ret (law01_W_Of y (k : Int)) fun o => ∃ w : List Nat, o = w.map Int.ofNat ∧ Wd k w ∧ w.length ≤ 12 := by
 unfold law01_W_Of law01_W_Of_J1
 rw [ret_bind]
 refine Ret.mono (Q := fun o => ∃ w : List Nat, o = w.map Int.ofNat ∧ Wd k w ∧ w.length ≤ 12) ?_ fun o ho => ret_some.2 ho
 refine ret_loop (fun q => ∃ (w : List Nat) (i : Nat), q.1 = w.map Int.ofNat ∧ q.2 = (i : Int) ∧ Wd k w ∧ w.length = i ∧ i ≤ 12) (fun q => 20 - q.2.toNat) ⟨[], 0, rfl, rfl, fun i hi => by simp at hi, rfl, by omega⟩ (by simp) ?_
 rintro ⟨o, q⟩ ⟨w, i, e1, e2, h1, h2, h3⟩
 simp only at e1 e2
 subst e1; subst e2
 unfold law01_W_Of_L2
 rw [ret_bif]
 refine ⟨fun hc => ?_, fun hc => ret_some.2 ⟨w, rfl, h1, by omega⟩⟩
 rw [ret_bif]
 refine ⟨fun hc2 => ?_, fun hc => ret_some.2 ⟨w, rfl, h1, by omega⟩⟩
 have hi : i < y.Symbols.length := by simpa using hc
 have hi2 : i < 12 := by simp at hc2; omega
 have hx := hy _ (List.getElem_mem hi)
 rw [idx_nat, bdT (List.getElem?_eq_getElem hi), ret_gd, ret_gd]
 have hv : Int.tmod (w64 y.Symbols[i]) (k : Int) = ((y.Symbols[i].toNat % k : Nat) : Int) := by
  rw [w64_in (by omega) (by omega)]
  obtain ⟨n, hn⟩ := Int.eq_ofNat_of_zero_le hx.1
  rw [hn]
  rfl
 rw [hv, w64_in (by omega) (by omega)]
 refine ⟨by omega, by simp; omega, ret_some.2 ⟨⟨w ++ [y.Symbols[i].toNat % k], i + 1, by simp, rfl, fun j hj => ?_, by simp [h2], by omega⟩, by simp only; omega⟩⟩
 rcases List.mem_append.1 hj with g | g
 ·exact h1 j g
 ·rw [List.mem_singleton.1 g]
  exact Nat.mod_lt _ (by omega)
theorem GG_small {k n : Nat} (hk : k ≤ 16) (hn : n ≤ 6) : GG k n ≤ 1000000000 := by
 have h1 : GG k n ≤ GG k 6 := GG_mono hn
 have hp : ∀ j, k ^ j ≤ 16 ^ j := fun j => Nat.pow_le_pow_left hk j
 have := hp 0; have := hp 1; have := hp 2; have := hp 3; have := hp 4; have := hp 5
 simp only [GG] at h1
 omega
theorem equal_true (x : S_law10_D) (hx : DOk x) (y : S_law01_W) (hy : ∀ v ∈ y.Symbols, 0 ≤ v ∧ v ≤ 65535) : law10_EqualsEqual x y = some true := by
 obtain ⟨⟨a, b⟩, ed, va, vb, hab, la, lb⟩ := d_of hx
 simp only at va vb hab la lb
 have hk : kk a = kk b := by unfold kk; rw [hab]
 have h0 : bothS a b = 0 := both_of va vb hab
 obtain ⟨⟨w, is, e⟩, ew, he, hd⟩ := Differ_ret h0
 simp only at he hd
 subst he
 have ga := GG_small va.kk_le la
 have gb := GG_small vb.kk_le lb
 obtain ⟨p, ep, F, hF, hp⟩ := minimal_ret va ga
 obtain ⟨q, eq, G, hG, hq⟩ := minimal_ret vb gb
 obtain ⟨ow, eo, v, rfl, hv, hvl⟩ := w_of y hy va.kk_pos (by have := va.kk_le; omega)
 rw [va.kk_eq] at eo
 have hsame : (p.Rows = q.Rows) ↔ is = false := by
  rw [show (is = false) ↔ ∀ u, ¬ TellR (kk a) (badP a b) (nxP a b) (0, 0) u from ?_, none_iff va vb hab]
  ·exact ⟨same_min va vb hab hF hG hp hq, min_same va vb hab ga gb hF hG hp hq⟩
  ·rcases hd with ⟨u, t1, _, _, hi⟩ | ⟨t1, _, hi⟩
   ·rw [hi]; exact ⟨fun h => (by cases h), fun h => (h u t1).elim⟩
   ·rw [hi]; exact ⟨fun _ => t1, fun _ => rfl⟩
 have hF' := hF.len
 have l64 := va.len64
 have es : ref04_Same p (S_api_Machine.mk q.Inputs p.Outputs q.Rows) = some (!is) := by
  rw [same04 (p := p) (q := S_api_Machine.mk q.Inputs p.Outputs q.Rows) (by rw [hp.inp, hq.inp, hab]) rfl (by rw [hp.len]; omega) fun r hr => ?_]
  ·congr 1
   cases is with
   | false => exact decide_eq_true (hsame.2 rfl)
   | true => exact decide_eq_false fun g => by have := hsame.1 g; cases this
  ·obtain ⟨k, hk1, e1⟩ := List.getElem_of_mem hr
   obtain ⟨row, r1, r2, _⟩ := hp.row k (by rw [← hp.len]; exact hk1)
   rw [List.getElem?_eq_getElem hk1, e1] at r1
   have := Option.some.inj r1
   subst this
   have := va.kk_le
   omega
 have eE : equals_Equal a b = some (!is, 0) := by
  unfold equals_Equal
  rw [bdT ew]
  rfl
 unfold law10_EqualsEqual
 rw [bdT ed]
 simp only
 rw [bdT eo, bdT eE, bdT ep, bdT eq]
 simp only [beq_self_eq_true, cond_true]
 rw [bdT es]
 simp only [beq_self_eq_true, cond_true, lives10, Option.bind_some]
 cases is with
 | true => rfl
 | false =>
  have hrun := (none_iff va vb hab).1 (by
   rcases hd with ⟨u, t1, _, _, hi⟩ | ⟨t1, _, hi⟩
   ·cases hi
   ·exact t1) v hv
  have sa : StIn a 0 := ⟨by omega, by have := va.len1; omega⟩
  have sb : StIn b 0 := ⟨by omega, by have := vb.len1; omega⟩
  simp only [Bool.not_false, Bool.not_true, cond_false]
  rw [bdT (run_eq va sa v hv (by omega)), bdT (run_eq vb sb v (hk ▸ hv) (by omega)), hrun, bdT (same_eq _ _ (by rw [rsp_len]; omega) (by rw [rsp_len]; omega)), decide_eq_true rfl]
  rfl
end Go.Own

namespace Go.Own
def Ok5 (a : Int) : Prop := (0) ≤ a ∧ a ≤ 255
def Ok4 (_ : Bool) : Prop := True
def Ok102 (a : Int) : Prop := (0) ≤ a ∧ a ≤ 65535
def Ok22 (l : List Int) : Prop := ∀ a ∈ l, Ok102 a
def Ok24 (a : S_law04_M) : Prop := Ok5 a.States ∧ Ok5 a.Inputs ∧ Ok5 a.Outputs ∧ Ok4 a.Partial ∧ Ok22 a.Edges
def Ok65 (a : Arr2 Int) : Prop := Ok5 a.e0 ∧ Ok5 a.e1
def Ok3 (a : Int) : Prop := (-9223372036854775808) ≤ a ∧ a ≤ 9223372036854775807
def Ok67 (a : S_api_Edge) : Prop := Ok3 a.To ∧ Ok3 a.Out
def Ok69 (a : S_law10_D) : Prop := Ok24 a.M ∧ Ok24 a.X ∧ Ok4 a.Alike ∧ Ok65 a.Swap ∧ Ok65 a.Place ∧ Ok67 a.To
def Ok25 (l : List Int) : Prop := ∀ a ∈ l, Ok5 a
def Ok80 (a : S_law01_W) : Prop := Ok25 a.Symbols
end Go.Own

namespace Go.Own
theorem law_true {x : S_law10_D} {y : S_law01_W} (hx : Ok69 x) (hy : Ok80 y) : law10_EqualsEqual x y = some true := by
 obtain ⟨hm, hx2, _, hs, hp, _⟩ := hx
 exact equal_true x ⟨⟨hm.1.1, hm.2.1.1, hm.2.2.1.1, fun v hv => hm.2.2.2.2 v hv⟩, ⟨hx2.1.1, hx2.2.1.1, hx2.2.2.1.1, fun v hv => hx2.2.2.2.2 v hv⟩, hs.1, hs.2, hp.1, hp.2⟩ y fun v hv => ⟨(hy v hv).1, by have := (hy v hv).2; omega⟩
end Go.Own

namespace Go.Own
def allS (w : World) : Still := fun b o => cellAt w.heap b o
theorem cell_at {w : World} {a : Addr} {v : Value} (h : w.cell? a = some v) : a.spot = none ∧ cellAt w.heap a.block a.off = some v := by
 unfold World.cell? at h
 unfold cellAt
 split at h
 ·rename_i c ty fr he
  rw [he]
  split at h
  ·cases h
  ·rename_i hs
   exact ⟨by simpa using hs, h⟩
 ·cases h
section
variable {H : Type} {enc : TypeId × Value → H} {P : Program} {w : World} {base : Nat} {spare : Nat → Bool} {held : Bool}
theorem cells_lie {a : Addr} {n : Nat} {cs : List Value} (h : w.cells? base a n = some cs) (hn : 0 < n) : a.spot = none ∧ cs.length = n ∧ Lies (allS w) a.block a.off cs := by
 obtain ⟨_, h2, h3⟩ := World.cells?_some h
 have h0 : a.spot = none := by
  have h4 := h3 0 hn
  cases hc : cs[0]? with
  | none => rw [List.getElem?_eq_none_iff] at hc; omega
  | some v =>
   rw [hc] at h4
   have := (cell_at h4).1
   simpa [Addr.add] using this
 refine ⟨h0, h2, fun j v hj => ?_⟩
 have hlt := (List.getElem?_eq_some_iff.1 hj).1
 have h4 := h3 j (by omega)
 rw [hj] at h4
 have q := (cell_at h4).2
 unfold Addr.add at q
 split at q
 ·rename_i e; subst e; exact q
 ·exact q
theorem reps_snoc {S : Still} : ∀ {bs : List A} {cs : List Value} {a : A} {c : List Value}, Reps S bs cs → Rep S a c → Reps S (bs ++ [a]) (cs ++ c)
 | [], cs, a, c, h1, h2 => by
  simp only [Reps] at h1
  subst h1
  simp only [List.nil_append, Reps]
  exact ⟨c, [], by simp, h2, rfl⟩
 | x :: bs, cs, a, c, h1, h2 => by
  simp only [Reps] at h1
  obtain ⟨c1, c2, rfl, r1, r2⟩ := h1
  simp only [List.cons_append, Reps]
  exact ⟨c1, c2 ++ c, by simp, r1, reps_snoc r2 h2⟩
theorem lies_app {S : Still} {b o : Nat} {c1 c2 : List Value} (h1 : Lies S b o c1) (h2 : Lies S b (o + c1.length) c2) : Lies S b o (c1 ++ c2) := by
 intro j v hj
 rcases Nat.lt_or_ge j c1.length with q | q
 ·rw [List.getElem?_append_left q] at hj
  exact h1 j v hj
 ·rw [List.getElem?_append_right q] at hj
  have := h2 _ _ hj
  rwa [show o + c1.length + (j - c1.length) = o + j by omega] at this
theorem slice_rep {α : Type} {t e sz : Nat} (f : α → A) (ok : α → Prop) (ht : P.underlying t = some (.slice e)) (hsz : P.cellsOf e = sz) (h0 : 0 < sz) (hf : ∀ a, (f a).size = sz)
    (hel : ∀ n cs x, DataW.trod enc P w base spare held n e cs = some x → ∃ a, ok a ∧ Rep (allS w) (f a) cs)
    {fuel : Nat} {cs : List Value} {x : DataW H × List MemPlace} (h : DataW.trod enc P w base spare held fuel t cs = some x) : ∃ l : List α, (∀ a ∈ l, ok a) ∧ Rep (allS w) (.sl sz false (l.map f)) cs := by
  rcases DataW.trod_slice ht h with ⟨rfl, _⟩ | ⟨a, len, cap, elems, rest, n, _, rfl, _, _, hlc, _, hlen, hall, _, _⟩
  · refine ⟨[], by simp, ?_⟩
    simp only [Rep, List.map_nil, List.length_nil]
    exact ⟨none, 0, rfl, by simp, Nat.le_refl _, by simp, .inl trivial⟩
  · have key : ∀ k, k ≤ len → ∃ (l : List α) (cells : List Value), l.length = k ∧ (∀ a ∈ l, ok a) ∧ Reps (allS w) (l.map f) cells ∧ cells.length = k * sz ∧ (0 < k → a.spot = none) ∧ Lies (allS w) a.block a.off cells := by
      intro k
      induction k with
      | zero => intro _; exact ⟨[], [], rfl, by simp, by simp [Reps], by simp, by simp, fun j v h => by simp at h⟩
      | succ k ih =>
        intro hk
        obtain ⟨l, cells, q1, q2, q3, q4, q5, q6⟩ := ih (by omega)
        have hk' := hall k (by omega)
        have hsome : elems[k]? = some elems[k] := List.getElem?_eq_getElem (by omega)
        rw [hsome, Option.bind_eq_some_iff, hsz] at hk'
        obtain ⟨c, hc, htr⟩ := hk'
        obtain ⟨y, hy, hr⟩ := hel _ _ _ htr
        obtain ⟨g1, g2, g3⟩ := cells_lie hc h0
        refine ⟨l ++ [y], cells ++ c, by simp [q1], ?_, ?_, ?_, ?_, ?_⟩
        · intro z hz
          rcases List.mem_append.1 hz with q | q
          · exact q2 z q
          · simp only [List.mem_cons, List.not_mem_nil, or_false] at q; subst q; exact hy
        · rw [List.map_append]; exact reps_snoc q3 hr
        · rw [List.length_append, q4, g2, Nat.succ_mul]
        · intro _
          rcases Nat.eq_zero_or_pos k with rfl | hk0
          · simpa [Addr.add] using g1
          · exact q5 hk0
        · refine lies_app q6 ?_
          rw [q4]
          unfold Addr.add at g3
          split at g3
          · rename_i e0
            rw [e0, Nat.add_zero]
            exact g3
          · exact g3
    obtain ⟨l, cells, q1, q2, q3, q4, q5, q6⟩ := key len (Nat.le_refl _)
    refine ⟨l, q2, ?_⟩
    simp only [Rep, List.length_map]
    refine ⟨some a, cap, by rw [q1], by simp, by omega, ?_, ?_⟩
    · intro y hy
      obtain ⟨z, _, rfl⟩ := List.mem_map.1 hy
      exact hf z
    · rcases Nat.eq_zero_or_pos len with rfl | hl
      · left; rw [List.length_eq_zero_iff.1 q1]; rfl
      · right
        refine ⟨a.block, a.off, cells, ?_, q3, q6⟩
        have := q5 hl
        obtain ⟨b, o, s⟩ := a
        simp only at this
        subst this
        rfl
theorem int_rep {t : Nat} {k : IntKind} {lo hi : Int} (ht : P.underlying t = some (.int k)) (hlo : k.min = lo) (hhi : k.max = hi) {fuel : Nat} {cs : List Value} {x : DataW H × List MemPlace} (h : DataW.trod enc P w base spare held fuel t cs = some x) :
  ∃ n : Int, (lo ≤ n ∧ n ≤ hi) ∧ cs = [.int k n] ∧ Rep (allS w) (.atom (.int k n)) cs := by
 obtain ⟨n, rfl, _, hw⟩ := DataW.trod_int ht h
 simp only [Lit.wf, Bool.and_eq_true, decide_eq_true_eq, hlo, hhi] at hw
 exact ⟨n, hw, rfl, by simp only [Rep]; exact ⟨trivial, rfl⟩⟩
theorem bool_rep {t : Nat} (ht : P.underlying t = some .bool) {fuel : Nat} {cs : List Value} {x : DataW H × List MemPlace} (h : DataW.trod enc P w base spare held fuel t cs = some x) :
  ∃ b : Bool, Rep (allS w) (.atom (.bool b)) cs := by
 obtain ⟨b, rfl, _⟩ := DataW.trod_bool ht h
 exact ⟨b, by simp only [Rep]; exact ⟨trivial, rfl⟩⟩
theorem struct_fields {t : Nat} {fs : List Field} (ht : P.underlying t = some (.struct ⟨fs⟩)) {fuel : Nat} {cs : List Value} {x : DataW H × List MemPlace} (h : DataW.trod enc P w base spare held fuel t cs = some x) :
  cs.length = P.cellsOf t ∧ ∀ (i : Nat) (f : Field), fs[i]? = some f → ∃ n y, DataW.trod enc P w base spare held n f.type ((cs.drop f.offset).take (P.cellsOf f.type)) = some y := by
 obtain ⟨xs, n, _, _, hl, hxl, hall⟩ := DataW.trod_struct ht h
 refine ⟨hl, fun i f hf => ?_⟩
 have hlt := (List.getElem?_eq_some_iff.1 hf).1
 have := hall i f (by simpa using hf)
 rw [List.getElem?_eq_getElem (by rw [hxl]; simpa using hlt)] at this
 exact ⟨n, _, this⟩
end
theorem reps_take {S : Still} {a : A} {bs : List A} {cs : List Value} {n : Nat} (h1 : Rep S a (cs.take n)) (h2 : Reps S bs (cs.drop n)) : Reps S (a :: bs) cs := by
 simp only [Reps]
 exact ⟨cs.take n, cs.drop n, (List.take_append_drop n cs).symm, h1, h2⟩
end Go.Own

namespace Go.Own
set_option linter.unusedVariables false
section
open Go Go.ChangeShapes Go.WideShapes Go.ChangeAt Go.RowKit
theorem post_kept {P : Program} {H : Type} {enc : TypeId × Value → H} {f : Func} {s : ChangeSpec} {apart fresh handsOn again : Bool} {W W' : World} {args : Array Value} {v : Value} {ds : List (DataW H)} {pa : List MemPlace}
  (hvar : s.vars = []) (hvars2 : (s.fn H (ds ++ [])).vars = []) (hW : DataW.Whole enc P f.params.toList s.vars apart W args.toList ds [] (pa ++ [])) (hb : Below W.heap.size W W')
  (hres : ∀ (b : Nat) (sp : Nat → Bool) (hd : Bool), DataW.TrodAll enc P W' b sp hd f.resultTypes.toList (v.resultList f.resultTypes.size) (s.fn H (ds ++ [])).results [])
  (hargs : ∀ sp : Nat → Bool, (∀ p ∈ pa ++ [], sp p.block = true) → DataW.TrodAll enc P W' 0 sp true f.params.toList args.toList (s.fn H (ds ++ [])).args pa)
  (hok : ∀ (j : Nat) (t : TypeId) (r : Value), f.resultTypes[j]? = some t → (v.resultList f.resultTypes.size)[j]? = some r → Value.okWide P W' .any 0 t r) :
  s.post enc P f apart fresh handsOn again W args v W' := by
 have hlt : ∀ p ∈ pa ++ [], p.block < W.heap.size := fun p hp => by simpa using hW.lt p hp
 have hvr : ∀ sp : Nat → Bool, DataW.TrodVars enc P W' sp s.vars (s.fn H (ds ++ [])).vars [] := fun sp => by rw [hvar, hvars2]; rfl
 refine ⟨ds, [], pa ++ [], [], pa, [], hW, hres _ _ _, hargs _ (fun p hp => by simpa using hlt p hp), hvr _, World.keptBut_mono (fun _ q => q.elim) (hb.frame fun _ => False), fun _ => ?_⟩
 obtain ⟨_, _, _, _, _, hz, hn⟩ := hW
 refine ⟨hok, _, _, ([] ++ pa) ++ [], ⟨[] ++ pa, [], trodAll_append (hargs _ (fun _ _ => rfl)) (hres _ _ _), hvr _, rfl, ?_, ?_⟩, ?_⟩
 ·intro b off hp
  have hp' : MemPlace.cell b off ∈ pa ++ [] := by simpa using hp
  rw [hb.frozen (p := ⟨b, off, none⟩) (hlt _ hp')]
  exact hz b off hp'
 ·intro ha
  simpa using hn ha
 ·intro p hp _
  simpa using hp
end
theorem spF_call {P : Program} {k : Nat} {α ρ : Type} {enc : α → List A} {encR : ρ → A} {F : α → Option ρ} {gives : List Bool} {inj : ∀ x y, enc x = enc y → x = y} (h : (spF k enc encR F gives inj).Ok P) {x : α} {r : ρ} (hr : F x = some r) : CallOk P k (enc x) (encR r) := by
 have := h x ⟨r, hr⟩
 simpa only [spF, hr] using this
section
variable {P : Program} {w : World} {r : Reach} {base t : Nat} {v : Value}
theorem val_struct {fs : Array Field} (hu : P.underlying t = some (.struct fs)) (h : Value.okWide P w r base t v) : v = .agg v.cells.toList.toArray := by
 unfold Value.okWide at h
 rw [hu] at h
 obtain ⟨cs, rfl, _⟩ := h
 rfl
theorem rep1_struct {fs : Array Field} {S : Still} {a : A} (hu : P.underlying t = some (.struct fs)) (hr : Rep S a v.cells.toList) (h : Value.okWide P w r base t v) (ha : a.isAgg = true) : Rep1 S a v := ⟨_, hr, by cases a <;> first | exact val_struct hu h | cases ha⟩
theorem has_true {S : Still} {h : Array Obj} {v : Value} {F : List Nat} (q : Has S h (.atom (.bool true)) v F) : v = .bool true := by
 rcases q with ⟨q, _⟩ | ⟨cs, q, _, rfl⟩
 ·rw [(repV_atom.1 q).1]
 ·simp only [Conc, Rep] at q
  obtain ⟨⟨rfl, _⟩, _⟩ := q
  rfl
end
end Go.Own

namespace Go.Own
open Go.Proofs
set_option linter.unusedVariables false
section
variable {H : Type} {enc : TypeId × Value → H} {w : World} {base : Nat} {spare : Nat → Bool} {held : Bool}
theorem cells5 : Try.prog.cellsOf 5 = 1 := by kernel_rfl
theorem rd5 {fuel : Nat} {cs : List Value} {x : DataW H × List MemPlace} (h : DataW.trod enc Try.prog w base spare held fuel 5 cs = some x) : ∃ a : Int, Ok5 a ∧ Rep (allS w) ((eI .u8) a) cs := by
 obtain ⟨n, h1, _, h2⟩ := int_rep Try.underlying5 (lo := 0) (hi := 255) rfl rfl h
 exact ⟨n, h1, h2⟩
theorem cells4 : Try.prog.cellsOf 4 = 1 := by kernel_rfl
theorem rd4 {fuel : Nat} {cs : List Value} {x : DataW H × List MemPlace} (h : DataW.trod enc Try.prog w base spare held fuel 4 cs = some x) : ∃ a : Bool, Ok4 a ∧ Rep (allS w) (eB a) cs := by
 obtain ⟨n, h2⟩ := bool_rep Try.underlying4 h
 exact ⟨n, trivial, h2⟩
theorem cells102 : Try.prog.cellsOf 102 = 1 := by kernel_rfl
theorem rd102 {fuel : Nat} {cs : List Value} {x : DataW H × List MemPlace} (h : DataW.trod enc Try.prog w base spare held fuel 102 cs = some x) : ∃ a : Int, Ok102 a ∧ Rep (allS w) ((eI .u16) a) cs := by
 obtain ⟨n, h1, _, h2⟩ := int_rep Try.underlying102 (lo := 0) (hi := 65535) rfl rfl h
 exact ⟨n, h1, h2⟩
theorem cells22 : Try.prog.cellsOf 22 = 1 := by kernel_rfl
theorem rd22 {fuel : Nat} {cs : List Value} {x : DataW H × List MemPlace} (h : DataW.trod enc Try.prog w base spare held fuel 22 cs = some x) : ∃ a : List Int, Ok22 a ∧ Rep (allS w) ((eSl 1 false (eI .u16)) a) cs := by
 exact slice_rep (eI .u16) Ok102 Try.underlying22 cells102 (by omega) (fun _ => rfl) (fun _ _ _ q => rd102 q) h
theorem cells24 : Try.prog.cellsOf 24 = 5 := by kernel_rfl
theorem rd24 {fuel : Nat} {cs : List Value} {x : DataW H × List MemPlace} (h : DataW.trod enc Try.prog w base spare held fuel 24 cs = some x) : ∃ a : S_law04_M, Ok24 a ∧ Rep (allS w) ((e_law04_M (eI .u8) (eI .u8) (eI .u8) eB (eSl 1 false (eI .u16))) a) cs := by
 obtain ⟨hl, hf⟩ := struct_fields Try.underlying24 h
 rw [cells24] at hl
 obtain ⟨_, _, q0⟩ := hf 0 _ rfl
 obtain ⟨_, _, q1⟩ := hf 1 _ rfl
 obtain ⟨_, _, q2⟩ := hf 2 _ rfl
 obtain ⟨_, _, q3⟩ := hf 3 _ rfl
 obtain ⟨_, _, q4⟩ := hf 4 _ rfl
 simp only [cells22, cells4, cells5] at q0 q1 q2 q3 q4
 obtain ⟨a0, k0, r0⟩ := rd5 q0
 obtain ⟨a1, k1, r1⟩ := rd5 q1
 obtain ⟨a2, k2, r2⟩ := rd5 q2
 obtain ⟨a3, k3, r3⟩ := rd4 q3
 obtain ⟨a4, k4, r4⟩ := rd22 q4
 refine ⟨⟨a0, a1, a2, a3, a4⟩, ⟨k0, k1, k2, k3, k4⟩, ?_⟩
 show Rep (allS w) (.agg [(eI .u8) a0, (eI .u8) a1, (eI .u8) a2, eB a3, (eSl 1 false (eI .u16)) a4]) cs
 simp only [Rep]
 refine reps_take (n := 1) (by simpa [List.drop_drop] using r0) (reps_take (n := 1) (by simpa [List.drop_drop] using r1) (reps_take (n := 1) (by simpa [List.drop_drop] using r2) (reps_take (n := 1) (by simpa [List.drop_drop] using r3) (reps_take (n := 1) (by simpa [List.drop_drop] using r4) ?_))))
 simp only [List.drop_drop, Reps]
 exact List.drop_eq_nil_of_le (by omega)
theorem cells65 : Try.prog.cellsOf 65 = 2 := by kernel_rfl
theorem rd65 {fuel : Nat} {cs : List Value} {x : DataW H × List MemPlace} (h : DataW.trod enc Try.prog w base spare held fuel 65 cs = some x) : ∃ a : Arr2 Int, Ok65 a ∧ Rep (allS w) ((eArr2 (eI .u8)) a) cs := by
 obtain ⟨xs, m, _, _, hl, hx, hall⟩ := DataW.trod_array Try.underlying65 h
 rw [cells65] at hl
 rw [cells5] at hall
 have get : ∀ i, i < 2 → ∃ n : Int, Ok5 n ∧ Rep (allS w) ((eI .u8) n) ((cs.drop (i * 1)).take 1) := by
  intro i hi
  have q := hall i hi
  rw [List.getElem?_eq_getElem (by omega)] at q
  exact rd5 q
 obtain ⟨a0, k0, r0⟩ := get 0 (by omega)
 obtain ⟨a1, k1, r1⟩ := get 1 (by omega)
 refine ⟨⟨a0, a1⟩, ⟨k0, k1⟩, ?_⟩
 show Rep (allS w) (.agg [(eI .u8) a0, (eI .u8) a1]) cs
 simp only [Rep]
 refine reps_take (n := 1) (by simpa [List.drop_drop] using r0) (reps_take (n := 1) (by simpa [List.drop_drop] using r1) ?_)
 simp only [List.drop_drop, Reps]
 exact List.drop_eq_nil_of_le (by omega)
theorem cells3 : Try.prog.cellsOf 3 = 1 := by kernel_rfl
theorem rd3 {fuel : Nat} {cs : List Value} {x : DataW H × List MemPlace} (h : DataW.trod enc Try.prog w base spare held fuel 3 cs = some x) : ∃ a : Int, Ok3 a ∧ Rep (allS w) ((eI .i64) a) cs := by
 obtain ⟨n, h1, _, h2⟩ := int_rep Try.underlying3 (lo := -9223372036854775808) (hi := 9223372036854775807) rfl rfl h
 exact ⟨n, h1, h2⟩
theorem cells67 : Try.prog.cellsOf 67 = 2 := by kernel_rfl
theorem rd67 {fuel : Nat} {cs : List Value} {x : DataW H × List MemPlace} (h : DataW.trod enc Try.prog w base spare held fuel 67 cs = some x) : ∃ a : S_api_Edge, Ok67 a ∧ Rep (allS w) ((e_api_Edge (eI .i64) (eI .i64)) a) cs := by
 obtain ⟨hl, hf⟩ := struct_fields Try.underlying67 h
 rw [cells67] at hl
 obtain ⟨_, _, q0⟩ := hf 0 _ rfl
 obtain ⟨_, _, q1⟩ := hf 1 _ rfl
 simp only [cells3] at q0 q1
 obtain ⟨a0, k0, r0⟩ := rd3 q0
 obtain ⟨a1, k1, r1⟩ := rd3 q1
 refine ⟨⟨a0, a1⟩, ⟨k0, k1⟩, ?_⟩
 show Rep (allS w) (.agg [(eI .i64) a0, (eI .i64) a1]) cs
 simp only [Rep]
 refine reps_take (n := 1) (by simpa [List.drop_drop] using r0) (reps_take (n := 1) (by simpa [List.drop_drop] using r1) ?_)
 simp only [List.drop_drop, Reps]
 exact List.drop_eq_nil_of_le (by omega)
theorem cells69 : Try.prog.cellsOf 69 = 17 := by kernel_rfl
theorem rd69 {fuel : Nat} {cs : List Value} {x : DataW H × List MemPlace} (h : DataW.trod enc Try.prog w base spare held fuel 69 cs = some x) : ∃ a : S_law10_D, Ok69 a ∧ Rep (allS w) ((e_law10_D (e_law04_M (eI .u8) (eI .u8) (eI .u8) eB (eSl 1 false (eI .u16))) (e_law04_M (eI .u8) (eI .u8) (eI .u8) eB (eSl 1 false (eI .u16))) eB (eArr2 (eI .u8)) (eArr2 (eI .u8)) (e_api_Edge (eI .i64) (eI .i64))) a) cs := by
 obtain ⟨hl, hf⟩ := struct_fields Try.underlying69 h
 rw [cells69] at hl
 obtain ⟨_, _, q0⟩ := hf 0 _ rfl
 obtain ⟨_, _, q1⟩ := hf 1 _ rfl
 obtain ⟨_, _, q2⟩ := hf 2 _ rfl
 obtain ⟨_, _, q3⟩ := hf 3 _ rfl
 obtain ⟨_, _, q4⟩ := hf 4 _ rfl
 obtain ⟨_, _, q5⟩ := hf 5 _ rfl
 simp only [cells24, cells4, cells65, cells67] at q0 q1 q2 q3 q4 q5
 obtain ⟨a0, k0, r0⟩ := rd24 q0
 obtain ⟨a1, k1, r1⟩ := rd24 q1
 obtain ⟨a2, k2, r2⟩ := rd4 q2
 obtain ⟨a3, k3, r3⟩ := rd65 q3
 obtain ⟨a4, k4, r4⟩ := rd65 q4
 obtain ⟨a5, k5, r5⟩ := rd67 q5
 refine ⟨⟨a0, a1, a2, a3, a4, a5⟩, ⟨k0, k1, k2, k3, k4, k5⟩, ?_⟩
 show Rep (allS w) (.agg [(e_law04_M (eI .u8) (eI .u8) (eI .u8) eB (eSl 1 false (eI .u16))) a0, (e_law04_M (eI .u8) (eI .u8) (eI .u8) eB (eSl 1 false (eI .u16))) a1, eB a2, (eArr2 (eI .u8)) a3, (eArr2 (eI .u8)) a4, (e_api_Edge (eI .i64) (eI .i64)) a5]) cs
 simp only [Rep]
 refine reps_take (n := 5) (by simpa [List.drop_drop] using r0) (reps_take (n := 5) (by simpa [List.drop_drop] using r1) (reps_take (n := 1) (by simpa [List.drop_drop] using r2) (reps_take (n := 2) (by simpa [List.drop_drop] using r3) (reps_take (n := 2) (by simpa [List.drop_drop] using r4) (reps_take (n := 2) (by simpa [List.drop_drop] using r5) ?_)))))
 simp only [List.drop_drop, Reps]
 exact List.drop_eq_nil_of_le (by omega)
theorem cells25 : Try.prog.cellsOf 25 = 1 := by kernel_rfl
theorem rd25 {fuel : Nat} {cs : List Value} {x : DataW H × List MemPlace} (h : DataW.trod enc Try.prog w base spare held fuel 25 cs = some x) : ∃ a : List Int, Ok25 a ∧ Rep (allS w) ((eSl 1 false (eI .u8)) a) cs := by
 exact slice_rep (eI .u8) Ok5 Try.underlying25 cells5 (by omega) (fun _ => rfl) (fun _ _ _ q => rd5 q) h
theorem cells80 : Try.prog.cellsOf 80 = 1 := by kernel_rfl
theorem rd80 {fuel : Nat} {cs : List Value} {x : DataW H × List MemPlace} (h : DataW.trod enc Try.prog w base spare held fuel 80 cs = some x) : ∃ a : S_law01_W, Ok80 a ∧ Rep (allS w) ((e_law01_W (eSl 1 false (eI .u8))) a) cs := by
 obtain ⟨hl, hf⟩ := struct_fields Try.underlying80 h
 rw [cells80] at hl
 obtain ⟨_, _, q0⟩ := hf 0 _ rfl
 simp only [cells25] at q0
 obtain ⟨a0, k0, r0⟩ := rd25 q0
 refine ⟨⟨a0⟩, k0, ?_⟩
 show Rep (allS w) (.agg [(eSl 1 false (eI .u8)) a0]) cs
 simp only [Rep]
 refine reps_take (n := 1) (by simpa [List.drop_drop] using r0) ?_
 simp only [Reps]
 exact List.drop_eq_nil_of_le (by omega)
end
end Go.Own
namespace Go.Proofs.Ytdnenbcldibnoaa.equalsEqual
open Go Go.ChangeShapes Go.WideShapes Go.ChangeAt Go.RowKit
set_option linter.unusedVariables false
theorem own : ownKnob Try.prog.godebug = none := by kernel_rfl
theorem laidOut : laidOutB Try.prog = true := by kernel_rfl
section
variable {H : Type} {enc : TypeId × Value → H} {W : World}
set_option maxRecDepth 100000 in
theorem walk {base : Nat} {v0 : Value} {d0 : DataW H} {p0 : List MemPlace} {v1 : Value} {d1 : DataW H} {p1 : List MemPlace} (h0 : DataW.Trod enc Try.prog W 0 (fun _ => true) true 69 v0 d0 p0) (h1 : DataW.Trod enc Try.prog W 0 (fun _ => true) true 80 v1 d1 p1) (k0 : Value.okWide Try.prog W .any base (69 : Nat) v0) (k1 : Value.okWide Try.prog W .any base (80 : Nat) v1) :
  Calls Try.prog 6 #[v0, v1] W fun e w' => e = .returned (.bool true) ∧ Go.Own.Kept (fun k => W.heap.size ≤ k) W w' := by
 obtain ⟨n0, h0⟩ := h0
 obtain ⟨x0, o0, r0⟩ := Go.Own.rd69 h0
 obtain ⟨n1, h1⟩ := h1
 obtain ⟨x1, o1, r1⟩ := Go.Own.rd80 h1
 have q := (Go.Own.spF_call (Go.Own.ctrOf_call Go.Own.L53_ok List.mem_cons_self : Go.Own.sp_law10_EqualsEqual.Ok Try.prog) (x := (x0, x1)) (r := true) (Go.Own.law_true o0 o1)).2 (Go.Own.allS W) W [v0, v1] [] (fun _ _ _ h => h) ?_ (by simp)
 ·refine Calls.mono q ?_
  rintro e w' ⟨v, S', F', rfl, hk, _, _, _, hr, _, _⟩
  refine ⟨?_, hk.mono (by rintro k (h | h) <;> simp_all)⟩
  rw [Go.Own.has_true hr]
 ·refine Go.Own.all2_hass ?_
  have g0 : Go.Own.Rep1 (Go.Own.allS W) ((Go.Own.e_law10_D (Go.Own.e_law04_M (Go.Own.eI .u8) (Go.Own.eI .u8) (Go.Own.eI .u8) Go.Own.eB (Go.Own.eSl 1 false (Go.Own.eI .u16))) (Go.Own.e_law04_M (Go.Own.eI .u8) (Go.Own.eI .u8) (Go.Own.eI .u8) Go.Own.eB (Go.Own.eSl 1 false (Go.Own.eI .u16))) Go.Own.eB (Go.Own.eArr2 (Go.Own.eI .u8)) (Go.Own.eArr2 (Go.Own.eI .u8)) (Go.Own.e_api_Edge (Go.Own.eI .i64) (Go.Own.eI .i64))) x0) v0 := Go.Own.rep1_struct (t := (69 : Nat)) Try.underlying69 r0 k0 rfl
  have g1 : Go.Own.Rep1 (Go.Own.allS W) ((Go.Own.e_law01_W (Go.Own.eSl 1 false (Go.Own.eI .u8))) x1) v1 := Go.Own.rep1_struct (t := (80 : Nat)) Try.underlying80 r1 k1 rfl
  exact ⟨g0, g1, trivial⟩
end
set_option maxRecDepth 100000 in
theorem lifted (os : Os) (started : os.Started) (H : Type) (enc : TypeId × Value → H) :
  ReturnsInHanded {} Try.checked os 6 .any (Rows.equalsEqualSpec.pre6 enc Try.prog Try.f6 Rows.equalsEqualRow.domain false) (Rows.equalsEqualSpec.post enc Try.prog Try.f6 false true false false) := by
 refine returnsInHanded_of_change (C := Try.checked) own started (by kernel_rfl) Try.func6
  (ChangeSpec.witness6 (enc := enc) (C := Try.checked) false ⟨#[], #[.agg #[.int .u8 0, .int .u8 0, .int .u8 0, .bool false, .slice none 0 0, .int .u8 0, .int .u8 0, .int .u8 0, .bool false, .slice none 0 0, .bool false, .int .u8 0, .int .u8 0, .int .u8 0, .int .u8 0, .int .i64 0, .int .i64 0], .agg #[.slice none 0 0]], []⟩ 8 (by kernel_rfl) (by kernel_rfl) (by kernel_rfl) (by kernel_rfl)) ?_
 intro W base args ds gs before hval0 hW hcnd _
 have hval : ∀ (j : Nat) t v, Try.f6.params[j]? = some t → args[j]? = some v → Value.okWide Try.prog W .any base t v := hval0
 have hW' := hW
 obtain ⟨p, q, hA0, hV, rfl, hfz, hnd⟩ := hW
 have hA : DataW.TrodAll enc Try.prog W 0 (fun _ => true) true Try.f6.params.toList args.toList ds p := hA0
 rw [Try.params6] at hA hval
 obtain ⟨v0, v1, d0, d1, p0, p1, rfl, rfl, rfl, h0, h1⟩ := trodAll_two hA
 obtain ⟨rfl, rfl⟩ := trodVars_none hV
 clear hA0 hval0
 refine (walk h0 h1 (hval 0 (69 : Nat) v0 rfl rfl) (hval 1 (80 : Nat) v1 rfl rfl)).mono fun e W' ⟨he, hk⟩ => ?_
 subst he
 have hb : Below W.heap.size W W' := ⟨hk.os, hk.tape, hk.output, hk.size, fun k q => hk.block k (by omega)⟩
 have hlt : ∀ x ∈ p0 ++ p1, x.block < W.heap.size := fun x hx => by simpa using hW'.lt x (by simpa using hx)
 refine ⟨_, rfl, Go.Own.post_kept rfl rfl hW' hb (fun _ _ _ => trodAll_cons_mk (shut_bool Try.underlying4 _) trodAll_mk0) (fun sp hsp => ?_) (ok_one (by kernel_rfl) rfl (okWide_bool_mk Try.underlying4 _))⟩
 have st : ∀ {t : Nat} {v : Value} {d : DataW H} {p' : List MemPlace}, DataW.Trod enc Try.prog W 0 (fun _ => true) true t v d p' → Try.prog.readableRec t = true → t < Try.prog.types.size → (∀ x ∈ p', x ∈ p0 ++ p1) → DataW.Trod enc Try.prog W' 0 sp true t v d p' := by
  intro t v d p' hd h1 h2 hp
  exact WideElems.Trod_stays laidOut h1 h2 hd (fun x hx => hb.same (hlt x (hp x hx))) (fun x hx => hsp x (by simpa using hp x hx))
 have := trodAll_mk2 (st h0 (by kernel_rfl) (of_decide_eq_true (by kernel_rfl)) (fun x hx => by simp [hx])) (st h1 (by kernel_rfl) (of_decide_eq_true (by kernel_rfl)) (fun x hx => by simp [hx]))
 rw [Try.params6]
 exact this
theorem over : Rows.equalsEqualRow.holds Try.pinned (OpenSpec.ofChange Rows.equalsEqualSpec) :=
 OpenClaim.holds_of_wide 6 Try.f6 rfl rfl rfl rfl rfl rfl rfl ⟨rfl, rfl, rfl, rfl, rfl⟩ rfl rfl rfl rfl rfl (by kernel_rfl) Try.func6 (by kernel_rfl)
  (of_decide_eq_true (by kernel_rfl)) (by unfold Func.isWrapper; first | (rw [if_pos (by decide +kernel)]; kernel_rfl) | (rw [if_neg (by decide +kernel)]; exact ⟨rfl, rfl⟩))
  (fun os started H enc _ => lifted os started H enc)
theorem proved : Rows.EqualsEqualSaid :=
 over
#print axioms proved
end Go.Proofs.Ytdnenbcldibnoaa.equalsEqual
