/- -/
import Derived.Test.YthnpknbgpmlbhaaGreatPartG
import Derived.Test.YthnpknbgpmlbhaaGreatPartE
import Derived.Test.YthnpknbgpmlbhaaGreatPartB
import Derived.OpenShut
import Derived.ChangeShapes
import Derived.Test.YthnpknbgpmlbhaaGreatPartC
import Derived.WalkKit
import Derived.ProofKit
import Derived.Carry
import Derived.Test.YthnpknbgpmlbhaaGreatRows
import Derived.Test.YthnpknbgpmlbhaaGreatChecked
set_option linter.unusedVariables false
set_option linter.unusedSimpArgs false
namespace Go.Own
def un (x : List Bool) : Nat := x.countP fun b => !b
theorem zdt {x : List Bool} {s : Nat} (h : x[s]? = some false) : un (x.set s true) < un x := by
 induction x generalizing s with
 | nil => simp at h
 | cons b x ih =>
  cases s with
  | zero => simp at h; subst h; simp [un]
  | succ s =>
   have := ih (s := s) (by simpa using h)
   unfold un at *
   rw [List.set_cons_succ, List.countP_cons, List.countP_cons]
   omega
theorem zdu : ∀ {x y : List Bool}, y.length = x.length → (∀ t : Nat, x[t]? = some true → y[t]? = some true) → un y ≤ un x
 | [], [], _, _ => Nat.le_refl _
 | a :: x, b :: y, hl, h => by
  have ih := zdu (x := x) (y := y) (by simpa using hl) fun t ht => by simpa using h (t + 1) (by simpa using ht)
  have h0 := h 0
  unfold un at *
  rw [List.countP_cons, List.countP_cons]
  cases a <;> cases b <;> simp at h0 ⊢ <;> omega
 | [], _ :: _, hl, _ => by simp at hl
 | _ :: _, [], hl, _ => by simp at hl
structure Dfs (m : z7) (P : Nat → Prop) (x y : List Bool) : Prop where
 len : y.length = x.length
 mono : ∀ t : Nat, x[t]? = some true → y[t]? = some true
 new : ∀ t : Nat, y[t]? = some true → x[t]? = some true ∨ P t ∧ ∀ i, i < kk m → 0 ≤ (E m t i).To → y[(E m t i).To.toNat]? = some true
theorem Dfs.refl {m : z7} {P : Nat → Prop} (x : List Bool) : Dfs m P x x := ⟨rfl, fun _ h => h, fun _ h => .inl h⟩
theorem Dfs.trans {m : z7} {P : Nat → Prop} {x y z : List Bool} (h : Dfs m P x y) (k : Dfs m P y z) : Dfs m P x z := {
 len := k.len.trans h.len
 mono := fun t q => k.mono t (h.mono t q)
 new := fun t q => by
  rcases k.new t q with g | g
  ·rcases h.new t g with r | ⟨r1, r2⟩
   ·exact .inl r
   ·exact .inr ⟨r1, fun i hi h0 => k.mono _ (r2 i hi h0)⟩
  ·exact .inr g }
section
variable {m : z7} (h : VM m)
include h
theorem z8v {P : Nat → Prop} (hP : ∀ t i, P t → t < m.Rows.length → i < kk m → 0 ≤ (E m t i).To → P (E m t i).To.toNat) : ∀ (fu : Nat) (x : List Bool), x.length = m.Rows.length → un x < fu → ∀ s : Int, zaR m s → (0 ≤ s → P s.toNat) →
  ∃ y, yb fu s x m = some (y, m) ∧ Dfs m P x y ∧ (0 ≤ s → y[s.toNat]? = some true)
 | 0, x, _, hu, _, _, _ => by omega
 | fu + 1, x, hx, hu, s, hs, hPs => by
  have hk := h.kk_le
  show ∃ y, xH (yb fu) s x m = some (y, m) ∧ _
  unfold xH
  by_cases h1 : s = -1
  ·have : (s == -1) = true := by simpa using h1
   rw [this, cond_true]
   exact ⟨x, rfl, Dfs.refl x, fun q => by omega⟩
  ·have e1 : (s == -1) = false := by simpa using h1
   obtain ⟨n, rfl⟩ : ∃ n : Nat, s = n := ⟨s.toNat, by have := hs.1; omega⟩
   have hn : n < m.Rows.length := by have := hs.2; omega
   have hxn : x[n]? = some x[n] := List.getElem?_eq_getElem (by omega)
   rw [e1, cond_false, zk hxn, oB]
   by_cases hb : x[n] = true
   ·rw [hb, cond_true]
    exact ⟨x, rfl, Dfs.refl x, fun _ => by simp only [Int.toNat_natCast]; rw [hxn, hb]⟩
   ·have hb : x[n] = false := by simpa using hb
    obtain ⟨r, hr, hrl, hre⟩ := h.rowAt hn
    rw [hb, cond_false, oB, zk hr, oB]
    simp only [Int.toNat_natCast]
    rw [hb] at hxn
    have hu1 := zdt hxn
    have hxl : (x.set n true).length = m.Rows.length := by simpa using hx
    have run : Ret (loop (fun s => yM (yb fu) r s.1 s.2.1 s.2.2.1 s.2.2.2.1 s.2.2.2.2) (x.set n true, m.Inputs, m.Outputs, m.Rows, 0)) fun q => q.2 = m ∧ Dfs m P (x.set n true) q.1 ∧ ∀ j, j < kk m → 0 ≤ (E m n j).To → q.1[(E m n j).To.toNat]? = some true := by
     refine xm (fun q => ∃ i : Nat, q.2 = (m.Inputs, m.Outputs, m.Rows, (i : Int)) ∧ i ≤ kk m ∧ Dfs m P (x.set n true) q.1 ∧ ∀ j, j < i → 0 ≤ (E m n j).To → q.1[(E m n j).To.toNat]? = some true) (fun q => 100 - q.2.2.2.2.toNat) ⟨0, rfl, Nat.zero_le _, Dfs.refl _, fun j hj => by omega⟩ (by show 100 - _ < _; omega) ?_
     rintro ⟨q, _⟩ ⟨i, rfl, hi, hd, hall⟩
     simp only at hd hall
     show Ret (yM (yb fu) r q m.Inputs m.Outputs m.Rows (i : Int)) _
     unfold yM
     rw [yx]
     refine ⟨fun hc => ?_, fun hc => ?_⟩
     ·have hlt : i < kk m := by simp at hc; omega
      rw [zk (hre i hlt), oB]
      have hst : zaR m (E m n i).To := by
       rcases h.edgeAt hn hlt with ⟨g, _⟩ | ⟨g1, g2, _⟩
       ·exact ⟨by omega, by have := h.len1; omega⟩
       ·exact ⟨by omega, g2⟩
      have hPn : P n := by simpa using hPs (by omega)
      obtain ⟨y, y1, y2, y3⟩ := z8v hP fu q (by rw [hd.len]; exact hxl) (by have := zdu hd.len hd.mono; omega) (E m n i).To hst (fun h0 => hP n i hPn hn hlt h0)
      have y1' : yb fu (E m n i).To q (z7.mk m.Inputs m.Outputs m.Rows) = some (y, m) := y1
      rw [y1', oB, zn, kH (by omega)]
      refine ⟨⟨i + 1, rfl, hlt, hd.trans y2, fun j hj h0 => ?_⟩, by simp only; omega⟩
      by_cases e : j = i
      ·subst e; exact y3 h0
      ·exact y2.mono _ (hall j (by omega) h0)
     ·have : i = kk m := by simp at hc; omega
      subst this
      rw [zn]
      exact ⟨rfl, hd, hall⟩
    obtain ⟨⟨y, m'⟩, e, hm, hd, hall⟩ := run
    simp only at hm hd hall
    subst hm
    rw [e]
    refine ⟨y, rfl, ?_, fun _ => hd.mono _ ((Uq (by omega)).2 (.inl rfl))⟩
    refine ⟨by rw [hd.len]; simp, fun t ht => hd.mono t ((Uq (by omega)).2 (.inr ht)), fun t ht => ?_⟩
    rcases hd.new t ht with g | g
    ·rcases (Uq (by omega)).1 g with rfl | g
     ·exact .inr ⟨by simpa using hPs (by omega), hall⟩
     ·exact .inl g
    ·exact .inr g
omit h in
theorem z18 (l : List Bool) (hl : l.length < 4611686018427387904) : yZ l false = some (!(l.all id)) := by
 unfold yZ wP
 have hfs : ∀ (l : List Bool) (k : Nat), (yK (fun i x => if x = true then none else some ((i : Nat) : Int)) l k = none ∧ l.all id = true) ∨ ∃ i : Nat, yK (fun i x => if x = true then none else some ((i : Nat) : Int)) l k = some (i : Int) ∧ l.all id = false := by
  intro l
  induction l with
  | nil => intro k; exact .inl ⟨rfl, rfl⟩
  | cons x l ih =>
   intro k
   simp only [yK, List.all_cons]
   cases x with
   | true => simpa using ih (k + 1)
   | false => exact .inr ⟨k, by simp, by simp⟩
 rw [bdT (xI l hl (step := fun s => yo l false s) (fun i x => if x = true then none else some ((i : Nat) : Int)) ?_ ?_)]
 ·rcases hfs l 0 with ⟨h1, h2⟩ | ⟨i, h1, h2⟩
  ·rw [h1, h2]; rfl
  ·rw [h1, h2]; simp [oS]
 ·intro i x hx
  have hi := (List.getElem?_eq_some_iff.1 hx).1
  unfold yo
  rw [decide_eq_true (by omega), cond_true, zk hx, oB]
  cases x <;> rfl
 ·unfold yo
  rw [decide_eq_false (by omega), cond_false]
theorem z2C : Ret (vb m) fun r => r.2 = 0 ∧ (r.1 = true ↔ ∀ t, t < m.Rows.length → Rch m t) := by
 have l1 := h.len1
 have l64 := h.len64
 unfold vb
 rw [z2G, z8z h, oB, bne_self_eq_false, cond_false, gdT (by omega)]
 have e0 : ((m.Rows.length : Nat) : Int).toNat = m.Rows.length := by simp
 rw [e0]
 have hun : un (List.replicate m.Rows.length false) < Xq := by
  have : un (List.replicate m.Rows.length false) ≤ (List.replicate m.Rows.length false).length := List.countP_le_length
  rw [List.length_replicate] at this
  show _ < 18446744073709551616
  omega
 have hP : ∀ t i, Rch m t → t < m.Rows.length → i < kk m → 0 ≤ (E m t i).To → Rch m (E m t i).To.toNat := fun t i ht _ hi h0 => rch_step ht hi h0
 obtain ⟨y, y1, y2, y3⟩ := z8v h hP Xq (List.replicate m.Rows.length false) (by simp) hun 0 ⟨by omega, by omega⟩ (fun _ => ⟨[], by simp [Wd], rfl⟩)
 have hyl : y.length = m.Rows.length := by rw [y2.len]; simp
 have no : ∀ t : Nat, (List.replicate m.Rows.length false)[t]? ≠ some true := fun t q => by
  rw [List.getElem?_replicate] at q
  split at q <;> cases q
 rw [y1, oB, z18 y (by omega), oB, zn]
 refine ⟨rfl, ?_⟩
 rw [Bool.not_not, List.all_eq_true]
 have clo : ∀ (u : List Nat) (t : Nat), Wd (kk m) u → aft m 0 u = (t : Int) → y[t]? = some true := by
  intro u
  generalize hlen : u.length = n
  induction n generalizing u with
  | zero =>
   intro t _ e
   rw [List.length_eq_zero_iff.1 hlen] at e
   have : t = 0 := by have : (0 : Int) = t := e; omega
   subst this
   exact y3 (by omega)
  | succ n ih =>
   intro t hu e
   have hne : u ≠ [] := by intro q; rw [q] at hlen; simp at hlen
   have hsplit := List.dropLast_concat_getLast hne
   have hu' : Wd (kk m) u.dropLast := fun i hi => hu i (List.dropLast_subset _ hi)
   have hi : u.getLast hne < kk m := hu _ (List.getLast_mem hne)
   have h2 := (Vb m u.dropLast 0 (u.getLast hne)).2
   rw [hsplit, e] at h2
   have hin := z1M h u.dropLast 0 ⟨by omega, by omega⟩ hu'
   by_cases hneg : aft m 0 u.dropLast < 0
   ·exfalso
    unfold nxE at h2
    rw [if_pos hneg] at h2
    simp at h2
   ·obtain ⟨s, hs⟩ : ∃ s : Nat, aft m 0 u.dropLast = s := ⟨(aft m 0 u.dropLast).toNat, by omega⟩
    have hy := ih u.dropLast (by simp [hlen]) s hu' hs
    rw [hs, Qx] at h2
    rcases y2.new s hy with g | ⟨_, g⟩
    ·exact absurd g (no s)
    ·have := g _ hi (by omega)
     rw [← h2] at this
     simpa using this
 constructor
 ·intro q t ht
  have hx : y[t]? = some y[t] := List.getElem?_eq_getElem (by omega)
  have := q _ (List.mem_of_getElem? hx)
  rw [show y[t] = true from this] at hx
  rcases y2.new t hx with g | ⟨g, _⟩
  ·exact absurd g (no t)
  ·exact g
 ·intro q b hb
  obtain ⟨t, ht⟩ := List.mem_iff_getElem?.1 hb
  have htl := (List.getElem?_eq_some_iff.1 ht).1
  obtain ⟨u, hu, e⟩ := q t (by omega)
  have := clo u t hu e
  rw [ht] at this
  cases this
  rfl
end
theorem z91 (k : Nat) : ∀ n, GG k (n + 1) = k * GG k n + 1
 | 0 => by simp [GG]
 | n + 1 => by
  have ih := z91 k n
  show GG k (n + 1) + k ^ (n + 1) = k * (GG k n + k ^ n) + 1
  rw [ih, Nat.mul_add, Nat.pow_succ, Nat.mul_comm (k ^ n) k]
  omega
theorem zcd (k : Nat) : ∀ u : List Nat, rv k u = rk k u.reverse
 | [] => by simp [rv, rk, GG, zdr]
 | i :: u => by
  have ih := zcd k u
  unfold rk at ih ⊢
  rw [List.reverse_reverse, List.length_reverse] at ih ⊢
  simp only [rv, List.length_cons, zdr, ih, z91, Nat.add_mul]
  rw [Nat.mul_comm (GG k u.length) k, Nat.mul_comm (zdr k u) k]
  omega
def nx1 (m : z7) (s i : Nat) : Option Nat := if 0 ≤ (E m s i).To then some (E m s i).To.toNat else none
abbrev nob : Nat → Nat → Bool := fun _ _ => false
theorem z5J : ∀ (N : Nat) (l : List Nat), l.Nodup → (∀ t ∈ l, t < N) → l.length ≤ N
 | 0, l, _, h => by
  cases l with
  | nil => exact Nat.le_refl _
  | cons x l => have := h x (by simp); omega
 | N + 1, l, hn, h => by
  have ih := z5J N (l.erase N) (hn.erase N) fun t ht => by
   have h1 := h t (List.mem_of_mem_erase ht)
   have h2 : t ≠ N := fun e => by subst e; exact absurd ht (hn.not_mem_erase)
   omega
  by_cases hm : N ∈ l
  ·rw [List.length_erase_of_mem hm] at ih; omega
  ·rw [List.erase_of_not_mem hm] at ih; omega
section
variable {m : z7} (h : VM m)
include h
theorem Ve : ∀ (u : List Nat) (q : Nat), z8Z (kk m) nob (nx1 m) 0 u q → Wd (kk m) u.reverse ∧ aft m 0 u.reverse = (q : Int) ∧ q < m.Rows.length
 | [], q, e => by
  have e : q = 0 := e
  subst e
  exact ⟨by simp [Wd], rfl, h.len1⟩
 | i :: u, q, ⟨p, hp, hi, _, hn⟩ => by
  obtain ⟨g1, g2, g3⟩ := Ve u p hp
  unfold nx1 at hn
  split at hn
  ·rename_i h0
   cases hn
   have q2 := (Vb m u.reverse 0 i).2
   rw [g2, Qx] at q2
   rw [List.reverse_cons]
   refine ⟨fun j hj => ?_, by rw [q2]; omega, ?_⟩
   ·rcases List.mem_append.1 hj with g | g
    ·exact g1 j g
    ·rw [List.mem_singleton.1 g]; exact hi
   ·rcases h.edgeAt g3 hi with ⟨g, _⟩ | ⟨_, g, _⟩ <;> omega
  ·cases hn
theorem z2U : ∀ (u : List Nat) (q : Nat), Wd (kk m) u.reverse → aft m 0 u.reverse = (q : Int) → z8Z (kk m) nob (nx1 m) 0 u q
 | [], q, _, e => by have : (0 : Int) = q := e; show q = 0; omega
 | i :: u, q, hu, e => by
  rw [List.reverse_cons] at hu e
  have hu' : Wd (kk m) u.reverse := fun j hj => hu j (by simp [List.mem_reverse.1 hj])
  have hi : i < kk m := hu i (by simp)
  have q2 := (Vb m u.reverse 0 i).2
  rw [e] at q2
  have hin := z1M h u.reverse 0 ⟨by omega, by have := h.len1; omega⟩ hu'
  by_cases hneg : aft m 0 u.reverse < 0
  ·exfalso
   unfold nxE at q2
   rw [if_pos hneg] at q2
   simp at q2
  ·obtain ⟨s, hs⟩ : ∃ s : Nat, aft m 0 u.reverse = s := ⟨(aft m 0 u.reverse).toNat, by omega⟩
   rw [hs, Qx] at q2
   refine ⟨s, z2U u s hu' hs, hi, rfl, ?_⟩
   unfold nx1
   rw [if_pos (by omega), ← q2]
   simp
def zgy (L : List (Nat × List Nat)) (a : Nat) (x : zi) (c : Nat × List Nat) : Prop :=
 x.state_ = (c.1 : Int) ∧ ((c.2 = [] ∧ x.from_ = -1) ∨ ∃ (i : Nat) (u : List Nat) (p j : Nat), c.2 = i :: u ∧ x.input_ = (i : Int) ∧ x.from_ = (p : Int) ∧ j < a ∧ L[j]? = some (p, u))
structure Que (m : z7) (L : List (Nat × List Nat)) (a : Nat) (seen : List Bool) (Q : List zi) : Prop where
 len : seen.length = m.Rows.length
 seen : ∀ t : Nat, seen[t]? = some true ↔ ∃ u, (t, u) ∈ L
 nodup : (L.map (·.1)).Nodup
 qlen : Q.length + a = L.length
 arr : ∀ (j : Nat) (x : zi), Q[j]? = some x → ∃ c, L[a + j]? = some c ∧ zgy L (a + j) x c
theorem z4K {L : List (Nat × List Nat)} {a : Nat} {i : Nat} (hb : Bfs (kk m) nob (nx1 m) 0 L a i) (hn : (L.map (·.1)).Nodup) : L.length ≤ m.Rows.length := by
 have := z5J m.Rows.length (L.map (·.1)) hn fun t ht => by
  obtain ⟨c, hc, rfl⟩ := List.mem_map.1 ht
  exact (Ve h c.2 c.1 (hb.path c hc)).2.2
 simpa using this
theorem zce {L : List (Nat × List Nat)} {a : Nat} {c : Nat × List Nat} {seen : List Bool} {Q : List zi} {σ : Type} (yr : σ × Bool) (x : zi) (hc : L[a]? = some c) (hx : x.state_ = (c.1 : Int))
  (hb : Bfs (kk m) nob (nx1 m) 0 L a 0) (hq : Que m L (a + 1) seen Q) {r : List za} (hr : r.length = kk m) (hre : ∀ i, i < kk m → r[i]? = some (E m c.1 i)) :
  Ret (loop (fun s => xK x yr r s.1 s.2.1 s.2.2) (seen, Q, 0)) fun t => t.1 = yr.1 ∧ ∃ L', L.length ≤ L'.length ∧ L'.take L.length = L ∧ Bfs (kk m) nob (nx1 m) 0 L' a (kk m) ∧ Que m L' (a + 1) t.2.1 t.2.2 := by
 have hk := h.kk_le
 have hal := (List.getElem?_eq_some_iff.1 hc).1
 have hcN := (Ve h c.2 c.1 (hb.path c (List.mem_of_getElem? hc))).2.2
 refine xm (fun s => ∃ (i : Nat) (L' : List (Nat × List Nat)), s.2.2 = (i : Int) ∧ i ≤ kk m ∧ L.length ≤ L'.length ∧ L'.take L.length = L ∧ Bfs (kk m) nob (nx1 m) 0 L' a i ∧ Que m L' (a + 1) s.1 s.2.1) (fun s => 100 - s.2.2.toNat) ⟨0, L, rfl, Nat.zero_le _, Nat.le_refl _, List.take_length, hb, hq⟩ (by show 100 - _ < _; omega) ?_
 rintro ⟨seen', Q', _⟩ ⟨i, L', rfl, hi, hll, htk, hb', hq'⟩
 simp only at hq'
 show Ret (xK x yr r seen' Q' (i : Int)) _
 unfold xK
 rw [yx]
 refine ⟨fun h1 => ?_, fun h1 => ?_⟩
 ·have hlt : i < kk m := by simp at h1; omega
  have hc' : L'[a]? = some c := by
   have : (L'.take L.length)[a]? = some c := by rw [htk]; exact hc
   rwa [List.getElem?_take, if_pos hal] at this
  rw [zk (hre i hlt), oB]
  have old : (∀ q, nx1 m c.1 i = some q → ∃ b ∈ L', b.1 = q) → Ret (yC (σ := σ) (i : Int) seen' Q') (LRP (fun s' => (∃ (i : Nat) (L' : List (Nat × List Nat)), s'.2.2 = (i : Int) ∧ i ≤ kk m ∧ L.length ≤ L'.length ∧ L'.take L.length = L ∧ Bfs (kk m) nob (nx1 m) 0 L' a i ∧ Que m L' (a + 1) s'.1 s'.2.1) ∧ 100 - s'.2.2.toNat < 100 - ((i : Int)).toNat) (fun t => t.1 = yr.1 ∧ ∃ L', L.length ≤ L'.length ∧ L'.take L.length = L ∧ Bfs (kk m) nob (nx1 m) 0 L' a (kk m) ∧ Que m L' (a + 1) t.2.1 t.2.2)) := by
   intro hn
   unfold yC
   rw [zn, kH (by omega)]
   exact ⟨⟨i + 1, L', rfl, hlt, hll, htk, hb'.old hc' hlt rfl hn, hq'⟩, by simp only; omega⟩
  rcases h.edgeAt hcN hlt with ⟨g1, _⟩ | ⟨g1, g2, _⟩
  ·have : ((E m c.1 i).To != -1) = false := by rw [g1]; rfl
   rw [this, cond_false]
   exact old fun q hq => by unfold nx1 at hq; rw [if_neg (by omega)] at hq; cases hq
  ·have e1 : ((E m c.1 i).To != -1) = true := by simp; omega
   obtain ⟨q, hq0⟩ : ∃ q : Nat, (E m c.1 i).To = q := ⟨(E m c.1 i).To.toNat, by omega⟩
   have hqN : q < m.Rows.length := by omega
   have hnx : nx1 m c.1 i = some q := by unfold nx1; rw [if_pos g1, hq0]; simp
   have hsq : seen'[q]? = some seen'[q]! := by
    have : q < seen'.length := by rw [hq'.len]; exact hqN
    rw [List.getElem?_eq_getElem this]; simp [this]
   rw [e1, cond_true, hq0, zk hsq, oB]
   by_cases hs : seen'[q]! = true
   ·rw [hs]
    simp only [Bool.not_true, cond_false]
    refine old fun q' hq2 => ?_
    rw [hnx] at hq2
    cases hq2
    rw [hs] at hsq
    obtain ⟨u, hu⟩ := (hq'.seen q).1 hsq
    exact ⟨_, hu, rfl⟩
   ·have hs : seen'[q]! = false := by simpa using hs
    have hnot : ∀ u, (q, u) ∉ L' := fun u hu => by
     have := (hq'.seen q).2 ⟨u, hu⟩
     rw [hsq, hs] at this
     cases this
    have hL' := z4K h hb' hq'.nodup
    have hN := h.len64
    have hql := hq'.qlen
    rw [hs]
    simp only [Bool.not_false, cond_true]
    rw [oB, gdT (by simp; omega)]
    unfold yC
    rw [zn, kH (by omega)]
    refine ⟨⟨i + 1, L' ++ [(q, i :: c.2)], rfl, hlt, by simp; omega, by rw [List.take_append_of_le_length hll, htk], hb'.new hc' hlt rfl hnx, ?_⟩, by simp only; omega⟩
    refine ⟨by simp [hq'.len], fun t => ?_, ?_, by simp; omega, fun j y hy => ?_⟩
    ·simp only [Int.toNat_natCast]
     rw [Uq (by rw [hq'.len]; exact hqN), hq'.seen]
     constructor
     ·rintro (rfl | ⟨u, hu⟩)
      ·exact ⟨_, List.mem_append_right _ (List.mem_singleton.2 rfl)⟩
      ·exact ⟨u, List.mem_append_left _ hu⟩
     ·rintro ⟨u, hu⟩
      rcases List.mem_append.1 hu with g | g
      ·exact .inr ⟨u, g⟩
      ·have := List.mem_singleton.1 g
       cases this
       exact .inl rfl
    ·rw [List.map_append, List.nodup_append]
     refine ⟨hq'.nodup, by simp, fun t ht s hs' e => ?_⟩
     obtain ⟨b, hb1, rfl⟩ := List.mem_map.1 ht
     have hs2 : s = q := by simpa using hs'
     exact hnot b.2 (by rw [← hs2, ← e]; exact hb1)
    ·rcases Nat.lt_or_ge j Q'.length with g | g
     ·rw [List.getElem?_append_left g] at hy
      obtain ⟨d, d1, d2, d3⟩ := hq'.arr j y hy
      have dl := (List.getElem?_eq_some_iff.1 d1).1
      refine ⟨d, by rw [List.getElem?_append_left dl]; exact d1, d2, ?_⟩
      rcases d3 with d3 | ⟨i', u', p, j', e1, e2, e3, e4, e5⟩
      ·exact .inl d3
      ·exact .inr ⟨i', u', p, j', e1, e2, e3, e4, by rw [List.getElem?_append_left (List.getElem?_eq_some_iff.1 e5).1]; exact e5⟩
     ·have hjl := (List.getElem?_eq_some_iff.1 hy).1
      simp at hjl
      have hj : j = Q'.length := by omega
      subst hj
      simp at hy
      subst hy
      refine ⟨(q, i :: c.2), by rw [List.getElem?_append_right (by omega), show a + 1 + Q'.length - L'.length = 0 by omega]; rfl, rfl, .inr ⟨i, c.2, c.1, a, rfl, rfl, hx, by omega, ?_⟩⟩
      rw [List.getElem?_append_left (by omega), hc']
 ·have : i = kk m := by simp at h1; omega
  subst this
  rw [zn]
  exact ⟨rfl, L', hll, htk, hb', hq'⟩
structure zfi (m : z7) (L : List (Nat × List Nat)) (a : Nat) (l : List (List Int)) (is : List Bool) : Prop where
 l1 : l.length = m.Rows.length
 l2 : is.length = m.Rows.length
 got : ∀ (j : Nat) (c : Nat × List Nat), j < a → L[j]? = some c → is[c.1]? = some true ∧ l[c.1]? = some (c.2.reverse.map Int.ofNat)
 rest : ∀ t : Nat, t < m.Rows.length → (∀ (j : Nat) (c : Nat × List Nat), j < a → L[j]? = some c → c.1 ≠ t) → is[t]? = some false ∧ l[t]? = some []
omit h in
theorem zeM (w : List Int) (hw : w.length ≤ 4294967296) : zR w = some w := Kk w hw
theorem za4 {L : List (Nat × List Nat)} {a : Nat} {l : List (List Int)} {is : List Bool} (hp : zfi m L a l is) {c : Nat × List Nat} (hc : L[a]? = some c) {x : zi} (hx : zgy L a x c) (hn : (L.map (·.1)).Nodup) (hb : Bfs (kk m) nob (nx1 m) 0 L a 0) :
  ∃ l' is', xM l is x = some (.next (l', is')) ∧ zfi m L (a + 1) l' is' := by
 have hal := (List.getElem?_eq_some_iff.1 hc).1
 have hcN := (Ve h c.2 c.1 (hb.path c (List.mem_of_getElem? hc))).2.2
 obtain ⟨q1, q2⟩ := hx
 have hne : ∀ (j : Nat) (d : Nat × List Nat), j < a → L[j]? = some d → d.1 ≠ c.1 := fun j d hj hd e => by
  have h1 : (L.map (·.1))[j]? = some d.1 := by rw [List.getElem?_map, hd]; rfl
  have h2 : (L.map (·.1))[a]? = some c.1 := by rw [List.getElem?_map, hc]; rfl
  rw [← e] at h2
  have := ((List.getElem?_inj (List.getElem?_eq_some_iff.1 h1).1 hn).1 (h1.trans h2.symm))
  omega
 obtain ⟨r1, r2⟩ := hp.rest c.1 hcN hne
 have main : ∀ w : List Int, w = c.2.reverse.map Int.ofNat → zfi m L (a + 1) (l.set c.1 w) (is.set c.1 true) := by
  intro w hw
  refine ⟨by simp [hp.l1], by simp [hp.l2], fun j d hj hd => ?_, fun t ht hall => ?_⟩
  ·by_cases e : j = a
   ·subst e
    rw [hc] at hd
    cases hd
    rw [List.getElem?_set_self (by rw [hp.l2]; exact hcN), List.getElem?_set_self (by rw [hp.l1]; exact hcN), hw]
    exact ⟨rfl, rfl⟩
   ·have hne' := hne j d (by omega) hd
    rw [List.getElem?_set_ne (Ne.symm hne'), List.getElem?_set_ne (Ne.symm hne')]
    exact hp.got j d (by omega) hd
  ·have hne' : c.1 ≠ t := hall a c (by omega) hc
   rw [List.getElem?_set_ne hne', List.getElem?_set_ne hne']
   exact hp.rest t ht fun j d hj hd => hall j d (by omega) hd
 unfold xM
 rw [q1, zk r1, oB]
 simp only [Int.toNat_natCast]
 rcases q2 with ⟨q2, q3⟩ | ⟨i, u, p, j, q2, q3, q4, q5, q6⟩
 ·have : (x.from_ != -1) = false := by rw [q3]; rfl
  rw [this, cond_false]
  refine ⟨l, is.set c.1 true, rfl, ?_⟩
  have := main [] (by rw [q2]; rfl)
  have e : l.set c.1 [] = l := by
   apply List.ext_getElem?
   intro t
   by_cases e : t = c.1
   ·subst e; rw [List.getElem?_set_self (by rw [hp.l1]; exact hcN), r2]
   ·rw [List.getElem?_set_ne (Ne.symm e)]
  rwa [e] at this
 ·have : (x.from_ != -1) = true := by rw [q4]; simp <;> omega
  obtain ⟨g1, g2⟩ := hp.got j (p, u) q5 q6
  have hul : u.length ≤ j := hb.short j (p, u) q6
  have hjL := (List.getElem?_eq_some_iff.1 q6).1
  have hLN := z4K h hb hn
  have hN := h.len64
  rw [this, cond_true, q4, zk g2, oB, zeM _ (by simp; omega), oB, gdT (by simp; omega), VZ, oB, zk r2, oB]
  refine ⟨_, _, rfl, main _ ?_⟩
  rw [q2, q3]
  simp
theorem z1R : Ret (Y3 m 0) (z5f m) := by
 have l1 := h.len1
 have hN := h.len64
 have e0 : ((m.Rows.length : Nat) : Int).toNat = m.Rows.length := by simp
 unfold Y3 kG
 rw [gdT (by omega), gdT (by omega), oB, e0, ym]
 refine Ret.mono (Q := fun t => ∃ l is, t = .next (l, is) ∧ z5f m (l, is)) ?_ ?_
 ·dsimp only
  unfold ug
  have hrep : (List.replicate m.Rows.length false)[(0 : Nat)]? = some false := by rw [List.getElem?_replicate, if_pos (by omega)]
  rw [gdT (by omega), e0, ym, show idx (List.replicate m.Rows.length false) 0 = some false from hrep, zn, ym]
  refine Ret.mono (Q := fun t => ∃ l is, t = .next (l, is) ∧ z5f m (l, is)) ?_ fun t ht => zn.2 ht
  have hst0 : Que m [(0, [])] 0 ((List.replicate m.Rows.length false).set (0 : Int).toNat true) [zi.mk 0 (-1) (-1)] := by
   refine ⟨by simp, fun t => ?_, by simp, by simp, fun j x hx => ?_⟩
   ·show ((List.replicate m.Rows.length false).set 0 true)[t]? = some true ↔ _
    rw [Uq (by simp; omega)]
    constructor
    ·rintro (rfl | q)
     ·exact ⟨[], by simp⟩
     ·rw [List.getElem?_replicate] at q; split at q <;> cases q
    ·rintro ⟨u, hu⟩
     simp at hu
     exact .inl hu.1
   ·have hj := (List.getElem?_eq_some_iff.1 hx).1
    simp at hj
    subst hj
    simp at hx
    subst hx
    exact ⟨(0, []), rfl, rfl, .inl ⟨rfl, rfl⟩⟩
  have hp0 : zfi m [(0, [])] 0 (List.replicate m.Rows.length ([] : List Int)) (List.replicate m.Rows.length false) := by
   refine ⟨by simp, by simp, fun j c hj => by omega, fun t ht _ => ?_⟩
   rw [List.getElem?_replicate, List.getElem?_replicate, if_pos ht, if_pos ht]
   exact ⟨rfl, rfl⟩
  refine xm (fun s => ∃ (a : Nat) (L : List (Nat × List Nat)) (l : List (List Int)) (is : List Bool), s.1 = .next (l, is) ∧ a ≤ L.length ∧ Bfs (kk m) nob (nx1 m) 0 L a 0 ∧ Que m L a s.2.1 s.2.2 ∧ zfi m L a l is) (fun s => match s.1 with | .next (l, is) => 200 - (is.countP id) | .done _ => 0) ⟨0, _, _, _, rfl, by simp, Bfs.start, hst0, hp0⟩ (by show 200 - _ < _; omega) ?_
  rintro ⟨sg, seen, Q⟩ ⟨a, L, l, is, hsg, haL, hb, hq, hp⟩
  simp only at hsg hq
  subst hsg
  have hLN := z4K h hb hq.nodup
  have hql := hq.qlen
  show Ret (wC m (yOf (fun s x => xM s.1 s.2 x)) (.next (l, is)) seen Q) _
  unfold wC
  rw [yx]
  refine ⟨fun h1 => ?_, fun h1 => ?_⟩
  ·have hQ : 0 < Q.length := by simp at h1; omega
   have hx0 : Q[0]? = some Q[0] := List.getElem?_eq_getElem hQ
   obtain ⟨c, c1, c2⟩ := hq.arr 0 _ hx0
   rw [Nat.add_zero] at c1 c2
   have hal := (List.getElem?_eq_some_iff.1 c1).1
   have hcN := (Ve h c.2 c.1 (hb.path c (List.mem_of_getElem? c1))).2.2
   obtain ⟨l', is', y1, y2⟩ := za4 h hp c1 c2 hq.nodup hb
   have yv : yOf (fun (s : List (List Int) × List Bool) x => xM s.1 s.2 x) (.next (l, is)) Q[0] = some (.next (l', is'), true) := by
    unfold yOf
    simp only
    rw [y1]
   obtain ⟨r, hr, hrl, hre⟩ := h.rowAt hcN
   have hs0 := c2.1
   rw [show idx Q 0 = some Q[0] from hx0, oB, gdT (by omega), yv, oB]
   simp only [Bool.not_true, cond_false]
   rw [hs0, zk hr, oB, ym]
   have hq' : Que m L (a + 1) seen (Q.drop 1) := by
    refine ⟨hq.len, hq.seen, hq.nodup, by rw [List.length_drop]; omega, fun j x hx => ?_⟩
    rw [List.getElem?_drop] at hx
    have := hq.arr (1 + j) x hx
    rwa [show a + (1 + j) = a + 1 + j by omega] at this
   refine (zce h (σ := LR (List (List Int) × List Bool) Empty) (LR.next (l', is'), true) Q[0] c1 hs0 hb hq' hrl hre).mono ?_
   rintro ⟨sg', seen', Q'⟩ ⟨e1, L', g1, g2, g3, g4⟩
   simp only at e1 g4
   rw [zn]
   have same : ∀ j, j < L.length → L'[j]? = L[j]? := fun j hj => by
    have : (L'.take L.length)[j]? = L[j]? := by rw [g2]
    rwa [List.getElem?_take, if_pos hj] at this
   have hal' : a < L'.length := by omega
   refine ⟨⟨a + 1, L', l', is', e1, hal', g3.step hal', g4, ?_⟩, ?_⟩
   ·refine ⟨y2.l1, y2.l2, fun j d hj hd => y2.got j d hj (by rw [← same j (by omega)]; exact hd), fun t ht hall => y2.rest t ht fun j d hj hd => hall j d hj (by rw [same j (by omega)]; exact hd)⟩
   ·subst e1
    have hfalse : is[c.1]? = some false := (hp.rest c.1 hcN fun j d hj hd e => by
     have h1 : (L.map (·.1))[j]? = some d.1 := by rw [List.getElem?_map, hd]; rfl
     have h2 : (L.map (·.1))[a]? = some c.1 := by rw [List.getElem?_map, c1]; rfl
     rw [← e] at h2
     have := ((List.getElem?_inj (List.getElem?_eq_some_iff.1 h1).1 hq.nodup).1 (h1.trans h2.symm))
     omega).1
    have hset : is' = is.set c.1 true := by
     unfold xM at y1
     rw [hs0, zk hfalse, oB] at y1
     simp only [Int.toNat_natCast] at y1
     rcases zP y1 with ⟨_, y1⟩ | ⟨_, y1⟩
     ·obtain ⟨_, _, y1⟩ := zg y1
      obtain ⟨_, _, y1⟩ := zg y1
      obtain ⟨_, y1⟩ := gdE y1
      obtain ⟨_, _, y1⟩ := zg y1
      obtain ⟨_, _, y1⟩ := zg y1
      cases y1; rfl
     ·cases y1; rfl
    subst hset
    have hcl : c.1 < is.length := by rw [hp.l2]; exact hcN
    have cnt : (is.set c.1 true).countP id = is.countP id + 1 := by
     rw [List.countP_set hcl]
     have : is[c.1] = false := by rw [List.getElem?_eq_getElem hcl] at hfalse; exact Option.some.inj hfalse
     simp [this]
    have cle : (is.set c.1 true).countP id ≤ (is.set c.1 true).length := List.countP_le_length
    rw [List.length_set, hp.l2] at cle
    show 200 - (is.set c.1 true).countP id < 200 - is.countP id
    omega
  ·have hQ : Q.length = 0 := by simp at h1; simp [h1]
   have ha : a = L.length := by omega
   rw [zn]
   refine ⟨l, is, rfl, hp.l1, hp.l2, fun t ht => ?_⟩
   have atEnd : ∀ c, L[a]? = some c → False := fun c hc => by have := (List.getElem?_eq_some_iff.1 hc).1; omega
   by_cases hex : ∃ u, (t, u) ∈ L
   ·obtain ⟨u, hu⟩ := hex
    obtain ⟨j, hj⟩ := List.getElem?_of_mem hu
    have hjl := (List.getElem?_eq_some_iff.1 hj).1
    obtain ⟨g1, g2⟩ := hp.got j (t, u) (by omega) hj
    obtain ⟨p1, p2, p3⟩ := Ve h u t (hb.path _ hu)
    refine .inl ⟨g1, u.reverse, g2, p1, ?_, p2, fun v hv e => ?_⟩
    ·rw [List.length_reverse]
     have : u.length ≤ j := hb.short j (t, u) hj
     omega
    ·obtain ⟨j2, b, b1, b2, b3⟩ := hb.reach v.reverse t (z2U h v.reverse t (by rw [List.reverse_reverse]; exact hv) (by rw [List.reverse_reverse]; exact e)) fun c hc => (atEnd c hc).elim
     have hb2 : b.2 = u := by
      have h1 : (L.map (·.1))[j]? = some t := by rw [List.getElem?_map, hj]; rfl
      have h2 : (L.map (·.1))[j2]? = some t := by rw [List.getElem?_map, b1]; exact congrArg some b2
      have := ((List.getElem?_inj (List.getElem?_eq_some_iff.1 h1).1 hq.nodup).1 (h1.trans h2.symm))
      subst this
      rw [hj] at b1
      cases b1; rfl
     rw [hb2, zcd, zcd, List.reverse_reverse] at b3
     exact b3
   ·refine .inr ⟨(hp.rest t ht fun j c hj hc e => hex ⟨c.2, by rw [← e]; exact List.mem_of_getElem? hc⟩).1, fun v hv e => ?_⟩
    obtain ⟨j2, b, b1, b2, _⟩ := hb.reach v.reverse t (z2U h v.reverse t (by rw [List.reverse_reverse]; exact hv) (by rw [List.reverse_reverse]; exact e)) fun c hc => (atEnd c hc).elim
    exact hex ⟨b.2, by rw [← b2]; exact List.mem_of_getElem? b1⟩
 ·rintro t ⟨l, is, rfl, ha⟩
  simp only
  unfold kF
  exact zn.2 ha
theorem z4s : Ret (kR m) fun r => r.2.2 = 0 ∧ z5f m (r.1, r.2.1) := by
 unfold kR
 rw [z2G, z8z h, oB, bne_self_eq_false, cond_false, ym]
 exact (z1R h).mono fun r hr => zn.2 ⟨rfl, hr⟩
end
theorem z8m (a : Nat) : ∀ k, ∀ w ∈ exW a k, ∀ c ∈ w, 0 ≤ c ∧ c < (a : Int)
 | 0, w, hw, c, hc => by
  have : w = [] := by simpa [exW] using hw
  subst this; simp at hc
 | k + 1, w, hw, c, hc => by
  simp only [exW, List.mem_flatMap] at hw
  obtain ⟨u, hu, hw⟩ := hw
  simp only [Ki, List.mem_map, List.mem_range] at hw
  obtain ⟨s, hs, rfl⟩ := hw
  rcases List.mem_append.1 hc with q | q
  ·exact z8m a k u hu c q
  ·rw [List.mem_singleton.1 q]; omega
theorem z2k (a f : Nat) : ∀ k, ∀ w ∈ ZH a f k, ∀ c ∈ w, 0 ≤ c ∧ c < (a : Int)
 | 0, w, hw, c, hc => by simp [ZH] at hw
 | k + 1, w, hw, c, hc => by
  simp only [ZH] at hw
  split at hw
  ·rcases List.mem_append.1 hw with q | q
   ·exact z2k a f k w q c hc
   ·exact z8m a k w q c hc
  ·exact z2k a f k w hw c hc
theorem z03 (a f : Nat) : ∀ k, ∀ w ∈ ZH a f (k + 1), w.length ≤ k
 | 0, w, hw => by
  simp only [ZH] at hw
  split at hw
  ·have : w ∈ exW a 0 := by simpa using hw
   rw [YM a 0 w this]
   exact Nat.le_refl _
  ·simp at hw
 | k + 1, w, hw => by
  rw [ZH] at hw
  split at hw
  ·rcases List.mem_append.1 hw with q | q
   ·exact Nat.le_succ_of_le (z03 a f k w q)
   ·rw [YM a (k + 1) w q]
    exact Nat.le_refl _
  ·exact Nat.le_succ_of_le (z03 a f k w hw)
theorem zac : ∀ a, a ≤ 6 → ∀ k, k ≤ 3 → lnW a 0 (k + 1) ≤ 259 := by decide
theorem z8Q : ∀ a, a ≤ 6 → ∀ k, k ≤ 3 → zeU a 0 k = false := by decide
section
variable {a k : Nat} (ha : 1 ≤ a) (ha6 : a ≤ 6) (hk : k ≤ 3)
include ha ha6 hk
omit ha in
theorem zds : Wq (a : Int) 259 3 (ZH a 0 (k + 1)) := ⟨z2l a 0 _, by rw [Ka]; exact zac a ha6 k hk, fun w hw => ⟨Nat.le_trans (z03 a 0 k w hw) hk, z2k a 0 _ w hw⟩⟩
theorem zdX : Xk (a : Int) (k : Int) = some (ZH a 0 (k + 1), 0) := by
 unfold Xk
 have := zd7 (a := a) (f := 0) (t := k) ⟨ha, by omega⟩ (by omega) (by omega)
 rw [z8Q a ha6 k hk] at this
 rw [show ((0 : Nat) : Int) = 0 from rfl] at this
 rw [this]
 rfl
end
section
variable {m : z7} (h : VM m)
include h
theorem z6k {L : Nat} (hN : m.Rows.length ≤ L) {l : List (List Int)} {is : List Bool} (ha : z5f m (l, is)) (hall : ∀ t, t < m.Rows.length → Rch m t) : Wq m.Inputs L (L - 1) (srt l) ∧ ∀ w ∈ l, w.length ≤ L - 1 ∧ ∀ c ∈ w, 0 ≤ c ∧ c < m.Inputs := by
 have hw : ∀ w ∈ l, w.length ≤ L - 1 ∧ ∀ c ∈ w, 0 ≤ c ∧ c < m.Inputs := by
  intro w hw
  obtain ⟨t, ht⟩ := List.mem_iff_getElem?.1 hw
  have htl : t < m.Rows.length := by have := (List.getElem?_eq_some_iff.1 ht).1; rw [ha.1] at this; exact this
  rcases ha.2.2 t htl with ⟨_, v, v1, v2⟩ | ⟨_, v⟩
  ·have v1 : l[t]? = some (v.map Int.ofNat) := v1
   rw [ht] at v1
   cases v1
   refine ⟨by rw [List.length_map]; have := v2.len; omega, fun c hc => ?_⟩
   obtain ⟨i, hi, rfl⟩ := List.mem_map.1 hc
   have := v2.wd i hi
   have := h.kk_eq
   exact ⟨Int.natCast_nonneg _, by show (i : Int) < _; omega⟩
  ·obtain ⟨u, u1, u2⟩ := hall t htl
   exact absurd u2 (v u u1)
 exact ⟨⟨Wk l, Nat.le_trans (YQ l) (by have : l.length = m.Rows.length := ha.1; omega), fun w hm => hw w (wI.1 hm)⟩, hw⟩
theorem z1h : Ret (ud m) fun r => (∀ t, t < m.Rows.length → Rch m t) ∧ (∃ l is, z5f m (l, is) ∧ r = (srt l, 0)) ∨ (¬ ∀ t, t < m.Rows.length → Rch m t) ∧ r = ([], 11) := by
 obtain ⟨⟨b, e⟩, hc, he, hb⟩ := z2C h
 simp only at he hb
 subst he
 unfold ud
 rw [hc, oB]
 simp only [bne_self_eq_false, cond_false]
 by_cases hr : b = true
 ·subst hr
  have hall := hb.1 rfl
  simp only [Bool.not_true, cond_false]
  obtain ⟨⟨l, is, e⟩, ha, he, hacc⟩ := z4s h
  simp only at he hacc
  subst he
  obtain ⟨hwq, hws⟩ := z6k h h.len64 hacc hall
  rw [ha, oB]
  simp only [bne_self_eq_false, cond_false]
  have hl64 : l.length ≤ 64 := by have : l.length = m.Rows.length := hacc.1; have := h.len64; omega
  have hlo : loE m.Inputs l = 0 := Kg.2 ⟨⟨h.in1, h.in16⟩, by omega, fun w hw => ⟨by have := (hws w hw).1; omega, (hws w hw).2⟩⟩
  have hsy : uR (srt l) ≤ 65536 := Nat.le_trans (WN hwq.2.1 fun w hw => (hwq.2.2 w hw).1) (by omega)
  have hso : soR l = (srt l, 0) := by
   unfold soR
   rw [if_neg (by have := hwq.2.1; omega)]
  unfold Va
  rw [z5M, hlo, oB, bne_self_eq_false, cond_false, z29 (by omega) (fun w hw => by have := (hws w hw).1; omega), hso, oB, oB, zn]
  exact .inl ⟨hall, l, is, hacc, rfl⟩
 ·have hr : b = false := by simpa using hr
  subst hr
  simp only [Bool.not_false, cond_true]
  rw [zn]
  exact .inr ⟨fun q => (by have := hb.2 q; cases this), rfl⟩
def zj1 (m : z7) (k : Int) (r : List (List Int) × Int) : Prop :=
 ((¬ ∀ t, t < m.Rows.length → Rch m t) ∧ r = ([], 11)) ∨ (∀ t, t < m.Rows.length → Rch m t) ∧ (k < 0 ∧ r = ([], 1) ∨ 0 ≤ k ∧ ∃ l is, z5f m (l, is) ∧ r = (srt (qN (srt l) (ZH (kk m) 0 (k.toNat + 1))), 0))
theorem z3m (hN : m.Rows.length ≤ 8) (hk : kk m ≤ 6) {k : Int} (h3 : k ≤ 3) : Ret (wK m k) (zj1 m k) := by
 have hkk := h.kk_eq
 have hk1 := h.kk_pos
 unfold wK
 rw [ym]
 refine (z1h h).mono fun r hr => ?_
 rcases hr with ⟨hall, l, is, hacc, rfl⟩ | ⟨hn, rfl⟩
 ·simp only [bne_self_eq_false, cond_false]
  rw [yx]
  refine ⟨fun hc => ?_, fun hc => ?_⟩
  ·rw [zn]
   exact .inr ⟨hall, .inl ⟨of_decide_eq_true hc, rfl⟩⟩
  ·have h0 : 0 ≤ k := by have := of_decide_eq_false hc; omega
   obtain ⟨n, rfl⟩ : ∃ n : Nat, k = n := ⟨k.toNat, by omega⟩
   have hn3 : n ≤ 3 := by omega
   have hup := zdX hk1 hk hn3
   have hwu := zds hk hn3
   rw [hkk] at hup hwu
   obtain ⟨hwq, _⟩ := z6k h hN hacc hall
   have hc1 := hwq.ch ⟨h.in1, h.in16⟩ (by omega) (by omega) (by omega)
   have hc2 := hwu.ch ⟨h.in1, h.in16⟩ (by omega) (by omega) (by omega)
   have hcc := z6X hwq hwu ⟨h.in1, h.in16⟩ hc1 hc2 (by omega) (by omega) (by omega)
   rw [hup, oB]
   simp only [bne_self_eq_false, cond_false]
   rw [hcc, oB, zn]
   exact .inr ⟨hall, .inr ⟨h0, l, is, hacc, rfl⟩⟩
 ·have : ((11 : Int) != 0) = true := rfl
  simp only [this, cond_true]
  rw [zn]
  exact .inl ⟨hn, rfl⟩
theorem KC (hN : m.Rows.length ≤ 8) (hk : kk m ≤ 6) : Ret (w9 m) (zj1 m 1) := by
 unfold w9
 rw [ym]
 exact (z3m h hN hk (k := 1) (by omega)).mono fun r hr => zn.2 hr
end
structure We (a : Nat) (nodes : List zb) (wd : List (List Int)) (D : List Int → Prop) : Prop where
 len : nodes.length = wd.length
 nod : wd.Nodup
 nlen : ∀ (i : Nat) (N : zb), nodes[i]? = some N → N.Next.length = a
 nxt : ∀ (i : Nat) (N : zb) (x : List Int), nodes[i]? = some N → wd[i]? = some x → ∀ s : Nat, s < a → (N.Next[s]? = some (-1) ∧ (x ++ [(s : Int)]) ∉ wd) ∨ ∃ j : Nat, N.Next[s]? = some (j : Int) ∧ wd[j]? = some (x ++ [(s : Int)])
 root : 0 < wd.length → wd[0]? = some []
 clo : ∀ (w : List Int) (s : Int), w ++ [s] ∈ wd → w ∈ wd ∧ 0 ≤ s ∧ s < (a : Int)
 en : ∀ (i : Nat) (N : zb) (x : List Int), nodes[i]? = some N → wd[i]? = some x → (N.End = true ↔ D x)
theorem z7S {a : Nat} (ha : a ≤ 100) {nodes : List zb} (hn : nodes.length ≤ 1000000) :
  w6 (zu.mk (a : Int) nodes) = some ((nodes.length : Int), zu.mk (a : Int) (nodes ++ [zb.mk (List.replicate a (-1)) false])) := by
 unfold w6
 rw [gdT (by simp only; omega)]
 have h := YL (step := fun s => yi (zu.mk (a : Int) nodes) s.1 s.2) (fun i => (List.replicate i (-1 : Int) ++ List.replicate (a - i) 0, (i : Int))) a (t := List.replicate a (-1 : Int)) (by omega) (by
  intro i hi
  show yi (zu.mk (a : Int) nodes) _ (i : Int) = _
  unfold yi
  have hq : decide ((i : Int) < (((List.replicate (zu.mk (a : Int) nodes).inputs_.toNat (0 : Int)).length : Nat) : Int)) = true := by rw [decide_eq_true_eq]; simpa using hi
  rw [hq]
  have hr : List.replicate (a - i) (0 : Int) = 0 :: List.replicate (a - (i + 1)) 0 := by rw [show a - i = (a - (i + 1)) + 1 by omega]; rfl
  have hx : (List.replicate i (-1 : Int) ++ List.replicate (a - i) 0)[i]? = some 0 := by rw [List.getElem?_append_right (by simp), hr]; simp
  simp only [cond_true, zk hx, oB, Int.toNat_natCast]
  rw [y7 (by omega) (by omega), List.set_append_right _ _ (by simp), List.length_replicate, Nat.sub_self, hr, List.set_cons_zero, List.replicate_succ', List.append_assoc]
  rfl) (by
  show yi (zu.mk (a : Int) nodes) _ (a : Int) = _
  unfold yi
  simp)
 have h0 : (List.replicate 0 (-1 : Int) ++ List.replicate (a - 0) 0, ((0 : Nat) : Int)) = (List.replicate (a : Int).toNat (0 : Int), (0 : Int)) := by simp
 rw [h0] at h
 rw [bdT h]
 unfold wX
 dsimp only
 rw [gdT (by simp; omega), List.length_append, List.length_singleton, y7 (by omega) (by omega)]
 congr 2
 omega
theorem We.mem_at {a : Nat} {nodes : List zb} {wd : List (List Int)} {D : List Int → Prop} (h : We a nodes wd D) {i j : Nat} {x : List Int} (hi : wd[i]? = some x) (hj : wd[j]? = some x) : i = j := by
 exact (List.getElem?_inj (List.getElem?_eq_some_iff.1 hi).1 h.nod).1 (hi.trans hj.symm)
theorem We.grow {a : Nat} {nodes : List zb} {wd : List (List Int)} {D : List Int → Prop} (h : We a nodes wd D) {p s : Nat} {N : zb} {x : List Int} (hN : nodes[p]? = some N) (hx : wd[p]? = some x) (hs : s < a) (hnew : x ++ [(s : Int)] ∉ wd) (hD : ¬ D (x ++ [(s : Int)])) :
  We a ((nodes ++ [zb.mk (List.replicate a (-1)) false]).set p (zb.mk (N.Next.set s (nodes.length : Int)) N.End)) (wd ++ [x ++ [(s : Int)]]) D := by
 have hp : p < nodes.length := (List.getElem?_eq_some_iff.1 hN).1
 have hl := h.len
 have hxm : x ∈ wd := List.mem_of_getElem? hx
 have newN : ∀ (i : Nat) (M : zb), ((nodes ++ [zb.mk (List.replicate a (-1)) false]).set p (zb.mk (N.Next.set s (nodes.length : Int)) N.End))[i]? = some M → (i = p ∧ M = zb.mk (N.Next.set s (nodes.length : Int)) N.End) ∨ (i ≠ p ∧ i < nodes.length ∧ nodes[i]? = some M) ∨ (i = nodes.length ∧ M = zb.mk (List.replicate a (-1)) false) := by
  intro i M hM
  by_cases hip : i = p
  ·subst hip
   rw [List.getElem?_set_self (by simp; omega)] at hM
   exact .inl ⟨rfl, by simpa using hM.symm⟩
  ·rw [List.getElem?_set_ne (fun e => hip e.symm)] at hM
   rcases Nat.lt_or_ge i nodes.length with q | q
   ·rw [List.getElem?_append_left q] at hM
    exact .inr (.inl ⟨hip, q, hM⟩)
   ·rw [List.getElem?_append_right q] at hM
    have : i - nodes.length = 0 := by
     have := (List.getElem?_eq_some_iff.1 hM).1
     simpa using this
    rw [this] at hM
    exact .inr (.inr ⟨by omega, by simpa using hM.symm⟩)
 have newW : ∀ (i : Nat) (y : List Int), (wd ++ [x ++ [(s : Int)]])[i]? = some y → (i < wd.length ∧ wd[i]? = some y) ∨ (i = wd.length ∧ y = x ++ [(s : Int)]) := by
  intro i y hy
  rcases Nat.lt_or_ge i wd.length with q | q
  ·rw [List.getElem?_append_left q] at hy
   exact .inl ⟨q, hy⟩
  ·rw [List.getElem?_append_right q] at hy
   have : i - wd.length = 0 := by
    have := (List.getElem?_eq_some_iff.1 hy).1
    simpa using this
   rw [this] at hy
   exact .inr ⟨by omega, by simpa using hy.symm⟩
 have oldW : ∀ (i : Nat) (y : List Int), wd[i]? = some y → (wd ++ [x ++ [(s : Int)]])[i]? = some y := by
  intro i y hy
  rw [List.getElem?_append_left (List.getElem?_eq_some_iff.1 hy).1]
  exact hy
 have lastW : (wd ++ [x ++ [(s : Int)]])[wd.length]? = some (x ++ [(s : Int)]) := by
  rw [List.getElem?_append_right (Nat.le_refl _)]; simp
 refine ⟨by simp [hl], ?_, ?_, ?_, ?_, ?_, ?_⟩
 ·rw [List.nodup_append]
  exact ⟨h.nod, by simp, fun y hy z hz => by simp at hz; subst hz; exact fun e => hnew (e ▸ hy)⟩
 ·intro i M hM
  rcases newN i M hM with ⟨_, rfl⟩ | ⟨_, _, q⟩ | ⟨_, rfl⟩
  ·simpa using h.nlen p N hN
  ·exact h.nlen i M q
  ·simp
 ·intro i M y hM hy t ht
  rcases newN i M hM with ⟨rfl, rfl⟩ | ⟨hip, hil, q⟩ | ⟨rfl, rfl⟩
  ·have hyx : y = x := by
    have := oldW i x hx
    rw [this] at hy
    simpa using hy.symm
   subst hyx
   by_cases hts : t = s
   ·subst hts
    right
    refine ⟨nodes.length, ?_, by rw [hl]; exact lastW⟩
    simp only
    rw [List.getElem?_set_self (by rw [h.nlen i N hN]; exact ht)]
   ·rcases h.nxt i N y hN hx t ht with ⟨q1, q2⟩ | ⟨j, q1, q2⟩
    ·left
     simp only
     rw [List.getElem?_set_ne (fun e => hts e.symm)]
     refine ⟨q1, fun hm => ?_⟩
     rcases List.mem_append.1 hm with q | q
     ·exact q2 q
     ·simp at q
      omega
    ·right
     simp only
     rw [List.getElem?_set_ne (fun e => hts e.symm)]
     exact ⟨j, q1, oldW _ _ q2⟩
  ·have hy' : wd[i]? = some y := by
    rcases newW i y hy with ⟨_, q⟩ | ⟨q, _⟩
    ·exact q
    ·omega
   rcases h.nxt i M y q hy' t ht with ⟨q1, q2⟩ | ⟨j, q1, q2⟩
   ·left
    refine ⟨q1, fun hm => ?_⟩
    rcases List.mem_append.1 hm with q | q
    ·exact q2 q
    ·simp only [List.mem_singleton] at q
     have := List.append_inj' q rfl
     obtain ⟨e1, _⟩ := this
     subst e1
     exact hip (h.mem_at hy' hx)
   ·exact .inr ⟨j, q1, oldW _ _ q2⟩
  ·have hy' : y = x ++ [(s : Int)] := by
    rw [hl, lastW] at hy
    simpa using hy.symm
   subst hy'
   left
   refine ⟨by rw [List.getElem?_replicate, if_pos ht], fun hm => ?_⟩
   rcases List.mem_append.1 hm with q | q
   ·exact hnew (h.clo _ _ q).1
   ·simp only [List.mem_singleton] at q
    have := congrArg List.length q
    simp at this
 ·intro _
  have h0 : 0 < wd.length := by omega
  exact oldW 0 [] (h.root h0)
 ·intro w t hw
  rcases List.mem_append.1 hw with q | q
  ·have := h.clo w t q
   exact ⟨by simp [this.1], this.2⟩
  ·simp only [List.mem_singleton] at q
   obtain ⟨e1, e2⟩ := List.append_inj' q rfl
   subst e1
   simp at e2
   subst e2
   exact ⟨by simp [hxm], by omega, by omega⟩
 ·intro i M y hM hy
  rcases newN i M hM with ⟨rfl, rfl⟩ | ⟨hip, hil, q⟩ | ⟨rfl, rfl⟩
  ·have hyx : y = x := by
    have := oldW i x hx
    rw [this] at hy
    simpa using hy.symm
   subst hyx
   exact h.en i N y hN hx
  ·rcases newW i y hy with ⟨_, q2⟩ | ⟨q2, _⟩
   ·exact h.en i M y q q2
   ·omega
  ·have hy' : y = x ++ [(s : Int)] := by
    rw [hl, lastW] at hy
    simpa using hy.symm
   subst hy'
   simp [hD]
theorem We.ends {a : Nat} {nodes : List zb} {wd : List (List Int)} {D : List Int → Prop} (h : We a nodes wd D) {p : Nat} {N : zb} {x : List Int} (hN : nodes[p]? = some N) (hx : wd[p]? = some x) : We a (nodes.set p (zb.mk N.Next true)) wd (fun y => D y ∨ y = x) := by
 have hp : p < nodes.length := (List.getElem?_eq_some_iff.1 hN).1
 have newN : ∀ (i : Nat) (M : zb), (nodes.set p (zb.mk N.Next true))[i]? = some M → (i = p ∧ M = zb.mk N.Next true) ∨ (i ≠ p ∧ nodes[i]? = some M) := by
  intro i M hM
  by_cases hip : i = p
  ·subst hip
   rw [List.getElem?_set_self hp] at hM
   exact .inl ⟨rfl, by simpa using hM.symm⟩
  ·rw [List.getElem?_set_ne (fun e => hip e.symm)] at hM
   exact .inr ⟨hip, hM⟩
 refine ⟨by simp [h.len], h.nod, ?_, ?_, h.root, h.clo, ?_⟩
 ·intro i M hM
  rcases newN i M hM with ⟨_, rfl⟩ | ⟨_, q⟩
  ·exact h.nlen p N hN
  ·exact h.nlen i M q
 ·intro i M y hM hy
  rcases newN i M hM with ⟨rfl, rfl⟩ | ⟨_, q⟩
  ·exact h.nxt i N y hN hy
  ·exact h.nxt i M y q hy
 ·intro i M y hM hy
  rcases newN i M hM with ⟨rfl, rfl⟩ | ⟨hip, q⟩
  ·rw [hx] at hy
   cases hy
   simp
  ·rw [h.en i M y q hy]
   constructor
   ·intro q2; exact .inl q2
   ·rintro (q2 | rfl)
    ·exact q2
    ·exact absurd (h.mem_at hy hx) hip
theorem zd8 {a : Nat} (ha : a ≤ 100) {nodes : List zb} {wd : List (List Int)} {D : List Int → Prop} (h : We a nodes wd D) {w : List Int} (hw : ∀ c ∈ w, 0 ≤ c ∧ c < (a : Int)) (hl : w.length ≤ 1000) (hn : wd.length ≤ 500000) (hDp : ∀ x, D x → x ∈ wd) :
  Ret (vG w (zu.mk (a : Int) nodes)) fun b => b.inputs_ = (a : Int) ∧ ∃ wd', We a b.nodes_ wd' (fun y => D y ∨ y = w) ∧ (∀ x, x ∈ wd' ↔ x ∈ wd ∨ ∃ j, j ≤ w.length ∧ x = w.take j) ∧ wd'.length ≤ wd.length + w.length + 1 := by
 have J : ∀ nodes0 wd0, We a nodes0 wd0 D → 0 < wd0.length → wd0.length ≤ wd.length + 1 → (∀ x, x ∈ wd0 ↔ x ∈ wd ∨ x = []) → Ret (xw w (a : Int) nodes0) fun b => b.inputs_ = (a : Int) ∧ ∃ wd', We a b.nodes_ wd' (fun y => D y ∨ y = w) ∧ (∀ x, x ∈ wd' ↔ x ∈ wd ∨ ∃ j, j ≤ w.length ∧ x = w.take j) ∧ wd'.length ≤ wd.length + w.length + 1 := by
  intro nodes0 wd0 h0 hpos hle hmem
  unfold xw
  rw [ym]
  refine Ret.mono (xm (fun q : Int × List zb × Int × Int => ∃ (i p : Nat) (wd1 : List (List Int)), q.1 = (a : Int) ∧ q.2.2.1 = (p : Int) ∧ q.2.2.2 = (i : Int) ∧ i ≤ w.length ∧ We a q.2.1 wd1 D ∧ wd1[p]? = some (w.take i) ∧ (∀ x, x ∈ wd1 ↔ x ∈ wd ∨ ∃ j, j ≤ i ∧ x = w.take j) ∧ wd1.length ≤ wd.length + 1 + i) (fun q => w.length - q.2.2.2.toNat) (R := fun t => t.1 = (a : Int) ∧ ∃ (p : Nat) (wd1 : List (List Int)), t.2.2 = (p : Int) ∧ We a t.2.1 wd1 D ∧ wd1[p]? = some w ∧ (∀ x, x ∈ wd1 ↔ x ∈ wd ∨ ∃ j, j ≤ w.length ∧ x = w.take j) ∧ wd1.length ≤ wd.length + 1 + w.length) ?_ ?_ ?_) ?_
  ·refine ⟨0, 0, wd0, rfl, rfl, rfl, Nat.zero_le _, h0, by simpa using h0.root hpos, fun x => ?_, by omega⟩
   rw [hmem]
   constructor
   ·rintro (q | rfl)
    ·exact .inl q
    ·exact .inr ⟨0, Nat.le_refl _, by simp⟩
   ·rintro (q | ⟨j, q1, q2⟩)
    ·exact .inl q
    ·have : j = 0 := by omega
     subst this
     exact .inr (by simpa using q2)
  ·show w.length - _ < _
   omega
  ·rintro ⟨_, nodes1, _, _⟩ ⟨i, p, wd1, rfl, rfl, rfl, g1, g2, g3, g4, g5⟩
   simp only at g2
   show Ret (wm w (a : Int) nodes1 (p : Int) (i : Int)) _
   unfold wm
   rw [yx]
   refine ⟨fun hc => ?_, fun hc => ?_⟩
   ·have hi : i < w.length := by simpa using hc
    have hwi : w[i]? = some w[i] := List.getElem?_eq_getElem hi
    obtain ⟨c1, c2⟩ := hw _ (List.getElem_mem hi)
    obtain ⟨s, hs⟩ : ∃ s : Nat, w[i] = (s : Int) := ⟨w[i].toNat, by omega⟩
    have hsa : s < a := by omega
    have hp : p < nodes1.length := by rw [g2.len]; exact (List.getElem?_eq_some_iff.1 g3).1
    have hN : nodes1[p]? = some nodes1[p] := List.getElem?_eq_getElem hp
    have htk : w.take (i + 1) = w.take i ++ [(s : Int)] := by rw [List.take_add_one, hwi, hs]; rfl
    have hi2 : w64 ((i : Int) + 1) = ((i + 1 : Nat) : Int) := by rw [y7 (by omega) (by omega)]; omega
    rw [zk hwi, oB, zk hN, oB, hs]
    rcases g2.nxt p _ _ hN g3 s hsa with ⟨q1, q2⟩ | ⟨j, q1, q2⟩
    ·rw [zk q1, oB]
     have hb : ((-1 : Int) == -1) = true := rfl
     rw [hb, cond_true, z7S ha (by rw [g2.len]; omega), oB]
     have hN2 : (nodes1 ++ [zb.mk (List.replicate a (-1)) false])[p]? = some nodes1[p] := by rw [List.getElem?_append_left hp]; exact hN
     dsimp only
     rw [zk hN2, oB, zk q1, oB, Int.toNat_natCast, Int.toNat_natCast]
     have hg := g2.grow hN g3 hsa q2 (fun hd => by
      have := hDp _ hd
      exact q2 ((g4 _).2 (.inl this)))
     unfold xv
     have hset : ((nodes1 ++ [zb.mk (List.replicate a (-1)) false]).set p (zb.mk (nodes1[p].Next.set s (nodes1.length : Int)) nodes1[p].End))[p]? = some (zb.mk (nodes1[p].Next.set s (nodes1.length : Int)) nodes1[p].End) := List.getElem?_set_self (by simp; omega)
     have hnx : (nodes1[p].Next.set s (nodes1.length : Int))[s]? = some (nodes1.length : Int) := List.getElem?_set_self (by rw [g2.nlen p _ hN]; exact hsa)
     rw [zk hset, oB, zk hnx, oB, hi2, zn]
     refine ⟨⟨i + 1, nodes1.length, _, rfl, rfl, rfl, hi, hg, ?_, fun x => ?_, ?_⟩, by simp only [Int.toNat_natCast]; omega⟩
     ·rw [g2.len, htk, List.getElem?_append_right (Nat.le_refl _)]; simp
     ·rw [List.mem_append, g4, List.mem_singleton, ← htk]
      constructor
      ·rintro ((q | ⟨j, r1, r2⟩) | q)
       ·exact .inl q
       ·exact .inr ⟨j, by omega, r2⟩
       ·exact .inr ⟨i + 1, Nat.le_refl _, q⟩
      ·rintro (q | ⟨j, r1, r2⟩)
       ·exact .inl (.inl q)
       ·rcases Nat.lt_or_ge i j with q | q
        ·exact .inr (by rw [r2, show j = i + 1 by omega])
        ·exact .inl (.inr ⟨j, q, r2⟩)
     ·rw [List.length_append, List.length_singleton]; omega
    ·rw [zk q1, oB]
     have hb : ((j : Int) == -1) = false := by simp
     rw [hb, cond_false]
     unfold xv
     rw [zk hN, oB, zk q1, oB, hi2, zn]
     refine ⟨⟨i + 1, j, wd1, rfl, rfl, rfl, hi, g2, by rw [htk]; exact q2, fun x => ?_, by omega⟩, by simp only [Int.toNat_natCast]; omega⟩
     rw [g4]
     constructor
     ·rintro (q | ⟨j, r1, r2⟩)
      ·exact .inl q
      ·exact .inr ⟨j, by omega, r2⟩
     ·rintro (q | ⟨j', r1, r2⟩)
      ·exact .inl q
      ·rcases Nat.lt_or_ge i j' with q | q
       ·have hm : x ∈ wd1 := by rw [r2, show j' = i + 1 by omega, htk]; exact List.mem_of_getElem? q2
        exact (g4 x).1 hm
       ·exact .inr ⟨j', q, r2⟩
   ·have hi : i = w.length := by
     have : ¬ i < w.length := by simpa using hc
     omega
    rw [zn]
    subst hi
    exact ⟨rfl, p, wd1, rfl, g2, by rw [g3, List.take_length], g4, by omega⟩
  ·rintro ⟨_, nodes1, _⟩ ⟨rfl, p, wd1, rfl, g1, g2, g3, g4⟩
   simp only at g1
   show Ret (wn (a : Int) nodes1 (p : Int)) _
   unfold wn
   have hp : p < nodes1.length := by rw [g1.len]; exact (List.getElem?_eq_some_iff.1 g2).1
   have hN : nodes1[p]? = some nodes1[p] := List.getElem?_eq_getElem hp
   rw [zk hN, oB, zn]
   refine ⟨rfl, wd1, g1.ends hN g2, g3, by omega⟩
 unfold vG
 by_cases he : nodes.length = 0
 ·have hb : ((((zu.mk (a : Int) nodes).nodes_.length : Nat) : Int) == 0) = true := by show ((nodes.length : Int) == 0) = true; rw [he]; rfl
  rw [hb, cond_true, z7S ha (by omega), oB]
  have hnil : nodes = [] := List.eq_nil_of_length_eq_zero he
  have hwn : wd = [] := List.eq_nil_of_length_eq_zero (by rw [← h.len]; exact he)
  refine J _ [[]] ?_ (by simp) (by simp) (fun x => by simp [hwn])
  subst hnil hwn
  refine ⟨rfl, by simp, ?_, ?_, fun _ => rfl, ?_, ?_⟩
  ·intro i N hN
   have : i = 0 := by have := (List.getElem?_eq_some_iff.1 hN).1; simp at this; exact this
   subst this
   simp at hN
   subst hN
   simp
  ·intro i N x hN hx s hs
   have : i = 0 := by have := (List.getElem?_eq_some_iff.1 hN).1; simp at this; exact this
   subst this
   simp at hN hx
   subst hN hx
   left
   exact ⟨by simp only; rw [List.getElem?_replicate, if_pos hs], by simp⟩
  ·intro v s hv
   simp at hv
  ·intro i N x hN hx
   have : i = 0 := by have := (List.getElem?_eq_some_iff.1 hN).1; simp at this; exact this
   subst this
   simp at hN hx
   subst hN hx
   simp only [Bool.false_eq_true, false_iff]
   intro hd
   have := hDp _ hd
   simp at this
 ·have hb : ((((zu.mk (a : Int) nodes).nodes_.length : Nat) : Int) == 0) = false := by show ((nodes.length : Int) == 0) = false; rw [beq_eq_false_iff_ne]; omega
  rw [hb, cond_false]
  have hpos : 0 < wd.length := by rw [← h.len]; omega
  exact J nodes wd h hpos (by omega) fun x => ⟨fun q => .inl q, fun q => by
   rcases q with q | rfl
   ·exact q
   ·exact List.mem_of_getElem? (h.root hpos)⟩
theorem z7P {a : Nat} {l : List (List Int)} (hl : chE (a : Int) l = 0) : Ret (V9 l (a : Int)) fun b => b.inputs_ = (a : Int) ∧ ∃ wd, We a b.nodes_ wd (fun y => y ∈ l) ∧ (∀ x, x ∈ wd ↔ ∃ w ∈ l, ∃ j, j ≤ w.length ∧ x = w.take j) ∧ wd.length ≤ uR l + l.length := by
 obtain ⟨q1, q2, q3, q4, q5, q6⟩ := ZR hl
 unfold V9
 rw [ym]
 refine Ret.mono (xm (fun q : Int × List zb × Int => ∃ (i : Nat) (wd : List (List Int)), q.1 = (a : Int) ∧ q.2.2 = (i : Int) ∧ i ≤ l.length ∧ We a q.2.1 wd (fun y => y ∈ l.take i) ∧ (∀ x, x ∈ wd ↔ ∃ w ∈ l.take i, ∃ j, j ≤ w.length ∧ x = w.take j) ∧ wd.length ≤ uR (l.take i) + i) (fun q => l.length - q.2.2.toNat) (R := fun t => t.1 = (a : Int) ∧ ∃ wd, We a t.2 wd (fun y => y ∈ l) ∧ (∀ x, x ∈ wd ↔ ∃ w ∈ l, ∃ j, j ≤ w.length ∧ x = w.take j) ∧ wd.length ≤ uR l + l.length) ?_ ?_ ?_) ?_
 ·refine ⟨0, [], rfl, rfl, Nat.zero_le _, ⟨rfl, List.nodup_nil, by simp, by simp, by simp, by simp, by simp⟩, by simp, by simp⟩
 ·show l.length - _ < _
  omega
 ·rintro ⟨_, nodes, _⟩ ⟨i, wd, rfl, rfl, g1, g2, g3, g4⟩
  simp only at g2
  show Ret (Y5 l (a : Int) nodes (i : Int)) _
  unfold Y5
  rw [yx]
  refine ⟨fun hc => ?_, fun hc => ?_⟩
  ·have hi : i < l.length := by simpa using hc
   have hx : l[i]? = some l[i] := List.getElem?_eq_getElem hi
   have hsy : uR (l.take i) ≤ uR l := z9C (List.take_sublist _ _)
   rw [zk hx, oB, ym]
   refine (zd8 (by omega) g2 (q6 _ (List.getElem_mem hi)) (by have := q2 _ (List.getElem_mem hi); omega) (by omega) (fun x hxx => (g3 x).2 ⟨x, hxx, x.length, Nat.le_refl _, by simp⟩)).mono ?_
   rintro b ⟨e1, wd', t1, t2, t3⟩
   have htk : l.take (i + 1) = l.take i ++ [l[i]] := by rw [List.take_add_one, hx]; rfl
   rw [y7 (by omega) (by omega), zn]
   refine ⟨⟨i + 1, wd', e1, rfl, hi, ?_, fun x => ?_, ?_⟩, by simp only; omega⟩
   ·have : (fun y => y ∈ l.take (i + 1)) = fun y => y ∈ l.take i ∨ y = l[i] := by
     funext y
     rw [htk, List.mem_append, List.mem_singleton]
    simp only
    rw [this]
    exact t1
   ·rw [t2, g3, htk]
    constructor
    ·rintro (⟨w, r1, r2⟩ | r)
     ·exact ⟨w, List.mem_append.2 (.inl r1), r2⟩
     ·exact ⟨l[i], List.mem_append.2 (.inr (List.mem_singleton.2 rfl)), r⟩
    ·rintro ⟨w, r1, r2⟩
     rcases List.mem_append.1 r1 with q | q
     ·exact .inl ⟨w, q, r2⟩
     ·simp at q
      subst q
      exact .inr r2
   ·have : uR (l.take (i + 1)) = uR (l.take i) + l[i].length := by rw [htk, VO]; simp [uR]
    omega
  ·have hi : i = l.length := by
    have : ¬ i < l.length := by simpa using hc
    omega
   rw [zn]
   subst hi
   rw [List.take_length] at g2 g3 g4
   exact ⟨rfl, wd, g2, g3, g4⟩
 ·rintro ⟨x, nodes⟩ ⟨rfl, wd, g1, g2, g3⟩
  show Ret (Y6 (a : Int) nodes) _
  unfold Y6
  rw [zn]
  exact ⟨rfl, wd, g1, g2, g3⟩
section
variable {σ : Type} (yy : σ → zc → Option (σ × Bool))
def Wv : List zc → σ → Option (σ × Bool)
 | [], sg => some (sg, true)
 | p :: ps, sg => Option.bind (yy sg p) fun r => if r.2 = true then Wv ps r.1 else some (r.1, false)
theorem Jp : ∀ (l m : List zc) (sg : σ), Wv yy (l ++ m) sg = Option.bind (Wv yy l sg) fun r => if r.2 = true then Wv yy m r.1 else some (r.1, false)
 | [], m, sg => by simp [Wv]
 | p :: l, m, sg => by
  simp only [List.cons_append, Wv]
  cases yy sg p with
  | none => rfl
  | some r =>
   simp only [oB]
   by_cases h : r.2 = true
   ·simp only [h, if_true]
    exact Jp l m r.1
   ·simp [h]
def z2Y (w : List Int) : List Int → Nat → List zc
 | [], _ => []
 | k :: nx, s => (if k = -1 then [] else [zc.mk k (w ++ [(s : Int)])]) ++ z2Y w nx (s + 1)
theorem z2u (w : List Int) : ∀ (nx : List Int) (s : Nat), (z2Y w nx s).length ≤ nx.length
 | [], _ => Nat.le_refl _
 | k :: nx, s => by
  have := z2u w nx (s + 1)
  simp only [z2Y, List.length_append, List.length_cons]
  split <;> simp <;> omega
theorem z0a (w : List Int) (k : Int) : ∀ (nx : List Int) (s : Nat), z2Y w (nx ++ [k]) s = z2Y w nx s ++ (if k = -1 then [] else [zc.mk k (w ++ [((s + nx.length : Nat) : Int)])])
 | [], s => by simp [z2Y]
 | k' :: nx, s => by
  simp only [List.cons_append, z2Y, z0a w k nx (s + 1), List.append_assoc, List.length_cons]
  rw [show s + 1 + nx.length = s + (nx.length + 1) by omega]
theorem z85 {p : zc} {yr : σ × Bool} {N : zb} (hN : N.Next.length ≤ 1000) (hw : p.w_.length ≤ 100000) {nx : List zc} (hn : nx.length ≤ 1000000000) :
  loop (fun s => xe p yr N s.1 s.2) (nx, 0) = some (yr.1, nx ++ z2Y p.w_ N.Next 0) := by
 have h := YL (step := fun s => xe p yr N s.1 s.2) (fun i => (nx ++ z2Y p.w_ (N.Next.take i) 0, (i : Int))) N.Next.length (t := (yr.1, nx ++ z2Y p.w_ N.Next 0)) (by omega) (by
  intro i hi
  show xe p yr N _ (i : Int) = _
  unfold xe
  have hq : decide ((i : Int) < (N.Next.length : Int)) = true := by simpa using hi
  have hx : N.Next[i]? = some N.Next[i] := List.getElem?_eq_getElem hi
  have hl := z2u p.w_ (N.Next.take i) 0
  rw [List.length_take] at hl
  have htk : N.Next.take (i + 1) = N.Next.take i ++ [N.Next[i]] := by rw [List.take_add_one, hx]; rfl
  rw [hq, cond_true, zk hx, oB]
  have hi2 : w64 ((i : Int) + 1) = ((i + 1 : Nat) : Int) := by rw [y7 (by omega) (by omega)]; omega
  have hlt : (N.Next.take i).length = i := by rw [List.length_take]; omega
  by_cases hk : N.Next[i] = -1
  ·have hb : (N.Next[i] != -1) = false := by simp [hk]
   rw [hb, cond_false]
   unfold vE
   rw [hi2, htk, z0a, if_pos hk, List.append_nil]
  ·have hb : (N.Next[i] != -1) = true := by simpa using hk
   rw [hb, cond_true, VZ, oB, gdT (by simp; omega), gdT (by rw [List.length_append, List.length_singleton]; omega)]
   unfold vE
   rw [hi2, htk, z0a, if_neg hk, hlt, Nat.zero_add, List.append_assoc]) (by
  show xe p yr N _ (N.Next.length : Int) = _
  unfold xe
  have hq : decide ((N.Next.length : Int) < (N.Next.length : Int)) = false := by simp
  rw [hq, cond_false, List.take_length])
 have h0 : (nx ++ z2Y p.w_ (N.Next.take 0) 0, ((0 : Nat) : Int)) = (nx, (0 : Int)) := by simp [z2Y]
 rw [h0] at h
 exact h
variable {nodes : List zb}
def XW (nodes : List zb) (p : zc) : List zc :=
 match nodes[p.at_.toNat]? with
 | some N => z2Y p.w_ N.Next 0
 | none => []
def zaT (nodes : List zb) (p : zc) : Prop := 0 ≤ p.at_ ∧ p.w_.length ≤ 100000 ∧ ∃ N, nodes[p.at_.toNat]? = some N ∧ N.Next.length ≤ 1000
theorem z6C {lv : List zc} (hl : lv.length ≤ 500000) (hg : ∀ p ∈ lv, zaT nodes p) (sg : σ) :
  loop (fun s => vC nodes yy lv s.1 s.2.1 s.2.2) (sg, ([] : List zc), 0) = Option.bind (Wv yy lv sg) fun r => some (if r.2 = true then .inl (r.1, lv.flatMap (XW nodes)) else .inr r.1) := by
 have gen : ∀ (n k : Nat) (sg : σ), k ≤ lv.length → lv.length - k < n → Wt (fun s => vC nodes yy lv s.1 s.2.1 s.2.2) n (sg, (lv.take k).flatMap (XW nodes), (k : Int)) = Option.bind (Wv yy (lv.drop k) sg) fun r => some (if r.2 = true then .inl (r.1, lv.flatMap (XW nodes)) else .inr r.1) := by
  intro n
  induction n with
  | zero => intro k _ _ h; omega
  | succ n ih =>
   intro k sg hk hn
   rw [qr]
   dsimp only
   rw [vC.eq_1 nodes yy lv sg ((lv.take k).flatMap (XW nodes)) (k : Int)]
   rcases Nat.lt_or_ge k lv.length with hlt | hge
   ·have hx : lv[k]? = some lv[k] := List.getElem?_eq_getElem hlt
    have hq : decide ((k : Int) < (lv.length : Int)) = true := by simpa using hlt
    rw [hq, cond_true, zk hx, oB, List.drop_eq_getElem_cons hlt]
    simp only [Wv]
    cases hy : yy sg lv[k] with
    | none => rfl
    | some r =>
     simp only [oB]
     by_cases hr : r.2 = true
     ·obtain ⟨p1, p2, N, p3, p4⟩ := hg _ (List.getElem_mem hlt)
      have hidx : idx nodes lv[k].at_ = some N := by
       rw [show lv[k].at_ = ((lv[k].at_.toNat : Nat) : Int) by omega]; exact p3
      have hnl : ((lv.take k).flatMap (XW nodes)).length ≤ 1000000000 := by
       have : ∀ m : List zc, (∀ p ∈ m, zaT nodes p) → (m.flatMap (XW nodes)).length ≤ m.length * 1000 := by
        intro m
        induction m with
        | nil => intro _; simp
        | cons p m ih2 =>
         intro hm
         obtain ⟨_, _, M, m3, m4⟩ := hm p (by simp)
         have h1 : (XW nodes p).length ≤ 1000 := by
          unfold XW
          rw [m3]
          exact Nat.le_trans (z2u _ _ _) m4
         have h2 := ih2 fun q hq => hm q (by simp [hq])
         rw [List.flatMap_cons, List.length_append, List.length_cons]
         omega
       have h1 := this (lv.take k) fun p hp => hg p (List.mem_of_mem_take hp)
       rw [List.length_take] at h1
       omega
      have hnp : XW nodes lv[k] = z2Y lv[k].w_ N.Next 0 := by unfold XW; rw [p3]
      have htk : (lv.take (k + 1)).flatMap (XW nodes) = (lv.take k).flatMap (XW nodes) ++ z2Y lv[k].w_ N.Next 0 := by
       rw [List.take_add_one, hx, List.flatMap_append]
       simp [hnp]
      rw [hr, Bool.not_true, cond_false, hidx, oB, bdT (z85 p4 p2 hnl)]
      unfold jp
      rw [y7 (by omega) (by omega)]
      dsimp only
      rw [← htk]
      rw [show (k : Int) + 1 = ((k + 1 : Nat) : Int) by omega, ih (k + 1) r.1 hlt (by omega)]
      simp
     ·have hb : r.2 = false := by simpa using hr
      simp [hb]
   ·have hk2 : k = lv.length := by omega
    subst hk2
    have hq : decide ((lv.length : Int) < (lv.length : Int)) = false := by simp
    rw [hq, cond_false, List.drop_length, List.take_length]
    simp [Wv]
 have h := gen Xq 0 sg (Nat.zero_le _) (by show lv.length - 0 < 18446744073709551616; omega)
 have h0 : (sg, (lv.take 0).flatMap (XW nodes), ((0 : Nat) : Int)) = (sg, ([] : List zc), (0 : Int)) := by simp
 rw [h0, List.drop_zero] at h
 exact h
def zcA (nodes : List zb) : Nat → List zc → List zc
 | 0, _ => []
 | m + 1, lv => lv ++ zcA nodes m (lv.flatMap (XW nodes))
def itL (nodes : List zb) : Nat → List zc → List zc
 | 0, lv => lv
 | m + 1, lv => itL nodes m (lv.flatMap (XW nodes))
theorem z33 : ∀ (m n : Nat) (lv : List zc) (sg : σ), m < n → itL nodes m lv = [] → (∀ j, j < m → (itL nodes j lv).length ≤ 500000 ∧ ∀ p ∈ itL nodes j lv, zaT nodes p) →
  Wt (fun s => vD nodes yy s.1 s.2) n (sg, lv) = Option.bind (Wv yy (zcA nodes m lv) sg) fun r => some r.1
 | m, 0, lv, sg, h, _, _ => by omega
 | 0, n + 1, lv, sg, _, h0, _ => by
  have : lv = [] := h0
  subst this
  rw [qr]
  rfl
 | m + 1, n + 1, lv, sg, hmn, h0, hg => by
  rw [qr]
  dsimp only
  rw [vD.eq_1 nodes yy sg lv]
  have g := hg 0 (by omega)
  have g1 : lv.length ≤ 500000 := g.1
  have g2 : ∀ p ∈ lv, zaT nodes p := g.2
  by_cases he : lv = []
  ·subst he
   have hlv : ∀ m, zcA nodes m [] = [] := by
    intro m
    induction m with
    | zero => rfl
    | succ m ih => simp [zcA, ih]
   rw [hlv]
   rfl
  ·have hpos : 0 < lv.length := List.length_pos_iff.2 he
   have hq : decide (((lv.length : Nat) : Int) > 0) = true := by rw [decide_eq_true_eq]; omega
   rw [hq, cond_true, z6C yy g1 g2]
   simp only [zcA]
   rw [Jp]
   cases hf : Wv yy lv sg with
   | none => rfl
   | some r =>
    simp only [oB]
    by_cases hr : r.2 = true
    ·simp only [hr, if_true]
     unfold jq
     exact z33 m n _ r.1 (by omega) h0 fun j hj => hg (j + 1) (by omega)
    ·simp [hr]
end
def pl (wd : List (List Int)) (w : List Int) : zc := ⟨((wd.idxOf w : Nat) : Int), w⟩
theorem zbg {wd : List (List Int)} (hn : wd.Nodup) {i : Nat} {w : List Int} (h : wd[i]? = some w) : wd.idxOf w = i := by
 have hi := (List.getElem?_eq_some_iff.1 h).1
 have hm : w ∈ wd := List.mem_of_getElem? h
 have hlt : wd.idxOf w < wd.length := List.idxOf_lt_length_iff.2 hm
 have h2 : wd[wd.idxOf w]? = some w := by rw [List.getElem?_eq_getElem hlt, List.getElem_idxOf]
 exact (List.getElem?_inj hlt hn).1 (h2.trans h.symm)
theorem z4j {wd : List (List Int)} {w : List Int} (hm : w ∈ wd) : wd[wd.idxOf w]? = some w := by
 have hlt : wd.idxOf w < wd.length := List.idxOf_lt_length_iff.2 hm
 rw [List.getElem?_eq_getElem hlt, List.getElem_idxOf]
theorem z86 {wd : List (List Int)} (hn : wd.Nodup) (w : List Int) : ∀ (nx : List Int) (s0 : Nat), (∀ t k, nx[t]? = some k → (k = -1 ∧ w ++ [((s0 + t : Nat) : Int)] ∉ wd) ∨ ∃ j : Nat, k = (j : Int) ∧ wd[j]? = some (w ++ [((s0 + t : Nat) : Int)])) →
  z2Y w nx s0 = (((List.range' s0 nx.length).map fun s : Nat => w ++ [(s : Int)]).filter fun x => decide (x ∈ wd)).map (pl wd)
 | [], _, _ => rfl
 | k :: nx, s0, h => by
  have ih := z86 hn w nx (s0 + 1) fun t k' hk => by
   have := h (t + 1) k' (by simpa using hk)
   rwa [show s0 + (t + 1) = s0 + 1 + t by omega] at this
  simp only [z2Y, ih, List.length_cons, List.range'_succ, List.map_cons, List.filter_cons]
  rcases h 0 k rfl with ⟨h1, h2⟩ | ⟨j, h1, h2⟩
  ·rw [Nat.add_zero] at h2
   simp [h1, h2]
  ·rw [Nat.add_zero] at h2
   have hm := List.mem_of_getElem? h2
   have hk : ¬ k = -1 := by omega
   simp only [hk, if_false, hm, decide_true, if_true, List.map_cons, List.singleton_append]
   congr 1
   unfold pl
   rw [zbg hn h2, h1]
def LW (wd : List (List Int)) (k : Nat) : List (List Int) := (srt wd).filter fun x => decide (x.length = k)
theorem VE {wd : List (List Int)} {k : Nat} {x : List Int} : x ∈ LW wd k ↔ x ∈ wd ∧ x.length = k := by simp [LW, wI]
theorem zaS (wd : List (List Int)) (k : Nat) : SW (LW wd k) := (Wk wd).filter _
section
variable {a : Nat} {nodes : List zb} {wd : List (List Int)} {D : List Int → Prop} (h : We a nodes wd D) (ha : a ≤ 1000)
include h
theorem zcs {w : List Int} (hw : w ∈ wd) : XW nodes (pl wd w) = ((Ki a w).filter fun x => decide (x ∈ wd)).map (pl wd) := by
 have hi := z4j hw
 have hlt : wd.idxOf w < nodes.length := by rw [h.len]; exact (List.getElem?_eq_some_iff.1 hi).1
 have hN : nodes[wd.idxOf w]? = some nodes[wd.idxOf w] := List.getElem?_eq_getElem hlt
 have hl := h.nlen _ _ hN
 unfold XW
 have : (pl wd w).at_.toNat = wd.idxOf w := by simp [pl]
 rw [this, hN]
 show z2Y w nodes[wd.idxOf w].Next 0 = _
 rw [z86 h.nod w nodes[wd.idxOf w].Next 0, hl]
 ·unfold Ki
  rw [List.range_eq_range']
 ·intro t k hk
  have ht : t < a := by have := (List.getElem?_eq_some_iff.1 hk).1; omega
  rw [Nat.zero_add]
  rcases h.nxt _ _ _ hN hi t ht with ⟨q1, q2⟩ | ⟨j, q1, q2⟩
  ·rw [hk] at q1
   exact .inl ⟨by simpa using q1, q2⟩
  ·rw [hk] at q1
   exact .inr ⟨j, by simpa using q1, q2⟩
theorem z1v (k : Nat) : ((LW wd k).map (pl wd)).flatMap (XW nodes) = (LW wd (k + 1)).map (pl wd) := by
 have e : ∀ l : List (List Int), (∀ w ∈ l, w ∈ wd) → (l.map (pl wd)).flatMap (XW nodes) = ((l.flatMap (Ki a)).filter fun x => decide (x ∈ wd)).map (pl wd) := by
  intro l
  induction l with
  | nil => intro _; rfl
  | cons w l ih =>
   intro hl
   rw [List.map_cons, List.flatMap_cons, ih fun v hv => hl v (by simp [hv]), zcs h (hl w (by simp)), List.flatMap_cons, List.filter_append, List.map_append]
 rw [e _ fun w hw => (VE.1 hw).1]
 congr 1
 refine SW.unique ((z4V a k (zaS wd k) fun w hw => (VE.1 hw).2).filter _) (zaS _ _) fun x => ?_
 rw [List.mem_filter, List.mem_flatMap, VE, decide_eq_true_eq]
 constructor
 ·rintro ⟨⟨w, q1, q2⟩, q3⟩
  simp only [Ki, List.mem_map] at q2
  obtain ⟨s, _, rfl⟩ := q2
  exact ⟨q3, by simp [(VE.1 q1).2]⟩
 ·rintro ⟨q1, q2⟩
  rcases List.eq_nil_or_concat x with rfl | ⟨w, s, rfl⟩
  ·simp at q2
  ·rw [List.concat_eq_append] at q1 q2 ⊢
   obtain ⟨c1, c2, c3⟩ := h.clo w s q1
   refine ⟨⟨w, VE.2 ⟨c1, by simpa using q2⟩, ?_⟩, q1⟩
   simp only [Ki, List.mem_map, List.mem_range]
   exact ⟨s.toNat, by omega, by rw [Int.toNat_of_nonneg c2]⟩
theorem z2w : ∀ (j k : Nat), itL nodes j ((LW wd k).map (pl wd)) = (LW wd (k + j)).map (pl wd)
 | 0, k => rfl
 | j + 1, k => by
  rw [itL, z1v h, z2w j (k + 1), show k + 1 + j = k + (j + 1) by omega]
def z96 (wd : List (List Int)) : Nat → Nat → List (List Int)
 | _, 0 => []
 | k, m + 1 => LW wd k ++ z96 wd (k + 1) m
theorem z81 : ∀ (m k : Nat), zcA nodes m ((LW wd k).map (pl wd)) = (z96 wd k m).map (pl wd)
 | 0, k => rfl
 | m + 1, k => by rw [zcA, z1v h, z81 m (k + 1), z96, List.map_append]
omit h in
theorem z2r : ∀ (m k : Nat) (x : List Int), x ∈ z96 wd k m ↔ x ∈ wd ∧ k ≤ x.length ∧ x.length < k + m
 | 0, k, x => by simp [z96]
 | m + 1, k, x => by
  rw [z96, List.mem_append, VE, z2r m (k + 1) x]
  constructor
  ·rintro (⟨q1, q2⟩ | ⟨q1, q2, q3⟩)
   ·exact ⟨q1, by omega, by omega⟩
   ·exact ⟨q1, by omega, by omega⟩
  ·rintro ⟨q1, q2, q3⟩
   rcases Nat.lt_or_ge k x.length with q | q
   ·exact .inr ⟨q1, by omega, by omega⟩
   ·exact .inl ⟨q1, by omega⟩
omit h in
theorem z8E : ∀ (m k : Nat), SW (z96 wd k m)
 | 0, k => by simp [z96, SW]
 | m + 1, k => by
  unfold z96 SW
  rw [List.pairwise_append]
  refine ⟨zaS wd k, z8E m (k + 1), fun x hx y hy => ?_⟩
  have h1 := (VE.1 hx).2
  have h2 := ((z2r m (k + 1) y).1 hy).2.1
  unfold j5
  rw [if_pos (by omega)]
  omega
include ha
theorem z6Y {σ : Type} (yy : σ → zc → Option (σ × Bool)) (sg : σ) (hlen : wd.length ≤ 500000) (hwl : ∀ w ∈ wd, w.length ≤ 10000) :
  vV nodes yy sg = Option.bind (Wv yy ((srt wd).map (pl wd)) sg) fun r => some r.1 := by
 have hcat : z96 wd 0 10001 = srt wd := SW.unique (z8E 10001 0) (Wk wd) fun x => by
  rw [z2r, wI]
  exact ⟨fun q => q.1, fun q => ⟨q, Nat.zero_le _, by have := hwl x q; omega⟩⟩
 have main : vF nodes yy sg ((LW wd 0).map (pl wd)) = Option.bind (Wv yy ((srt wd).map (pl wd)) sg) fun r => some r.1 := by
  unfold vF
  have hl := z33 yy (nodes := nodes) 10001 Xq ((LW wd 0).map (pl wd)) sg (by show 10001 < 18446744073709551616; omega) (by
   rw [z2w h]
   have : LW wd (0 + 10001) = [] := by
    rw [List.eq_nil_iff_forall_not_mem]
    intro x hx
    obtain ⟨q1, q2⟩ := VE.1 hx
    have := hwl x q1
    omega
   rw [this]; rfl) (fun j hj => by
   rw [z2w h]
   refine ⟨?_, fun p hp => ?_⟩
   ·rw [List.length_map]
    refine Nat.le_trans (List.length_filter_le _ _) (Nat.le_trans (YQ wd) hlen)
   ·obtain ⟨w, q1, rfl⟩ := List.mem_map.1 hp
    have hw := (VE.1 q1).1
    have hlt : wd.idxOf w < nodes.length := by rw [h.len]; exact (List.getElem?_eq_some_iff.1 (z4j hw)).1
    have hN : nodes[wd.idxOf w]? = some nodes[wd.idxOf w] := List.getElem?_eq_getElem hlt
    refine ⟨by simp [pl], by have := hwl w hw; show w.length ≤ 100000; omega, nodes[wd.idxOf w], by simp [pl], by rw [h.nlen _ _ hN]; exact ha⟩)
  have hl2 : loop (fun s => vD nodes yy s.1 s.2) (sg, (LW wd 0).map (pl wd)) = _ := hl
  rw [hl2, z81 h, hcat]
  cases Wv yy ((srt wd).map (pl wd)) sg <;> rfl
 unfold vV
 by_cases hn : nodes = []
 ·have hw0 : wd = [] := List.eq_nil_of_length_eq_zero (by rw [← h.len, hn]; rfl)
  have hq : decide (((nodes.length : Nat) : Int) > 0) = false := by rw [hn]; rfl
  rw [hq, cond_false]
  have hL : LW wd 0 = [] := by rw [hw0]; rfl
  rw [hL] at main
  exact main
 ·have hpos : 0 < nodes.length := List.length_pos_iff.2 hn
  have hq : decide (((nodes.length : Nat) : Int) > 0) = true := by rw [decide_eq_true_eq]; omega
  rw [hq, cond_true]
  have hr := h.root (by rw [← h.len]; exact hpos)
  have hL : LW wd 0 = [[]] := SW.unique (zaS wd 0) (by simp [SW]) fun x => by
   rw [VE, List.mem_singleton]
   constructor
   ·rintro ⟨_, q⟩; exact List.eq_nil_of_length_eq_zero q
   ·rintro rfl; exact ⟨List.mem_of_getElem? hr, rfl⟩
  rw [hL] at main
  have hp : [[]].map (pl wd) = [zc.mk 0 []] := by simp [pl, zbg h.nod hr]
  rw [hp] at main
  exact main
end
theorem zcC {N : zb} (hN : N.Next.length ≤ 1000) : Xh N = some (N.Next.all fun c => c == -1) := by
 unfold Xh yT xi
 have hl := xI N.Next (by omega) (step := fun s => zX N.Next s) (fun i c => if c ≠ -1 then some (i : Int) else none) (by
  intro i c hc
  have hi : i < N.Next.length := (List.getElem?_eq_some_iff.1 hc).1
  have hq : decide ((i : Int) < (N.Next.length : Int)) = true := by simpa using hi
  unfold zX YF
  rw [hq, cond_true, zk hc, oB, oB]
  by_cases h : c = -1
  ·simp [h, nS]
  ·have hb : (c != -1) = true := by simpa using h
   rw [hb, cond_true, if_pos h]
   rfl) (by unfold zX; simp)
 rw [hl]
 have q := z8j (fun c => c != -1) (fun i c => if c ≠ -1 then some (i : Int) else none) (fun i c => by by_cases h : c = -1 <;> simp [h]) N.Next 0
 have hall : (N.Next.all fun c => c == -1) = !(N.Next.any fun c => c != -1) := by
  rw [List.all_eq_not_any_not]
  rfl
 rw [hall, ← q]
 cases hf : yK (fun i c => if c ≠ -1 then some (i : Int) else none) N.Next 0 with
 | none => rfl
 | some r =>
  obtain ⟨i, x, h1, h2⟩ := ky hf
  rw [Nat.zero_add] at h2
  split at h2
  ·cases h2
   have : decide ((i : Int) ≥ 0) = true := by simp
   simp [oS]
  ·cases h2
def zbe (x v : List Int) : Bool := decide (x.length < v.length) && decide (v.take x.length = x)
theorem z2t {x v : List Int} : zbe x v = true ↔ x.length < v.length ∧ v.take x.length = x := by simp [zbe]
def z6V (l : List (List Int)) : List (List Int) := l.filter fun x => !l.any (zbe x)
theorem Kc {l : List (List Int)} {x : List Int} : x ∈ z6V l ↔ x ∈ l ∧ ∀ v ∈ l, ¬ (x.length < v.length ∧ v.take x.length = x) := by
 unfold z6V
 rw [List.mem_filter]
 simp only [Bool.not_eq_true', List.any_eq_false, z2t]
def z16 (l : List (List Int)) : List (List Int) := l.flatMap fun w => (List.range (w.length + 1)).map fun k => w.take k
theorem UD {l : List (List Int)} {x : List Int} : x ∈ z16 l ↔ ∃ w ∈ l, ∃ j, j ≤ w.length ∧ x = w.take j := by
 simp only [z16, List.mem_flatMap, List.mem_map, List.mem_range]
 constructor
 ·rintro ⟨w, h1, j, h2, rfl⟩; exact ⟨w, h1, j, by omega, rfl⟩
 ·rintro ⟨w, h1, j, h2, rfl⟩; exact ⟨w, h1, j, by omega, rfl⟩
section
variable {wd : List (List Int)}
theorem V4 {step : List (List Int) → zc → Option (LR (List (List Int)) Empty)} (P : List Int → Bool) : ∀ (ws : List (List Int)) (out : List (List Int)), (∀ o w, w ∈ ws → o.length ≤ 1000000 → step o (pl wd w) = some (.next (if P w = true then o ++ [w] else o))) → out.length + ws.length ≤ 1000000 →
  Wv (yOf step) (ws.map (pl wd)) (.next out) = some (.next (out ++ ws.filter P), true)
 | [], out, _, _ => by simp [Wv]
 | w :: ws, out, h, hl => by
  simp only [List.length_cons] at hl
  have h1 := h out w (by simp) (by omega)
  simp only [List.map_cons, Wv, yOf, h1, oB, if_true]
  rw [V4 P ws _ (fun o v hv ho => h o v (by simp [hv]) ho) (by split <;> (try simp only [List.length_append, List.length_singleton]) <;> omega)]
  by_cases hp : P w = true
  ·simp [hp]
  ·have : P w = false := by simpa using hp
   simp [this]
end
section
variable {a : Nat} {nodes : List zb} {wd : List (List Int)} {D : List Int → Prop} (h : We a nodes wd D) (ha : a ≤ 1000) (hlen : wd.length ≤ 400000) (hwl : ∀ w ∈ wd, w.length ≤ 10000)
include h
theorem z7T {w : List Int} (hw : w ∈ wd) : ∃ N, nodes[wd.idxOf w]? = some N ∧ idx nodes (pl wd w).at_ = some N ∧ N.Next.length = a := by
 have hlt : wd.idxOf w < nodes.length := by rw [h.len]; exact (List.getElem?_eq_some_iff.1 (z4j hw)).1
 have hN : nodes[wd.idxOf w]? = some nodes[wd.idxOf w] := List.getElem?_eq_getElem hlt
 exact ⟨_, hN, hN, h.nlen _ _ hN⟩
theorem zcD {w : List Int} (hw : w ∈ wd) (hpre : ∀ v ∈ wd, ∀ j, v.take j ∈ wd) {N : zb} (hN : nodes[wd.idxOf w]? = some N) : (N.Next.all fun c => c == -1) = !wd.any (zbe w) := by
 rw [Bool.eq_iff_iff]
 simp only [List.all_eq_true, beq_iff_eq, Bool.not_eq_true', List.any_eq_false, z2t]
 have hl := h.nlen _ _ hN
 constructor
 ·intro hall v hv hext
  have h1 : v.take (w.length + 1) ∈ wd := hpre v hv _
  have hlt := hext.1
  have e : v.take (w.length + 1) = w ++ [v[w.length]] := by rw [List.take_add_one, List.getElem?_eq_getElem hlt, hext.2]; rfl
  rw [e] at h1
  obtain ⟨_, c2, c3⟩ := h.clo _ _ h1
  obtain ⟨s, hs⟩ : ∃ s : Nat, v[w.length] = (s : Int) := ⟨v[w.length].toNat, by omega⟩
  rw [hs] at h1 c3
  rcases h.nxt _ _ _ hN (z4j hw) s (by omega) with ⟨_, q⟩ | ⟨j, q1, _⟩
  ·exact q h1
  ·have := hall _ (List.mem_of_getElem? q1)
   omega
 ·intro hno c hc
  obtain ⟨t, ht⟩ := List.mem_iff_getElem?.1 hc
  have hta : t < a := by have := (List.getElem?_eq_some_iff.1 ht).1; omega
  rcases h.nxt _ _ _ hN (z4j hw) t hta with ⟨q, _⟩ | ⟨j, _, q2⟩
  ·rw [ht] at q
   simpa using q
  ·exact absurd ⟨by simp, by simp⟩ (hno _ (List.mem_of_getElem? q2))
include ha hlen hwl
theorem z4g (hpre : ∀ v ∈ wd, ∀ j, v.take j ∈ wd) : js nodes () = some ((srt wd).filter fun x => !wd.any (zbe x)) := by
 unfold js ZZ
 rw [oB, z6Y h ha _ _ (by omega) hwl]
 rw [V4 (wd := wd) (fun x => !wd.any (zbe x)) (srt wd) [] (fun o w hw ho => by
  have hw' := wI.1 hw
  obtain ⟨N, n1, n2, n3⟩ := z7T h hw'
  unfold ui
  rw [n2, oB, zcC (by omega), oB, zcD h hw' hpre n1]
  by_cases hp : wd.any (zbe w) = true
  ·rw [hp]; rfl
  ·have hb : wd.any (zbe w) = false := by simpa using hp
   have hww := hwl w hw'
   rw [hb, Bool.not_false, cond_true]
   show (Option.bind (zR w) fun r_3 => _) = _
   rw [Kk w (by omega), oB, VZ, oB, gdT (by simp; omega)]
   rfl) (by have := YQ wd; simp; omega)]
 simp only [oB, List.nil_append]
 unfold qR
 rw [z6c]
 rfl
theorem z59 : uh nodes () = some (srt wd) := by
 unfold uh ZZ
 rw [oB, z6Y h ha _ _ (by omega) hwl]
 rw [V4 (wd := wd) (fun x => true) (srt wd) [] (fun o w hw ho => by
  have hw' := wI.1 hw
  obtain ⟨N, n1, n2, n3⟩ := z7T h hw'
  have hww := hwl w hw'
  unfold wD qS
  rw [n2, oB, oB, cond_true]
  show (Option.bind (zR w) fun r_3 => _) = _
  rw [Kk w (by omega), oB, VZ, oB, gdT (by simp; omega)]
  rfl) (by have := YQ wd; simp; omega)]
 simp only [oB, List.nil_append]
 unfold u4
 rw [z6c]
 simp
end
theorem z6z {l wd : List (List Int)} (hm : ∀ x, x ∈ wd ↔ ∃ w ∈ l, ∃ j, j ≤ w.length ∧ x = w.take j) : ∀ v ∈ wd, ∀ j, v.take j ∈ wd := by
 intro v hv j
 obtain ⟨w, h1, i, h2, rfl⟩ := (hm v).1 hv
 exact (hm _).2 ⟨w, h1, min j i, by omega, by rw [List.take_take]⟩
theorem z1g {a : Nat} {l : List (List Int)} (hc : chE (a : Int) l = 0) : jf l (a : Int) = some (z6V l, 0) := by
 obtain ⟨q1, q2, q3, q4, q5, q6⟩ := ZR hc
 obtain ⟨b, hb, e1, wd, t1, t2, t3⟩ := z7P hc
 have hwl : ∀ w ∈ wd, w.length ≤ 10000 := fun w hw => by
  obtain ⟨v, h1, j, h2, rfl⟩ := (t2 w).1 hw
  have := q2 v h1
  rw [List.length_take]; omega
 unfold jf
 rw [Us, hc, oB, bne_self_eq_false, cond_false, hb, oB, z4g t1 (by omega) (by omega) hwl (z6z t2), oB]
 congr 2
 refine SW.unique ((Wk wd).filter _) (q4.sub List.filter_sublist) fun x => ?_
 rw [Kc, List.mem_filter, wI]
 simp only [Bool.not_eq_true', List.any_eq_false, z2t]
 constructor
 ·rintro ⟨h1, h2⟩
  obtain ⟨w, w1, j, w2, rfl⟩ := (t2 x).1 h1
  have hmem : ∀ v ∈ l, v ∈ wd := fun v hv => (t2 v).2 ⟨v, hv, v.length, Nat.le_refl _, by simp⟩
  have hj : j = w.length := by
   rcases Nat.lt_or_ge j w.length with q | q
   ·refine absurd ⟨?_, ?_⟩ (h2 w (hmem w w1))
    ·rw [List.length_take]; omega
    ·rw [List.length_take, Nat.min_eq_left w2]
   ·omega
  rw [hj, List.take_length] at h2 ⊢
  exact ⟨w1, fun v hv => h2 v (hmem v hv)⟩
 ·rintro ⟨h1, h2⟩
  refine ⟨(t2 x).2 ⟨x, h1, x.length, Nat.le_refl _, by simp⟩, fun v hv hext => ?_⟩
  obtain ⟨w, w1, j, w2, rfl⟩ := (t2 v).1 hv
  rw [List.length_take] at hext
  refine h2 w w1 ⟨by omega, ?_⟩
  have := hext.2
  rw [List.take_take, Nat.min_eq_left (by omega)] at this
  exact this
theorem z3k {a : Nat} {l : List (List Int)} (hc : chE (a : Int) l = 0) (hw : Wq (a : Int) 40 12 l) : qK l (a : Int) = some (srt (z16 l), 0) ∧ (srt (z16 l)).length ≤ 520 ∧ ∀ w ∈ srt (z16 l), w.length ≤ 12 := by
 obtain ⟨q1, q2, q3, q4, q5, q6⟩ := ZR hc
 obtain ⟨b, hb, e1, wd, t1, t2, t3⟩ := z7P hc
 have hll := hw.2.1
 have hsl : uR l ≤ 40 * 12 := WN hll fun w hww => (hw.2.2 w hww).1
 have hwl : ∀ w ∈ wd, w.length ≤ 12 := fun w hww => by
  obtain ⟨v, h1, j, h2, rfl⟩ := (t2 w).1 hww
  have := (hw.2.2 v h1).1
  rw [List.length_take]; omega
 have es : srt wd = srt (z16 l) := KG fun x => by rw [t2, UD]
 have hlen : (srt wd).length ≤ 520 := Nat.le_trans (YQ wd) (by omega)
 have hws : ∀ w ∈ srt wd, w.length ≤ 12 := fun w hww => hwl w (wI.1 hww)
 have hsy : uR (srt wd) ≤ 520 * 12 := WN hlen hws
 rw [← es]
 refine ⟨?_, hlen, hws⟩
 have hnl := t1.len
 unfold qK Xz
 have d1 : decide (((b.nodes_.length : Nat) : Int) > 4096) = false := by rw [decide_eq_false_iff_not]; omega
 have d2 : decide ((((srt wd).length : Nat) : Int) > 4096) = false := by rw [decide_eq_false_iff_not]; omega
 have d3 : decide (((uR (srt wd) : Nat) : Int) > 65536) = false := by rw [decide_eq_false_iff_not]; omega
 rw [Us, hc, oB, bne_self_eq_false, cond_false, hb, oB, d1, cond_false, z59 t1 (by omega) (by omega) (fun w hww => by have := hwl w hww; omega), oB, d2, cond_false, z26 _ (by omega), z7c (by omega), oB, d3, cond_false]
 rfl
theorem z7z {l : List (List Int)} (hw : ∀ w ∈ l, w.length ≤ 12) : ∀ (n : Nat) (w : List Int), w ∈ l → 13 - w.length ≤ n → ∃ v ∈ z6V l, w.length ≤ v.length ∧ v.take w.length = w
 | 0, w, h, hn => by have := hw w h; omega
 | n + 1, w, h, hn => by
  by_cases hm : w ∈ z6V l
  ·exact ⟨w, hm, Nat.le_refl _, by simp⟩
  ·have : ∃ v ∈ l, w.length < v.length ∧ v.take w.length = w := by
    refine Classical.byContradiction fun q => hm (Kc.2 ⟨h, fun v hv hext => q ⟨v, hv, hext⟩⟩)
   obtain ⟨v, v1, v2, v3⟩ := this
   obtain ⟨u, u1, u2, u3⟩ := z7z hw n v v1 (by omega)
   refine ⟨u, u1, by omega, ?_⟩
   have e : (u.take v.length).take w.length = u.take w.length := by rw [List.take_take, Nat.min_eq_left (by omega)]
   rw [← e, u3, v3]
def ed (rows : List (List za)) (s i : Nat) : za := ((rows[s]?.getD [])[i]?).getD ⟨-1, -1⟩
structure TM (n k o : Nat) (rows : List (List za)) : Prop where
 len : rows.length = n
 row : ∀ (s : Nat) (r : List za), rows[s]? = some r → r.length = k
 edge : ∀ s i, s < n → i < k → -1 ≤ (ed rows s i).To ∧ (ed rows s i).To < (n : Int) ∧ 0 ≤ (ed rows s i).Out ∧ (ed rows s i).Out < (o : Int)
section
variable {n k o : Nat} {rows : List (List za)}
theorem TM.rowAt (h : TM n k o rows) {s : Nat} (hs : s < n) : ∃ r, rows[s]? = some r ∧ r.length = k ∧ ∀ i, i < k → r[i]? = some (ed rows s i) := by
 have hsl : s < rows.length := by rw [h.len]; exact hs
 have hr : rows[s]? = some rows[s] := List.getElem?_eq_getElem hsl
 have hl := h.row s _ hr
 refine ⟨_, hr, hl, fun i hi => ?_⟩
 unfold ed
 rw [hr, Option.getD_some, List.getElem?_eq_getElem (by omega), Option.getD_some]
theorem TM.upd (h : TM n k o rows) {s i : Nat} (hs : s < n) (hi : i < k) {r : List za} (hr : rows[s]? = some r) {t : Int} (t0 : -1 ≤ t) (t1 : t < (n : Int)) :
  TM n k o (rows.set s (r.set i ⟨t, (ed rows s i).Out⟩)) ∧ ∀ s' i', ed (rows.set s (r.set i ⟨t, (ed rows s i).Out⟩)) s' i' = if s' = s ∧ i' = i then ⟨t, (ed rows s i).Out⟩ else ed rows s' i' := by
 have hsl : s < rows.length := by rw [h.len]; exact hs
 have hrl := h.row s r hr
 have q2 := h.edge s i hs hi
 generalize (ed rows s i).Out = oo at q2 ⊢
 have key : ∀ s' i', ed (rows.set s (r.set i ⟨t, oo⟩)) s' i' = if s' = s ∧ i' = i then ⟨t, oo⟩ else ed rows s' i' := by
  intro s' i'
  by_cases e : s' = s
  ·subst e
   conv => lhs; unfold ed
   rw [List.getElem?_set_self hsl, Option.getD_some]
   by_cases e2 : i' = i
   ·subst e2
    rw [List.getElem?_set_self (by omega), if_pos ⟨rfl, rfl⟩, Option.getD_some]
   ·rw [List.getElem?_set_ne (fun q => e2 q.symm), if_neg (fun q => e2 q.2)]
    unfold ed
    rw [hr, Option.getD_some]
  ·conv => lhs; unfold ed
   rw [List.getElem?_set_ne (fun q => e q.symm), if_neg (fun q => e q.1)]
   rfl
 refine ⟨⟨by rw [List.length_set]; exact h.len, fun s' r' hr' => ?_, fun s' i' hs' hi' => ?_⟩, key⟩
 ·rw [List.getElem?_set] at hr'
  split at hr'
  ·cases hr'; rw [List.length_set]; exact hrl
  ·exact h.row s' r' hr'
 ·rw [key]
  have q := h.edge s' i' hs' hi'
  split
  ·rename_i e
   exact ⟨t0, t1, q2.2.2.1, q2.2.2.2⟩
  ·exact q
theorem TM.idx2 (h : TM n k o rows) {s i : Nat} (hs : s < n) (hi : i < k) : ∃ r, rows[s]? = some r ∧ r.length = k ∧ r[i]? = some (ed rows s i) := by
 obtain ⟨r, h1, h2, h3⟩ := h.rowAt hs
 exact ⟨r, h1, h2, h3 i hi⟩
end
theorem z1u (l : List Int) (hl : ∀ v ∈ l, 0 ≤ v ∧ v ≤ 65535) {q : Int} (hq : 0 ≤ q) : Ret (jj l q) fun v => 0 ≤ v ∧ v ≤ 65535 := by
 unfold jj
 rw [yx]
 refine ⟨fun hc => ?_, fun _ => zn.2 (by omega)⟩
 have hc : q < ((l.length : Nat) : Int) := of_decide_eq_true hc
 have hx : l[q.toNat]? = some l[q.toNat] := List.getElem?_eq_getElem (by omega)
 rw [ym, z7v]
 have := hl _ (List.mem_of_getElem? hx)
 exact ⟨hq, _, hx, zn.2 (by rw [y7 (by omega) (by omega)]; exact this)⟩
structure zj8 (x : zD) : Prop where
 s0 : 0 ≤ x.States
 i0 : 0 ≤ x.Inputs
 o0 : 0 ≤ x.Outputs
 t0 : ∀ v ∈ x.Tree, 0 ≤ v ∧ v ≤ 255
 e0 : ∀ v ∈ x.Edges, 0 ≤ v ∧ v ≤ 65535
section
variable {x : zD} (h : zj8 x) {n k o : Nat} (hn : w64 (1 + w64 (Int.tmod x.States 6)) = (n : Int)) (hk : w64 (1 + w64 (Int.tmod x.Inputs 3)) = (k : Int)) (ho : w64 (1 + w64 (Int.tmod x.Outputs 3)) = (o : Int))
 (n1 : 1 ≤ n ∧ n ≤ 6) (k1 : 1 ≤ k ∧ k ≤ 3) (o1 : 1 ≤ o ∧ o ≤ 3)
include h hn hk ho n1 k1 o1
theorem z9T {s : Nat} (hs : s < n) : Ret (loop (fun st => ux x (s : Int) st.1 st.2) (([] : List za), 0)) fun r => r.length = k ∧ ∀ e ∈ r, e.To = -1 ∧ 0 ≤ e.Out ∧ e.Out < (o : Int) := by
 refine xm (fun st => ∃ i : Nat, st.2 = (i : Int) ∧ i ≤ k ∧ st.1.length = i ∧ ∀ e ∈ st.1, e.To = -1 ∧ 0 ≤ e.Out ∧ e.Out < (o : Int)) (fun st => 10 - st.2.toNat) ⟨0, rfl, by omega, rfl, by simp⟩ (by show 10 - _ < _; omega) ?_
 rintro ⟨row, _⟩ ⟨i, rfl, h1, h2, h3⟩
 simp only at h2 h3
 show Ret (ux x (s : Int) row (i : Int)) _
 unfold ux
 rw [hk, hn, ho, yx]
 have hsk : s * k ≤ 5 * 3 := Nat.mul_le_mul (by omega) (by omega)
 have w1 : w64 ((s : Int) * (k : Int)) = ((s * k : Nat) : Int) := by rw [y7 (by rw [← Int.natCast_mul]; omega) (by rw [← Int.natCast_mul]; omega)]; exact (Int.natCast_mul s k).symm
 refine ⟨fun hc => ?_, fun hc => zn.2 ⟨by have := of_decide_eq_false hc; omega, h3⟩⟩
 have hc : (i : Int) < (k : Int) := of_decide_eq_true hc
 rw [w1, y7 (x := ((s * k : Nat) : Int) + (i : Int)) (by omega) (by omega), ym]
 refine (z1u x.Edges h.e0 (q := ((s * k : Nat) : Int) + (i : Int)) (by omega)).mono fun v hv => ?_
 have d0 : 0 ≤ Int.tdiv v n ∧ Int.tdiv v n ≤ v := by
  rw [Int.tdiv_eq_ediv_of_nonneg hv.1]
  exact ⟨Int.ediv_nonneg hv.1 (by omega), Int.ediv_le_self _ hv.1⟩
 rw [gdT (by omega), gdT (by omega), gdT (by simp; omega), zn, y7 (x := Int.tdiv v n) (by omega) (by omega), y7 (x := (i : Int) + 1) (by omega) (by omega)]
 refine ⟨⟨i + 1, rfl, by omega, by simp [h2], fun e he => ?_⟩, by simp only; omega⟩
 rcases List.mem_append.1 he with q | q
 ·exact h3 e q
 ·simp only [List.mem_cons, List.not_mem_nil, or_false] at q
  subst q
  exact ⟨rfl, Int.tmod_nonneg _ d0.1, Int.tmod_lt_of_pos _ (by omega)⟩
theorem z7u : Ret (loop (fun st => uy x st.1 st.2) (([] : List (List za)), 0)) fun rows => TM n k o rows ∧ ∀ s i, s < n → i < k → (ed rows s i).To = -1 := by
 refine xm (fun st => ∃ s : Nat, st.2 = (s : Int) ∧ s ≤ n ∧ st.1.length = s ∧ ∀ r ∈ st.1, r.length = k ∧ ∀ e ∈ r, e.To = -1 ∧ 0 ≤ e.Out ∧ e.Out < (o : Int)) (fun st => 10 - st.2.toNat) ⟨0, rfl, by omega, rfl, by simp⟩ (by show 10 - _ < _; omega) ?_
 rintro ⟨rows, _⟩ ⟨s, rfl, h1, h2, h3⟩
 simp only at h2 h3
 show Ret (uy x rows (s : Int)) _
 unfold uy
 rw [hn, yx]
 refine ⟨fun hc => ?_, fun hc => ?_⟩
 ·have hc : (s : Int) < (n : Int) := of_decide_eq_true hc
  rw [ym]
  refine (z9T h hn hk ho n1 k1 o1 (s := s) (by omega)).mono fun r hr => ?_
  unfold kN kO
  rw [gdT (by simp; omega), zn, y7 (x := (s : Int) + 1) (by omega) (by omega)]
  refine ⟨⟨s + 1, rfl, by omega, by simp [h2], fun r' hr' => ?_⟩, by simp only; omega⟩
  rcases List.mem_append.1 hr' with q | q
  ·exact h3 r' q
  ·simp only [List.mem_cons, List.not_mem_nil, or_false] at q
   subst q
   exact hr
 ·have hsn : s = n := by have := of_decide_eq_false hc; omega
  have all : ∀ s i, s < n → i < k → (ed rows s i).To = -1 ∧ 0 ≤ (ed rows s i).Out ∧ (ed rows s i).Out < (o : Int) := by
   intro t i ht hi
   have hr : rows[t]? = some rows[t] := List.getElem?_eq_getElem (by omega)
   obtain ⟨g1, g2⟩ := h3 _ (List.getElem_mem (by omega : t < rows.length))
   have hx : (rows[t])[i]? = some (rows[t])[i] := List.getElem?_eq_getElem (by omega)
   unfold ed
   rw [hr, Option.getD_some, hx, Option.getD_some]
   exact g2 _ (List.getElem_mem _)
  refine zn.2 ⟨⟨by omega, fun t r hr => (h3 r (List.mem_of_getElem? hr)).1, fun t i ht hi => ?_⟩, fun t i ht hi => (all t i ht hi).1⟩
  obtain ⟨a, b, c⟩ := all t i ht hi
  omega
omit h hn hk ho n1 k1 o1 in
theorem z7h : ∀ a : Nat, a ≤ 100 → w64 (a : Int) = (a : Int) := fun a ha => y7 (by omega) (by omega)
omit h hn hk ho n1 o1 in
theorem zbj {c s : Nat} (hc : c < s * k) : c / k < s ∧ c % k < k ∧ Int.tdiv (c : Int) (k : Int) = ((c / k : Nat) : Int) ∧ Int.tmod (c : Int) (k : Int) = ((c % k : Nat) : Int) :=
 ⟨Nat.div_lt_of_lt_mul (by rw [Nat.mul_comm]; exact hc), Nat.mod_lt _ (by omega), by rw [Int.tdiv_eq_ediv_of_nonneg (by omega)]; rfl, by rw [Int.tmod_eq_emod_of_nonneg (by omega)]; rfl⟩
omit h hn ho o1 in
theorem zar {rows : List (List za)} (hT : TM n k o rows) {s : Nat} (s1 : 1 ≤ s) (sn : s < n) (hfree : ∀ i, i < k → (ed rows (s - 1) i).To = -1) :
  Ret (loop (fun st => uz x rows (s : Int) st.1 st.2) (([] : List Int), 0)) fun fr => fr ≠ [] ∧ fr.length ≤ 100 ∧ ∀ c ∈ fr, ∃ q : Nat, c = (q : Int) ∧ q < s * k ∧ (ed rows (q / k) (q % k)).To < 0 := by
 have hsk : s * k ≤ 5 * 3 := Nat.mul_le_mul (by omega) (by omega)
 refine xm (fun st => ∃ q : Nat, st.2 = (q : Int) ∧ q ≤ s * k ∧ st.1.length ≤ q ∧ ((s - 1) * k < q → st.1 ≠ []) ∧ ∀ c ∈ st.1, ∃ q : Nat, c = (q : Int) ∧ q < s * k ∧ (ed rows (q / k) (q % k)).To < 0) (fun st => 20 - st.2.toNat) ⟨0, rfl, by omega, by simp, by omega, by simp⟩ (by show 20 - _ < _; omega) ?_
 rintro ⟨fr, _⟩ ⟨q, rfl, h1, h2, h3, h4⟩
 simp only at h2 h3 h4
 show Ret (uz x rows (s : Int) fr (q : Int)) _
 unfold uz
 have w1 : w64 ((s : Int) * (k : Int)) = ((s * k : Nat) : Int) := by rw [y7 (by rw [← Int.natCast_mul]; omega) (by rw [← Int.natCast_mul]; omega)]; exact (Int.natCast_mul s k).symm
 rw [hk, w1, yx]
 refine ⟨fun hc => ?_, fun hc => ?_⟩
 ·have hc : ((q : Nat) : Int) < ((s * k : Nat) : Int) := of_decide_eq_true hc
  have hqs : q < s * k := by omega
  obtain ⟨d1, d2, d3, d4⟩ := zbj k1 hqs
  obtain ⟨r, r1, r2, r3⟩ := hT.idx2 (s := q / k) (i := q % k) (by omega) d2
  rw [gdT (by omega), d3, z7h (q / k) (by omega), bdT (zk r1), gdT (by omega), d4, bdT (zk r3), yx]
  have w2 : w64 ((q : Int) + 1) = ((q + 1 : Nat) : Int) := by rw [y7 (by omega) (by omega)]; rfl
  unfold qQ
  refine ⟨fun ht => ?_, fun ht => ?_⟩
  ·have ht : (ed rows (q / k) (q % k)).To < 0 := of_decide_eq_true ht
   rw [gdT (by simp; omega), zn, w2]
   refine ⟨⟨q + 1, rfl, by omega, by simp; omega, fun _ => by simp, fun c hc => ?_⟩, by simp only [Int.toNat_natCast]; omega⟩
   rcases List.mem_append.1 hc with g | g
   ·exact h4 c g
   ·simp only [List.mem_cons, List.not_mem_nil, or_false] at g
    exact ⟨q, g, hqs, ht⟩
  ·have ht := of_decide_eq_false ht
   rw [zn, w2]
   refine ⟨⟨q + 1, rfl, by omega, by simp only; omega, fun hlt => ?_, h4⟩, by simp only [Int.toNat_natCast]; omega⟩
   by_cases e : (s - 1) * k < q
   ·exact h3 e
   ·exfalso
    have e2 : q = (s - 1) * k := by omega
    have : q / k = s - 1 := by rw [e2]; exact Nat.mul_div_cancel _ (by omega)
    have q2 := hfree (q % k) d2
    rw [this, q2] at ht
    omega
 ·have hc := of_decide_eq_false hc
  have e : (s - 1) * k < s * k := Nat.mul_lt_mul_of_pos_right (by omega) (by omega)
  exact zn.2 ⟨h3 (by omega), by omega, h4⟩
structure Tree (s : Nat) (rows : List (List za)) : Prop where
 tm : TM n k o rows
 par : ∀ t, 1 ≤ t → t < s → ∃ r i, r < t ∧ i < k ∧ (ed rows r i).To = (t : Int)
 free : ∀ r i, s ≤ r + 1 → r < n → i < k → (ed rows r i).To = -1
omit h hn ho o1 in
theorem zcm {rows : List (List za)} {s : Nat} (s1 : 1 ≤ s) (sn : s < n) (hT : Tree (n := n) (k := k) (o := o) s rows) {q : Nat} (hq : q < s * k) (hf : (ed rows (q / k) (q % k)).To < 0) :
  ∃ rows', vp x rows (s : Int) (q : Int) = some (.next (rows', ((s + 1 : Nat) : Int))) ∧ Tree (n := n) (k := k) (o := o) (s + 1) rows' := by
 have hsk : s * k ≤ 5 * 3 := Nat.mul_le_mul (by omega) (by omega)
 obtain ⟨d1, d2, d3, d4⟩ := zbj k1 hq
 obtain ⟨r, r1, r2, r3⟩ := hT.tm.idx2 (s := q / k) (i := q % k) (by omega) d2
 obtain ⟨u1, u2⟩ := hT.tm.upd (s := q / k) (i := q % k) (by omega) d2 r1 (t := (s : Int)) (by omega) (by omega)
 refine ⟨_, ?_, u1, fun t t1 t2 => ?_, fun r' i g1 g2 g3 => ?_⟩
 ·unfold vp ZK
  have w2 : w64 ((s : Int) + 1) = ((s + 1 : Nat) : Int) := by rw [y7 (by omega) (by omega)]; rfl
  rw [hk, gdT (by omega), d3, z7h (q / k) (by omega), bdT (zk r1), gdT (by omega), d4, bdT (zk r3), w2]
  rfl
 ·by_cases e : t = s
  ·subst e
   exact ⟨q / k, q % k, d1, d2, by rw [u2, if_pos ⟨rfl, rfl⟩]⟩
  ·obtain ⟨r', i, g1, g2, g3⟩ := hT.par t t1 (by omega)
   refine ⟨r', i, g1, g2, ?_⟩
   rw [u2, if_neg, g3]
   rintro ⟨rfl, rfl⟩
   omega
 ·rw [u2, if_neg (by rintro ⟨e, _⟩; omega)]
  exact hT.free r' i (by omega) g2 g3
omit ho o1 in
theorem z9f {rows : List (List za)} (hT : TM n k o rows) (hfree : ∀ s i, s < n → i < k → (ed rows s i).To = -1) : Ret (loop (fun st => qt x st.1 st.2) (rows, 1)) (Tree (n := n) (k := k) (o := o) n) := by
 refine xm (fun st => ∃ s : Nat, st.2 = (s : Int) ∧ 1 ≤ s ∧ s ≤ n ∧ Tree (n := n) (k := k) (o := o) s st.1) (fun st => 10 - st.2.toNat) ⟨1, rfl, by omega, by omega, hT, fun t _ _ => by omega, fun r i _ => hfree r i⟩ (by show 10 - _ < _; omega) ?_
 rintro ⟨rows, _⟩ ⟨s, rfl, s1, sn, hS⟩
 simp only at hS
 show Ret (qt x rows (s : Int)) _
 unfold qt
 rw [hn, yx]
 refine ⟨fun hc => ?_, fun hc => ?_⟩
 ·have hc : (s : Int) < (n : Int) := of_decide_eq_true hc
  have hsn : s < n := by omega
  rw [ym]
  refine (zar hk n1 k1 hS.tm s1 hsn fun i hi => hS.free (s - 1) i (by omega) (by omega) hi).mono fun fr hfr => ?_
  obtain ⟨f1, f2, f3⟩ := hfr
  have flen : 0 < fr.length := List.length_pos_iff.2 f1
  have fin : ∀ c ∈ fr, Ret (vp x rows (s : Int) c) (LRP (fun s' => (∃ s : Nat, s'.2 = (s : Int) ∧ 1 ≤ s ∧ s ≤ n ∧ Tree (n := n) (k := k) (o := o) s s'.1) ∧ 10 - s'.2.toNat < 10 - (s : Int).toNat) (Tree (n := n) (k := k) (o := o) n)) := by
   intro c hc
   obtain ⟨q, rfl, q1, q2⟩ := f3 c hc
   obtain ⟨rows', e, g⟩ := zcm hk n1 k1 s1 hsn hS q1 q2
   rw [e, zn]
   exact ⟨⟨s + 1, rfl, by omega, by omega, g⟩, by simp only [Int.toNat_natCast]; omega⟩
  unfold kP
  have e0 : fr[0]? = some fr[0] := List.getElem?_eq_getElem flen
  have w3 : w64 ((s : Int) - 1) = ((s - 1 : Nat) : Int) := by rw [y7 (by omega) (by omega)]; omega
  rw [bdT (show idx fr 0 = some fr[0] from e0), w3, yx]
  refine ⟨fun hc2 => ?_, fun _ => fin _ (List.getElem_mem _)⟩
  have hc2 : ((s - 1 : Nat) : Int) < ((x.Tree.length : Nat) : Int) := of_decide_eq_true hc2
  have hx : x.Tree[s - 1]? = some x.Tree[s - 1] := List.getElem?_eq_getElem (by omega)
  have hv := h.t0 _ (List.getElem_mem (by omega : s - 1 < x.Tree.length))
  rw [bdT (zk hx), gdT (by omega), y7 (x := x.Tree[s - 1]) (by omega) (by omega)]
  have m1 := Int.tmod_nonneg (fr.length : Int) hv.1
  have m2 := Int.tmod_lt_of_pos x.Tree[s - 1] (show (0 : Int) < (fr.length : Int) by omega)
  have hy : fr[(Int.tmod x.Tree[s - 1] (fr.length : Int)).toNat]? = some fr[(Int.tmod x.Tree[s - 1] (fr.length : Int)).toNat] := List.getElem?_eq_getElem (by omega)
  rw [ym, z7v]
  exact ⟨m1, _, hy, fin _ (List.getElem_mem _)⟩
 ·have hsn : s = n := by have := of_decide_eq_false hc; omega
  subst hsn
  exact zn.2 hS
structure zgu (s i : Nat) (rows : List (List za)) : Prop where
 tm : TM n k o rows
 par : ∀ t, 1 ≤ t → t < n → ∃ r i, r < t ∧ i < k ∧ (ed rows r i).To = (t : Int)
 full : ∀ r j, r < n → j < k → r < s ∨ r = s ∧ j < i → 0 ≤ (ed rows r j).To
omit ho o1 in
theorem z4Y {rows : List (List za)} {s : Nat} (sn : s < n) (hF : zgu (n := n) (k := k) (o := o) s 0 rows) : Ret (loop (fun st => qu x (s : Int) st.1 st.2) (rows, 0)) (zgu (n := n) (k := k) (o := o) (s + 1) 0) := by
 have hsk : s * k ≤ 5 * 3 := Nat.mul_le_mul (by omega) (by omega)
 refine xm (fun st => ∃ i : Nat, st.2 = (i : Int) ∧ i ≤ k ∧ zgu (n := n) (k := k) (o := o) s i st.1) (fun st => 10 - st.2.toNat) ⟨0, rfl, by omega, hF⟩ (by show 10 - _ < _; omega) ?_
 rintro ⟨rows, _⟩ ⟨i, rfl, ik, hS⟩
 simp only at hS
 show Ret (qu x (s : Int) rows (i : Int)) _
 unfold qu
 have w1 : w64 ((s : Int) * (k : Int)) = ((s * k : Nat) : Int) := by rw [y7 (by rw [← Int.natCast_mul]; omega) (by rw [← Int.natCast_mul]; omega)]; exact (Int.natCast_mul s k).symm
 rw [hk, hn, w1, yx]
 refine ⟨fun hc => ?_, fun hc => ?_⟩
 ·have hc : (i : Int) < (k : Int) := of_decide_eq_true hc
  have hik : i < k := by omega
  obtain ⟨r, r1, r2, r3⟩ := hS.tm.idx2 sn hik
  have w2 : w64 ((i : Int) + 1) = ((i + 1 : Nat) : Int) := by rw [y7 (by omega) (by omega)]; rfl
  rw [bdT (zk r1), bdT (zk r3), yx]
  unfold jC
  refine ⟨fun ht => ?_, fun ht => ?_⟩
  ·have ht : (ed rows s i).To < 0 := of_decide_eq_true ht
   rw [bdT (zk r1), y7 (x := ((s * k : Nat) : Int) + (i : Int)) (by omega) (by omega), ym]
   refine (z1u x.Edges h.e0 (q := ((s * k : Nat) : Int) + (i : Int)) (by omega)).mono fun v hv => ?_
   have m1 := Int.tmod_nonneg (n : Int) hv.1
   have m2 := Int.tmod_lt_of_pos v (show (0 : Int) < (n : Int) by omega)
   obtain ⟨u1, u2⟩ := hS.tm.upd sn hik r1 (t := Int.tmod v n) (by omega) m2
   rw [gdT (by omega), bdT (zk r3), zn, w2]
   refine ⟨⟨i + 1, rfl, by omega, u1, fun t t1 t2 => ?_, fun r' j g1 g2 g3 => ?_⟩, by simp only [Int.toNat_natCast]; omega⟩
   ·obtain ⟨r', j, g1, g2, g3⟩ := hS.par t t1 t2
    refine ⟨r', j, g1, g2, ?_⟩
    show (ed (rows.set s (r.set i ⟨Int.tmod v n, (ed rows s i).Out⟩)) r' j).To = _
    rw [u2, if_neg, g3]
    rintro ⟨rfl, rfl⟩
    omega
   ·show 0 ≤ (ed (rows.set s (r.set i ⟨Int.tmod v n, (ed rows s i).Out⟩)) r' j).To
    rw [u2]
    split
    ·exact m1
    ·rename_i e
     exact hS.full r' j g1 g2 (by rcases g3 with g3 | ⟨rfl, g3⟩; exact .inl g3; exact .inr ⟨rfl, by have : ¬ j = i := fun q => e ⟨rfl, q⟩; omega⟩)
  ·have ht := of_decide_eq_false ht
   rw [zn, w2]
   refine ⟨⟨i + 1, rfl, by omega, hS.tm, hS.par, fun r' j g1 g2 g3 => ?_⟩, by simp only [Int.toNat_natCast]; omega⟩
   rcases g3 with g3 | ⟨rfl, g3⟩
   ·exact hS.full r' j g1 g2 (.inl g3)
   ·by_cases e : j = i
    ·subst e; show 0 ≤ (ed rows r' j).To; omega
    ·exact hS.full r' j g1 g2 (.inr ⟨rfl, by omega⟩)
 ·have hik : i = k := by have := of_decide_eq_false hc; omega
  subst hik
  exact zn.2 ⟨hS.tm, hS.par, fun r' j g1 g2 g3 => hS.full r' j g1 g2 (by omega)⟩
omit ho o1 in
theorem zas {rows : List (List za)} (hT : Tree (n := n) (k := k) (o := o) n rows) : Ret (loop (fun st => qw x st.1 st.2) (rows, 0)) (zgu (n := n) (k := k) (o := o) n 0) := by
 refine xm (fun st => ∃ s : Nat, st.2 = (s : Int) ∧ s ≤ n ∧ zgu (n := n) (k := k) (o := o) s 0 st.1) (fun st => 10 - st.2.toNat) ⟨0, rfl, by omega, hT.tm, hT.par, fun r j _ _ g => by omega⟩ (by show 10 - _ < _; omega) ?_
 rintro ⟨rows, _⟩ ⟨s, rfl, sn, hS⟩
 simp only at hS
 show Ret (qw x rows (s : Int)) _
 unfold qw
 rw [hn, yx]
 refine ⟨fun hc => ?_, fun hc => ?_⟩
 ·have hc : (s : Int) < (n : Int) := of_decide_eq_true hc
  rw [ym]
  refine (z4Y h hn hk n1 k1 (s := s) (by omega) hS).mono fun r hr => ?_
  unfold ZL
  rw [zn, y7 (x := (s : Int) + 1) (by omega) (by omega)]
  exact ⟨⟨s + 1, rfl, by omega, hr⟩, by simp only; omega⟩
 ·have hsn : s = n := by have := of_decide_eq_false hc; omega
  subst hsn
  exact zn.2 hS
end
theorem zcp {x : zD} (h : zj8 x) : Ret (Y2 x) fun m => VM m ∧ m.Inputs ≤ 3 ∧ m.Rows.length ≤ 6 ∧ (∀ s i, s < m.Rows.length → i < kk m → 0 ≤ (E m s i).To) ∧ ∀ t, t < m.Rows.length → Rch m t := by
 have hn' := z4N h.s0 (k := 6) (by omega) (by omega)
 have hi' := z4N h.i0 (k := 3) (by omega) (by omega)
 have ho' := z4N h.o0 (k := 3) (by omega) (by omega)
 obtain ⟨n, hn⟩ : ∃ n : Nat, w64 (1 + w64 (Int.tmod x.States 6)) = (n : Int) := ⟨(w64 (1 + w64 (Int.tmod x.States 6))).toNat, by omega⟩
 obtain ⟨k, hk⟩ : ∃ n : Nat, w64 (1 + w64 (Int.tmod x.Inputs 3)) = (n : Int) := ⟨(w64 (1 + w64 (Int.tmod x.Inputs 3))).toNat, by omega⟩
 obtain ⟨o, ho⟩ : ∃ n : Nat, w64 (1 + w64 (Int.tmod x.Outputs 3)) = (n : Int) := ⟨(w64 (1 + w64 (Int.tmod x.Outputs 3))).toNat, by omega⟩
 rw [hn] at hn'
 rw [hk] at hi'
 rw [ho] at ho'
 have n1 : 1 ≤ n ∧ n ≤ 6 := by omega
 have k1 : 1 ≤ k ∧ k ≤ 3 := by omega
 have o1 : 1 ≤ o ∧ o ≤ 3 := by omega
 unfold Y2 ZO ZN ZM
 rw [gdT (by decide), gdT (by decide), gdT (by decide), ym]
 refine (z7u h hn hk ho n1 k1 o1).mono fun r0 h0 => ?_
 rw [ym]
 refine (z9f h hn hk n1 k1 h0.1 h0.2).mono fun r1 h1 => ?_
 rw [ym]
 refine (zas h hn hk n1 k1 h1).mono fun r hF => ?_
 rw [zn, hk, ho]
 have hlen : r.length = n := hF.tm.len
 have hkk : kk (z7.mk (k : Int) (o : Int) r) = k := by show (k : Int).toNat = k; omega
 have hfull : ∀ s i, s < n → i < k → 0 ≤ (ed r s i).To := fun s i a b => hF.full s i a b (.inl a)
 refine ⟨⟨by show (1 : Int) ≤ (k : Int); omega, by show (k : Int) ≤ 16; omega, by show (1 : Int) ≤ (o : Int); omega, by show (o : Int) ≤ 16; omega, by show 1 ≤ r.length; omega, by show r.length ≤ 64; omega, fun row hr => ?_, fun row hr e he => ?_⟩, by show (k : Int) ≤ 3; omega, by show r.length ≤ 6; omega, fun s i hs hi => ?_, ?_⟩
 ·obtain ⟨s, hs⟩ := List.mem_iff_getElem?.1 hr
  have := hF.tm.row s row hs
  show ((row.length : Nat) : Int) = (k : Int)
  omega
 ·obtain ⟨s, hs⟩ := List.mem_iff_getElem?.1 hr
  have hrow := hF.tm.row s row hs
  have hsl : s < n := by have := (List.getElem?_eq_some_iff.1 hs).1; rw [hlen] at this; exact this
  obtain ⟨i, hi⟩ := List.mem_iff_getElem?.1 he
  have hil : i < k := by have := (List.getElem?_eq_some_iff.1 hi).1; omega
  have e1 : ed r s i = e := by unfold ed; rw [hs, Option.getD_some, hi, Option.getD_some]
  have q1 := hF.tm.edge s i hsl hil
  have q2 := hfull s i hsl hil
  rw [e1] at q1 q2
  exact .inr ⟨q2, by show e.To < ((r.length : Nat) : Int); rw [hlen]; exact q1.2.1, q1.2.2.1, q1.2.2.2⟩
 ·exact hfull s i (by have hs : s < r.length := hs; omega) (by rw [hkk] at hi; exact hi)
 ·have gen : ∀ b t, t < b → t < n → Rch (z7.mk (k : Int) (o : Int) r) t := by
   intro b
   induction b with
   | zero => intro t q; omega
   | succ b ih =>
    intro t q ht
    by_cases e : t = 0
    ·subst e; exact ⟨[], (fun i hi => by cases hi), rfl⟩
    ·obtain ⟨s, i, g1, g2, g3⟩ := hF.par t (by omega) ht
     have e3 : (E (z7.mk (k : Int) (o : Int) r) s i).To = (t : Int) := g3
     have := rch_step (m := z7.mk (k : Int) (o : Int) r) (i := i) (ih s (by omega) (by omega)) (by rw [hkk]; exact g2) (by rw [e3]; omega)
     rw [e3] at this
     exact this
  intro t ht
  exact gen (t + 1) t (by omega) (by have ht : t < r.length := ht; omega)
theorem zcQ {m : z7} {c d : z8} (hc : COk m c) (hd : COk m d) (hS : ∀ s, s < m.Rows.length → (UJ c s ↔ UJ d s)) (hE : ∀ s i, s < m.Rows.length → i < kk m → (JD c s i ↔ JD d s i)) : c = d := by
 have bool : ∀ {a b : Bool}, (some a = some true ↔ some b = some true) → a = b := by intro a b; cases a <;> cases b <;> simp
 obtain ⟨cs, ce⟩ := c
 obtain ⟨ds, de⟩ := d
 have e1 : cs = ds := by
  apply List.ext_getElem?
  intro s
  by_cases hs : s < m.Rows.length
  ·have h1 : cs.length = m.Rows.length := hc.st
   have h2 : ds.length = m.Rows.length := hd.st
   have q : cs[s]? = some true ↔ ds[s]? = some true := hS s hs
   have x1 : cs[s]? = some cs[s] := List.getElem?_eq_getElem (by omega)
   have x2 : ds[s]? = some ds[s] := List.getElem?_eq_getElem (by omega)
   rw [x1, x2] at q ⊢
   rw [bool q]
  ·have h1 : cs.length = m.Rows.length := hc.st
   have h2 : ds.length = m.Rows.length := hd.st
   rw [List.getElem?_eq_none (by omega), List.getElem?_eq_none (by omega)]
 have e2 : ce = de := by
  have h1 : ce.length = m.Rows.length := hc.ed
  have h2 : de.length = m.Rows.length := hd.ed
  apply List.ext_getElem?
  intro s
  by_cases hs : s < m.Rows.length
  ·obtain ⟨r1, a1, a2⟩ := hc.rowAt hs
   obtain ⟨r2, b1, b2⟩ := hd.rowAt hs
   have a1 : ce[s]? = some r1 := a1
   have b1 : de[s]? = some r2 := b1
   rw [a1, b1]
   congr 1
   apply List.ext_getElem?
   intro i
   by_cases hi : i < kk m
   ·have q := hE s i hs hi
    unfold JD at q
    simp only [a1, b1, Option.some.injEq, exists_eq_left'] at q
    have x1 : r1[i]? = some r1[i] := List.getElem?_eq_getElem (by omega)
    have x2 : r2[i]? = some r2[i] := List.getElem?_eq_getElem (by omega)
    rw [x1, x2] at q ⊢
    rw [bool q]
   ·rw [List.getElem?_eq_none (by omega), List.getElem?_eq_none (by omega)]
  ·rw [List.getElem?_eq_none (by omega), List.getElem?_eq_none (by omega)]
 rw [e1, e2]
section
variable {m : z7} (h : VM m)
include h
theorem zes {w : List Nat} (hw : Wd (kk m) w) {k : Nat} {c : z8} (hc : COk m c) {s : Nat} : UJ (YX m w k c) s ↔ aft m 0 (w.take k) = s ∨ UJ c s := by
 have hin := UR h hw k
 unfold YX
 split
 ·rename_i q
  rw [q]
  exact ⟨.inr, fun g => g.resolve_left (by omega)⟩
 ·rename_i q
  have hlt : (aft m 0 (w.take k)).toNat < m.Rows.length := by have := hin.1; have := hin.2; omega
  have e : UJ (z17 m w (aft m 0 (w.take k)) k c) s ↔ UJ (setS c (aft m 0 (w.take k)).toNat) s := by
   unfold z17
   split
   ·split
    ·exact z40
    ·exact Iff.rfl
   ·exact Iff.rfl
  rw [e, z3Z hc hlt]
  have := hin.1
  constructor
  ·rintro (a | a)
   ·exact .inl (by omega)
   ·exact .inr a
  ·rintro (a | a)
   ·exact .inl (by omega)
   ·exact .inr a
theorem zet {w : List Nat} (hw : Wd (kk m) w) {k : Nat} {c : z8} (hc : COk m c) {s i : Nat} : JD (YX m w k c) s i ↔ (w[k]? = some i ∧ aft m 0 (w.take k) = s ∧ (E m s i).To ≠ -1) ∨ JD c s i := by
 have hin := UR h hw k
 unfold YX
 split
 ·rename_i q
  rw [q]
  exact ⟨.inr, fun g => g.resolve_left (by omega)⟩
 ·rename_i q
  have h0 := hin.1
  obtain ⟨t, ht⟩ : ∃ t : Nat, aft m 0 (w.take k) = t := ⟨(aft m 0 (w.take k)).toNat, by omega⟩
  have hlt : t < m.Rows.length := by have := hin.2; omega
  rw [ht]
  unfold z17
  rw [Int.toNat_natCast]
  cases hx : w[k]? with
  | none =>
   simp only
   rw [UK]
   exact ⟨.inr, fun g => g.resolve_left (by simp)⟩
  | some j =>
   have hj : j < kk m := hw j (List.mem_of_getElem? hx)
   simp only
   split
   ·rename_i g
    rw [z41 (hc.setS t) hlt hj, UK]
    constructor
    ·rintro (⟨rfl, rfl⟩ | a)
     ·exact .inl ⟨rfl, rfl, g⟩
     ·exact .inr a
    ·rintro (⟨a, b, _⟩ | a)
     ·exact .inl ⟨by omega, by cases a; rfl⟩
     ·exact .inr a
   ·rename_i g
    rw [UK]
    constructor
    ·exact .inr
    ·rintro (⟨a, b, d⟩ | a)
     ·cases a
      have : t = s := by omega
      subst this
      exact absurd d g
     ·exact a
theorem zcR {w : List Nat} (hw : Wd (kk m) w) {c : z8} (hc : COk m c) : ∀ n, COk m ((List.range n).foldl (fun c k => YX m w k c) c) ∧ (∀ s : Nat, UJ ((List.range n).foldl (fun c k => YX m w k c) c) s ↔ (∃ k, k < n ∧ aft m 0 (w.take k) = (s : Int)) ∨ UJ c s) ∧
  ∀ s i : Nat, JD ((List.range n).foldl (fun c k => YX m w k c) c) s i ↔ (∃ k, k < n ∧ w[k]? = some i ∧ aft m 0 (w.take k) = (s : Int) ∧ (E m s i).To ≠ -1) ∨ JD c s i := by
 intro n
 induction n with
 | zero => exact ⟨hc, fun s => ⟨.inr, fun g => g.resolve_left (by rintro ⟨k, q, _⟩; omega)⟩, fun s i => ⟨.inr, fun g => g.resolve_left (by rintro ⟨k, q, _⟩; omega)⟩⟩
 | succ n ih =>
  obtain ⟨i1, i2, i3⟩ := ih
  rw [xo (fun k c => YX m w k c)]
  refine ⟨z2s h hw n i1, fun s => ?_, fun s i => ?_⟩
  ·rw [zes h hw i1, i2]
   constructor
   ·rintro (a | ⟨k, a, b⟩ | a)
    ·exact .inl ⟨n, by omega, a⟩
    ·exact .inl ⟨k, by omega, b⟩
    ·exact .inr a
   ·rintro (⟨k, a, b⟩ | a)
    ·by_cases e : k = n
     ·subst e; exact .inl b
     ·exact .inr (.inl ⟨k, by omega, b⟩)
    ·exact .inr (.inr a)
  ·rw [zet h hw i1, i3]
   constructor
   ·rintro (a | ⟨k, a, b⟩ | a)
    ·exact .inl ⟨n, by omega, a⟩
    ·exact .inl ⟨k, by omega, b⟩
    ·exact .inr a
   ·rintro (⟨k, a, b⟩ | a)
    ·by_cases e : k = n
     ·subst e; exact .inl b
     ·exact .inr (.inl ⟨k, by omega, b⟩)
    ·exact .inr (.inr a)
def zdk (m : z7) (l : List (List Nat)) (s : Nat) : Prop := ∃ w ∈ l, ∃ k, k ≤ w.length ∧ aft m 0 (w.take k) = (s : Int)
def zdl (m : z7) (l : List (List Nat)) (s i : Nat) : Prop := ∃ w ∈ l, ∃ k, w[k]? = some i ∧ aft m 0 (w.take k) = (s : Int) ∧ (E m s i).To ≠ -1
theorem z2B : ∀ {l : List (List Nat)} {c : z8}, (∀ w ∈ l, Wd (kk m) w) → COk m c → (∀ s, UJ (z2Z m l c) s ↔ zdk m l s ∨ UJ c s) ∧ ∀ s i, JD (z2Z m l c) s i ↔ zdl m l s i ∨ JD c s i
 | [], c, _, _ => ⟨fun s => by simp [z2Z, zdk], fun s i => by simp [z2Z, zdl]⟩
 | w :: l, c, hw, hc => by
  have hww := hw w (by simp)
  obtain ⟨g1, g2⟩ := z2B (l := l) (fun v hv => hw v (by simp [hv])) (z56 h hww hc)
  obtain ⟨_, f2, f3⟩ := zcR h hww hc (w.length + 1)
  refine ⟨fun s => ?_, fun s i => ?_⟩
  ·show UJ (z2Z m l (z6T m w c)) s ↔ _
   rw [g1]
   unfold z6T
   rw [f2]
   unfold zdk
   simp only [List.mem_cons, exists_eq_or_imp]
   constructor
   ·rintro (a | ⟨k, a, b⟩ | a)
    ·exact .inl (.inr a)
    ·exact .inl (.inl ⟨k, by omega, b⟩)
    ·exact .inr a
   ·rintro ((⟨k, a, b⟩ | a) | a)
    ·exact .inr (.inl ⟨k, by omega, b⟩)
    ·exact .inl a
    ·exact .inr (.inr a)
  ·show JD (z2Z m l (z6T m w c)) s i ↔ _
   rw [g2]
   unfold z6T
   rw [f3]
   unfold zdl
   simp only [List.mem_cons, exists_eq_or_imp]
   constructor
   ·rintro (a | ⟨k, a, b⟩ | a)
    ·exact .inl (.inr a)
    ·exact .inl (.inl ⟨k, b⟩)
    ·exact .inr a
   ·rintro ((⟨k, a, b⟩ | a) | a)
    ·exact .inr (.inl ⟨k, by have := (List.getElem?_eq_some_iff.1 a).1; omega, a, b⟩)
    ·exact .inl a
    ·exact .inr (.inr a)
end
def z98 {α : Type} (l r : List (List α)) : Prop := ∀ w ∈ l, ∃ v ∈ r, w.length ≤ v.length ∧ v.take w.length = w
theorem z5l {α : Type} {w v : List α} (h1 : w.length ≤ v.length) (h2 : v.take w.length = w) (k : Nat) (hk : k ≤ w.length) : w.take k = v.take k := by
 rw [← h2, List.take_take, Nat.min_eq_left (by simpa [h2] using hk)]
theorem z3i {m : z7} {l r : List (List Nat)} (h : z98 l r) {s : Nat} : zdk m l s → zdk m r s := by
 rintro ⟨w, hw, k, k1, k2⟩
 obtain ⟨v, hv, v1, v2⟩ := h w hw
 exact ⟨v, hv, k, by omega, by rw [← z5l v1 v2 k k1]; exact k2⟩
theorem Ky {m : z7} {l r : List (List Nat)} (h : z98 l r) {s i : Nat} : zdl m l s i → zdl m r s i := by
 rintro ⟨w, hw, k, k1, k2, k3⟩
 obtain ⟨v, hv, v1, v2⟩ := h w hw
 have kl := (List.getElem?_eq_some_iff.1 k1).1
 refine ⟨v, hv, k, ?_, by rw [← z5l v1 v2 k (by omega)]; exact k2, k3⟩
 have e : (v.take w.length)[k]? = v[k]? := List.getElem?_take_of_lt kl
 rw [v2] at e
 rw [← e]
 exact k1
theorem z68 {m : z7} (h : VM m) {l r : List (List Nat)} (hl : ∀ w ∈ l, Wd (kk m) w) (hr : ∀ w ∈ r, Wd (kk m) w) (h1 : z98 l r) (h2 : z98 r l) : z2Z m l (Wx m) = z2Z m r (Wx m) := by
 obtain ⟨a1, a2⟩ := z2B h (c := Wx m) hl Yo
 obtain ⟨b1, b2⟩ := z2B h (c := Wx m) hr Yo
 refine zcQ (z0q h hl Yo) (z0q h hr Yo) (fun s _ => ?_) fun s i _ _ => ?_
 ·rw [a1, b1]
  exact ⟨fun q => q.elim (fun q => .inl (z3i h1 q)) .inr, fun q => q.elim (fun q => .inl (z3i h2 q)) .inr⟩
 ·rw [a2, b2]
  exact ⟨fun q => q.elim (fun q => .inl (Ky h1 q)) .inr, fun q => q.elim (fun q => .inl (Ky h2 q)) .inr⟩
theorem KE {l r : List (List Int)} (h : z98 l r) : z98 (Kb l) (Kb r) := by
 intro w hw
 obtain ⟨u, hu, rfl⟩ := List.mem_map.1 hw
 obtain ⟨v, hv, v1, v2⟩ := h u hu
 refine ⟨v.map Int.toNat, List.mem_map.2 ⟨v, hv, rfl⟩, by simpa using v1, ?_⟩
 rw [List.length_map, ← List.map_take, v2]
theorem z4B {l : List (List Int)} (hw : ∀ w ∈ l, w.length ≤ 12) : z98 l (z6V l) ∧ z98 (z6V l) l :=
 ⟨fun w h => z7z hw 13 w h (by omega), fun w h => ⟨w, (Kc.1 h).1, Nat.le_refl _, by simp⟩⟩
theorem z78 (l : List (List Int)) : z98 l (srt (z16 l)) ∧ z98 (srt (z16 l)) l := by
 refine ⟨fun w h => ⟨w, wI.2 (UD.2 ⟨w, h, w.length, Nat.le_refl _, by simp⟩), Nat.le_refl _, by simp⟩, fun w h => ?_⟩
 obtain ⟨v, hv, j, hj, rfl⟩ := UD.1 (wI.1 h)
 refine ⟨v, hv, by rw [List.length_take]; omega, ?_⟩
 rw [List.length_take, Nat.min_eq_left hj]
def Ok5 (a : Int) : Prop := (0) ≤ a ∧ a ≤ 255
def zgN (l : List Int) : Prop := ∀ a ∈ l, Ok5 a
def zhW (a : Int) : Prop := (0) ≤ a ∧ a ≤ 65535
def zj5 (l : List Int) : Prop := ∀ a ∈ l, zhW a
def zj2 (a : zD) : Prop := Ok5 a.States ∧ Ok5 a.Inputs ∧ Ok5 a.Outputs ∧ zgN a.Tree ∧ zj5 a.Edges
def zj4 (l : List (List Int)) : Prop := ∀ a ∈ l, zgN a
def zj3 (a : yf) : Prop := Ok5 a.Inputs ∧ zj4 a.Words
theorem z8V {m : z7} (v : VM m) {c : z8 × Int} (hc : COk m c.1) (hS : ∀ s, s < m.Rows.length → UJ c.1 s) (hE : ∀ s i, s < m.Rows.length → i < kk m → JD c.1 s i) : loop (fun s => yq c s) 0 = some (.inl ()) := by
 have hN := v.len64
 have hk := v.kk_le
 have he := hc.ed
 rw [xI c.1.Edges (by omega) (step := fun s => yq c s) (fun _ _ => none) ?_ ?_, qd (fun _ _ _ => rfl)]
 ·rfl
 ·intro s x hx
  have hs := (List.getElem?_eq_some_iff.1 hx).1
  have hxl := hc.row s x hx
  have hst : c.1.States[s]? = some true := hS s (by omega)
  unfold yq
  rw [decide_eq_true (by omega), cond_true, bdT (xI x (by omega) (step := fun i => yY c (s : Int) i) (fun _ _ => none) ?_ ?_), qd (fun _ _ _ => rfl)]
  ·rfl
  ·intro i y hy
   have hi := (List.getElem?_eq_some_iff.1 hy).1
   obtain ⟨e, e1, e2⟩ := hE s i (by omega) (by omega)
   rw [hx] at e1
   cases e1
   unfold yY
   rw [zk hx, oB, decide_eq_true (by omega), cond_true, oB, zk e2, oB, Bool.not_true, cond_false, zk hst, oB, Bool.not_true, cond_false]
   rfl
  ·unfold yY
   rw [zk hx, oB, decide_eq_false (by omega), cond_false]
 ·unfold yq
  rw [decide_eq_false (by omega), cond_false]
theorem Wq.red {n : Int} {L k : Nat} {l : List (List Int)} (h : Wq n L k l) : Wq n L k (z6V l) :=
 ⟨h.1.filter _, Nat.le_trans (List.length_filter_le _ _) h.2.1, fun w hw => h.2.2 w (Kc.1 hw).1⟩
theorem zbV (a : Nat) {i : Nat} (hi : i < a) : [(i : Int)] ∈ ZH a 0 (1 + 1) := by
 unfold ZH
 rw [if_pos (by omega)]
 refine List.mem_append.2 (.inr ?_)
 unfold exW exW Ki
 simp only [List.flatMap_cons, List.flatMap_nil, List.append_nil, List.nil_append, List.mem_map, List.mem_range]
 exact ⟨i, hi, rfl⟩
theorem zaj {x : zD} {y : yf} (hx : zj2 x) (hy : zj3 y) : ua x y = some true := by
 obtain ⟨a1, a2, a3, a4, a5⟩ := hx
 obtain ⟨m, hm, v, hI, hR, hfull, hall⟩ := zcp (x := x) ⟨a1.1, a2.1, a3.1, a4, a5⟩
 have hm' : Y2 (zD.mk x.States x.Inputs x.Outputs x.Tree x.Edges) = some m := hm
 have hkk := v.kk_eq
 have hk1 := v.kk_pos
 have hi16 : 1 ≤ m.Inputs ∧ m.Inputs ≤ 16 := ⟨v.in1, v.in16⟩
 have gen : ∀ {L k : Nat} {l : List (List Int)}, Wq m.Inputs L k l → L ≤ 4096 → k ≤ 12 → xy m l = some 0 ∧ xc m l = some (z2Z m (Kb l) (Wx m), 0) ∧ yH m l = some (scB m (Kb l), 0) ∧ y6 m l = some (tcB m (Kb l), 0) ∧ ∀ w ∈ Kb l, Wd (kk m) w := by
  intro L k l wl hL hk
  have hLk : L * k ≤ 4096 * 12 := Nat.mul_le_mul hL hk
  have hch : chE m.Inputs l = 0 := wl.ch hi16 hL (by omega) (by omega)
  have hready : xy m l = some 0 := by rw [za0, z8z v, if_neg (by omega), hch]
  have hnat := zcu wl
  obtain ⟨q1, q2, q3⟩ := zct v wl
  have hlen := wl.2.1
  have hl1 : (Kb l).length ≤ 100000 := by omega
  have hl2 : ∀ w ∈ Kb l, w.length ≤ 100000 := fun w hw => by have := q3 w hw; omega
  have e1 := zco v q1 hl1 hl2 (by rw [hnat]; exact hready)
  have e2 := z7K v q1 hl1 hl2 (by rw [hnat]; exact hready)
  have e3 := z7J v q1 hl1 hl2 (by rw [hnat]; exact hready)
  rw [hnat] at e1 e2 e3
  exact ⟨hready, e1, e2, e3, q1⟩
 obtain ⟨r1, g1, q1⟩ := z1h v
 obtain ⟨r2, g2, q2⟩ := KC v (by omega) (by omega)
 rcases q1 with ⟨_, l1, i1, c1, rfl⟩ | ⟨q, _⟩
 rotate_left
 ·exact absurd hall q
 rcases q2 with ⟨q, _⟩ | ⟨_, ⟨q, _⟩ | ⟨_, l2, i2, c2, rfl⟩⟩
 ·exact absurd hall q
 ·omega
 rw [show (1 : Int).toNat = 1 from rfl] at g2
 obtain ⟨w1, _⟩ := z6k v (L := 6) hR c1 hall
 obtain ⟨w2, _⟩ := z6k v (L := 6) hR c2 hall
 have wu := zds (a := kk m) (k := 1) (by omega) (by omega)
 rw [hkk] at wu
 have w3 := w2.prod wu
 generalize hp : srt (qN (srt l2) (ZH (kk m) 0 (1 + 1))) = p at g2 w3
 have hpl : ∀ w ∈ p, w.length ≤ 12 := fun w hw => by have := (w3.2.2 w hw).1; omega
 obtain ⟨_, _, f3, _, _⟩ := gen w1 (by omega) (by omega)
 obtain ⟨f5, _, _, f8, f9⟩ := gen w3 (by omega) (by omega)
 obtain ⟨_, f11, _, _, f12⟩ := gen w3.red (by omega) (by omega)
 have hred := z1g (a := kk m) (l := p) (by rw [hkk]; exact w3.ch hi16 (by omega) (by omega) (by omega))
 rw [hkk] at hred
 have acc : ∀ s, s < m.Rows.length → ∃ u : List Nat, u.map Int.ofNat ∈ srt l2 ∧ Wd (kk m) u ∧ aft m 0 u = (s : Int) := by
  intro s hs
  rcases c2.2.2 s hs with ⟨_, u, u1, u2⟩ | ⟨_, u⟩
  ·exact ⟨u, wI.2 (List.mem_of_getElem? u1), u2.wd, u2.aft⟩
  ·obtain ⟨u', u1, u2⟩ := hall s hs
   exact absurd u2 (u u' u1)
 have acc1 : ∀ s, s < m.Rows.length → ∃ u : List Nat, u.map Int.ofNat ∈ srt l1 ∧ Wd (kk m) u ∧ aft m 0 u = (s : Int) := by
  intro s hs
  rcases c1.2.2 s hs with ⟨_, u, u1, u2⟩ | ⟨_, u⟩
  ·exact ⟨u, wI.2 (List.mem_of_getElem? u1), u2.wd, u2.aft⟩
  ·obtain ⟨u', u1, u2⟩ := hall s hs
   exact absurd u2 (u u' u1)
 have back : ∀ u : List Nat, (u.map Int.ofNat).map Int.toNat = u := fun u => by
  rw [List.map_map]
  conv => rhs; rw [← List.map_id u]
  exact List.map_congr_left fun c _ => rfl
 have hsc : scB m (Kb (srt l1)) = true := by
  unfold scB
  simp only [List.all_eq_true, List.any_eq_true, List.mem_range, beq_iff_eq]
  intro s hs
  obtain ⟨u, u1, u2, u3⟩ := acc1 s hs
  exact ⟨u, List.mem_map.2 ⟨_, u1, back u⟩, u3⟩
 have inP : ∀ s i, s < m.Rows.length → i < kk m → ∃ u : List Nat, u ++ [i] ∈ Kb p ∧ aft m 0 u = (s : Int) := by
  intro s i hs hi
  obtain ⟨u, u1, u2, u3⟩ := acc s hs
  refine ⟨u, List.mem_map.2 ⟨(u ++ [i]).map Int.ofNat, ?_, back _⟩, u3⟩
  rw [← hp, wI, Yi]
  exact ⟨_, u1, _, zbV (kk m) hi, by simp⟩
 have htc : tcB m (Kb p) = true := by
  unfold tcB
  simp only [List.all_eq_true, List.any_eq_true, List.mem_range, z3S]
  intro s hs i hi
  obtain ⟨u, u1, u2⟩ := inP s i hs hi
  exact ⟨_, u1, by simp, by simpa using u2⟩
 have hcr := z0q v f12 Yo
 obtain ⟨s1, s2⟩ := z2B v (c := Wx m) f12 Yo
 have hE : ∀ s i, s < m.Rows.length → i < kk m → zdl m (Kb (z6V p)) s i := by
  intro s i hs hi
  obtain ⟨u, u1, u2⟩ := inP s i hs hi
  refine Ky (KE (z4B hpl).1) ⟨_, u1, u.length, by simp, by simpa using u2, ?_⟩
  have := hfull s i hs hi
  omega
 have hS : ∀ s, s < m.Rows.length → zdk m (Kb (z6V p)) s := by
  intro s hs
  obtain ⟨w, w1, k, k1, k2, _⟩ := hE s 0 hs (by omega)
  exact ⟨w, w1, k, by have := (List.getElem?_eq_some_iff.1 k1).1; omega, k2⟩
 have hloop := z8V v (c := (z2Z m (Kb (z6V p)) (Wx m), 0)) hcr (fun s hs => (s1 s).2 (.inl (hS s hs))) fun s i hs hi => (s2 s i).2 (.inl (hE s i hs hi))
 obtain ⟨n, hn, n1, n2⟩ := zaO hy.1
 obtain ⟨l0, hl0, wl0⟩ := zcx hn ⟨n1, n2⟩ hy.2
 obtain ⟨l, hl, wl⟩ := z6n wl0 (by omega) (by omega) (k := m.Inputs) v.in1
 have hll : ∀ w ∈ l, w.length ≤ 12 := fun w hw => (wl.2.2 w hw).1
 have hlch : chE (kk m : Int) l = 0 := by rw [hkk]; exact wl.ch hi16 (by omega) (by omega) (by omega)
 have hlred := z1g (a := kk m) hlch
 obtain ⟨hlpre, p1, p2⟩ := z3k (a := kk m) hlch (by rw [hkk]; exact wl)
 rw [hkk] at hlred hlpre
 have wpre : Wq m.Inputs 520 12 (srt (z16 l)) := ⟨Wk _, p1, fun w hw => ⟨p2 w hw, fun c hc => by
  obtain ⟨u, hu, j, _, rfl⟩ := UD.1 (wI.1 hw)
  exact (wl.2.2 u hu).2 c (List.mem_of_mem_take hc)⟩⟩
 obtain ⟨_, t1, _, _, t2⟩ := gen wl (by omega) (by omega)
 obtain ⟨_, t3, _, _, t4⟩ := gen wl.red (by omega) (by omega)
 obtain ⟨_, t5, _, _, t6⟩ := gen wpre (by omega) (by omega)
 have z1 : z2Z m (Kb (z6V l)) (Wx m) = z2Z m (Kb l) (Wx m) := z68 v t4 t2 (KE (z4B hll).2) (KE (z4B hll).1)
 have z2 : z2Z m (Kb (srt (z16 l))) (Wx m) = z2Z m (Kb l) (Wx m) := z68 v t6 t2 (KE (z78 l).2) (KE (z78 l).1)
 rw [z1] at t3
 rw [z2] at t5
 have z3 := zea v (z0q v t2 Yo)
 have b0 : ((0 : Int) != 0) = false := rfl
 unfold ua
 rw [hm', oB, g1, oB, g2, oB]
 simp only [b0, cond_false]
 rw [f3, oB, f8, oB, hred, oB, f11, oB, hsc, htc]
 simp only [b0, cond_false, Bool.not_true]
 rw [hloop, oB]
 simp only
 unfold wQ
 rw [hl0, oB, hl, oB, hlred, oB, hlpre, oB, t1, oB, t3, oB, t5, oB]
 simp only [beq_self_eq_true, cond_true]
 rw [z3, oB, cond_true, oB, cond_true, z3N, oB]
def z30 (w : World) : zj := fun b o => y9 w.heap b o
theorem z8D {w : World} {a : Addr} {v : Value} (h : w.cell? a = some v) : a.spot = none ∧ y9 w.heap a.block a.off = some v := by
 unfold World.cell? at h
 unfold y9
 split at h
 ·rename_i c ty fr he
  rw [he]
  split at h
  ·cases h
  ·rename_i hs
   exact ⟨by simpa using hs, h⟩
 ·cases h
section
variable {H : Type} {enc : TypeId × Value → H} {P : Program} {w : World} {base : Nat} {spare : Nat → Bool} {held : Bool}
theorem z8A {a : Addr} {n : Nat} {cs : List Value} (h : w.cells? base a n = some cs) (hn : 0 < n) : a.spot = none ∧ cs.length = n ∧ z1O (z30 w) a.block a.off cs := by
 obtain ⟨_, h2, h3⟩ := World.cells?_some h
 have h0 : a.spot = none := by
  have h4 := h3 0 hn
  cases hc : cs[0]? with
  | none => rw [List.getElem?_eq_none_iff] at hc; omega
  | some v =>
   rw [hc] at h4
   have := (z8D h4).1
   simpa [Addr.add] using this
 refine ⟨h0, h2, fun j v hj => ?_⟩
 have hlt := (List.getElem?_eq_some_iff.1 hj).1
 have h4 := h3 j (by omega)
 rw [hj] at h4
 have q := (z8D h4).2
 unfold Addr.add at q
 split at q
 ·rename_i e; subst e; exact q
 ·exact q
theorem z3z {S : zj} : ∀ {bs : List A} {cs : List Value} {a : A} {c : List Value}, yc S bs cs → Rep S a c → yc S (bs ++ [a]) (cs ++ c)
 | [], cs, a, c, h1, h2 => by
  simp only [yc] at h1
  subst h1
  simp only [List.nil_append, yc]
  exact ⟨c, [], by simp, h2, rfl⟩
 | x :: bs, cs, a, c, h1, h2 => by
  simp only [yc] at h1
  obtain ⟨c1, c2, rfl, r1, r2⟩ := h1
  simp only [List.cons_append, yc]
  exact ⟨c1, c2 ++ c, by simp, r1, z3z r2 h2⟩
theorem zad {S : zj} {b o : Nat} {c1 c2 : List Value} (h1 : z1O S b o c1) (h2 : z1O S b (o + c1.length) c2) : z1O S b o (c1 ++ c2) := by
 intro j v hj
 rcases Nat.lt_or_ge j c1.length with q | q
 ·rw [List.getElem?_append_left q] at hj
  exact h1 j v hj
 ·rw [List.getElem?_append_right q] at hj
  have := h2 _ _ hj
  rwa [show o + c1.length + (j - c1.length) = o + j by omega] at this
theorem KH {α : Type} {t e sz : Nat} (f : α → A) (ok : α → Prop) (ht : P.underlying t = some (.slice e)) (hsz : P.cellsOf e = sz) (h0 : 0 < sz) (hf : ∀ a, (f a).size = sz)
    (hel : ∀ n cs x, DataW.trod enc P w base spare held n e cs = some x → ∃ a, ok a ∧ Rep (z30 w) (f a) cs)
    {Xq : Nat} {cs : List Value} {x : DataW H × List MemPlace} (h : DataW.trod enc P w base spare held Xq t cs = some x) : ∃ l : List α, (∀ a ∈ l, ok a) ∧ Rep (z30 w) (.sl sz false (l.map f)) cs := by
  rcases DataW.trod_slice ht h with ⟨rfl, _⟩ | ⟨a, len, cap, elems, rest, n, _, rfl, _, _, hlc, _, hlen, hall, _, _⟩
  · refine ⟨[], by simp, ?_⟩
    simp only [Rep, List.map_nil, List.length_nil]
    exact ⟨none, 0, rfl, by simp, Nat.le_refl _, by simp, .inl trivial⟩
  · have key : ∀ k, k ≤ len → ∃ (l : List α) (cells : List Value), l.length = k ∧ (∀ a ∈ l, ok a) ∧ yc (z30 w) (l.map f) cells ∧ cells.length = k * sz ∧ (0 < k → a.spot = none) ∧ z1O (z30 w) a.block a.off cells := by
      intro k
      induction k with
      | zero => intro _; exact ⟨[], [], rfl, by simp, by simp [yc], by simp, by simp, fun j v h => by simp at h⟩
      | succ k ih =>
        intro hk
        obtain ⟨l, cells, q1, q2, q3, q4, q5, q6⟩ := ih (by omega)
        have hk' := hall k (by omega)
        have hsome : elems[k]? = some elems[k] := List.getElem?_eq_getElem (by omega)
        rw [hsome, Option.bind_eq_some_iff, hsz] at hk'
        obtain ⟨c, hc, htr⟩ := hk'
        obtain ⟨y, hy, hr⟩ := hel _ _ _ htr
        obtain ⟨g1, g2, g3⟩ := z8A hc h0
        refine ⟨l ++ [y], cells ++ c, by simp [q1], ?_, ?_, ?_, ?_, ?_⟩
        · intro z hz
          rcases List.mem_append.1 hz with q | q
          · exact q2 z q
          · simp only [List.mem_cons, List.not_mem_nil, or_false] at q; subst q; exact hy
        · rw [List.map_append]; exact z3z q3 hr
        · rw [List.length_append, q4, g2, Nat.succ_mul]
        · intro _
          rcases Nat.eq_zero_or_pos k with rfl | hk0
          · simpa [Addr.add] using g1
          · exact q5 hk0
        · refine zad q6 ?_
          rw [q4]
          unfold Addr.add at g3
          split at g3
          · rename_i e0
            rw [e0, Nat.add_zero]
            exact g3
          · exact g3
    obtain ⟨l, cells, q1, q2, q3, q4, q5, q6⟩ := key len (Nat.le_refl _)
    refine ⟨l, q2, ?_⟩
    simp only [Rep, List.length_map]
    refine ⟨some a, cap, by rw [q1], by simp, by omega, ?_, ?_⟩
    · intro y hy
      obtain ⟨z, _, rfl⟩ := List.mem_map.1 hy
      exact hf z
    · rcases Nat.eq_zero_or_pos len with rfl | hl
      · left; rw [List.length_eq_zero_iff.1 q1]; rfl
      · right
        refine ⟨a.block, a.off, cells, ?_, q3, q6⟩
        have := q5 hl
        obtain ⟨b, o, s⟩ := a
        simp only at this
        subst this
        rfl
theorem z8b {t : Nat} {k : IntKind} {lo hi : Int} (ht : P.underlying t = some (.int k)) (hlo : k.min = lo) (hhi : k.max = hi) {Xq : Nat} {cs : List Value} {x : DataW H × List MemPlace} (h : DataW.trod enc P w base spare held Xq t cs = some x) :
  ∃ n : Int, (lo ≤ n ∧ n ≤ hi) ∧ cs = [.int k n] ∧ Rep (z30 w) (.atom (.int k n)) cs := by
 obtain ⟨n, rfl, _, hw⟩ := DataW.trod_int ht h
 simp only [Lit.wf, Bool.and_eq_true, decide_eq_true_eq, hlo, hhi] at hw
 exact ⟨n, hw, rfl, by simp only [Rep]; exact ⟨trivial, rfl⟩⟩
theorem Ut {t : Nat} {fs : List Field} (ht : P.underlying t = some (.struct ⟨fs⟩)) {Xq : Nat} {cs : List Value} {x : DataW H × List MemPlace} (h : DataW.trod enc P w base spare held Xq t cs = some x) :
  cs.length = P.cellsOf t ∧ ∀ (i : Nat) (f : Field), fs[i]? = some f → ∃ n y, DataW.trod enc P w base spare held n f.type ((cs.drop f.offset).take (P.cellsOf f.type)) = some y := by
 obtain ⟨xs, n, _, _, hl, hxl, hall⟩ := DataW.trod_struct ht h
 refine ⟨hl, fun i f hf => ?_⟩
 have hlt := (List.getElem?_eq_some_iff.1 hf).1
 have := hall i f (by simpa using hf)
 rw [List.getElem?_eq_getElem (by rw [hxl]; simpa using hlt)] at this
 exact ⟨n, _, this⟩
end
theorem Yf {S : zj} {a : A} {bs : List A} {cs : List Value} {n : Nat} (h1 : Rep S a (cs.take n)) (h2 : yc S bs (cs.drop n)) : yc S (a :: bs) cs := by
 simp only [yc]
 exact ⟨cs.take n, cs.drop n, (List.take_append_drop n cs).symm, h1, h2⟩
section
open Go Go.ChangeShapes Go.WideShapes Go.ChangeAt Go.RowKit
theorem z7G {P : Program} {H : Type} {enc : TypeId × Value → H} {f : Func} {s : ChangeSpec} {apart fresh handsOn again : Bool} {W W' : World} {args : Array Value} {v : Value} {ds : List (DataW H)} {pa : List MemPlace}
  (hvar : s.vars = []) (hvars2 : (s.fn H (ds ++ [])).vars = []) (hW : DataW.Whole enc P f.params.toList s.vars apart W args.toList ds [] (pa ++ [])) (hb : Below W.heap.size W W')
  (hres : ∀ (b : Nat) (sp : Nat → Bool) (hd : Bool), DataW.TrodAll enc P W' b sp hd f.resultTypes.toList (v.resultList f.resultTypes.size) (s.fn H (ds ++ [])).results [])
  (hargs : ∀ sp : Nat → Bool, (∀ p ∈ pa ++ [], sp p.block = true) → DataW.TrodAll enc P W' 0 sp true f.params.toList args.toList (s.fn H (ds ++ [])).args pa)
  (hok : ∀ (j : Nat) (t : TypeId) (r : Value), f.resultTypes[j]? = some t → (v.resultList f.resultTypes.size)[j]? = some r → Value.okWide P W' .any 0 t r) :
  s.post enc P f apart fresh handsOn again W args v W' := by
 have hlt : ∀ p ∈ pa ++ [], p.block < W.heap.size := fun p hp => by simpa using hW.lt p hp
 have hvr : ∀ sp : Nat → Bool, DataW.TrodVars enc P W' sp s.vars (s.fn H (ds ++ [])).vars [] := fun sp => by rw [hvar, hvars2]; rfl
 refine ⟨ds, [], pa ++ [], [], pa, [], hW, hres _ _ _, hargs _ (fun p hp => by simpa using hlt p hp), hvr _, World.keptBut_mono (fun _ q => q.elim) (hb.frame fun _ => False), fun _ => ?_⟩
 obtain ⟨_, _, _, _, _, hz, hn⟩ := hW
 refine ⟨hok, _, _, ([] ++ pa) ++ [], ⟨[] ++ pa, [], trodAll_append (hargs _ (fun _ _ => rfl)) (hres _ _ _), hvr _, rfl, ?_, ?_⟩, ?_⟩
 ·intro b off hp
  have hp' : MemPlace.cell b off ∈ pa ++ [] := by simpa using hp
  rw [hb.frozen (p := ⟨b, off, none⟩) (hlt _ hp')]
  exact hz b off hp'
 ·intro ha
  simpa using hn ha
 ·intro p hp _
  simpa using hp
end
theorem z9I {P : Program} {k : Nat} {α ρ : Type} {enc : α → List A} {encR : ρ → A} {F : α → Option ρ} {gives : List Bool} {inj : ∀ x y, enc x = enc y → x = y} (h : (spF k enc encR F gives inj).Ok P) {x : α} {r : ρ} (hr : F x = some r) : Wn P k (enc x) (encR r) := by
 have := h x ⟨r, hr⟩
 simpa only [spF, hr] using this
section
variable {P : Program} {w : World} {r : Reach} {base t : Nat} {v : Value}
theorem z6p {fs : Array Field} (hu : P.underlying t = some (.struct fs)) (h : Value.okWide P w r base t v) : v = .agg v.cells.toList.toArray := by
 unfold Value.okWide at h
 rw [hu] at h
 obtain ⟨cs, rfl, _⟩ := h
 rfl
theorem KR {fs : Array Field} {S : zj} {a : A} (hu : P.underlying t = some (.struct fs)) (hr : Rep S a v.cells.toList) (h : Value.okWide P w r base t v) (ha : a.isAgg = true) : vT S a v := ⟨_, hr, by cases a <;> first | exact z6p hu h | cases ha⟩
theorem zao {S : zj} {h : Array Obj} {v : Value} {F : List Nat} (q : Has S h (.atom (.bool true)) v F) : v = .bool true := by
 rcases q with ⟨q, _⟩ | ⟨cs, q, _, rfl⟩
 ·rw [(zy.1 q).1]
 ·simp only [zH, Rep] at q
  obtain ⟨⟨rfl, _⟩, _⟩ := q
  rfl
end
open Go.Proofs
section
variable {H : Type} {enc : TypeId × Value → H} {w : World} {base : Nat} {spare : Nat → Bool} {held : Bool}
theorem z8C : Tryz.prog.cellsOf 5 = 1 := by kernel_rfl
theorem rd5 {Xq : Nat} {cs : List Value} {x : DataW H × List MemPlace} (h : DataW.trod enc Tryz.prog w base spare held Xq 5 cs = some x) : ∃ a : Int, Ok5 a ∧ Rep (z30 w) ((eI .u8) a) cs := by
 obtain ⟨n, h1, _, h2⟩ := z8b Tryz.underlying5 (lo := 0) (hi := 255) rfl rfl h
 exact ⟨n, h1, h2⟩
theorem z8B : Tryz.prog.cellsOf 60 = 1 := by kernel_rfl
theorem ziD {Xq : Nat} {cs : List Value} {x : DataW H × List MemPlace} (h : DataW.trod enc Tryz.prog w base spare held Xq 60 cs = some x) : ∃ a : List Int, zgN a ∧ Rep (z30 w) ((eSl 1 false (eI .u8)) a) cs := by
 exact KH (eI .u8) Ok5 Tryz.underlying60 z8C (by omega) (fun _ => rfl) (fun _ _ _ q => rd5 q) h
theorem zcU : Tryz.prog.cellsOf 66 = 1 := by kernel_rfl
theorem zjt {Xq : Nat} {cs : List Value} {x : DataW H × List MemPlace} (h : DataW.trod enc Tryz.prog w base spare held Xq 66 cs = some x) : ∃ a : Int, zhW a ∧ Rep (z30 w) ((eI .u16) a) cs := by
 obtain ⟨n, h1, _, h2⟩ := z8b Tryz.underlying66 (lo := 0) (hi := 65535) rfl rfl h
 exact ⟨n, h1, h2⟩
theorem zcY : Tryz.prog.cellsOf 22 = 1 := by kernel_rfl
theorem zjx {Xq : Nat} {cs : List Value} {x : DataW H × List MemPlace} (h : DataW.trod enc Tryz.prog w base spare held Xq 22 cs = some x) : ∃ a : List Int, zj5 a ∧ Rep (z30 w) ((eSl 1 false (eI .u16)) a) cs := by
 exact KH (eI .u16) zhW Tryz.underlying22 zcU (by omega) (fun _ => rfl) (fun _ _ _ q => zjt q) h
theorem zcV : Tryz.prog.cellsOf 62 = 5 := by kernel_rfl
theorem zju {Xq : Nat} {cs : List Value} {x : DataW H × List MemPlace} (h : DataW.trod enc Tryz.prog w base spare held Xq 62 cs = some x) : ∃ a : zD, zj2 a ∧ Rep (z30 w) ((kY (eI .u8) (eI .u8) (eI .u8) (eSl 1 false (eI .u8)) (eSl 1 false (eI .u16))) a) cs := by
 obtain ⟨hl, hf⟩ := Ut Tryz.underlying62 h
 rw [zcV] at hl
 obtain ⟨_, _, q0⟩ := hf 0 _ rfl
 obtain ⟨_, _, q1⟩ := hf 1 _ rfl
 obtain ⟨_, _, q2⟩ := hf 2 _ rfl
 obtain ⟨_, _, q3⟩ := hf 3 _ rfl
 obtain ⟨_, _, q4⟩ := hf 4 _ rfl
 simp only [zcY, z8C, z8B] at q0 q1 q2 q3 q4
 obtain ⟨a0, k0, r0⟩ := rd5 q0
 obtain ⟨a1, k1, r1⟩ := rd5 q1
 obtain ⟨a2, k2, r2⟩ := rd5 q2
 obtain ⟨a3, k3, r3⟩ := ziD q3
 obtain ⟨a4, k4, r4⟩ := zjx q4
 refine ⟨⟨a0, a1, a2, a3, a4⟩, ⟨k0, k1, k2, k3, k4⟩, ?_⟩
 show Rep (z30 w) (.agg [(eI .u8) a0, (eI .u8) a1, (eI .u8) a2, (eSl 1 false (eI .u8)) a3, (eSl 1 false (eI .u16)) a4]) cs
 simp only [Rep]
 refine Yf (n := 1) (by simpa [List.drop_drop] using r0) (Yf (n := 1) (by simpa [List.drop_drop] using r1) (Yf (n := 1) (by simpa [List.drop_drop] using r2) (Yf (n := 1) (by simpa [List.drop_drop] using r3) (Yf (n := 1) (by simpa [List.drop_drop] using r4) ?_))))
 simp only [List.drop_drop, yc]
 exact List.drop_eq_nil_of_le (by omega)
theorem zcX : Tryz.prog.cellsOf 40 = 1 := by kernel_rfl
theorem zjw {Xq : Nat} {cs : List Value} {x : DataW H × List MemPlace} (h : DataW.trod enc Tryz.prog w base spare held Xq 40 cs = some x) : ∃ a : List (List Int), zj4 a ∧ Rep (z30 w) ((eSl 1 false (eSl 1 false (eI .u8))) a) cs := by
 exact KH (eSl 1 false (eI .u8)) zgN Tryz.underlying40 z8B (by omega) (fun _ => rfl) (fun _ _ _ q => ziD q) h
theorem zcW : Tryz.prog.cellsOf 42 = 2 := by kernel_rfl
theorem zjv {Xq : Nat} {cs : List Value} {x : DataW H × List MemPlace} (h : DataW.trod enc Tryz.prog w base spare held Xq 42 cs = some x) : ∃ a : yf, zj3 a ∧ Rep (z30 w) ((kX (eI .u8) (eSl 1 false (eSl 1 false (eI .u8)))) a) cs := by
 obtain ⟨hl, hf⟩ := Ut Tryz.underlying42 h
 rw [zcW] at hl
 obtain ⟨_, _, q0⟩ := hf 0 _ rfl
 obtain ⟨_, _, q1⟩ := hf 1 _ rfl
 simp only [zcX, z8C] at q0 q1
 obtain ⟨a0, k0, r0⟩ := rd5 q0
 obtain ⟨a1, k1, r1⟩ := zjw q1
 refine ⟨⟨a0, a1⟩, ⟨k0, k1⟩, ?_⟩
 show Rep (z30 w) (.agg [(eI .u8) a0, (eSl 1 false (eSl 1 false (eI .u8))) a1]) cs
 simp only [Rep]
 refine Yf (n := 1) (by simpa [List.drop_drop] using r0) (Yf (n := 1) (by simpa [List.drop_drop] using r1) ?_)
 simp only [List.drop_drop, yc]
 exact List.drop_eq_nil_of_le (by omega)
end
end Go.Own
namespace Go.Proofs.YthnpknbgpmlbhaaGreat.coversReduced
open Go Go.ChangeShapes Go.WideShapes Go.ChangeAt Go.RowKit
theorem own : ownKnob Tryz.prog.godebug = none := by kernel_rfl
theorem zcF : laidOutB Tryz.prog = true := by kernel_rfl
section
variable {H : Type} {enc : TypeId × Value → H} {W : World}
set_option maxRecDepth 100000 in
theorem zjf {base : Nat} {v0 : Value} {d0 : DataW H} {p0 : List MemPlace} {v1 : Value} {d1 : DataW H} {p1 : List MemPlace} (h0 : DataW.Trod enc Tryz.prog W 0 (fun _ => true) true 62 v0 d0 p0) (h1 : DataW.Trod enc Tryz.prog W 0 (fun _ => true) true 42 v1 d1 p1) (k0 : Value.okWide Tryz.prog W .any base (62 : Nat) v0) (k1 : Value.okWide Tryz.prog W .any base (42 : Nat) v1) :
  Calls Tryz.prog 6 #[v0, v1] W fun e w' => e = .returned (.bool true) ∧ Go.Own.Xc (fun k => W.heap.size ≤ k) W w' := by
 obtain ⟨n0, h0⟩ := h0
 obtain ⟨x0, o0, r0⟩ := Go.Own.zju h0
 obtain ⟨n1, h1⟩ := h1
 obtain ⟨x1, o1, r1⟩ := Go.Own.zjv h1
 have q := (Go.Own.z9I (Go.Own.z6G Go.Own.zfk List.mem_cons_self : Go.Own.uD.Ok Tryz.prog) (x := (x0, x1)) (r := true) (Go.Own.zaj o0 o1)).2 (Go.Own.z30 W) W [v0, v1] [] (fun _ _ _ h => h) ?_ (by simp)
 ·refine Calls.mono q ?_
  rintro e w' ⟨v, S', F', rfl, hk, _, _, _, hr, _, _⟩
  refine ⟨?_, hk.mono (by rintro k (h | h) <;> simp_all)⟩
  rw [Go.Own.zao hr]
 ·refine Go.Own.Ys ?_
  have g0 : Go.Own.vT (Go.Own.z30 W) ((Go.Own.kY (Go.Own.eI .u8) (Go.Own.eI .u8) (Go.Own.eI .u8) (Go.Own.eSl 1 false (Go.Own.eI .u8)) (Go.Own.eSl 1 false (Go.Own.eI .u16))) x0) v0 := Go.Own.KR (t := (62 : Nat)) Tryz.underlying62 r0 k0 rfl
  have g1 : Go.Own.vT (Go.Own.z30 W) ((Go.Own.kX (Go.Own.eI .u8) (Go.Own.eSl 1 false (Go.Own.eSl 1 false (Go.Own.eI .u8)))) x1) v1 := Go.Own.KR (t := (42 : Nat)) Tryz.underlying42 r1 k1 rfl
  exact ⟨g0, g1, trivial⟩
end
set_option maxRecDepth 100000 in
theorem zeu (os : Os) (started : os.Started) (H : Type) (enc : TypeId × Value → H) :
  ReturnsInHanded {} Tryz.checked os 6 .any (Rows.coversReducedSpec.pre6 enc Tryz.prog Tryz.f6 Rows.coversReducedRow.domain false) (Rows.coversReducedSpec.post enc Tryz.prog Tryz.f6 false true false false) := by
 refine returnsInHanded_of_change (C := Tryz.checked) own started (by kernel_rfl) Tryz.func6
  (ChangeSpec.witness6 (enc := enc) (C := Tryz.checked) false ⟨#[], #[.agg #[.int .u8 0, .int .u8 0, .int .u8 0, .slice none 0 0, .slice none 0 0], .agg #[.int .u8 0, .slice none 0 0]], []⟩ 8 (by kernel_rfl) (by kernel_rfl) (by kernel_rfl) (by kernel_rfl)) ?_
 intro W base args ds gs before hval0 hW hcnd _
 have hval : ∀ (j : Nat) t v, Tryz.f6.params[j]? = some t → args[j]? = some v → Value.okWide Tryz.prog W .any base t v := hval0
 have hW' := hW
 obtain ⟨p, q, hA0, hV, rfl, hfz, hnd⟩ := hW
 have hA : DataW.TrodAll enc Tryz.prog W 0 (fun _ => true) true Tryz.f6.params.toList args.toList ds p := hA0
 rw [Tryz.params6] at hA hval
 obtain ⟨v0, v1, d0, d1, p0, p1, rfl, rfl, rfl, h0, h1⟩ := trodAll_two hA
 obtain ⟨rfl, rfl⟩ := trodVars_none hV
 clear hA0 hval0
 refine (zjf h0 h1 (hval 0 (62 : Nat) v0 rfl rfl) (hval 1 (42 : Nat) v1 rfl rfl)).mono fun e W' ⟨he, hk⟩ => ?_
 subst he
 have hb : Below W.heap.size W W' := ⟨hk.os, hk.tape, hk.output, hk.size, fun k q => hk.block k (by omega)⟩
 have hlt : ∀ x ∈ p0 ++ p1, x.block < W.heap.size := fun x hx => by simpa using hW'.lt x (by simpa using hx)
 refine ⟨_, rfl, Go.Own.z7G rfl rfl hW' hb (fun _ _ _ => trodAll_cons_mk (shut_bool Tryz.underlying4 _) trodAll_mk0) (fun sp hsp => ?_) (ok_one (by kernel_rfl) rfl (okWide_bool_mk Tryz.underlying4 _))⟩
 have st : ∀ {t : Nat} {v : Value} {d : DataW H} {p' : List MemPlace}, DataW.Trod enc Tryz.prog W 0 (fun _ => true) true t v d p' → Tryz.prog.readableRec t = true → t < Tryz.prog.types.size → (∀ x ∈ p', x ∈ p0 ++ p1) → DataW.Trod enc Tryz.prog W' 0 sp true t v d p' := by
  intro t v d p' hd h1 h2 hp
  exact WideElems.Trod_stays zcF h1 h2 hd (fun x hx => hb.same (hlt x (hp x hx))) (fun x hx => hsp x (by simpa using hp x hx))
 have := trodAll_mk2 (st h0 (by kernel_rfl) (of_decide_eq_true (by kernel_rfl)) (fun x hx => by simp [hx])) (st h1 (by kernel_rfl) (of_decide_eq_true (by kernel_rfl)) (fun x hx => by simp [hx]))
 rw [Tryz.params6]
 exact this
theorem XV : Rows.coversReducedRow.holds Tryz.pinned (OpenSpec.ofChange Rows.coversReducedSpec) :=
 OpenClaim.holds_of_wide 6 Tryz.f6 rfl rfl rfl rfl rfl rfl rfl ⟨rfl, rfl, rfl, rfl, rfl⟩ rfl rfl rfl rfl rfl (by kernel_rfl) Tryz.func6 (by kernel_rfl)
  (of_decide_eq_true (by kernel_rfl)) (by unfold Func.isWrapper; first | (rw [if_pos (by decide +kernel)]; kernel_rfl) | (rw [if_neg (by decide +kernel)]; exact ⟨rfl, rfl⟩))
  (fun os started H enc _ => zeu os started H enc)
theorem proved : Rows.CoversReducedSaid :=
 XV
#print axioms proved
end Go.Proofs.YthnpknbgpmlbhaaGreat.coversReduced
