/- -/
import Derived.Test.YtcldlioffanjaaaGreatDoorPartG
import Derived.Test.YtcldlioffanjaaaGreatDoorPartE
import Derived.Test.YtcldlioffanjaaaGreatDoorPartB
import Derived.OpenShut
import Derived.ChangeShapes
import Derived.Test.YtcldlioffanjaaaGreatDoorPartC
import Derived.WalkKit
import Derived.ProofKit
import Derived.Carry
import Derived.Test.YtcldlioffanjaaaGreatDoorRows
import Derived.Test.YtcldlioffanjaaaGreatDoorChecked
import Derived.LaidMore
import Derived.Stop.Joined
import Derived.SevenTiedAt
import Derived.Test.YtcldlioffanjaaaGreatDoorCards
import Derived.Test.YtcldlioffanjaaaGreatDoorTie
import Derived.Stop.LaidErr
import Derived.MakeChecks
set_option linter.unusedVariables false
set_option linter.unusedSimpArgs false
namespace Go.Own
def z1r : List z7 → List (z8 × z7) → List z7
 | L, [] => L
 | L, e :: es => z1r (if fnd L e.2 = L.length then L ++ [e.2] else L) es
def JA : List z7 → List (z8 × z7) → List z6
 | L, [] => []
 | L, e :: es => ⟨e.1, (fnd L e.2 : Nat)⟩ :: JA (if fnd L e.2 = L.length then L ++ [e.2] else L) es
theorem z0d : ∀ (es : List (z8 × z7)) (L : List z7) (l : List z6), es.foldl u9 (L, l) = (z1r L es, l ++ JA L es)
 | [], L, l => by simp [z1r, JA]
 | e :: es, L, l => by
  rw [List.foldl_cons, u9, z0d es, z1r, JA, List.append_assoc]
  rfl
section
variable {x : za}
theorem z1o {n : Nat} {c : z7} (hc : (xQ x n).1[n]? = some c) : xQ x (n + 1) = (z1r (xQ x n).1 (mvs x c), (xQ x n).2 ++ [JA (xQ x n).1 (mvs x c)]) := by
 rw [xQ, z2h, hc]
 dsimp only
 rw [z0d, List.nil_append]
theorem Ks (n : Nat) : (xQ x n).1.length ≤ (xQ x (n + 1)).1.length := by
 rw [xQ, z2h]
 split
 ·exact Nat.le_refl _
 ·rename_i c hc
  exact (Vi (mvs x c) ((xQ x n).1, [])).2.2
theorem z4F {n m : Nat} (h : n ≤ m) : (xQ x n).1.length ≤ (xQ x m).1.length := by
 induction m with
 | zero => rw [Nat.le_zero.1 h]; exact Nat.le_refl _
 | succ m ih =>
  rcases Nat.lt_or_ge n (m + 1) with q | q
  ·exact Nat.le_trans (ih (by omega)) (Ks m)
  ·rw [show n = m + 1 by omega]; exact Nat.le_refl _
theorem Jy : ∀ n, (∀ m, m < n → m < (xQ x m).1.length) → (xQ x n).2.length = n
 | 0, _ => rfl
 | n + 1, h => by
  have hn := h n (by omega)
  rw [z1o (List.getElem?_eq_getElem hn), List.length_append, Jy n (fun m hm => h m (by omega))]
  rfl
theorem zgb {n most : Nat} (hv : z3A x) (hmost : most ≤ 1024) (h1 : (xQ x n).1.length ≤ n ∨ most < (xQ x n).1.length) (h2 : ∀ m, m < n → m < (xQ x m).1.length ∧ (xQ x m).1.length ≤ most) (hl : (xQ x n).1.length ≤ most) :
  yj x = some ((xQ x n).1.map y4, (xQ x n).2, 0) ∧ (xQ x n).1.length = n ∧ (xQ x n).2.length = n := by
 have hle : (xQ x n).1.length ≤ n := by omega
 have hge : n ≤ (xQ x n).1.length := by
  cases n with
  | zero => omega
  | succ n =>
   have a := (h2 n (by omega)).1
   have b := Ks (x := x) n
   omega
 refine ⟨?_, by omega, Jy n fun m hm => (h2 m hm).1⟩
 rcases z4G hv with ⟨k, e, k1, k2, k3⟩ | ⟨k, e, k1, k2⟩
 ·have : k = n := by
   rcases Nat.lt_trichotomy k n with q | q | q
   ·have := (h2 k q).1; omega
   ·exact q
   ·have := k3 n q; omega
  rw [e, this]
 ·have hkn : k ≤ n := by
   rcases Nat.lt_or_ge n k with q | q
   ·have := k2 n q; omega
   ·exact q
  have := z4F (x := x) hkn
  omega
theorem z4j {c : z7} (h : MOk x c) : xe x (y4 c) = some c := JJ h.cfg.sl h.cfg.ql h.sys.pl.2 h.sys.chl h.qb
end
theorem z1q : ∀ (es : List (z8 × z7)) (L : List z7), (JA L es).length = es.length
 | [], _ => rfl
 | e :: es, L => by rw [JA, List.length_cons, List.length_cons, z1q es]
theorem VW {x : za} (hv : z3A x) : ∀ n, ∀ u ∈ (xQ x n).2, u.length ≤ 1048576
 | 0, u, h => by simp [xQ] at h
 | n + 1, u, h => by
  rw [xQ, z2h] at h
  split at h
  ·exact VW hv n u h
  ·rename_i c hc
   rcases List.mem_append.1 h with h | h
   ·exact VW hv n u h
   ·rw [List.mem_singleton.1 h, z0d, List.nil_append]
    dsimp only
    rw [z1q]
    exact z06 hv
def zo : zl := ⟨0, ⟨0, 0, 0, 0⟩⟩
def pst (k : Nat) (q : List zl × List (List z8)) (s : z6) : List zl × List (List z8) :=
 if s.To = (q.1.length : Int) then (q.1 ++ [⟨k, s.Move⟩], q.2 ++ [(q.2[k]?).getD [] ++ [s.Move]]) else q
def Yr (st : List (List z6)) : Nat → List zl × List (List z8)
 | 0 => ([zo], [[]])
 | k + 1 => match st[k]? with
  | none => Yr st k
  | some u => u.foldl (pst k) (Yr st k)
structure OR (q : List zl × List (List z8)) : Prop where
 len : q.2.length = q.1.length
 pos : 1 ≤ q.1.length
 z : q.2[0]? = some []
 st : ∀ (j : Nat) (o : zl), 0 < j → q.1[j]? = some o → ∃ (f : Nat) (r : List z8), o.from_ = f ∧ f < j ∧ q.2[f]? = some r ∧ q.2[j]? = some (r ++ [o.move_])
 bd : ∀ (j : Nat) (r : List z8), q.2[j]? = some r → r.length ≤ j
theorem z4a (k : Nat) (q : List zl × List (List z8)) (s : z6) : q.1.length ≤ (pst k q s).1.length := by
 unfold pst
 split
 ·rw [List.length_append]; omega
 ·exact Nat.le_refl _
theorem Vd (k : Nat) : ∀ (u : List z6) (q : List zl × List (List z8)), q.1.length ≤ (u.foldl (pst k) q).1.length
 | [], q => Nat.le_refl _
 | s :: u, q => Nat.le_trans (z4a k q s) (Vd k u _)
theorem z7G {α : Type} {l : List α} {a b : α} {j : Nat} (h : (l ++ [a])[j]? = some b) : (j < l.length ∧ l[j]? = some b) ∨ (j = l.length ∧ b = a) := by
 rcases Nat.lt_or_ge j l.length with q | q
 ·rw [List.getElem?_append_left q] at h
  exact .inl ⟨q, h⟩
 ·rw [List.getElem?_append_right q] at h
  have := x6 h
  have hj : j - l.length = 0 := by simp at this; omega
  rw [hj] at h
  cases h
  exact .inr ⟨by omega, rfl⟩
theorem z1D {α : Type} {l : List α} {a b : α} {j : Nat} (h : l[j]? = some b) : (l ++ [a])[j]? = some b := by
 rw [List.getElem?_append_left (x6 h)]; exact h
theorem z5e {α : Type} {l : List α} {a : α} : (l ++ [a])[l.length]? = some a := by
 rw [List.getElem?_append_right (Nat.le_refl _), Nat.sub_self]; rfl
theorem zar {k : Nat} {q : List zl × List (List z8)} (h : OR q) (hk : k < q.1.length) (s : z6) : OR (pst k q s) := by
 unfold pst
 split
 ·have hkl : k < q.2.length := by rw [h.len]; exact hk
  have hr : q.2[k]? = some q.2[k] := List.getElem?_eq_getElem hkl
  rw [hr]
  generalize q.2[k] = r at hr
  refine ⟨by simp [h.len], by simp, z1D h.z, fun j o hj ho => ?_, fun j r' hr' => ?_⟩
  ·rcases z7G ho with ⟨h1, h2⟩ | ⟨h1, h2⟩
   ·obtain ⟨f, r', h3, h4, h5, h6⟩ := h.st j o hj h2
    exact ⟨f, r', h3, h4, z1D h5, z1D h6⟩
   ·subst h2
    refine ⟨k, r, rfl, by omega, z1D hr, ?_⟩
    rw [h1, ← h.len]
    exact z5e
  ·rcases z7G hr' with ⟨h1, h2⟩ | ⟨h1, h2⟩
   ·exact h.bd j r' h2
   ·subst h2
    have := h.bd k r hr
    rw [Option.getD_some, List.length_append, List.length_singleton]
    omega
 ·exact h
theorem z29 {k : Nat} : ∀ (u : List z6) (q : List zl × List (List z8)), OR q → k < q.1.length → OR (u.foldl (pst k) q)
 | [], q, h, _ => h
 | s :: u, q, h, hk => z29 u _ (zar h hk s) (Nat.lt_of_lt_of_le hk (z4a k q s))
theorem z05 (k : Nat) : ∀ (es : List (z8 × z7)) (L : List z7) (q : List zl × List (List z8)), q.1.length = L.length → ((JA L es).foldl (pst k) q).1.length = (z1r L es).length
 | [], L, q, h => h
 | e :: es, L, q, h => by
  rw [JA, z1r, List.foldl_cons]
  have hf := z4N L e.2
  by_cases c : fnd L e.2 = L.length
  ·rw [if_pos c]
   refine z05 k es _ _ ?_
   unfold pst
   rw [if_pos (by dsimp only; omega), List.length_append, List.length_append, h]
   rfl
  ·rw [if_neg c]
   refine z05 k es _ _ ?_
   unfold pst
   rw [if_neg (by dsimp only; omega)]
   exact h
section
variable {x : za}
theorem z3w {n : Nat} (h : ∀ m, m < n → m < (xQ x m).1.length) : ∀ k, k < n → ∃ c, (xQ x k).1[k]? = some c ∧ (xQ x n).2[k]? = some (JA (xQ x k).1 (mvs x c)) ∧ (xQ x (k + 1)).1 = z1r (xQ x k).1 (mvs x c) := by
 induction n with
 | zero => intro k hk; omega
 | succ n ih =>
  intro k hk
  have hn := h n (by omega)
  have hc : (xQ x n).1[n]? = some (xQ x n).1[n] := List.getElem?_eq_getElem hn
  have hr := Jy n (fun m hm => h m (by omega))
  have hs := z1o hc
  rcases Nat.lt_or_ge k n with q | q
  ·obtain ⟨c, h1, h2, h3⟩ := ih (fun m hm => h m (by omega)) k q
   exact ⟨c, h1, by rw [hs]; exact z1D h2, h3⟩
  ·have : k = n := by omega
   subst this
   refine ⟨_, hc, ?_, by rw [hs]⟩
   rw [hs]
   have := z5e (l := (xQ x k).2) (a := JA (xQ x k).1 (mvs x (xQ x k).1[k]))
   rw [hr] at this
   exact this
theorem z4K {n : Nat} (h : ∀ m, m < n → m < (xQ x m).1.length) : ∀ k, k ≤ n → OR (Yr (xQ x n).2 k) ∧ (Yr (xQ x n).2 k).1.length = (xQ x k).1.length
 | 0, _ => ⟨⟨rfl, Nat.le_refl _, rfl, fun j o hj ho => by
   cases j with
   | zero => omega
   | succ j => simp [Yr] at ho, fun j r hr => by
   cases j with
   | zero => cases hr; exact Nat.le_refl _
   | succ j => simp [Yr] at hr⟩, rfl⟩
 | k + 1, hk => by
  obtain ⟨h1, h2⟩ := z4K h k (by omega)
  obtain ⟨c, h3, h4, h5⟩ := z3w h k (by omega)
  rw [Yr, h4]
  dsimp only
  refine ⟨z29 _ _ h1 (by rw [h2]; exact h k (by omega)), ?_⟩
  rw [z05 k _ _ _ h2, h5]
end
def z3p (N : Nat) (os : List zl) : List zl := os ++ List.replicate (N - os.length) zo
theorem z8N {N : Nat} {os : List zl} (h : os.length < N) : (z3p N os)[os.length]? = some zo := by
 rw [z3p, List.getElem?_append_right (Nat.le_refl _), Nat.sub_self, List.getElem?_replicate, if_pos (by omega)]
theorem z6p {N : Nat} {os : List zl} {o : zl} (h : os.length < N) : (z3p N os).set os.length o = z3p N (os ++ [o]) := by
 rw [z3p, z3p, List.set_append_right _ _ (Nat.le_refl _), Nat.sub_self, show N - os.length = (N - (os ++ [o]).length) + 1 by simp; omega, List.replicate_succ, List.set_cons_zero, List.append_assoc]
 rfl
theorem QO {α β : Type} (f : β → α → β) {l : List α} {j : Nat} {a : α} (h : l[j]? = some a) (b : β) : (l.take (j + 1)).foldl f b = f ((l.take j).foldl f b) a := by
 rw [List.take_add_one, h, List.foldl_append]
 rfl
theorem Km (k : Nat) (u : List z6) (j : Nat) (q : List zl × List (List z8)) : ((u.take j).foldl (pst k) q).1.length ≤ (u.foldl (pst k) q).1.length := by
 conv => rhs; rw [← List.take_append_drop j u, List.foldl_append]
 exact Vd k _ _
theorem zd3 (k : Nat) (u : List z6) (q : List zl × List (List z8)) {N : Nat} (hu : u.length ≤ 1048576) (hN : (u.foldl (pst k) q).1.length ≤ N) (hN2 : N ≤ 1048576) :
  loop (fun s => wd (k : Int) u s.1 s.2.1 s.2.2) (z3p N q.1, (q.1.length : Int), 0) = some (z3p N (u.foldl (pst k) q).1, ((u.foldl (pst k) q).1.length : Int)) := by
 refine kX (fun j => (z3p N ((u.take j).foldl (pst k) q).1, (((u.take j).foldl (pst k) q).1.length : Int), (j : Int))) u.length (by omega) (fun j hj => ?_) ?_
 ·have he : u[j]? = some u[j] := List.getElem?_eq_getElem hj
  have hb := Km k u (j + 1) q
  rw [QO (pst k) he] at hb
  dsimp only
  rw [QO (pst k) he]
  generalize (u.take j).foldl (pst k) q = p at *
  generalize u[j] = s at *
  unfold wd wM
  rw [decide_eq_true (by omega), cond_true, yk he, oB, wR (x := (j : Int) + 1) (by omega) (by omega)]
  by_cases c : s.To = (p.1.length : Int)
  ·have hlt : p.1.length < N := by
    have : (pst k p s).1.length = p.1.length + 1 := by
     unfold pst; rw [if_pos c, List.length_append]; rfl
    omega
   have e : pst k p s = (p.1 ++ [⟨k, s.Move⟩], p.2 ++ [(p.2[k]?).getD [] ++ [s.Move]]) := by unfold pst; rw [if_pos c]
   rw [e, c, beq_self_eq_true, cond_true, yk (z8N hlt), oB, Int.toNat_natCast, z6p hlt, wR (by omega) (by omega)]
   dsimp only
   rw [List.length_append]
   rfl
  ·have e : pst k p s = p := by unfold pst; rw [if_neg c]
   rw [e, beq_false_of_ne c, cond_false]
   rfl
 ·dsimp only
  unfold wd
  rw [decide_eq_false (by omega), cond_false, List.take_length]
theorem JB (st : List (List z6)) {k m : Nat} (h : k ≤ m) : (Yr st k).1.length ≤ (Yr st m).1.length := by
 induction m with
 | zero => rw [Nat.le_zero.1 h]; exact Nat.le_refl _
 | succ m ih =>
  rcases Nat.lt_or_ge k (m + 1) with q | q
  ·refine Nat.le_trans (ih (by omega)) ?_
   rw [Yr]
   split
   ·exact Nat.le_refl _
   ·exact Vd m _ _
  ·rw [show k = m + 1 by omega]; exact Nat.le_refl _
theorem zd4 (sp : List zb) (st : List (List z6)) (hs : st.length ≤ 1024) (hu : ∀ u ∈ st, u.length ≤ 1048576) {N : Nat} (hN : (Yr st st.length).1.length = N) (hN2 : N ≤ 1048576) :
  loop (fun s => we (sp, st, 0) s.1 s.2.1 s.2.2) (List.replicate N zo, 1, 0) = some (Yr st st.length).1 := by
 have e0 : List.replicate N zo = z3p N (Yr st 0).1 := by
  have : 1 ≤ N := by
   have := JB st (Nat.zero_le st.length)
   rw [hN] at this
   exact this
  show List.replicate N zo = [zo] ++ List.replicate (N - 1) zo
  rw [show N = (N - 1) + 1 by omega, List.replicate_succ]
  rfl
 have e1 : z3p N (Yr st st.length).1 = (Yr st st.length).1 := by
  rw [z3p, hN, Nat.sub_self]; simp
 rw [e0]
 refine kX (fun j => (z3p N (Yr st j).1, ((Yr st j).1.length : Int), (j : Int))) st.length (by omega) (fun j hj => ?_) ?_
 ·have he : st[j]? = some st[j] := List.getElem?_eq_getElem hj
  have hf : Yr st (j + 1) = st[j].foldl (pst j) (Yr st j) := by rw [Yr, he]
  have hm := JB st (show j + 1 ≤ st.length from hj)
  unfold we ue
  dsimp only
  rw [hf] at hm ⊢
  rw [decide_eq_true (by omega), cond_true, yk he, oB, zd3 j _ _ (hu _ (List.mem_of_getElem? he)) (by omega) hN2, oB, wR (by omega) (by omega)]
  rfl
 ·unfold we
  dsimp only
  rw [decide_eq_false (by omega), cond_false, e1]
theorem z6d (st : List (List z6)) {k : Nat} {u : List z6} (hk : st[k]? = some u) (q : List zl × List (List z8)) (hq : OR q) (hkq : k < q.1.length) (hu : u.length ≤ 1048576) (hN : (u.foldl (pst k) q).1.length ≤ 1048576) :
  loop (fun s => qB st (k : Int) s.1 s.2) (q.2, 0) = some (u.foldl (pst k) q).2 := by
 refine kX (fun j => (((u.take j).foldl (pst k) q).2, (j : Int))) u.length (by omega) (fun j hj => ?_) ?_
 ·have he : u[j]? = some u[j] := List.getElem?_eq_getElem hj
  have hb := Km k u j q
  have ho := z29 (k := k) (u.take j) q hq hkq
  have hkp := Nat.lt_of_lt_of_le hkq (Vd k (u.take j) q)
  dsimp only
  rw [QO (pst k) he]
  generalize (u.take j).foldl (pst k) q = p at *
  generalize u[j] = s at *
  have hkl : k < p.2.length := by rw [ho.len]; exact hkp
  have hr : p.2[k]? = some p.2[k] := List.getElem?_eq_getElem hkl
  generalize p.2[k] = r at hr
  have hrl := ho.bd k r hr
  have hl := ho.len
  unfold qB jL
  rw [yk hk, oB, decide_eq_true (by omega), cond_true, oB, yk he, oB, wR (by omega) (by omega), hl]
  by_cases c : s.To = (p.1.length : Int)
  ·have e : pst k p s = (p.1 ++ [⟨k, s.Move⟩], p.2 ++ [r ++ [s.Move]]) := by unfold pst; rw [if_pos c, hr]; rfl
   rw [e, c, beq_self_eq_true, cond_true, yk hr, oB, gdT (by rw [List.length_nil]; omega), oB, yk he, oB, gdT (by rw [List.length_singleton]; omega), gdT (by rw [List.length_singleton]; omega)]
   rfl
  ·have e : pst k p s = p := by unfold pst; rw [if_neg c]
   rw [e, beq_false_of_ne c, cond_false]
   rfl
 ·unfold qB
  dsimp only
  rw [yk hk, oB, decide_eq_false (by omega), cond_false, List.take_length]
theorem z8F (st : List (List z6)) (hs : st.length ≤ 1024) (hu : ∀ u ∈ st, u.length ≤ 1048576) (hN2 : (Yr st st.length).1.length ≤ 1048576) (ho : ∀ k, k ≤ st.length → OR (Yr st k)) (hk : ∀ k, k < st.length → k < (Yr st k).1.length) :
  Yv st = some (Yr st st.length).2 := by
 unfold Yv
 have : loop (fun s => qC st s.1 s.2) (([[]] : List (List z8)), 0) = some (Yr st st.length).2 := by
  refine kX (fun j => ((Yr st j).2, (j : Int))) st.length (by omega) (fun j hj => ?_) ?_
  ·have he : st[j]? = some st[j] := List.getElem?_eq_getElem hj
   have hf : Yr st (j + 1) = st[j].foldl (pst j) (Yr st j) := by rw [Yr, he]
   have hm := JB st (show j + 1 ≤ st.length from hj)
   have hoj := ho j (by omega)
   have hkj := hk j hj
   have hl := hoj.len
   unfold qC kW
   dsimp only
   rw [hf] at hm ⊢
   rw [decide_eq_true (by omega), cond_true, decide_eq_true (by omega), cond_true, z6d st he _ hoj hkj (hu _ (List.mem_of_getElem? he)) (by omega), oB, wR (by omega) (by omega)]
   rfl
  ·unfold qC
   dsimp only
   rw [decide_eq_false (by omega), cond_false]
 rw [bdT this]
 rfl
theorem zd5 {q : List zl × List (List z8)} (h : OR q) (hl : q.1.length ≤ 1048576) {j : Nat} {r : List z8} (hr : q.2[j]? = some r) :
  loop (fun s => wg q.1 s.1 s.2) (([] : List z8), (j : Int)) = some r.reverse := by
 have hj := x6 hr
 have hlen := h.len
 have hrl := h.bd j r hr
 have : Ret (loop (fun s => wg q.1 s.1 s.2) (([] : List z8), (j : Int))) (fun t => t = r.reverse) := by
  refine YT (fun s => ∃ (i : Nat) (r' : List z8), s.2 = (i : Int) ∧ i ≤ j ∧ q.2[i]? = some r' ∧ s.1 ++ r'.reverse = r.reverse) (fun s => s.2.toNat) ⟨j, r, rfl, Nat.le_refl _, hr, rfl⟩ (by show (j : Int).toNat < _; omega) ?_
  rintro ⟨run, n⟩ ⟨i, r', hn, hij, hi, heq⟩
  dsimp only at hn heq ⊢
  subst hn
  have hlr : run.length ≤ r.length := by
   have := congrArg List.length heq
   rw [List.length_append, List.length_reverse, List.length_reverse] at this
   omega
  unfold wg
  by_cases q0 : i = 0
  ·subst q0
   rw [h.z] at hi
   cases hi
   rw [decide_eq_false (by omega), cond_false]
   exact wQ.2 (show run = r.reverse by simpa using heq)
  ·have hil : i < q.1.length := by omega
   have hoi : q.1[i]? = some q.1[i] := List.getElem?_eq_getElem hil
   generalize q.1[i] = o at hoi
   obtain ⟨f, r2, h3, h4, h5, h6⟩ := h.st i o (by omega) hoi
   rw [hi] at h6
   cases h6
   rw [decide_eq_true (by omega), cond_true, yk hoi, oB, gdT (by rw [List.length_singleton]; omega), oB]
   refine wQ.2 ⟨⟨f, r2, h3, by omega, h5, ?_⟩, ?_⟩
   ·rw [← heq]; simp
   ·show o.from_.toNat < (i : Int).toNat
    rw [h3]; omega
 exact this.eq
theorem zaj (l : List z8) (hl : l.length ≤ 1048576) : y5 l = some l.reverse := by
 unfold y5
 have : Ret (loop (fun s => zS s.1 s.2.1 s.2.2) (l, 0, w64 (((l.length : Nat) : Int) - 1))) (fun t => t = l.reverse) := by
  rw [wR (by omega) (by omega)]
  refine YT (fun s => ∃ k : Nat, s.2.1 = (k : Int) ∧ s.2.2 = (l.length : Int) - 1 - k ∧ 2 * k ≤ l.length ∧ s.1.length = l.length ∧ ∀ t, t < l.length → s.1[t]? = if t < k ∨ l.length ≤ t + k then l[l.length - 1 - t]? else l[t]?) (fun s => 1048577 - s.2.1.toNat) ⟨0, rfl, by dsimp only; omega, by omega, rfl, fun t ht => by rw [if_neg (by omega)]⟩ (by show 1048577 - 0 < _; omega) ?_
  rintro ⟨s, i, j⟩ ⟨k, hi, hj, hk, hsl, hs⟩
  dsimp only at hi hj hsl hs ⊢
  subst hi hj
  unfold zS
  by_cases q : (k : Int) < (l.length : Int) - 1 - k
  ·have hkl : k < l.length := by omega
   obtain ⟨j, hj⟩ : ∃ j : Nat, (l.length : Int) - 1 - k = j := ⟨l.length - 1 - k, by omega⟩
   have hjl : j < l.length := by omega
   have h1 : s[j]? = some (s[j]'(by omega)) := List.getElem?_eq_getElem _
   have h2 : s[k]? = some (s[k]'(by omega)) := List.getElem?_eq_getElem _
   generalize s[j]'(by omega) = a at h1
   generalize s[k]'(by omega) = b at h2
   have h3 : (s.set k a)[j]? = some a := by rw [List.getElem?_set_ne (by omega)]; exact h1
   rw [hj, decide_eq_true (by omega), cond_true, yk h1, oB, yk h2, oB, oB, Int.toNat_natCast, yk h3, oB, Int.toNat_natCast, wR (by omega) (by omega), wR (by omega) (by omega)]
   refine wQ.2 ⟨⟨k + 1, rfl, by dsimp only; omega, by omega, by dsimp only; rw [List.length_set, List.length_set]; exact hsl, fun t ht => ?_⟩, ?_⟩
   ·dsimp only
    have hst := hs t ht
    have hsj := hs j hjl
    have hsk := hs k hkl
    rw [h1, if_neg (by omega)] at hsj
    rw [h2, if_neg (by omega)] at hsk
    rw [List.getElem?_set, List.getElem?_set]
    by_cases t1 : j = t
    ·subst t1
     rw [if_pos rfl, List.length_set, if_pos (by omega), if_pos (by omega), hsk, show l.length - 1 - j = k by omega]
    ·rw [if_neg t1]
     by_cases t2 : k = t
     ·subst t2
      rw [if_pos rfl, if_pos (by omega), if_pos (by omega), hsj, show l.length - 1 - k = j by omega]
     ·rw [if_neg t2, hst]
      by_cases t3 : t < k ∨ l.length ≤ t + k
      ·rw [if_pos t3, if_pos (by omega)]
      ·rw [if_neg t3, if_neg (by omega)]
   ·show 1048577 - ((k : Int) + 1).toNat < 1048577 - (k : Int).toNat
    omega
  ·rw [decide_eq_false q, cond_false]
   refine wQ.2 (List.ext_getElem? fun t => ?_)
   rcases Nat.lt_or_ge t l.length with ht | ht
   ·rw [hs t ht, List.getElem?_reverse ht]
    split
    ·rfl
    ·rw [show l.length - 1 - t = t by omega]
   ·rw [List.getElem?_eq_none (by omega), List.getElem?_eq_none (by rw [List.length_reverse]; exact ht)]
 rw [this.eq]
 rfl
def kQ (bad : Nat → Bool) : Nat → Nat → Option Nat
 | 0, _ => none
 | n + 1, i => bif bad i then some i else kQ bad n (i + 1)
theorem WK {ρ : Type} (n : Nat) (hn : n < 4611686018427387904) (bad : Nat → Bool) (r : Nat → ρ) {step : Int → Option (LR Int (Unit ⊕ ρ))} (h : ∀ i : Nat, i < n → step (i : Int) = some (bif bad i then .done (.inr (r i)) else .next (w64 ((i : Int) + 1)))) (h2 : step (n : Int) = some (.done (.inl ()))) :
  loop step 0 = some (oS ((kQ bad n 0).map r)) := by
 have gen : ∀ (f k : Nat), k ≤ n → n - k < f → Xt step f (k : Int) = some (oS ((kQ bad (n - k) k).map r)) := by
  intro f
  induction f with
  | zero => intro k _ h; omega
  | succ f ih =>
   intro k hk hf
   rw [jg]
   rcases Nat.lt_or_ge k n with q | q
   ·rw [h k q, show n - k = (n - (k + 1)) + 1 by omega, kQ]
    cases bad k with
    | true => rfl
    | false =>
     dsimp only [cond_false]
     rw [wR (by omega) (by omega)]
     exact ih (k + 1) q (by omega)
   ·have : k = n := by omega
    subst this
    rw [h2, Nat.sub_self]
    rfl
 exact gen fuel 0 (Nat.zero_le _) (by show n - 0 < 18446744073709551616; omega)
theorem UU {bad : Nat → Bool} {j : Nat} (hb : bad j = true) : ∀ {n i : Nat}, i ≤ j → j < i + n → (∀ m, i ≤ m → m < j → bad m = false) → kQ bad n i = some j
 | 0, i, h1, h2, _ => by omega
 | n + 1, i, h1, h2, h => by
  rw [kQ]
  by_cases q : i = j
  ·rw [q, hb, cond_true]
  ·rw [h i (Nat.le_refl _) (by omega), cond_false]
   exact UU hb (by omega) (by omega) fun m hm => h m (by omega)
theorem z2e {ρ : Type} (n : Nat) (hn : n < 4611686018427387904) (bad : Nat → Bool) (r : Nat → ρ) {step : Int → Option (LR Int (Unit ⊕ ρ))} (h : ∀ i : Nat, i < n → (∀ j, j < i → bad j = false) → step (i : Int) = some (bif bad i then .done (.inr (r i)) else .next (w64 ((i : Int) + 1)))) (h2 : step (n : Int) = some (.done (.inl ()))) :
  loop step 0 = some (oS ((kQ bad n 0).map r)) := by
 have gen : ∀ (f k : Nat), k ≤ n → n - k < f → (∀ j, j < k → bad j = false) → Xt step f (k : Int) = some (oS ((kQ bad (n - k) k).map r)) := by
  intro f
  induction f with
  | zero => intro k _ h; omega
  | succ f ih =>
   intro k hk hf hb
   rw [jg]
   rcases Nat.lt_or_ge k n with q | q
   ·rw [h k q hb, show n - k = (n - (k + 1)) + 1 by omega, kQ]
    cases hbk : bad k with
    | true => rfl
    | false =>
     dsimp only [cond_false]
     rw [wR (by omega) (by omega)]
     refine ih (k + 1) q (by omega) fun j hj => ?_
     rcases Nat.lt_or_ge j k with c | c
     ·exact hb j c
     ·rw [show j = k by omega]; exact hbk
   ·have : k = n := by omega
    subst this
    rw [h2, Nat.sub_self]
    rfl
 exact gen fuel 0 (Nat.zero_le _) (by show n - 0 < 18446744073709551616; omega) fun j hj => by omega
theorem z6S (l : List Int) (v : Int) (hl : l.length < 4611686018427387904) : xZ l v = some (l.any fun y => v == y) := by
 unfold xZ vL
 refine z4V hl (fun y => v == y) rfl (fun _ => rfl) (fun i x hx => ?_) ?_
 ·have hi := x6 hx
  unfold xY
  rw [decide_eq_true (by omega), cond_true, yk hx, oB]
  cases (v == x) <;> rfl
 ·unfold xY
  rw [decide_eq_false (by omega), cond_false]
theorem zaN (l : List Int) (v : Int) (hl : l.length < 4611686018427387904) : XP l v = some (bif l.any (fun y => v == y) then 1 else 0) := by
 unfold XP
 rw [bdT (Yy l hl (fun _ x => bif v == x then some (1 : Int) else none) ?_ ?_)]
 ·cases hf : kP (fun (_ : Nat) x => bif v == x then some (1 : Int) else none) l 0 with
  | none =>
   have : (l.any fun y => v == y) = false := List.any_eq_false.2 fun x hx => by
    obtain ⟨i, hi⟩ := List.mem_iff_getElem?.1 hx
    have := Zb hf i x hi
    intro q
    rw [q] at this
    cases this
   rw [this]
   rfl
  | some r =>
   obtain ⟨i, x, h1, h2⟩ := Zz hf
   cases hb : (v == x) with
   | false => rw [hb] at h2; cases h2
   | true =>
    rw [hb] at h2
    cases h2
    have : (l.any fun y => v == y) = true := List.any_eq_true.2 ⟨x, List.mem_of_getElem? h1, hb⟩
    rw [this]
    rfl
 ·intro i x hx
  have hi := x6 hx
  unfold kr
  rw [decide_eq_true (by omega), cond_true, yk hx, oB]
  by_cases q : x = v
  ·subst q; rw [beq_self_eq_true]; rfl
  ·rw [beq_false_of_ne q, beq_false_of_ne (fun e => q e.symm)]; rfl
 ·unfold kr
  rw [decide_eq_false (by omega), cond_false]
def pfb (x : za) (c : z7) (i : Nat) : Bool := match x.Parts[i]? with
 | some P => !(P.Final.any fun y => stv c i == y)
 | none => false
def rst (x : za) (c : z7) : Bool := (kQ (pfb x c) x.Parts.length 0).isNone && c.Queues.all List.isEmpty
theorem qz {q : List Int} {R : Bool} : ((qOf q).many_ == 0 && ((qOf q).l_.e0 == 0 && ((qOf q).l_.e1 == 0 && ((qOf q).l_.e2 == 0 && ((qOf q).l_.e3 == 0 && R))))) = (q.isEmpty && R) := by
 cases q with
 | nil => rfl
 | cons a l =>
  rw [show ((qOf (a :: l)).many_ == 0) = false from beq_false_of_ne (by show (((a :: l).length : Nat) : Int) ≠ 0; simp; omega)]
  rfl
section
variable {x : za} {c : z7}
theorem z6k (h : MOk x c) : wL x (y4 c) = some (rst x c) := by
 have hpl := h.sys.pl
 unfold wL rst
 rw [bdT (WK x.Parts.length (by omega) (pfb x c) (fun _ => false) ?_ ?_)]
 ·cases hf : kQ (pfb x c) x.Parts.length 0 with
  | some j => rfl
  | none =>
   show xU (y4 c) = some (true && _)
   rw [Bool.true_and]
   have hq4 := h.q4
   unfold xU y4
   dsimp only
   generalize c.Queues = Q at hq4
   match Q, hq4 with
   | [], _ => rfl
   | [a], _ =>
    rw [show (Jm [a]).e0 = qOf a from rfl, show (Jm [a]).e1 = qOf [] from rfl, show (Jm [a]).e2 = qOf [] from rfl, show (Jm [a]).e3 = qOf [] from rfl, qz, qz, qz, qz]
    rfl
   | [a, b], _ =>
    rw [show (Jm [a, b]).e0 = qOf a from rfl, show (Jm [a, b]).e1 = qOf b from rfl, show (Jm [a, b]).e2 = qOf [] from rfl, show (Jm [a, b]).e3 = qOf [] from rfl, qz, qz, qz, qz]
    rfl
   | [a, b, d], _ =>
    rw [show (Jm [a, b, d]).e0 = qOf a from rfl, show (Jm [a, b, d]).e1 = qOf b from rfl, show (Jm [a, b, d]).e2 = qOf d from rfl, show (Jm [a, b, d]).e3 = qOf [] from rfl, qz, qz, qz, qz]
    rfl
   | [a, b, d, e], _ =>
    rw [show (Jm [a, b, d, e]).e0 = qOf a from rfl, show (Jm [a, b, d, e]).e1 = qOf b from rfl, show (Jm [a, b, d, e]).e2 = qOf d from rfl, show (Jm [a, b, d, e]).e3 = qOf e from rfl, qz, qz, qz, qz]
    rfl
   | a :: b :: d :: e :: f :: l, hh => simp at hh
 ·intro i hi
  have hP : x.Parts[i]? = some x.Parts[i] := List.getElem?_eq_getElem hi
  obtain ⟨h1, h2⟩ := h.stat hP
  have hv := h.sys.part _ (List.mem_of_getElem? hP)
  unfold xT pfb
  rw [decide_eq_true (by omega), cond_true, yk hP, oB, show idx (y4 c).states_.toL (i : Int) = some (stv c i) from Jl h.s4 h2, oB, z6S _ _ (by have := hv.fin; omega), oB, hP]
  dsimp only
  cases (x.Parts[i].Final.any fun y => stv c i == y) <;> rfl
 ·unfold xT
  rw [decide_eq_false (by omega), cond_false]
theorem z0U (h : MOk x c) : Zq x c = some (bif rst x c then 1 else 0) := by
 have hpl := h.sys.pl
 have hq4 := h.q4
 unfold Zq rst
 rw [bdT (WK x.Parts.length (by omega) (pfb x c) (fun _ => (0 : Int)) ?_ ?_)]
 ·cases hf : kQ (pfb x c) x.Parts.length 0 with
  | some j => rfl
  | none =>
   show qS c = some (bif true && _ then 1 else 0)
   rw [Bool.true_and]
   unfold qS
   rw [bdT (Yy c.Queues (by omega) (fun _ q => bif q.isEmpty then none else some (0 : Int)) ?_ ?_)]
   ·cases hg : kP (fun (_ : Nat) (q : List Int) => bif q.isEmpty then none else some (0 : Int)) c.Queues 0 with
    | none =>
     have : c.Queues.all List.isEmpty = true := List.all_eq_true.2 fun q hq => by
      obtain ⟨i, hi⟩ := List.mem_iff_getElem?.1 hq
      have := Zb hg i q hi
      cases hb : q.isEmpty with
      | true => rfl
      | false => rw [hb] at this; cases this
     rw [this]
     rfl
    | some r =>
     obtain ⟨i, q, h1, h2⟩ := Zz hg
     cases hb : q.isEmpty with
     | true => rw [hb] at h2; cases h2
     | false =>
      rw [hb] at h2
      cases h2
      have : c.Queues.all List.isEmpty = false := List.all_eq_false.2 ⟨q, List.mem_of_getElem? h1, by rw [hb]; simp⟩
      rw [this]
      rfl
   ·intro i q hq
    have hi := x6 hq
    unfold qR
    rw [decide_eq_true (by omega), cond_true, yk hq, oB]
    cases q with
    | nil => rfl
    | cons a l => rw [decide_eq_true (by simp), cond_true]; rfl
   ·unfold qR
    rw [decide_eq_false (by omega), cond_false]
 ·intro i hi
  have hP : x.Parts[i]? = some x.Parts[i] := List.getElem?_eq_getElem hi
  obtain ⟨h1, h2⟩ := h.stat hP
  have hv := h.sys.part _ (List.mem_of_getElem? hP)
  unfold qQ pfb
  rw [decide_eq_true (by omega), cond_true, yk hP, oB, yk h2, oB, zaN _ _ (by have := hv.fin; omega), oB, hP]
  dsimp only
  cases (x.Parts[i].Final.any fun y => stv c i == y) <;> rfl
 ·unfold qQ
  rw [decide_eq_false (by omega), cond_false]
end
def K1 (x : za) (L : List z7) (st : List (List z6)) (i : Nat) : Bool := match st[i]?, L[i]? with
 | some u, some c => u.isEmpty && !rst x c
 | _, _ => false
theorem z6V (l : List z8) : yc l = some l := by
 unfold yc
 rw [gdT (by omega)]
 simp
theorem z3q {l : List z8} (hl : l.length < 4611686018427387904) : jd l l = some 1 := by
 unfold jd
 rw [bne_self_eq_false, cond_false, cond_false, bdT (z09 l hl ?_ ?_)]
 ·rfl
 ·intro i m hm
  have hi := x6 hm
  unfold qX
  rw [decide_eq_true (by omega), cond_true, yk hm, oB, oB]
  rw [show (!((m.Part == m.Part) && ((m.Arc == m.Arc) && ((m.Other == m.Other) && ((m.With == m.With) && true))))) = false by simp, cond_false]
 ·unfold qX
  rw [decide_eq_false (by omega), cond_false]
theorem z1A {x : za} (hv : z3A x) {L : List z7} {st : List (List z6)} (hok : ∀ c ∈ L, MOk x c) (hL : L.length = st.length) (hs : st.length ≤ 1024) (hu : ∀ u ∈ st, u.length ≤ 1048576)
  (hg : yj x = some (L.map y4, st, 0)) (ho : OR (Yr st st.length)) (hlen : (Yr st st.length).1.length = st.length) :
  wG x = some (match kQ (K1 x L st) st.length 0 with | none => ([], ⟨[], []⟩, 7) | some i => (((Yr st st.length).2[i]?).getD [], (L[i]?).getD ⟨[], []⟩, 0)) := by
 unfold wG
 rw [z6X hv, oB, bne_self_eq_false, cond_false, hg, oB]
 dsimp only
 rw [bne_self_eq_false, cond_false, List.length_map, gdT (by omega), Int.toNat_natCast, show (⟨0, ⟨0, 0, 0, 0⟩⟩ : zl) = zo from rfl, hL, zd4 _ st hs hu hlen (by omega), oB]
 unfold ug
 have hol := ho.len
 rw [bdT (WK st.length (by omega) (K1 x L st) (fun i => (((Yr st st.length).2[i]?).getD [], (L[i]?).getD ⟨[], []⟩, (0 : Int))) ?_ ?_)]
 ·cases kQ (K1 x L st) st.length 0 <;> rfl
 ·intro i hi
  have h1 : st[i]? = some st[i] := List.getElem?_eq_getElem hi
  have h2 : L[i]? = some (L[i]'(by omega)) := List.getElem?_eq_getElem _
  generalize st[i] = u at h1
  generalize L[i]'(by omega) = c at h2
  have hc := hok c (List.mem_of_getElem? h2)
  have hsp : idx (L.map y4) (i : Int) = some (y4 c) := yk (by rw [List.getElem?_map, h2]; rfl)
  have hr : (Yr st st.length).2[i]? = some ((Yr st st.length).2[i]'(by omega)) := List.getElem?_eq_getElem _
  generalize (Yr st st.length).2[i]'(by omega) = r at hr
  unfold wU wV K1
  dsimp only
  rw [decide_eq_true (by omega), cond_true, yk h1, oB, h1, h2, hr]
  dsimp only
  cases u with
  | cons s u => rw [decide_eq_true (by simp), cond_true]; rfl
  | nil =>
   rw [decide_eq_false (by simp), cond_false, hsp, oB, z6k hc, oB]
   cases rst x c with
   | true => rfl
   | false =>
    have hrl := ho.bd i r hr
    rw [cond_false, zd5 ho (by omega) hr, oB]
    unfold uf
    rw [zaj _ (by rw [List.length_reverse]; omega), oB, List.reverse_reverse, z6V, oB]
    dsimp only
    rw [hsp, oB, z4j hc]
    rfl
 ·unfold wU
  dsimp only
  rw [decide_eq_false (by omega), cond_false]
theorem z1e : k7 = some true := by kernel_rfl
def Ok5 (a : Int) : Prop := (0) ≤ a ∧ a ≤ 255
def zfl (a : z7i Int) : Prop := Ok5 a.e0 ∧ Ok5 a.e1
def zdW (a : z3C Int) : Prop := Ok5 a.e0 ∧ Ok5 a.e1 ∧ Ok5 a.e2 ∧ Ok5 a.e3 ∧ Ok5 a.e4
def zfi (l : List (z3C Int)) : Prop := ∀ a ∈ l, zdW a
def zdX (a : xz) : Prop := Ok5 a.States ∧ Ok5 a.Final ∧ zfi a.Arcs
def zfk (l : List xz) : Prop := ∀ a ∈ l, zdX a
def zfj (a : yf) : Prop := zfl a.Channels ∧ zfk a.Parts
theorem z6D {x : yf} (hx : zfj x) : vt x = some true := by
 obtain ⟨⟨hc0, hc1⟩, hps⟩ := hx
 have hy : OkY x := ⟨hc0, hc1, fun z hz => ⟨(hps z hz).1, fun a ha => (hps z hz).2.2 a ha⟩⟩
 obtain ⟨s, e, hs⟩ := zas hy
 have hvs := z4A hy hs
 obtain ⟨k, eg, g1, g2⟩ := z4H hvs (most := 200) (by omega)
 have hok := (z0c hvs k).1
 have hst := VW hvs k
 unfold vt
 rw [show yf.mk x.Channels x.Parts = x from rfl, e, oB, show (200 : Int) = ((200 : Nat) : Int) from rfl, eg, oB, z1e]
 by_cases q : 200 < (xQ s k).1.length
 ·rw [decide_eq_true (by omega), cond_true]
  rfl
 ·obtain ⟨h1, h2, h3⟩ := zgb hvs (by omega) g1 g2 (by omega)
  have hf := z4K (x := s) (n := k) (fun m hm => (g2 m hm).1)
  rw [decide_eq_false (by omega), cond_false]
  have ho : ∀ j, j ≤ (xQ s k).2.length → OR (Yr (xQ s k).2 j) := fun j hj => (hf j (by omega)).1
  have hkk : ∀ j, j < (xQ s k).2.length → j < (Yr (xQ s k).2 j).1.length := fun j hj => by
   rw [(hf j (by omega)).2]
   exact (g2 j (by omega)).1
  have hlen : (Yr (xQ s k).2 (xQ s k).2.length).1.length = (xQ s k).2.length := by
   rw [(hf _ (by omega)).2, h3]
   exact h2
  clear hf g2 eg g1
  generalize xQ s k = gs at *
  obtain ⟨L, st⟩ := gs
  dsimp only at *
  rw [z1A hvs hok (by omega) (by omega) hst h1 (ho _ (Nat.le_refl _)) hlen, oB, z8F st (by omega) hst (by omega) ho hkk, oB]
  have hol := (ho _ (Nat.le_refl _)).len
  have hor := (ho _ (Nat.le_refl _)).bd
  rw [bdT (z2e L.length (by omega) (K1 s L st) (fun _ => true) ?_ ?_)]
  ·rw [show L.length = st.length by omega]
   cases hf : kQ (K1 s L st) st.length 0 with
   | none => rfl
   | some i => rfl
  ·intro i hi hbef
   have a1 : st[i]? = some (st[i]'(by omega)) := List.getElem?_eq_getElem _
   have a2 : L[i]? = some L[i] := List.getElem?_eq_getElem hi
   generalize st[i]'(by omega) = u at a1
   generalize L[i] = c at a2
   have hc := hok c (List.mem_of_getElem? a2)
   unfold xI xJ
   dsimp only
   rw [decide_eq_true (by omega), cond_true, yk a1, oB]
   cases hb : K1 s L st i with
   | false =>
    unfold K1 at hb
    rw [a1, a2] at hb
    dsimp only at hb
    cases u with
    | cons t u => rw [beq_false_of_ne (by simp; omega), cond_false]; rfl
    | nil =>
     rw [show (((([] : List z6).length : Nat) : Int) == 0) = true from rfl, cond_true, yk a2, oB, z0U hc, oB]
     cases hr : rst s c with
     | true => rfl
     | false => rw [hr] at hb; cases hb
   | true =>
    have hfi : kQ (K1 s L st) st.length 0 = some i := UU hb (Nat.zero_le _) (by omega) fun m _ hm => hbef m hm
    unfold K1 at hb
    rw [a1, a2] at hb
    dsimp only at hb
    have hr' : (Yr st st.length).2[i]? = some ((Yr st st.length).2[i]'(by omega)) := List.getElem?_eq_getElem _
    generalize (Yr st st.length).2[i]'(by omega) = r at hr'
    have hrl := hor i r hr'
    rw [hfi]
    dsimp only
    rw [hr', a2]
    cases u with
    | cons t u => cases hb
    | nil =>
     rw [show (((([] : List z6).length : Nat) : Int) == 0) = true from rfl, cond_true, yk a2, oB, z0U hc, oB]
     cases hr : rst s c with
     | true => rw [hr] at hb; cases hb
     | false =>
      rw [show ((bif false then (1 : Int) else 0) == 0) = true from rfl, cond_true, beq_self_eq_true, cond_true, yk hr', oB]
      rw [show jd ((some r).getD []) r = some 1 from z3q (l := r) (by omega), oB, show ((1 : Int) == 1) = true from rfl, cond_true, oB]
      rw [show uI ((some c).getD ⟨[], []⟩) c = some 1 from (z0Q hc.cs hc.cs).trans (by rw [if_pos rfl]), oB, show ((1 : Int) == 1) = true from rfl, cond_true]
      rfl
  ·unfold xI
   dsimp only
   rw [decide_eq_false (by omega), cond_false]
def JQ (w : World) : zu := fun b o => yw w.heap b o
theorem z2o {w : World} {a : Addr} {v : Value} (h : w.cell? a = some v) : a.spot = none ∧ yw w.heap a.block a.off = some v := by
 unfold World.cell? at h
 unfold yw
 split at h
 ·rename_i c ty fr he
  rw [he]
  split at h
  ·cases h
  ·rename_i hs
   exact ⟨by simpa using hs, h⟩
 ·cases h
section
variable {H : Type} {enc : TypeId × Value → H} {P : Program} {w : World} {base : Nat} {spare : Nat → Bool} {held : Bool}
theorem z4X {a : Addr} {n : Nat} {cs : List Value} (h : w.cells? base a n = some cs) (hn : 0 < n) : a.spot = none ∧ cs.length = n ∧ K6 (JQ w) a.block a.off cs := by
 obtain ⟨_, h2, h3⟩ := World.cells?_some h
 have h0 : a.spot = none := by
  have h4 := h3 0 hn
  cases hc : cs[0]? with
  | none => rw [List.getElem?_eq_none_iff] at hc; omega
  | some v =>
   rw [hc] at h4
   have := (z2o h4).1
   simpa [Addr.add] using this
 refine ⟨h0, h2, fun j v hj => ?_⟩
 have hlt := (List.getElem?_eq_some_iff.1 hj).1
 have h4 := h3 j (by omega)
 rw [hj] at h4
 have q := (z2o h4).2
 unfold Addr.add at q
 split at q
 ·rename_i e; subst e; exact q
 ·exact q
theorem z0V {S : zu} : ∀ {bs : List A} {cs : List Value} {a : A} {c : List Value}, yu S bs cs → Rep S a c → yu S (bs ++ [a]) (cs ++ c)
 | [], cs, a, c, h1, h2 => by
  simp only [yu] at h1
  subst h1
  simp only [List.nil_append, yu]
  exact ⟨c, [], by simp, h2, rfl⟩
 | x :: bs, cs, a, c, h1, h2 => by
  simp only [yu] at h1
  obtain ⟨c1, c2, rfl, r1, r2⟩ := h1
  simp only [List.cons_append, yu]
  exact ⟨c1, c2 ++ c, by simp, r1, z0V r2 h2⟩
theorem z6w {S : zu} {b o : Nat} {c1 c2 : List Value} (h1 : K6 S b o c1) (h2 : K6 S b (o + c1.length) c2) : K6 S b o (c1 ++ c2) := by
 intro j v hj
 rcases Nat.lt_or_ge j c1.length with q | q
 ·rw [List.getElem?_append_left q] at hj
  exact h1 j v hj
 ·rw [List.getElem?_append_right q] at hj
  have := h2 _ _ hj
  rwa [show o + c1.length + (j - c1.length) = o + j by omega] at this
theorem z0F {α : Type} {t e sz : Nat} (f : α → A) (ok : α → Prop) (ht : P.underlying t = some (.slice e)) (hsz : P.cellsOf e = sz) (h0 : 0 < sz) (hf : ∀ a, (f a).size = sz)
    (hel : ∀ n cs x, DataW.trod enc P w base spare held n e cs = some x → ∃ a, ok a ∧ Rep (JQ w) (f a) cs)
    {fuel : Nat} {cs : List Value} {x : DataW H × List MemPlace} (h : DataW.trod enc P w base spare held fuel t cs = some x) : ∃ l : List α, (∀ a ∈ l, ok a) ∧ Rep (JQ w) (.sl sz false (l.map f)) cs := by
  rcases DataW.trod_slice ht h with ⟨rfl, _⟩ | ⟨a, len, cap, elems, rest, n, _, rfl, _, _, hlc, _, hlen, hall, _, _⟩
  · refine ⟨[], by simp, ?_⟩
    simp only [Rep, List.map_nil, List.length_nil]
    exact ⟨none, 0, rfl, by simp, Nat.le_refl _, by simp, .inl trivial⟩
  · have key : ∀ k, k ≤ len → ∃ (l : List α) (cells : List Value), l.length = k ∧ (∀ a ∈ l, ok a) ∧ yu (JQ w) (l.map f) cells ∧ cells.length = k * sz ∧ (0 < k → a.spot = none) ∧ K6 (JQ w) a.block a.off cells := by
      intro k
      induction k with
      | zero => intro _; exact ⟨[], [], rfl, by simp, by simp [yu], by simp, by simp, fun j v h => by simp at h⟩
      | succ k ih =>
        intro hk
        obtain ⟨l, cells, q1, q2, q3, q4, q5, q6⟩ := ih (by omega)
        have hk' := hall k (by omega)
        have hsome : elems[k]? = some elems[k] := List.getElem?_eq_getElem (by omega)
        rw [hsome, Option.bind_eq_some_iff, hsz] at hk'
        obtain ⟨c, hc, htr⟩ := hk'
        obtain ⟨y, hy, hr⟩ := hel _ _ _ htr
        obtain ⟨g1, g2, g3⟩ := z4X hc h0
        refine ⟨l ++ [y], cells ++ c, by simp [q1], ?_, ?_, ?_, ?_, ?_⟩
        · intro z hz
          rcases List.mem_append.1 hz with q | q
          · exact q2 z q
          · simp only [List.mem_cons, List.not_mem_nil, or_false] at q; subst q; exact hy
        · rw [List.map_append]; exact z0V q3 hr
        · rw [List.length_append, q4, g2, Nat.succ_mul]
        · intro _
          rcases Nat.eq_zero_or_pos k with rfl | hk0
          · simpa [Addr.add] using g1
          · exact q5 hk0
        · refine z6w q6 ?_
          rw [q4]
          unfold Addr.add at g3
          split at g3
          · rename_i e0
            rw [e0, Nat.add_zero]
            exact g3
          · exact g3
    obtain ⟨l, cells, q1, q2, q3, q4, q5, q6⟩ := key len (Nat.le_refl _)
    refine ⟨l, q2, ?_⟩
    simp only [Rep, List.length_map]
    refine ⟨some a, cap, by rw [q1], by simp, by omega, ?_, ?_⟩
    · intro y hy
      obtain ⟨z, _, rfl⟩ := List.mem_map.1 hy
      exact hf z
    · rcases Nat.eq_zero_or_pos len with rfl | hl
      · left; rw [List.length_eq_zero_iff.1 q1]; rfl
      · right
        refine ⟨a.block, a.off, cells, ?_, q3, q6⟩
        have := q5 hl
        obtain ⟨b, o, s⟩ := a
        simp only at this
        subst this
        rfl
theorem z91 {t : Nat} {k : IntKind} {lo hi : Int} (ht : P.underlying t = some (.int k)) (hlo : k.min = lo) (hhi : k.max = hi) {fuel : Nat} {cs : List Value} {x : DataW H × List MemPlace} (h : DataW.trod enc P w base spare held fuel t cs = some x) :
  ∃ n : Int, (lo ≤ n ∧ n ≤ hi) ∧ cs = [.int k n] ∧ Rep (JQ w) (.atom (.int k n)) cs := by
 obtain ⟨n, rfl, _, hw⟩ := DataW.trod_int ht h
 simp only [Lit.wf, Bool.and_eq_true, decide_eq_true_eq, hlo, hhi] at hw
 exact ⟨n, hw, rfl, by simp only [Rep]; exact ⟨trivial, rfl⟩⟩
theorem V9 {t : Nat} {fs : List Field} (ht : P.underlying t = some (.struct ⟨fs⟩)) {fuel : Nat} {cs : List Value} {x : DataW H × List MemPlace} (h : DataW.trod enc P w base spare held fuel t cs = some x) :
  cs.length = P.cellsOf t ∧ ∀ (i : Nat) (f : Field), fs[i]? = some f → ∃ n y, DataW.trod enc P w base spare held n f.type ((cs.drop f.offset).take (P.cellsOf f.type)) = some y := by
 obtain ⟨xs, n, _, _, hl, hxl, hall⟩ := DataW.trod_struct ht h
 refine ⟨hl, fun i f hf => ?_⟩
 have hlt := (List.getElem?_eq_some_iff.1 hf).1
 have := hall i f (by simpa using hf)
 rw [List.getElem?_eq_getElem (by rw [hxl]; simpa using hlt)] at this
 exact ⟨n, _, this⟩
end
theorem uA {S : zu} {a : A} {bs : List A} {cs : List Value} {n : Nat} (h1 : Rep S a (cs.take n)) (h2 : yu S bs (cs.drop n)) : yu S (a :: bs) cs := by
 simp only [yu]
 exact ⟨cs.take n, cs.drop n, (List.take_append_drop n cs).symm, h1, h2⟩
section
open Go Go.ChangeShapes Go.WideShapes Go.ChangeAt Go.RowKit
theorem z4b {P : Program} {H : Type} {enc : TypeId × Value → H} {f : Func} {s : ChangeSpec} {apart fresh handsOn again : Bool} {W W' : World} {args : Array Value} {v : Value} {ds : List (DataW H)} {pa : List MemPlace}
  (hvar : s.vars = []) (hvars2 : (s.fn H (ds ++ [])).vars = []) (hW : DataW.Whole enc P f.params.toList s.vars apart W args.toList ds [] (pa ++ [])) (hb : Below W.heap.size W W')
  (hres : ∀ (b : Nat) (sp : Nat → Bool) (hd : Bool), DataW.TrodAll enc P W' b sp hd f.resultTypes.toList (v.resultList f.resultTypes.size) (s.fn H (ds ++ [])).results [])
  (hargs : ∀ sp : Nat → Bool, (∀ p ∈ pa ++ [], sp p.block = true) → DataW.TrodAll enc P W' 0 sp true f.params.toList args.toList (s.fn H (ds ++ [])).args pa)
  (hok : ∀ (j : Nat) (t : TypeId) (r : Value), f.resultTypes[j]? = some t → (v.resultList f.resultTypes.size)[j]? = some r → Value.okWide P W' .any 0 t r) :
  s.post enc P f apart fresh handsOn again W args v W' := by
 have hlt : ∀ p ∈ pa ++ [], p.block < W.heap.size := fun p hp => by simpa using hW.lt p hp
 have hvr : ∀ sp : Nat → Bool, DataW.TrodVars enc P W' sp s.vars (s.fn H (ds ++ [])).vars [] := fun sp => by rw [hvar, hvars2]; rfl
 refine ⟨ds, [], pa ++ [], [], pa, [], hW, hres _ _ _, hargs _ (fun p hp => by simpa using hlt p hp), hvr _, World.keptBut_mono (fun _ q => q.elim) (hb.frame fun _ => False), fun _ => ?_⟩
 obtain ⟨_, _, _, _, _, hz, hn⟩ := hW
 refine ⟨hok, _, _, ([] ++ pa) ++ [], ⟨[] ++ pa, [], trodAll_append (hargs _ (fun _ _ => rfl)) (hres _ _ _), hvr _, rfl, ?_, ?_⟩, ?_⟩
 ·intro b off hp
  have hp' : MemPlace.cell b off ∈ pa ++ [] := by simpa using hp
  rw [hb.frozen (p := ⟨b, off, none⟩) (hlt _ hp')]
  exact hz b off hp'
 ·intro ha
  simpa using hn ha
 ·intro p hp _
  simpa using hp
end
theorem z61 {P : Program} {k : Nat} {α ρ : Type} {enc : α → List A} {encR : ρ → A} {F : α → Option ρ} {gives : List Bool} {inj : ∀ x y, enc x = enc y → x = y} (h : (spF k enc encR F gives inj).Ok P) {x : α} {r : ρ} (hr : F x = some r) : Xm P k (enc x) (encR r) := by
 have := h x ⟨r, hr⟩
 simpa only [spF, hr] using this
section
variable {P : Program} {w : World} {r : Reach} {base t : Nat} {v : Value}
theorem z3f {fs : Array Field} (hu : P.underlying t = some (.struct fs)) (h : Value.okWide P w r base t v) : v = .agg v.cells.toList.toArray := by
 unfold Value.okWide at h
 rw [hu] at h
 obtain ⟨cs, rfl, _⟩ := h
 rfl
theorem z26 {fs : Array Field} {S : zu} {a : A} (hu : P.underlying t = some (.struct fs)) (hr : Rep S a v.cells.toList) (h : Value.okWide P w r base t v) (ha : a.isAgg = true) : u3 S a v := ⟨_, hr, by cases a <;> first | exact z3f hu h | cases ha⟩
theorem z6K {S : zu} {h : Array Obj} {v : Value} {F : List Nat} (q : Has S h (.atom (.bool true)) v F) : v = .bool true := by
 rcases q with ⟨q, _⟩ | ⟨cs, q, _, rfl⟩
 ·rw [(zA.1 q).1]
 ·simp only [zQ, Rep] at q
  obtain ⟨⟨rfl, _⟩, _⟩ := q
  rfl
end
open Go.Proofs
section
variable {H : Type} {enc : TypeId × Value → H} {w : World} {base : Nat} {spare : Nat → Bool} {held : Bool}
theorem z51 : Tryz.prog.cellsOf 5 = 1 := by kernel_rfl
theorem rd5 {fuel : Nat} {cs : List Value} {x : DataW H × List MemPlace} (h : DataW.trod enc Tryz.prog w base spare held fuel 5 cs = some x) : ∃ a : Int, Ok5 a ∧ Rep (JQ w) ((eI .u8) a) cs := by
 obtain ⟨n, h1, _, h2⟩ := z91 Tryz.underlying5 (lo := 0) (hi := 255) rfl rfl h
 exact ⟨n, h1, h2⟩
theorem z52 : Tryz.prog.cellsOf 22 = 2 := by kernel_rfl
theorem zfP {fuel : Nat} {cs : List Value} {x : DataW H × List MemPlace} (h : DataW.trod enc Tryz.prog w base spare held fuel 22 cs = some x) : ∃ a : z7i Int, zfl a ∧ Rep (JQ w) ((K4 (eI .u8)) a) cs := by
 obtain ⟨xs, m, _, _, hl, hx, hall⟩ := DataW.trod_array Tryz.underlying22 h
 rw [z52] at hl
 rw [z51] at hall
 have get : ∀ i, i < 2 → ∃ n : Int, Ok5 n ∧ Rep (JQ w) ((eI .u8) n) ((cs.drop (i * 1)).take 1) := by
  intro i hi
  have q := hall i hi
  rw [List.getElem?_eq_getElem (by omega)] at q
  exact rd5 q
 obtain ⟨a0, k0, r0⟩ := get 0 (by omega)
 obtain ⟨a1, k1, r1⟩ := get 1 (by omega)
 refine ⟨⟨a0, a1⟩, ⟨k0, k1⟩, ?_⟩
 show Rep (JQ w) (.agg [(eI .u8) a0, (eI .u8) a1]) cs
 simp only [Rep]
 refine uA (n := 1) (by simpa [List.drop_drop] using r0) (uA (n := 1) (by simpa [List.drop_drop] using r1) ?_)
 simp only [List.drop_drop, yu]
 exact List.drop_eq_nil_of_le (by omega)
theorem z4Y : Tryz.prog.cellsOf 96 = 5 := by kernel_rfl
theorem zfK {fuel : Nat} {cs : List Value} {x : DataW H × List MemPlace} (h : DataW.trod enc Tryz.prog w base spare held fuel 96 cs = some x) : ∃ a : z3C Int, zdW a ∧ Rep (JQ w) ((Xu (eI .u8)) a) cs := by
 obtain ⟨xs, m, _, _, hl, hx, hall⟩ := DataW.trod_array Tryz.underlying96 h
 rw [z4Y] at hl
 rw [z51] at hall
 have get : ∀ i, i < 5 → ∃ n : Int, Ok5 n ∧ Rep (JQ w) ((eI .u8) n) ((cs.drop (i * 1)).take 1) := by
  intro i hi
  have q := hall i hi
  rw [List.getElem?_eq_getElem (by omega)] at q
  exact rd5 q
 obtain ⟨a0, k0, r0⟩ := get 0 (by omega)
 obtain ⟨a1, k1, r1⟩ := get 1 (by omega)
 obtain ⟨a2, k2, r2⟩ := get 2 (by omega)
 obtain ⟨a3, k3, r3⟩ := get 3 (by omega)
 obtain ⟨a4, k4, r4⟩ := get 4 (by omega)
 refine ⟨⟨a0, a1, a2, a3, a4⟩, ⟨k0, k1, k2, k3, k4⟩, ?_⟩
 show Rep (JQ w) (.agg [(eI .u8) a0, (eI .u8) a1, (eI .u8) a2, (eI .u8) a3, (eI .u8) a4]) cs
 simp only [Rep]
 refine uA (n := 1) (by simpa [List.drop_drop] using r0) (uA (n := 1) (by simpa [List.drop_drop] using r1) (uA (n := 1) (by simpa [List.drop_drop] using r2) (uA (n := 1) (by simpa [List.drop_drop] using r3) (uA (n := 1) (by simpa [List.drop_drop] using r4) ?_))))
 simp only [List.drop_drop, yu]
 exact List.drop_eq_nil_of_le (by omega)
theorem z9h : Tryz.prog.cellsOf 93 = 1 := by kernel_rfl
theorem zfM {fuel : Nat} {cs : List Value} {x : DataW H × List MemPlace} (h : DataW.trod enc Tryz.prog w base spare held fuel 93 cs = some x) : ∃ a : List (z3C Int), zfi a ∧ Rep (JQ w) ((eSl 5 false (Xu (eI .u8))) a) cs := by
 exact z0F (Xu (eI .u8)) zdW Tryz.underlying93 z4Y (by omega) (fun _ => rfl) (fun _ _ _ q => zfK q) h
theorem z4Z : Tryz.prog.cellsOf 95 = 3 := by kernel_rfl
theorem zfL {fuel : Nat} {cs : List Value} {x : DataW H × List MemPlace} (h : DataW.trod enc Tryz.prog w base spare held fuel 95 cs = some x) : ∃ a : xz, zdX a ∧ Rep (JQ w) ((uE (eI .u8) (eI .u8) (eSl 5 false (Xu (eI .u8)))) a) cs := by
 obtain ⟨hl, hf⟩ := V9 Tryz.underlying95 h
 rw [z4Z] at hl
 obtain ⟨_, _, q0⟩ := hf 0 _ rfl
 obtain ⟨_, _, q1⟩ := hf 1 _ rfl
 obtain ⟨_, _, q2⟩ := hf 2 _ rfl
 simp only [z51, z9h] at q0 q1 q2
 obtain ⟨a0, k0, r0⟩ := rd5 q0
 obtain ⟨a1, k1, r1⟩ := rd5 q1
 obtain ⟨a2, k2, r2⟩ := zfM q2
 refine ⟨⟨a0, a1, a2⟩, ⟨k0, k1, k2⟩, ?_⟩
 show Rep (JQ w) (.agg [(eI .u8) a0, (eI .u8) a1, (eSl 5 false (Xu (eI .u8))) a2]) cs
 simp only [Rep]
 refine uA (n := 1) (by simpa [List.drop_drop] using r0) (uA (n := 1) (by simpa [List.drop_drop] using r1) (uA (n := 1) (by simpa [List.drop_drop] using r2) ?_))
 simp only [List.drop_drop, yu]
 exact List.drop_eq_nil_of_le (by omega)
theorem z9j : Tryz.prog.cellsOf 23 = 1 := by kernel_rfl
theorem zfO {fuel : Nat} {cs : List Value} {x : DataW H × List MemPlace} (h : DataW.trod enc Tryz.prog w base spare held fuel 23 cs = some x) : ∃ a : List xz, zfk a ∧ Rep (JQ w) ((eSl 3 false (uE (eI .u8) (eI .u8) (eSl 5 false (Xu (eI .u8))))) a) cs := by
 exact z0F (uE (eI .u8) (eI .u8) (eSl 5 false (Xu (eI .u8)))) zdX Tryz.underlying23 z4Z (by omega) (fun _ => rfl) (fun _ _ _ q => zfL q) h
theorem z9i : Tryz.prog.cellsOf 25 = 3 := by kernel_rfl
theorem zfN {fuel : Nat} {cs : List Value} {x : DataW H × List MemPlace} (h : DataW.trod enc Tryz.prog w base spare held fuel 25 cs = some x) : ∃ a : yf, zfj a ∧ Rep (JQ w) ((kx (K4 (eI .u8)) (eSl 3 false (uE (eI .u8) (eI .u8) (eSl 5 false (Xu (eI .u8)))))) a) cs := by
 obtain ⟨hl, hf⟩ := V9 Tryz.underlying25 h
 rw [z9i] at hl
 obtain ⟨_, _, q0⟩ := hf 0 _ rfl
 obtain ⟨_, _, q1⟩ := hf 1 _ rfl
 simp only [z52, z9j] at q0 q1
 obtain ⟨a0, k0, r0⟩ := zfP q0
 obtain ⟨a1, k1, r1⟩ := zfO q1
 refine ⟨⟨a0, a1⟩, ⟨k0, k1⟩, ?_⟩
 show Rep (JQ w) (.agg [(K4 (eI .u8)) a0, (eSl 3 false (uE (eI .u8) (eI .u8) (eSl 5 false (Xu (eI .u8))))) a1]) cs
 simp only [Rep]
 refine uA (n := 2) (by simpa [List.drop_drop] using r0) (uA (n := 1) (by simpa [List.drop_drop] using r1) ?_)
 simp only [List.drop_drop, yu]
 exact List.drop_eq_nil_of_le (by omega)
end
end Go.Own
namespace Go.Proofs.YtcldlioffanjaaaGreatDoor.systemsDeadlock
open Go Go.ChangeShapes Go.WideShapes Go.ChangeAt Go.RowKit
theorem own : ownKnob Tryz.prog.godebug = none := by kernel_rfl
theorem z8X : laidOutB Tryz.prog = true := by kernel_rfl
section
variable {H : Type} {enc : TypeId × Value → H} {W : World}
theorem z8G (u : TypeId) (h : Tryz.prog.typeName? 3 u = some "*errors.errorString") : u = 201 :=
 typeName_ptr_named (nm := "errors.errorString") (by rw [show "*" ++ "errors.errorString" = "*errors.errorString" by decide]; kernel_rfl) (by kernel_rfl) (by decide) u (by rw [show "*" ++ "errors.errorString" = "*errors.errorString" by decide]; exact h)
theorem z6N {W : World} (hL : laidMetH Tryz.prog Rows.systemsDeadlockRow.laid W) : Go.Own.Gok (Go.Own.JQ W) := by
 rw [MakeChecks.laidMetH_plain _ _ _ (by kernel_rfl)] at hL
 have hg : Tryz.prog.globalNamed "gauntlet/systems.errNo" = some 0 := by kernel_rfl
 obtain ⟨a, _, hv, _⟩ := laid_sentinel hL hg (show (Tryz.prog.globals[0]?).map (·.type) = some 154 by kernel_rfl) Tryz.underlying154 z8G Tryz.underlying201 Tryz.underlying226 rfl rfl Tryz.underlying9 (show Tryz.prog.cellsOf 226 = 1 by kernel_rfl) (show Tryz.prog.cellsOf 9 = 1 by kernel_rfl)
 have hw : W.cell? ⟨0, 0, none⟩ = some (.iface 201 (.pointer (some a))) := by
  have := World.var?_cell hg hv 0
  simpa using this
 have hc : Go.Own.JQ W 0 0 = some (.iface 201 (.pointer (some a))) := (Go.Own.z2o hw).2
 intro g x e
 unfold Go.Own.zco at e
 split at e
 ·rename_i h0
  subst h0
  cases e
  refine ⟨[.iface 201 (.pointer (some a))], ⟨_, rfl, fun _ => ⟨hc, a, rfl⟩, fun h => by cases h⟩, fun j v hj => ?_⟩
  cases j with
  | zero => cases hj; exact hc
  | succ j => simp at hj
 ·cases e
set_option maxRecDepth 100000 in
theorem zfu {base : Nat} (hL : laidMetH Tryz.prog Rows.systemsDeadlockRow.laid W) {v0 : Value} {d0 : DataW H} {p0 : List MemPlace} (h0 : DataW.Trod enc Tryz.prog W 0 (fun _ => true) true 25 v0 d0 p0) (k0 : Value.okWide Tryz.prog W .any base (25 : Nat) v0) :
  Calls Tryz.prog 3 #[v0] W fun e w' => e = .returned (.bool true) ∧ Go.Own.ZN (fun k => W.heap.size ≤ k) W w' := by
 obtain ⟨n0, h0⟩ := h0
 obtain ⟨x0, o0, r0⟩ := Go.Own.zfN h0
 have q := (Go.Own.z61 (Go.Own.z3z Go.Own.zbu List.mem_cons_self : Go.Own.vT.Ok Tryz.prog) (x := x0) (r := true) (Go.Own.z6D o0)).2 (Go.Own.JQ W) W [v0] [] ⟨fun _ _ _ h => h, z6N hL⟩ ?_ (by simp)
 ·refine Calls.mono q ?_
  rintro e w' ⟨v, S', F', rfl, hk, _, _, _, hr, _, _⟩
  refine ⟨?_, hk.mono (by rintro k (h | h) <;> simp_all)⟩
  rw [Go.Own.z6K hr]
 ·refine Go.Own.ZE ?_
  have g0 : Go.Own.u3 (Go.Own.JQ W) ((Go.Own.kx (Go.Own.K4 (Go.Own.eI .u8)) (Go.Own.eSl 3 false (Go.Own.uE (Go.Own.eI .u8) (Go.Own.eI .u8) (Go.Own.eSl 5 false (Go.Own.Xu (Go.Own.eI .u8)))))) x0) v0 := Go.Own.z26 (t := (25 : Nat)) Tryz.underlying25 r0 k0 rfl
  exact ⟨g0, trivial⟩
end
set_option maxRecDepth 100000 in
theorem z6P (os : Os) (args : Array Value) : laidMetH Tryz.prog Rows.systemsDeadlockRow.laid ((World.doorLaid Tryz.prog 400 os).forCall (fun _ _ => 0) ⟨#[], args, []⟩).memory :=
 laidMetH_of_parts3 (fuel := 8) (laidMet_of_run' 8 (by kernel_rfl) (by kernel_rfl)) (by kernel_rfl) (by kernel_rfl)
set_option maxRecDepth 100000 in
theorem zaz (os : Os) (started : os.Started) (H : Type) (enc : TypeId × Value → H) :
  ReturnsInHanded {} Tryz.checked os 3 .any (fun w args => (Rows.systemsDeadlockSpec.pre enc Tryz.prog Tryz.f3 Rows.systemsDeadlockRow.domain false w args ∧ laidMetH Tryz.prog Rows.systemsDeadlockRow.laid w) ∧ sizedMet enc Tryz.prog Tryz.f3 (OpenSpec.ofChange Rows.systemsDeadlockSpec) false w args) (Rows.systemsDeadlockSpec.post enc Tryz.prog Tryz.f3 false true false false) := by
 refine returnsInHanded_of_change_and (C := Tryz.checked) (X := fun w _ => laidMetH Tryz.prog Rows.systemsDeadlockRow.laid w) (fun _ _ _ hh h => h.of_heap hh) own started (by kernel_rfl) Tryz.func3
  (ChangeSpec.witness_shaped (enc := enc) (C := Tryz.checked) (os := os) (X := fun w _ => laidMetH Tryz.prog Rows.systemsDeadlockRow.laid w) false (World.doorLaid Tryz.prog 400 os) #[.agg #[.int .u8 0, .int .u8 0, .slice none 0 0]] 8 rfl (World.shaped_of_RefB (by kernel_rfl) (by kernel_rfl)) (by kernel_rfl) (by kernel_rfl) (by kernel_rfl) (z6P os _)) ?_
 intro W base args ds gs before hval0 hW hcnd _ hL _
 have hval : ∀ (j : Nat) t v, Tryz.f3.params[j]? = some t → args[j]? = some v → Value.okWide Tryz.prog W .any base t v := hval0
 have hW' := hW
 obtain ⟨p, q, hA0, hV, rfl, hfz, hnd⟩ := hW
 have hA : DataW.TrodAll enc Tryz.prog W 0 (fun _ => true) true Tryz.f3.params.toList args.toList ds p := hA0
 rw [Tryz.params3] at hA hval
 obtain ⟨v0, d0, rfl, rfl, h0⟩ := trodAll_one hA
 obtain ⟨rfl, rfl⟩ := trodVars_none hV
 clear hA0 hval0
 refine (zfu hL h0 (hval 0 (25 : Nat) v0 rfl rfl)).mono fun e W' ⟨he, hk⟩ => ?_
 subst he
 have hb : Below W.heap.size W W' := ⟨hk.os, hk.tape, hk.output, hk.size, fun k q => hk.block k (by omega)⟩
 have hlt : ∀ x ∈ p, x.block < W.heap.size := fun x hx => by simpa using hW'.lt x (by simpa using hx)
 refine ⟨_, rfl, Go.Own.z4b rfl rfl hW' hb (fun _ _ _ => trodAll_cons_mk (shut_bool Tryz.underlying4 _) trodAll_mk0) (fun sp hsp => ?_) (ok_one (by kernel_rfl) rfl (okWide_bool_mk Tryz.underlying4 _))⟩
 have st : ∀ {t : Nat} {v : Value} {d : DataW H} {p' : List MemPlace}, DataW.Trod enc Tryz.prog W 0 (fun _ => true) true t v d p' → Tryz.prog.readableRec t = true → t < Tryz.prog.types.size → (∀ x ∈ p', x ∈ p) → DataW.Trod enc Tryz.prog W' 0 sp true t v d p' := by
  intro t v d p' hd h1 h2 hp
  exact WideElems.Trod_stays z8X h1 h2 hd (fun x hx => hb.same (hlt x (hp x hx))) (fun x hx => hsp x (by simpa using hp x hx))
 have := trodAll_mk1 (st h0 (by kernel_rfl) (of_decide_eq_true (by kernel_rfl)) (fun x hx => by simp [hx]))
 rw [Tryz.params3]
 exact this
theorem XR : Rows.systemsDeadlockRow.holds Tryz.pinned (OpenSpec.ofChange Rows.systemsDeadlockSpec) :=
 OpenClaim.holds_of_wide 3 Tryz.f3 rfl rfl rfl rfl rfl rfl rfl ⟨rfl, rfl, rfl, rfl, rfl⟩ rfl rfl rfl rfl rfl (by kernel_rfl) Tryz.func3 (by kernel_rfl)
  (of_decide_eq_true (by kernel_rfl)) (by unfold Func.isWrapper; first | (rw [if_pos (by decide +kernel)]; kernel_rfl) | (rw [if_neg (by decide +kernel)]; exact ⟨rfl, rfl⟩))
  (fun os started H enc _ => zaz os started H enc)
theorem proved : Rows.SystemsDeadlockCardSaid :=
 Claim7.holds_tied_plain_at .later [] [.sentinel] true (true, "7a337c67efc784e1f6936414ec661573001676227fe3319059bdf7cee06bd026") true
  XR (fun _ h => by cases h) (by kernel_rfl) (fun _ h => by cases h) systemsDeadlock_row_tie rfl ⟨rfl, rfl⟩ (by kernel_rfl) rfl
  (fun f fn hf hfn => by
   obtain rfl : f = 3 := Option.some.inj ((show Tryz.prog.funcNamed "gauntlet/gauntletlaw31.SystemsDeadlock" = some 3 by kernel_rfl).symm.trans hf) |>.symm
   obtain rfl : fn = Tryz.f3 := (Option.some.inj (Tryz.func3.symm.trans hfn)).symm
   exact ⟨by kernel_rfl, fun j t ht => by
    rw [Tryz.params3] at ht
    have hm : t ∈ [25] := by simpa using Array.mem_of_getElem? ht
    have hall : ([25].all fun u => !Tryz.prog.wantsStandIn u) = true := by kernel_rfl
    exact (show Tryz.prog.wantsStandIn t = false by simpa using List.all_eq_true.1 hall t hm)⟩)
  (by kernel_rfl)
#print axioms proved
end Go.Proofs.YtcldlioffanjaaaGreatDoor.systemsDeadlock
