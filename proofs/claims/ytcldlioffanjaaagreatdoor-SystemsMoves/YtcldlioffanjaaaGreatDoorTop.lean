/- -/
import Derived.Test.YtcldlioffanjaaaGreatDoorPartG
import Derived.Test.YtcldlioffanjaaaGreatDoorPartE
import Derived.Test.YtcldlioffanjaaaGreatDoorPartB
import Derived.OpenShut
import Derived.ChangeShapes
import Derived.Test.YtcldlioffanjaaaGreatDoorPartC
import Derived.WalkKit
import Derived.ProofKit
import Derived.Carry
import Derived.Test.YtcldlioffanjaaaGreatDoorRows
import Derived.Test.YtcldlioffanjaaaGreatDoorChecked
import Derived.LaidMore
import Derived.Stop.Joined
import Derived.SevenTiedAt
import Derived.Test.YtcldlioffanjaaaGreatDoorCards
import Derived.Test.YtcldlioffanjaaaGreatDoorTie
import Derived.Stop.LaidErr
import Derived.MakeChecks
set_option linter.unusedVariables false
set_option linter.unusedSimpArgs false
namespace Go.Own
theorem QY {c : z7} (hs : c.States.length ≤ 4) (hq : c.Queues.length ≤ 4) (p : Nat) (st ch : Int) (q : List Int) (hc : ch = -1 ∨ 0 ≤ ch) :
  qQ c (p : Int) st ch q = some ⟨c.States.set p st, if ch = -1 then c.Queues else c.Queues.set ch.toNat q⟩ := by
 unfold qQ
 have h5 : loop (fun s => qO c (p : Int) st s.1 s.2) (([] : List Int), 0) = some (c.States.set p st) := by
  have hl : (c.States.set p st).length = c.States.length := List.length_set
  refine Yi (fun j => ((c.States.set p st).take j, (j : Int))) c.States.length (by omega) (fun j hj => ?_) ?_
  ·have hv : c.States[j]? = some c.States[j] := List.getElem?_eq_getElem hj
   unfold qO kh
   dsimp only
   rw [decide_eq_true (by omega), cond_true, xg hv, oB, uJ (by omega) (by omega)]
   have e : (if p = j then st else c.States[j]) = (c.States.set p st)[j]'(by rw [hl]; exact hj) := by rw [List.getElem_set]
   by_cases q : j = p
   ·subst q
    rw [beq_self_eq_true, cond_true, gdT (by rw [List.length_take, List.length_singleton]; omega), List.take_add_one, List.getElem?_set_self hj]
    rfl
   ·rw [beq_false_of_ne (by omega), cond_false, gdT (by rw [List.length_take, List.length_singleton]; omega), List.take_add_one, List.getElem?_set_ne (fun h => q h.symm), hv]
    rfl
  ·unfold qO
   dsimp only
   rw [decide_eq_false (by omega), cond_false, List.take_of_length_le (by omega)]
 rw [bdT h5]
 unfold Zq
 have h3 : loop (fun s => qP c ch q s.1 s.2) (([] : List (List Int)), 0) = some (if ch = -1 then c.Queues else c.Queues.set ch.toNat q) := by
  have hl : (if ch = -1 then c.Queues else c.Queues.set ch.toNat q).length = c.Queues.length := by split <;> simp
  refine Yi (fun j => ((if ch = -1 then c.Queues else c.Queues.set ch.toNat q).take j, (j : Int))) c.Queues.length (by omega) (fun j hj => ?_) ?_
  ·have hv : c.Queues[j]? = some c.Queues[j] := List.getElem?_eq_getElem hj
   unfold qP ki
   dsimp only
   rw [decide_eq_true (by omega), cond_true, xg hv, oB, uJ (by omega) (by omega)]
   by_cases q1 : (j : Int) = ch
   ·subst q1
    rw [beq_self_eq_true, cond_true, gdT (by rw [List.length_take, List.length_singleton]; omega), List.take_add_one, if_neg (by omega), Int.toNat_natCast, List.getElem?_set_self hj]
    rfl
   ·rw [beq_false_of_ne q1, cond_false, gdT (by rw [List.length_take, List.length_singleton]; omega), List.take_add_one]
    have : (if ch = -1 then c.Queues else c.Queues.set ch.toNat q)[j]? = some c.Queues[j] := by
     split
     ·exact hv
     ·rw [List.getElem?_set_ne (by omega)]; exact hv
    rw [this]
    rfl
  ·unfold qP
   dsimp only
   rw [decide_eq_false (by omega), cond_false, List.take_of_length_le (by omega)]
 rw [bdT h3]
 rfl
theorem z1C {α β ρ : Type} {B : Nat} {f : Nat → α → List β} {g : Nat → α → List β → Option (LR (List β) ρ)} : ∀ {l : List α} {k : Nat} {acc : List β}, acc.length + (uN f l k).length ≤ B →
  (∀ (i : Nat) (x : α) (acc : List β), l[i]? = some x → acc.length + (f (k + i) x).length ≤ B → g (k + i) x acc = some (.next (acc ++ f (k + i) x))) → JT g l k acc = some (.next (acc ++ uN f l k))
 | [], k, acc, _, _ => by simp [JT, uN]
 | x :: l, k, acc, hb, h => by
  rw [uN, List.length_append] at hb
  have h0 := h 0 x acc rfl (by rw [Nat.add_zero]; omega)
  rw [Nat.add_zero] at h0
  rw [JT, h0, oB]
  show JT g l (k + 1) (acc ++ f k x) = _
  rw [z1C (f := f) (B := B) (by rw [List.length_append]; omega) (fun i y acc' hy hb' => by
   have := h (i + 1) y acc' (by simpa using hy)
   rw [show k + (i + 1) = k + 1 + i by omega] at this
   exact this hb'), uN, List.append_assoc]
theorem WT {β : Type} (f : Int × ze → List β) (l : List ze) (st : Int) : (vH l st).flatMap f = uN (fun i a => if a.From = st then f ((i : Int), a) else []) l 0 := by
 have gen : ∀ (l : List ze) (k : Nat), (uN (fun k a => if a.From = st then [((k : Int), a)] else []) l k).flatMap f = uN (fun i a => if a.From = st then f ((i : Int), a) else []) l k := by
  intro l
  induction l with
  | nil => intro k; rfl
  | cons a l ih =>
   intro k
   rw [uN, uN, List.flatMap_append, ih]
   split <;> simp
 exact gen l 0
theorem kS {α β γ : Type} (h : β → γ) (f : Nat → α → List β) : ∀ (l : List α) (k : Nat), (uN f l k).map h = uN (fun i x => (f i x).map h) l k
 | [], _ => rfl
 | x :: l, k => by rw [uN, uN, List.map_append, kS h f l]
def zcb {β ρ : Type} (L acc : List β) : Option (LR (List β) ρ) := match L with
 | [] => some (.next acc)
 | _ :: _ => gd (acc.length + L.length ≤ 4294967296) (some (.next (acc ++ L)))
theorem zas {α β : Type} {p : Prop} [Decidable p] {x : Option α} {f : α → β} : (gd p x).map f = gd p (x.map f) := by
 unfold gd
 split <;> rfl
theorem z99 {β ρ : Type} {L acc : List β} (h : acc.length + L.length ≤ 4294967296) : zcb (ρ := ρ) L acc = some (.next (acc ++ L)) := by
 cases L with
 | nil => simp [zcb]
 | cons x l => exact gdT h
theorem z4D {α β ρ : Type} {f : Nat → α → List β} {l : List α} {acc : List β} (h : acc.length + (uN f l 0).length ≤ 4294967296) : JT (ρ := ρ) (fun k x acc => zcb (f k x) acc) l 0 acc = some (.next (acc ++ uN f l 0)) :=
 z1C (B := 4294967296) h fun i x acc _ hb => z99 hb
theorem z0f {α β : Type} (l : List α) (hl : l.length < 4611686018427387904) {B : Nat} (f : Nat → α → List β) {step : List β × Int → Option (LR (List β × Int) (List β))} {acc : List β} (hb : acc.length + (uN f l 0).length ≤ B)
  (h : ∀ (i : Nat) (x : α) (s : List β), l[i]? = some x → s.length + (f i x).length ≤ B → step (s, (i : Int)) = some (.next (s ++ f i x, w64 ((i : Int) + 1)))) (h2 : ∀ s, step (s, (l.length : Int)) = some (.done s)) :
  loop step (acc, 0) = some (acc ++ uN f l 0) := by
 have gen : ∀ (n k : Nat) (acc : List β), k ≤ l.length → l.length - k < n → acc.length + (uN f (l.drop k) k).length ≤ B → WF step n (acc, (k : Int)) = some (acc ++ uN f (l.drop k) k) := by
  intro n
  induction n with
  | zero => intro k acc _ h _; omega
  | succ n ih =>
   intro k acc hk hn hb
   rw [ZC]
   rcases Nat.lt_or_ge k l.length with hlt | hge
   ·have hx : l[k]? = some l[k] := List.getElem?_eq_getElem hlt
    rw [List.drop_eq_getElem_cons hlt, uN, List.length_append] at hb
    rw [h k _ acc hx (by omega), List.drop_eq_getElem_cons hlt, uN]
    dsimp only
    rw [uJ (by omega) (by omega)]
    have := ih (k + 1) (acc ++ f k l[k]) hlt (by omega) (by rw [List.length_append]; omega)
    rw [List.append_assoc] at this
    exact this
   ·have : k = l.length := by omega
    subst this
    rw [h2, List.drop_length]
    simp [uN]
 exact gen fuel 0 acc (Nat.zero_le _) (by show l.length - 0 < 18446744073709551616; omega) hb
theorem JM {σ τ : Type} {step : σ → Option (LR σ τ)} {s : σ} {t : τ} (h : step s = some (.done t)) : loop step s = some t := by
 show WF step (18446744073709551615 + 1) s = _
 rw [ZC, h]
def qd (e : za × z7) : zh := ⟨e.1, e.2⟩
section
variable {x : z8} {c : z7}
theorem zah (h : MOk x c) {p o : Nat} (hp : p < x.Parts.length) {Po : zi} (ho : x.Parts[o]? = some Po) (hop : o ≠ p) (i : Int) (a : ze) {acc : List zh}
  (hb : acc.length + ((vH Po.Arcs (stv c o)).flatMap (two c p i a o)).length ≤ 4294967296) :
  loop (fun s => wx x c (p : Int) i a (o : Int) s.1 s.2) (acc, 0) = some (acc ++ ((vH Po.Arcs (stv c o)).flatMap (two c p i a o)).map qd) := by
 have hv := h.sys.part Po (List.mem_of_getElem? ho)
 have harc := hv.arcs
 obtain ⟨hol, hos⟩ := h.stat ho
 have hps : p < c.States.length := by have := h.cfg.sl; omega
 rw [WT] at hb ⊢
 rw [kS]
 have hb' : acc.length + (uN (fun (k : Nat) b => (if b.From = stv c o then two c p i a o ((k : Int), b) else []).map qd) Po.Arcs 0).length ≤ 4294967296 := by
  rw [← kS, List.length_map]; exact hb
 rw [Wx Po.Arcs (by omega) (ρ := List zh) (fun k b acc => zcb ((if b.From = stv c o then two c p i a o ((k : Int), b) else []).map qd) acc) z3m acc ?_ ?_]
 ·rw [z4D hb']
  rfl
 ·intro k b s hk
  have hkl := xC hk
  unfold wx wy
  dsimp only
  rw [xg ho, oB, decide_eq_true (by omega), cond_true, show ((o : Int) != (p : Int)) = true from bne_iff_ne.2 (by omega), cond_true, oB, xg hk, oB, xg hos]
  unfold two
  dsimp only
  by_cases q1 : b.Kind = 2
  ·rw [q1, beq_self_eq_true, cond_true, oB]
   by_cases q2 : b.From = stv c o
   ·rw [q2, beq_self_eq_true, cond_true, if_pos rfl]
    by_cases q3 : b.Channel = a.Channel
    ·rw [q3, beq_self_eq_true, cond_true]
     by_cases q4 : b.Message = a.Message
     ·rw [q4, beq_self_eq_true, cond_true, if_pos ⟨rfl, rfl, rfl⟩, QY h.s4 h.q4 p _ _ _ (.inl rfl), oB, if_pos rfl, QY (c := ⟨c.States.set p a.To, c.Queues⟩) (by rw [List.length_set]; exact h.s4) h.q4 o _ _ _ (.inl rfl), oB, if_pos rfl]
      show gd _ _ = (gd (s.length + 1 ≤ 4294967296) _).map _
      rw [zas]
      rfl
     ·rw [beq_false_of_ne q4, cond_false, if_neg (fun q => q4 q.2.2)]; rfl
    ·rw [beq_false_of_ne q3, cond_false, if_neg (fun q => q3 q.2.1)]; rfl
   ·rw [beq_false_of_ne q2, cond_false, if_neg q2]; rfl
  ·rw [beq_false_of_ne q1, cond_false]
   split
   ·rw [if_neg (fun q => q1 q.1)]; rfl
   ·rfl
 ·intro s
  unfold wx
  dsimp only
  rw [xg ho, oB, decide_eq_false (by omega), cond_false]
  rfl
theorem z6C (h : MOk x c) {p : Nat} (hp : p < x.Parts.length) (i : Int) (a : ze) (n : Int) {acc : List zh} (hb : acc.length + (VJ x c p i a).length ≤ 4294967296) :
  loop (fun s => wr x c (p : Int) i a n s.1 s.2) (acc, 0) = some (acc ++ (if a.Kind = 1 ∧ n = 0 then (VJ x c p i a).map qd else [])) := by
 have hpl := h.sys.pl
 by_cases q : a.Kind = 1 ∧ n = 0
 ·rw [if_pos q]
  unfold VJ at hb ⊢
  rw [kS]
  have hb' : acc.length + (uN (fun o (P : zi) => (if o = p then [] else (vH P.Arcs (stv c o)).flatMap (two c p i a o)).map qd) x.Parts 0).length ≤ 4294967296 := by
   rw [← kS, List.length_map]; exact hb
  have each : ∀ (o : Nat) (P : zi), x.Parts[o]? = some P → ((vH P.Arcs (stv c o)).flatMap (two c p i a o)).length ≤ 256 := by
   intro o P hP
   have h1 := UA (st := stv c o) (h.sys.part P (List.mem_of_getElem? hP)).arcs
   have h2 := Xo (f := two c p i a o) (l := vH P.Arcs (stv c o)) (b := 1) fun e _ => by unfold two; split <;> simp
   omega
  refine z0f x.Parts (by omega) (B := 4294967296) (fun o P => (if o = p then [] else (vH P.Arcs (stv c o)).flatMap (two c p i a o)).map qd) hb' ?_ ?_
  ·intro o P s hP hbs
   have ho := xC hP
   unfold wr kH
   dsimp only
   rw [decide_eq_true (by omega), cond_true, q.1, q.2, beq_self_eq_true, cond_true, beq_self_eq_true, cond_true]
   by_cases qo : o = p
   ·subst qo
    have : loop (fun s => wx x c (o : Int) i a (o : Int) s.1 s.2) (s, 0) = some s := by
     refine JM ?_
     unfold wx
     rw [xg hP, oB, bne_self_eq_false, cond_false]
     cases decide ((0 : Int) < ((P.Arcs.length : Nat) : Int)) <;> rfl
    rw [this, oB, if_pos rfl, List.map_nil, List.append_nil]
   ·rw [if_neg qo] at hbs
    rw [List.length_map] at hbs
    rw [zah h hp hP qo i a hbs, oB, if_neg qo]
  ·intro s
   unfold wr
   dsimp only
   rw [decide_eq_false (by omega), cond_false]
 ·rw [if_neg q, List.append_nil]
  refine JM ?_
  unfold wr
  rw [decide_eq_true (by omega), cond_true]
  by_cases q1 : a.Kind = 1
  ·rw [q1, beq_self_eq_true, cond_true, beq_false_of_ne (fun h => q ⟨q1, h⟩), cond_false]
  ·rw [beq_false_of_ne q1, cond_false]
theorem z4p (h : MOk x c) {p : Nat} {P : zi} (hP : x.Parts[p]? = some P) {i : Nat} {a : ze} (ha : P.Arcs[i]? = some a) {acc : List zh}
  (hb : acc.length + (if a.From = stv c p then one x c p ((i : Int), a) else []).length ≤ 4294967296) :
  uS x c (p : Int) acc (i : Int) = some (.next (acc ++ (if a.From = stv c p then one x c p ((i : Int), a) else []).map qd, w64 ((i : Int) + 1))) := by
 have hi := xC ha
 have hp := xC hP
 obtain ⟨hpl, hps⟩ := h.stat hP
 have hv := (h.sys.part P (List.mem_of_getElem? hP)).arc a (List.mem_of_getElem? ha)
 unfold uS
 rw [xg hP, oB, decide_eq_true (by omega), cond_true, oB, xg ha, oB, xg hps, oB]
 by_cases q : a.From = stv c p
 ·rw [if_pos q] at hb ⊢
  rw [q, bne_self_eq_false, cond_false]
  unfold one at hb ⊢
  dsimp only at hb ⊢
  by_cases q0 : a.Kind = 0
  ·rw [if_pos q0] at hb ⊢
   rw [q0, beq_self_eq_true, cond_true, QY h.s4 h.q4 p _ _ _ (.inl rfl), oB, if_pos rfl]
   rw [gdT (by simp only [List.length_singleton] at hb ⊢; exact hb)]
   rfl
  ·rw [if_neg q0] at hb ⊢
   obtain ⟨n, hn, hn4, e1, e2, hle, h4⟩ := h.chan hv q0
   have eq1 : idx c.Queues a.Channel = some (quv c a) := by rw [hn]; exact xg e1
   have eq2 : idx x.Channels a.Channel = some (rmv x a) := by rw [hn]; exact xg e2
   rw [beq_false_of_ne q0, cond_false, eq1, oB, eq2, oB]
   have j7 : ∀ (acc' : List zh), (acc'.length + (if a.Kind = 1 ∧ rmv x a = 0 then VJ x c p (i : Int) a else []).length ≤ 4294967296) → ws x c (p : Int) (i : Int) a (rmv x a) acc' = some (.next (acc' ++ (if a.Kind = 1 ∧ rmv x a = 0 then (VJ x c p (i : Int) a).map qd else []), w64 ((i : Int) + 1))) := by
    intro acc' hb'
    unfold ws vM
    by_cases q1 : a.Kind = 1 ∧ rmv x a = 0
    ·rw [if_pos q1] at hb'
     rw [z6C h hp i a _ hb', oB]
    ·have : loop (fun s => wr x c (p : Int) (i : Int) a (rmv x a) s.1 s.2) (acc', 0) = some (acc' ++ []) := by
      rw [List.append_nil]
      refine JM ?_
      unfold wr
      rw [decide_eq_true (by omega), cond_true]
      by_cases q2 : a.Kind = 1
      ·rw [q2, beq_self_eq_true, cond_true, beq_false_of_ne (fun h => q1 ⟨q2, h⟩), cond_false]
      ·rw [beq_false_of_ne q2, cond_false]
     rw [this, oB, if_neg q1]
   by_cases q1 : a.Kind = 1
   ·have j6 : ∀ acc', wV x c (p : Int) (i : Int) a (quv c a) (rmv x a) acc' = ws x c (p : Int) (i : Int) a (rmv x a) acc' := by
     intro acc'
     unfold wV
     rw [q1, show ((1 : Int) == 2) = false from rfl, cond_false]
    rw [show (a.Kind == 1) = true from beq_iff_eq.2 q1, cond_true, j6]
    by_cases q2 : rmv x a = 0
    ·rw [if_pos q2, if_pos q1] at hb ⊢
     rw [decide_eq_false (by omega), cond_false, j7 _ (by rw [if_pos ⟨q1, q2⟩]; exact hb), if_pos ⟨q1, q2⟩]
    ·rw [if_neg q2, if_pos q1] at hb ⊢
     by_cases q3 : ((quv c a).length : Int) < rmv x a
     ·rw [if_pos q3] at hb ⊢
      rw [decide_eq_true q3, cond_true, gdT (by simp; omega), gdT (by simp; omega), QY h.s4 h.q4 p _ _ _ (.inr (by omega)), oB, if_neg (by omega), gdT (by simp only [List.length_singleton] at hb ⊢; exact hb), j6, j7 _ (by rw [if_neg (fun h => q2 h.2)]; simp at hb ⊢; omega), if_neg (fun h => q2 h.2), List.append_nil]
      rfl
     ·rw [if_neg q3]
      rw [decide_eq_false q3, cond_false, j7 _ (by rw [if_neg (fun h => q2 h.2)]; rw [if_neg q3] at hb; exact hb), if_neg (fun h => q2 h.2)]
      rfl
   ·have q2 : a.Kind = 2 := by have := hv.kind; omega
    rw [beq_false_of_ne q1, cond_false]
    unfold wV
    rw [q2, show ((2 : Int) == 2) = true from rfl, cond_true]
    cases hq : quv c a with
    | nil =>
     rw [hq] at hb
     have e0 : (if rmv x a = 0 then if (2 : Int) = 1 then VJ x c p (i : Int) a else [] else if (2 : Int) = 1 then (if ((([] : List Int).length : Nat) : Int) < rmv x a then [(⟨(p : Int), (i : Int), -1, -1⟩, ⟨c.States.set p a.To, c.Queues.set a.Channel.toNat (([] : List Int) ++ [a.Message])⟩)] else []) else if ([] : List Int).head? = some a.Message then [(⟨(p : Int), (i : Int), -1, -1⟩, ⟨c.States.set p a.To, c.Queues.set a.Channel.toNat ([] : List Int).tail⟩)] else ([] : List (za × z7))) = [] := by
      simp
     rw [e0, decide_eq_false (by simp), cond_false, j7 acc (by rw [if_neg (fun h => q1 h.1)]; simp; simp at hb; omega), if_neg (fun h => q1 h.1)]
     rfl
    | cons m l =>
     rw [hq] at hb hle
     simp only [List.length_cons] at hle
     have hr : rmv x a ≠ 0 := by omega
     rw [if_neg hr, if_neg (by omega)]
     rw [if_neg hr, if_neg q1] at hb
     rw [decide_eq_true (by simp), cond_true, show idx (m :: l) 0 = some m from rfl, oB]
     by_cases q3 : m = a.Message
     ·have q3' : (m :: l).head? = some a.Message := by rw [q3]; rfl
      rw [if_pos q3'] at hb ⊢
      rw [show (m == a.Message) = true from beq_iff_eq.2 q3, cond_true, gdT (by simp only [List.length_cons]; omega), QY h.s4 h.q4 p _ _ _ (.inr (by omega)), oB, if_neg (by omega), gdT (by simp only [List.length_singleton] at hb ⊢; exact hb), j7 _ (by rw [if_neg (fun h => q1 h.1)]; simp at hb ⊢; omega), if_neg (fun h => q1 h.1), List.append_nil]
      rfl
     ·have q3' : ¬(m :: l).head? = some a.Message := fun h => q3 (Option.some.inj h)
      rw [if_neg q3'] at hb ⊢
      rw [beq_false_of_ne q3, cond_false, j7 _ (by rw [if_neg (fun h => q1 h.1)]; exact hb), if_neg (fun h => q1 h.1)]
      rfl
 ·rw [if_neg q, show (a.From != stv c p) = true from bne_iff_ne.2 q, cond_true]
  unfold vM
  rw [List.map_nil, List.append_nil]
theorem z2T (h : MOk x c) : kC x c = some ((mvs x c).map qd) := by
 have hpl := h.sys.pl
 have hlen := z0c (c := c) h.sys
 unfold kC
 have hl : loop (fun s => uT x c s.1 s.2) (([] : List zh), 0) = some ([] ++ (mvs x c).map qd) := by
  unfold mvs at hlen ⊢
  rw [kS]
  refine z0f x.Parts (by omega) (B := 2097152) (fun p P => ((vH P.Arcs (stv c p)).flatMap (one x c p)).map qd) (by rw [← kS, List.length_map, List.length_nil]; omega) ?_ ?_
  ·intro p P s hP hbs
   have hp := xC hP
   have harc := (h.sys.part P (List.mem_of_getElem? hP)).arcs
   unfold uT kI
   dsimp only
   rw [decide_eq_true (by omega), cond_true]
   rw [WT, kS] at hbs ⊢
   rw [z0f P.Arcs (by omega) (B := 2097152) (fun i a => (if a.From = stv c p then one x c p ((i : Int), a) else []).map qd) hbs ?_ ?_]
   ·rfl
   ·intro i a s' ha hb'
    rw [List.length_map] at hb'
    have := z4p h hP ha (acc := s') (by omega)
    exact this
   ·intro s'
    unfold uS
    dsimp only
    rw [xg hP, oB, decide_eq_false (by omega), cond_false]
  ·intro s
   unfold uT
   dsimp only
   rw [decide_eq_false (by omega), cond_false]
 rw [bdT hl]
 rfl
end
def z5n : List Int → List Int → Int
 | x :: a, y :: b => if x = y then z5n a b else if x < y then 1 else 0
 | _, _ => 0
theorem K1 : ∀ a, z5n a a = 0
 | [] => rfl
 | x :: a => by rw [z5n, if_pos rfl, K1 a]
theorem z51 : ∀ {a b : List Int}, a.length = b.length → a ≠ b → z5n a b = 1 ∨ z5n b a = 1
 | [], [], _, h => absurd rfl h
 | x :: a, y :: b, hl, h => by
  simp only [z5n]
  by_cases q : x = y
  ·subst q
   rw [if_pos rfl, if_pos rfl]
   exact z51 (by simpa using hl) (fun e => h (by rw [e]))
  ·rw [if_neg q, if_neg (show ¬y = x from fun e => q e.symm)]
   by_cases q2 : x < y
   ·exact .inl (if_pos q2)
   ·exact .inr (if_pos (by omega))
theorem K0 {a b : List Int} (hl : a.length = b.length) (hb : a.length < 4611686018427387904) : jB a b = some (z5n a b) := by
 unfold jB
 rw [hl, bne_self_eq_false, cond_false]
 rw [bdT (VG a hb (fun i x => match b[i]? with | none => none | some y => if x = y then none else some (if x < y then (1 : Int) else 0)) ?_ ?_)]
 ·have gen : ∀ (l m : List Int) (k : Nat), b.drop k = m → l.length = m.length → (match oS (Yj (fun i x => match b[i]? with | none => none | some y => if x = y then none else some (if x < y then (1 : Int) else 0)) l k) with | .inl _ => some 0 | .inr p => some p) = some (z5n l m) := by
   intro l
   induction l with
   | nil => intro m k _ hm; cases m with
    | nil => rfl
    | cons y m => simp at hm
   | cons x l ih =>
    intro m k hd hm
    cases m with
    | nil => simp at hm
    | cons y m =>
     have hk : b[k]? = some y := by
      have := congrArg (fun z => z[0]?) hd
      simpa using this
     have hd' : b.drop (k + 1) = m := by
      rw [← List.drop_drop, hd]; rfl
     rw [z5n, Yj, hk]
     dsimp only
     by_cases q : x = y
     ·rw [if_pos q, if_pos q]
      exact ih m (k + 1) hd' (by simpa using hm)
     ·rw [if_neg q, if_neg q]
      rfl
  exact gen a b 0 rfl hl
 ·intro i x hx
  have hi := xC hx
  have hy : b[i]? = some (b[i]'(by omega)) := List.getElem?_eq_getElem _
  generalize b[i]'(by omega) = y at hy
  unfold qG
  rw [decide_eq_true (by omega), cond_true, xg hx, oB, xg hy, oB, hy]
  dsimp only
  by_cases q : x = y
  ·rw [q, bne_self_eq_false, cond_false, if_pos rfl]
   rfl
  ·rw [show (x != y) = true from bne_iff_ne.2 q, cond_true, oB, oB, if_neg q]
   by_cases q2 : x < y
   ·rw [decide_eq_true q2, cond_true, if_pos q2]; rfl
   ·rw [decide_eq_false q2, cond_false, if_neg q2]; rfl
 ·unfold qG
  rw [decide_eq_false (by omega), cond_false]
theorem z0Y {a b : List Int} (ha : a.length < 4611686018427387904) (hb : b.length < 4611686018427387904) : ZA a b = some (if a = b then 1 else 0) := by
 unfold ZA
 by_cases hl : a.length = b.length
 ·rw [hl, bne_self_eq_false, cond_false, K0 hl ha, oB]
  by_cases q : a = b
  ·subst q
   rw [K1, show ((0 : Int) == 1) = false from rfl, cond_false, K0 rfl ha, K1, oB, if_pos rfl]
   rfl
  ·rw [if_neg q]
   by_cases q1 : z5n a b = 1
   ·rw [q1, beq_self_eq_true, cond_true]
   ·rw [beq_false_of_ne q1, cond_false, K0 hl.symm hb, oB, (z51 hl q).resolve_left q1, beq_self_eq_true, cond_true]
 ·rw [show (((a.length : Nat) : Int) != ((b.length : Nat) : Int)) = true from bne_iff_ne.2 (by omega), cond_true, if_neg (fun e => hl (by rw [e]))]
instance decCfg : DecidableEq z7 := fun a b => decidable_of_iff (a.States = b.States ∧ a.Queues = b.Queues) (by cases a; cases b; simp)
structure CS (c : z7) : Prop where
 s : c.States.length ≤ 4
 q : c.Queues.length ≤ 4
 b : ∀ q ∈ c.Queues, q.length ≤ 4
theorem MOk.cs {x : z8} {c : z7} (h : MOk x c) : CS c := ⟨h.s4, h.q4, h.qb⟩
theorem z0X {a b : z7} (ha : CS a) (hb : CS b) : uR a b = some (if a = b then 1 else 0) := by
 have a1 := ha.s; have a2 := ha.q; have b1 := hb.s; have b2 := hb.q
 unfold uR
 rw [z0Y (by omega) (by omega), oB]
 by_cases q : a.States = b.States
 ·rw [if_pos q, show ((1 : Int) == 0) = false from rfl, cond_false]
  by_cases ql : a.Queues.length = b.Queues.length
  ·rw [ql, bne_self_eq_false, cond_false]
   rw [bdT (VG a.Queues (by omega) (fun i x => if some x = b.Queues[i]? then none else some (0 : Int)) ?_ ?_)]
   ·cases hf : Yj (fun i x => if some x = b.Queues[i]? then none else some (0 : Int)) a.Queues 0 with
    | none =>
     have hq : a.Queues = b.Queues := by
      refine List.ext_getElem? fun i => ?_
      rcases Nat.lt_or_ge i a.Queues.length with hi | hi
      ·have hx : a.Queues[i]? = some a.Queues[i] := List.getElem?_eq_getElem hi
       have := VM hf i _ hx
       rw [Nat.zero_add] at this
       split at this
       ·rename_i e; rw [hx]; exact e
       ·cases this
      ·rw [List.getElem?_eq_none hi, List.getElem?_eq_none (by omega)]
     have : a = b := by
      cases a; cases b
      simp only at q hq
      rw [q, hq]
     rw [if_pos this]
     rfl
    | some r =>
     obtain ⟨i, x, h1, h2⟩ := Vb hf
     rw [Nat.zero_add] at h2
     split at h2
     ·cases h2
     ·rename_i hne
      cases h2
      rw [if_neg (fun e => hne (by rw [← e]; exact h1.symm))]
      rfl
   ·intro i x hx
    have hi := xC hx
    have hy : b.Queues[i]? = some (b.Queues[i]'(by omega)) := List.getElem?_eq_getElem _
    generalize b.Queues[i]'(by omega) = y at hy
    have l1 := ha.b x (List.mem_of_getElem? hx)
    have l2 := hb.b y (List.mem_of_getElem? hy)
    unfold kj
    rw [decide_eq_true (by omega), cond_true, xg hx, oB, xg hy, oB, z0Y (by omega) (by omega), oB, hy]
    by_cases e : x = y
    ·rw [if_pos e, if_pos (by rw [e])]; rfl
    ·rw [if_neg e, if_neg (fun h => e (Option.some.inj h))]; rfl
   ·unfold kj
    rw [decide_eq_false (by omega), cond_false]
  ·rw [show (((a.Queues.length : Nat) : Int) != ((b.Queues.length : Nat) : Int)) = true from bne_iff_ne.2 (by omega), cond_true, if_neg (fun e => ql (by rw [e]))]
 ·rw [if_neg q, show ((0 : Int) == 0) = true from rfl, cond_true, if_neg (fun e => q (by rw [e]))]
theorem z4m {α : Type} (l : List α) (hl : l.length < 4611686018427387904) (p : α → Bool) {step : Int → Option (LR Int Int)} (h : ∀ (i : Nat) (x : α), l[i]? = some x → step (i : Int) = some (bif p x then .done (i : Int) else .next (w64 ((i : Int) + 1)))) (h2 : step (l.length : Int) = some (.done (l.length : Int))) :
  loop step 0 = some ((l.findIdx p : Nat) : Int) := by
 have hle := List.findIdx_le_length (p := p) (xs := l)
 refine Yi (fun j => (j : Int)) (l.findIdx p) (by omega) (fun j hj => ?_) ?_
 ·have hx : l[j]? = some (l[j]'(by omega)) := List.getElem?_eq_getElem _
  have hp := List.not_of_lt_findIdx hj
  rw [h j _ hx, show p (l[j]'(by omega)) = false by simpa using hp, cond_false, uJ (by omega) (by omega)]
  rfl
 ·rcases Nat.lt_or_ge (l.findIdx p) l.length with q | q
  ·have hx : l[l.findIdx p]? = some (l[l.findIdx p]'q) := List.getElem?_eq_getElem _
   rw [h _ _ hx, List.findIdx_getElem (w := q), cond_true]
  ·have : l.findIdx p = l.length := by omega
   rw [this]
   exact h2
def fnd (l : List z7) (c : z7) : Nat := l.findIdx fun y => decide (y = c)
def Zk (s : List z7 × List z6) (e : za × z7) : List z7 × List z6 :=
 (if fnd s.1 e.2 = s.1.length then s.1 ++ [e.2] else s.1, s.2 ++ [⟨e.1, (fnd s.1 e.2 : Nat)⟩])
theorem z1z (l : List (za × z7)) : ∀ s, (l.foldl Zk s).1.length ≤ s.1.length + l.length ∧ (l.foldl Zk s).2.length = s.2.length + l.length ∧ s.1.length ≤ (l.foldl Zk s).1.length := by
 induction l with
 | nil => intro s; exact ⟨Nat.le_refl _, rfl, Nat.le_refl _⟩
 | cons e l ih =>
  intro s
  obtain ⟨h1, h2, h3⟩ := ih (Zk s e)
  have e1 : (Zk s e).1.length ≤ s.1.length + 1 ∧ s.1.length ≤ (Zk s e).1.length := by
   unfold Zk
   dsimp only
   split
   ·rw [List.length_append, List.length_singleton]; omega
   ·omega
  have e2 : (Zk s e).2.length = s.2.length + 1 := by
   unfold Zk
   dsimp only
   rw [List.length_append, List.length_singleton]
  rw [List.foldl_cons, List.length_cons]
  omega
theorem z1y {P : z7 → Prop} (l : List (za × z7)) : ∀ s, (∀ c ∈ s.1, P c) → (∀ e ∈ l, P e.2) → ∀ c ∈ (l.foldl Zk s).1, P c := by
 induction l with
 | nil => intro s h _; exact h
 | cons e l ih =>
  intro s h he
  refine ih (Zk s e) ?_ (fun e' h' => he e' (List.mem_cons_of_mem _ h'))
  intro c hc
  unfold Zk at hc
  dsimp only at hc
  split at hc
  ·rcases List.mem_append.1 hc with hc | hc
   ·exact h c hc
   ·rw [List.mem_singleton.1 hc]; exact he e List.mem_cons_self
  ·exact h c hc
section
variable {x : z8}
theorem zcK {c : z7} (h : MOk x c) {list : List z7} (hm : ∀ d ∈ list, MOk x d) (hl : list.length ≤ 1048576) :
  loop (fun s => uV ((mvs x c).map qd) s.1 s.2.1 s.2.2) (list, ([] : List z6), 0) = some ((mvs x c).foldl Zk (list, [])) := by
 have hlen := z0c (c := c) h.sys
 have hok : ∀ j, ∀ d ∈ (((mvs x c).take j).foldl Zk (list, [])).1, MOk x d := fun j => z1y _ _ hm fun e he => z1i h (List.mem_of_mem_take he)
 refine Yi (fun j => ((((mvs x c).take j).foldl Zk (list, [])).1, (((mvs x c).take j).foldl Zk (list, [])).2, (j : Int))) (mvs x c).length (by omega) (fun j hj => ?_) ?_
 ·have he : (mvs x c)[j]? = some (mvs x c)[j] := List.getElem?_eq_getElem hj
  have hem := z1i h (List.mem_of_getElem? he)
  have hle : ((mvs x c).map qd)[j]? = some (qd (mvs x c)[j]) := by rw [List.getElem?_map, he]; rfl
  have hk := hok j
  obtain ⟨g1, g2, _⟩ := z1z ((mvs x c).take j) (list, [])
  rw [List.length_take] at g1 g2
  have hnext : ((mvs x c).take (j + 1)).foldl Zk (list, []) = Zk (((mvs x c).take j).foldl Zk (list, [])) (mvs x c)[j] := by
   rw [List.take_add_one, he, List.foldl_append]
   rfl
  dsimp only
  rw [hnext]
  generalize ((mvs x c).take j).foldl Zk (list, []) = st at *
  generalize (mvs x c)[j] = e at *
  obtain ⟨li, l⟩ := st
  dsimp only at *
  unfold uV
  rw [List.length_map, decide_eq_true (by omega), cond_true]
  have h9 : loop (fun s => uU ((mvs x c).map qd) li (j : Int) s) 0 = some ((fnd li e.2 : Nat) : Int) := by
   refine z4m li (by omega) (fun y => decide (y = e.2)) (fun i y hy => ?_) ?_
   ·have hi := xC hy
    unfold uU
    rw [decide_eq_true (by omega), cond_true, xg hy, oB, xg hle, oB]
    show Option.bind (uR y e.2) _ = _
    rw [z0X (hk y (List.mem_of_getElem? hy)).cs hem.cs, oB]
    by_cases q : y = e.2
    ·rw [if_pos q, decide_eq_true q]; rfl
    ·rw [if_neg q, decide_eq_false q]; rfl
   ·unfold uU
    rw [decide_eq_false (by omega), cond_false]
  rw [h9, oB]
  unfold kJ ja kK Zk
  dsimp only
  rw [uJ (by omega) (by omega)]
  by_cases q : fnd li e.2 = li.length
  ·rw [q, beq_self_eq_true, cond_true, xg hle, oB, gdT (by rw [List.length_singleton]; omega), oB, gdT (by rw [List.length_singleton]; simp at g2; omega), if_pos rfl]
   rfl
  ·rw [beq_false_of_ne (by omega), cond_false, xg hle, oB, gdT (by rw [List.length_singleton]; simp at g2; omega), if_neg q]
   rfl
 ·dsimp only
  unfold uV
  rw [List.length_map, decide_eq_false (by omega), cond_false, List.take_length]
def z8S (x : z8) (n : Nat) (s : List z7 × List (List z6)) : List z7 × List (List z6) :=
 match s.1[n]? with
 | none => s
 | some c => (((mvs x c).foldl Zk (s.1, [])).1, s.2 ++ [((mvs x c).foldl Zk (s.1, [])).2])
def WS (x : z8) : Nat → List z7 × List (List z6)
 | 0 => ([beg x], [])
 | n + 1 => z8S x n (WS x n)
theorem z2f (hv : z5o x) : ∀ n, (∀ d ∈ (WS x n).1, MOk x d) ∧ 1 ≤ (WS x n).1.length
 | 0 => ⟨fun d hd => by rw [List.mem_singleton.1 hd]; exact zaI hv, Nat.le_refl _⟩
 | n + 1 => by
  obtain ⟨h1, h2⟩ := z2f hv n
  rw [WS, z8S]
  split
  ·exact ⟨h1, h2⟩
  ·rename_i c hc
   have hco := h1 c (List.mem_of_getElem? hc)
   refine ⟨z1y _ _ h1 fun e he => z1i hco he, ?_⟩
   have := (z1z (mvs x c) ((WS x n).1, [])).2.2
   dsimp only at this ⊢
   omega
theorem z4A (hv : z5o x) {most : Nat} (hmost : most ≤ 1048576) :
  ∃ n, ZJ x (most : Int) = some (WS x n) ∧ ((WS x n).1.length ≤ n ∨ most < (WS x n).1.length) ∧ ∀ m, m < n → m < (WS x m).1.length ∧ (WS x m).1.length ≤ most := by
 unfold ZJ
 rw [z6S hv, oB]
 have hl : Ret (loop (fun s => j9 x (most : Int) s.1 s.2.1 s.2.2) (([beg x] : List z7), ([] : List (List z6)), 0)) (fun r => ∃ n, r = WS x n ∧ ((WS x n).1.length ≤ n ∨ most < (WS x n).1.length) ∧ ∀ m, m < n → m < (WS x m).1.length ∧ (WS x m).1.length ≤ most) := by
  refine QP (fun s => ∃ n : Nat, s = ((WS x n).1, (WS x n).2, (n : Int)) ∧ n ≤ most + 1 ∧ (WS x n).2.length ≤ n ∧ ∀ m, m < n → m < (WS x m).1.length ∧ (WS x m).1.length ≤ most) (fun s => most + 1 - s.2.2.toNat) ⟨0, rfl, by omega, Nat.le_refl _, fun m hm => by omega⟩ (by show most + 1 - 0 < _; omega) ?_
  rintro s ⟨n, rfl, hn, hs, hm⟩
  dsimp only
  unfold j9
  obtain ⟨hok, h1⟩ := z2f hv n
  by_cases q : n < (WS x n).1.length
  ·by_cases q2 : (WS x n).1.length ≤ most
   ·have hc : (WS x n).1[n]? = some (WS x n).1[n] := List.getElem?_eq_getElem q
    have hco := hok _ (List.mem_of_getElem? hc)
    have hg : WS x (n + 1) = (((mvs x (WS x n).1[n]).foldl Zk ((WS x n).1, [])).1, (WS x n).2 ++ [((mvs x (WS x n).1[n]).foldl Zk ((WS x n).1, [])).2]) := by
     rw [WS, z8S, hc]
    rw [decide_eq_true (by omega), cond_true, decide_eq_true (by omega), cond_true, xg hc, oB, z2T hco, oB, zcK hco hok (by omega), oB]
    unfold kL kM
    rw [gdT (by rw [List.length_singleton]; omega), uJ (by omega) (by omega)]
    refine jk.2 ⟨⟨n + 1, by rw [hg]; rfl, by omega, by rw [hg]; dsimp only; rw [List.length_append, List.length_singleton]; omega, fun m hm' => ?_⟩, ?_⟩
    ·rcases Nat.lt_or_ge m n with q3 | q3
     ·exact hm m q3
     ·have : m = n := by omega
      subst this
      exact ⟨q, q2⟩
    ·show most + 1 - ((n : Int) + 1).toNat < most + 1 - (n : Int).toNat
     omega
   ·rw [decide_eq_true (by omega), cond_true, decide_eq_false (by omega), cond_false]
    exact jk.2 ⟨n, rfl, .inr (by omega), hm⟩
  ·rw [decide_eq_false (by omega), cond_false]
   exact jk.2 ⟨n, rfl, .inl (by omega), hm⟩
 obtain ⟨r, e, n, rfl, h1, h2⟩ := hl
 rw [bdT e]
 exact ⟨n, rfl, h1, h2⟩
end
theorem z1k : ZP = some true := by kernel_rfl
def Ok5 (a : Int) : Prop := (0) ≤ a ∧ a ≤ 255
def zeX (a : z73 Int) : Prop := Ok5 a.e0 ∧ Ok5 a.e1
def zdy (a : z3t Int) : Prop := Ok5 a.e0 ∧ Ok5 a.e1 ∧ Ok5 a.e2 ∧ Ok5 a.e3 ∧ Ok5 a.e4
def zeT (l : List (z3t Int)) : Prop := ∀ a ∈ l, zdy a
def zdz (a : xA) : Prop := Ok5 a.States ∧ Ok5 a.Final ∧ zeT a.Arcs
def zeW (l : List xA) : Prop := ∀ a ∈ l, zdz a
def zeV (a : ya) : Prop := zeX a.Channels ∧ zeW a.Parts
def Ok3 (a : Int) : Prop := (-9223372036854775808) ≤ a ∧ a ≤ 9223372036854775807
def zeU (a : za) : Prop := Ok3 a.Part ∧ Ok3 a.Arc ∧ Ok3 a.Other ∧ Ok3 a.With
theorem z8A (a b : za) : ((a.Part == b.Part) && ((a.Arc == b.Arc) && ((a.Other == b.Other) && ((a.With == b.With) && true)))) = true ↔ a = b := by
 obtain ⟨a1, a2, a3, a4⟩ := a
 obtain ⟨b1, b2, b3, b4⟩ := b
 simp
theorem z6t {x : ya} {n : Int} {m : za} (hx : zeV x) (hn : Ok5 n) (hm : zeU m) : qh x n m = some true := by
 obtain ⟨⟨hc0, hc1⟩, hps⟩ := hx
 have hy : OkY x := ⟨hc0, hc1, fun z hz => ⟨(hps z hz).1, fun a ha => (hps z hz).2.2 a ha⟩⟩
 obtain ⟨s, e, hs⟩ := za9 hy
 have hvs := z4u hy hs
 obtain ⟨k, eg, _, _⟩ := z4A hvs (most := 60) (by omega)
 obtain ⟨hok, h1⟩ := z2f hvs k
 unfold qh
 rw [show ya.mk x.Channels x.Parts = x from rfl, e, oB, show (60 : Int) = ((60 : Nat) : Int) from rfl, eg, oB]
 generalize (WS s k).1 = list at *
 obtain ⟨n0, n1⟩ := hn
 rw [gdT (by omega), uJ (by omega) (by omega), Int.tmod_eq_emod_of_nonneg n0]
 have m0 := Int.emod_nonneg n (b := (list.length : Int)) (by omega)
 have m1 := Int.emod_lt_of_pos n (b := (list.length : Int)) (by omega)
 generalize n % (list.length : Int) = j at m0 m1
 have hj : list[j.toNat]? = some (list[j.toNat]'(by omega)) := List.getElem?_eq_getElem _
 generalize list[j.toNat]'(by omega) = c at hj
 have hc := hok c (List.mem_of_getElem? hj)
 have hji : idx list j = some c := by
  rw [show j = ((j.toNat : Nat) : Int) by omega]
  exact xg hj
 have hlen := z0c (c := c) hvs
 rw [hji, oB, z4i hc, oB, z2T hc, oB]
 dsimp only
 rw [bne_self_eq_false, cond_false, List.length_map, List.length_map, bne_self_eq_false, cond_false, cond_false]
 have hgo : ∀ e ∈ mvs s c, jz s c e.1 = some (e.2, 0) := by
  intro e he
  rcases z7o hc e.1 with ⟨to, h1, h2⟩ | ⟨h1, _⟩
  ·rw [h2, z8z rfl he h1 rfl]
  ·exact absurd rfl (h1 e he)
 have hl : loop (fun z => xL m s c ((mvs s c).map (·.1), 0) ((mvs s c).map qd) z.1 z.2) (false, 0) = some (.inl ((mvs s c).any fun e => (e.1.Part == m.Part) && ((e.1.Arc == m.Arc) && ((e.1.Other == m.Other) && ((e.1.With == m.With) && true))))) := by
  refine Yi (fun j => (((mvs s c).take j).any fun e => (e.1.Part == m.Part) && ((e.1.Arc == m.Arc) && ((e.1.Other == m.Other) && ((e.1.With == m.With) && true))), (j : Int))) (mvs s c).length (by omega) (fun j hj => ?_) ?_
  ·have he : (mvs s c)[j]? = some (mvs s c)[j] := List.getElem?_eq_getElem hj
   have hnext : ((mvs s c).take (j + 1)).any (fun e => (e.1.Part == m.Part) && ((e.1.Arc == m.Arc) && ((e.1.Other == m.Other) && ((e.1.With == m.With) && true)))) = (((mvs s c).take j).any (fun e => (e.1.Part == m.Part) && ((e.1.Arc == m.Arc) && ((e.1.Other == m.Other) && ((e.1.With == m.With) && true)))) || (((mvs s c)[j].1.Part == m.Part) && (((mvs s c)[j].1.Arc == m.Arc) && (((mvs s c)[j].1.Other == m.Other) && (((mvs s c)[j].1.With == m.With) && true))))) := by
    rw [List.take_add_one, he, List.any_append]
    simp
   dsimp only
   rw [hnext]
   generalize (((mvs s c).take j).any (fun e => (e.1.Part == m.Part) && ((e.1.Arc == m.Arc) && ((e.1.Other == m.Other) && ((e.1.With == m.With) && true))))) = there
   have hmem := List.mem_of_getElem? he
   generalize (mvs s c)[j] = e at *
   have e1 : ((mvs s c).map (·.1))[j]? = some e.1 := by rw [List.getElem?_map, he]; rfl
   have e2 : ((mvs s c).map qd)[j]? = some (qd e) := by rw [List.getElem?_map, he]; rfl
   have hok' := z1i hc hmem
   unfold xL wB
   rw [List.length_map, decide_eq_true (by omega), cond_true]
   dsimp only
   rw [xg e1, oB, hgo e hmem, oB, oB, xg e2, oB]
   rw [show ((e.1.Part == (qd e).Move.Part) && ((e.1.Arc == (qd e).Move.Arc) && ((e.1.Other == (qd e).Move.Other) && ((e.1.With == (qd e).Move.With) && true)))) = true from (z8A e.1 e.1).2 rfl]
   dsimp only
   rw [Bool.not_true, cond_false, bne_self_eq_false, cond_false, oB]
   rw [show uR e.2 (qd e).To = some 1 from (z0X hok'.cs hok'.cs).trans (by rw [if_pos rfl]), oB, show ((1 : Int) == 0) = false from rfl, cond_false, uJ (by omega) (by omega)]
   cases there <;> rfl
  ·dsimp only
   unfold xL
   rw [List.length_map, decide_eq_false (by omega), cond_false, List.take_length]
 rw [bdT hl]
 dsimp only
 unfold vD
 rw [z1k]
 rcases z7o hc m with ⟨to, h2, h3⟩ | ⟨h2, h3⟩
 ·rw [h3, oB]
  have : ((mvs s c).any fun e => (e.1.Part == m.Part) && ((e.1.Arc == m.Arc) && ((e.1.Other == m.Other) && ((e.1.With == m.With) && true)))) = true := List.any_eq_true.2 ⟨_, h2, (z8A m m).2 rfl⟩
  rw [this, cond_true]
  rfl
 ·rw [h3, oB]
  have : ((mvs s c).any fun e => (e.1.Part == m.Part) && ((e.1.Arc == m.Arc) && ((e.1.Other == m.Other) && ((e.1.With == m.With) && true)))) = false := List.any_eq_false.2 fun e he hq => h2 e he ((z8A e.1 m).1 hq)
  rw [this, cond_false]
  rfl
def Ub (w : World) : zr := fun b o => ym w.heap b o
theorem z2m {w : World} {a : Addr} {v : Value} (h : w.cell? a = some v) : a.spot = none ∧ ym w.heap a.block a.off = some v := by
 unfold World.cell? at h
 unfold ym
 split at h
 ·rename_i c ty fr he
  rw [he]
  split at h
  ·cases h
  ·rename_i hs
   exact ⟨by simpa using hs, h⟩
 ·cases h
section
variable {H : Type} {enc : TypeId × Value → H} {P : Program} {w : World} {base : Nat} {spare : Nat → Bool} {held : Bool}
theorem z4R {a : Addr} {n : Nat} {cs : List Value} (h : w.cells? base a n = some cs) (hn : 0 < n) : a.spot = none ∧ cs.length = n ∧ Kh (Ub w) a.block a.off cs := by
 obtain ⟨_, h2, h3⟩ := World.cells?_some h
 have h0 : a.spot = none := by
  have h4 := h3 0 hn
  cases hc : cs[0]? with
  | none => rw [List.getElem?_eq_none_iff] at hc; omega
  | some v =>
   rw [hc] at h4
   have := (z2m h4).1
   simpa [Addr.add] using this
 refine ⟨h0, h2, fun j v hj => ?_⟩
 have hlt := (List.getElem?_eq_some_iff.1 hj).1
 have h4 := h3 j (by omega)
 rw [hj] at h4
 have q := (z2m h4).2
 unfold Addr.add at q
 split at q
 ·rename_i e; subst e; exact q
 ·exact q
theorem z11 {S : zr} : ∀ {bs : List A} {cs : List Value} {a : A} {c : List Value}, yl S bs cs → Rep S a c → yl S (bs ++ [a]) (cs ++ c)
 | [], cs, a, c, h1, h2 => by
  simp only [yl] at h1
  subst h1
  simp only [List.nil_append, yl]
  exact ⟨c, [], by simp, h2, rfl⟩
 | x :: bs, cs, a, c, h1, h2 => by
  simp only [yl] at h1
  obtain ⟨c1, c2, rfl, r1, r2⟩ := h1
  simp only [List.cons_append, yl]
  exact ⟨c1, c2 ++ c, by simp, r1, z11 r2 h2⟩
theorem z6n {S : zr} {b o : Nat} {c1 c2 : List Value} (h1 : Kh S b o c1) (h2 : Kh S b (o + c1.length) c2) : Kh S b o (c1 ++ c2) := by
 intro j v hj
 rcases Nat.lt_or_ge j c1.length with q | q
 ·rw [List.getElem?_append_left q] at hj
  exact h1 j v hj
 ·rw [List.getElem?_append_right q] at hj
  have := h2 _ _ hj
  rwa [show o + c1.length + (j - c1.length) = o + j by omega] at this
theorem z0M {α : Type} {t e sz : Nat} (f : α → A) (ok : α → Prop) (ht : P.underlying t = some (.slice e)) (hsz : P.cellsOf e = sz) (h0 : 0 < sz) (hf : ∀ a, (f a).size = sz)
    (hel : ∀ n cs x, DataW.trod enc P w base spare held n e cs = some x → ∃ a, ok a ∧ Rep (Ub w) (f a) cs)
    {fuel : Nat} {cs : List Value} {x : DataW H × List MemPlace} (h : DataW.trod enc P w base spare held fuel t cs = some x) : ∃ l : List α, (∀ a ∈ l, ok a) ∧ Rep (Ub w) (.sl sz false (l.map f)) cs := by
  rcases DataW.trod_slice ht h with ⟨rfl, _⟩ | ⟨a, len, cap, elems, rest, n, _, rfl, _, _, hlc, _, hlen, hall, _, _⟩
  · refine ⟨[], by simp, ?_⟩
    simp only [Rep, List.map_nil, List.length_nil]
    exact ⟨none, 0, rfl, by simp, Nat.le_refl _, by simp, .inl trivial⟩
  · have key : ∀ k, k ≤ len → ∃ (l : List α) (cells : List Value), l.length = k ∧ (∀ a ∈ l, ok a) ∧ yl (Ub w) (l.map f) cells ∧ cells.length = k * sz ∧ (0 < k → a.spot = none) ∧ Kh (Ub w) a.block a.off cells := by
      intro k
      induction k with
      | zero => intro _; exact ⟨[], [], rfl, by simp, by simp [yl], by simp, by simp, fun j v h => by simp at h⟩
      | succ k ih =>
        intro hk
        obtain ⟨l, cells, q1, q2, q3, q4, q5, q6⟩ := ih (by omega)
        have hk' := hall k (by omega)
        have hsome : elems[k]? = some elems[k] := List.getElem?_eq_getElem (by omega)
        rw [hsome, Option.bind_eq_some_iff, hsz] at hk'
        obtain ⟨c, hc, htr⟩ := hk'
        obtain ⟨y, hy, hr⟩ := hel _ _ _ htr
        obtain ⟨g1, g2, g3⟩ := z4R hc h0
        refine ⟨l ++ [y], cells ++ c, by simp [q1], ?_, ?_, ?_, ?_, ?_⟩
        · intro z hz
          rcases List.mem_append.1 hz with q | q
          · exact q2 z q
          · simp only [List.mem_cons, List.not_mem_nil, or_false] at q; subst q; exact hy
        · rw [List.map_append]; exact z11 q3 hr
        · rw [List.length_append, q4, g2, Nat.succ_mul]
        · intro _
          rcases Nat.eq_zero_or_pos k with rfl | hk0
          · simpa [Addr.add] using g1
          · exact q5 hk0
        · refine z6n q6 ?_
          rw [q4]
          unfold Addr.add at g3
          split at g3
          · rename_i e0
            rw [e0, Nat.add_zero]
            exact g3
          · exact g3
    obtain ⟨l, cells, q1, q2, q3, q4, q5, q6⟩ := key len (Nat.le_refl _)
    refine ⟨l, q2, ?_⟩
    simp only [Rep, List.length_map]
    refine ⟨some a, cap, by rw [q1], by simp, by omega, ?_, ?_⟩
    · intro y hy
      obtain ⟨z, _, rfl⟩ := List.mem_map.1 hy
      exact hf z
    · rcases Nat.eq_zero_or_pos len with rfl | hl
      · left; rw [List.length_eq_zero_iff.1 q1]; rfl
      · right
        refine ⟨a.block, a.off, cells, ?_, q3, q6⟩
        have := q5 hl
        obtain ⟨b, o, s⟩ := a
        simp only at this
        subst this
        rfl
theorem z4v {t : Nat} {k : IntKind} {lo hi : Int} (ht : P.underlying t = some (.int k)) (hlo : k.min = lo) (hhi : k.max = hi) {fuel : Nat} {cs : List Value} {x : DataW H × List MemPlace} (h : DataW.trod enc P w base spare held fuel t cs = some x) :
  ∃ n : Int, (lo ≤ n ∧ n ≤ hi) ∧ cs = [.int k n] ∧ Rep (Ub w) (.atom (.int k n)) cs := by
 obtain ⟨n, rfl, _, hw⟩ := DataW.trod_int ht h
 simp only [Lit.wf, Bool.and_eq_true, decide_eq_true_eq, hlo, hhi] at hw
 exact ⟨n, hw, rfl, by simp only [Rep]; exact ⟨trivial, rfl⟩⟩
theorem X5 {t : Nat} {fs : List Field} (ht : P.underlying t = some (.struct ⟨fs⟩)) {fuel : Nat} {cs : List Value} {x : DataW H × List MemPlace} (h : DataW.trod enc P w base spare held fuel t cs = some x) :
  cs.length = P.cellsOf t ∧ ∀ (i : Nat) (f : Field), fs[i]? = some f → ∃ n y, DataW.trod enc P w base spare held n f.type ((cs.drop f.offset).take (P.cellsOf f.type)) = some y := by
 obtain ⟨xs, n, _, _, hl, hxl, hall⟩ := DataW.trod_struct ht h
 refine ⟨hl, fun i f hf => ?_⟩
 have hlt := (List.getElem?_eq_some_iff.1 hf).1
 have := hall i f (by simpa using hf)
 rw [List.getElem?_eq_getElem (by rw [hxl]; simpa using hlt)] at this
 exact ⟨n, _, this⟩
end
theorem wQ {S : zr} {a : A} {bs : List A} {cs : List Value} {n : Nat} (h1 : Rep S a (cs.take n)) (h2 : yl S bs (cs.drop n)) : yl S (a :: bs) cs := by
 simp only [yl]
 exact ⟨cs.take n, cs.drop n, (List.take_append_drop n cs).symm, h1, h2⟩
section
open Go Go.ChangeShapes Go.WideShapes Go.ChangeAt Go.RowKit
theorem z43 {P : Program} {H : Type} {enc : TypeId × Value → H} {f : Func} {s : ChangeSpec} {apart fresh handsOn again : Bool} {W W' : World} {args : Array Value} {v : Value} {ds : List (DataW H)} {pa : List MemPlace}
  (hvar : s.vars = []) (hvars2 : (s.fn H (ds ++ [])).vars = []) (hW : DataW.Whole enc P f.params.toList s.vars apart W args.toList ds [] (pa ++ [])) (hb : Below W.heap.size W W')
  (hres : ∀ (b : Nat) (sp : Nat → Bool) (hd : Bool), DataW.TrodAll enc P W' b sp hd f.resultTypes.toList (v.resultList f.resultTypes.size) (s.fn H (ds ++ [])).results [])
  (hargs : ∀ sp : Nat → Bool, (∀ p ∈ pa ++ [], sp p.block = true) → DataW.TrodAll enc P W' 0 sp true f.params.toList args.toList (s.fn H (ds ++ [])).args pa)
  (hok : ∀ (j : Nat) (t : TypeId) (r : Value), f.resultTypes[j]? = some t → (v.resultList f.resultTypes.size)[j]? = some r → Value.okWide P W' .any 0 t r) :
  s.post enc P f apart fresh handsOn again W args v W' := by
 have hlt : ∀ p ∈ pa ++ [], p.block < W.heap.size := fun p hp => by simpa using hW.lt p hp
 have hvr : ∀ sp : Nat → Bool, DataW.TrodVars enc P W' sp s.vars (s.fn H (ds ++ [])).vars [] := fun sp => by rw [hvar, hvars2]; rfl
 refine ⟨ds, [], pa ++ [], [], pa, [], hW, hres _ _ _, hargs _ (fun p hp => by simpa using hlt p hp), hvr _, World.keptBut_mono (fun _ q => q.elim) (hb.frame fun _ => False), fun _ => ?_⟩
 obtain ⟨_, _, _, _, _, hz, hn⟩ := hW
 refine ⟨hok, _, _, ([] ++ pa) ++ [], ⟨[] ++ pa, [], trodAll_append (hargs _ (fun _ _ => rfl)) (hres _ _ _), hvr _, rfl, ?_, ?_⟩, ?_⟩
 ·intro b off hp
  have hp' : MemPlace.cell b off ∈ pa ++ [] := by simpa using hp
  rw [hb.frozen (p := ⟨b, off, none⟩) (hlt _ hp')]
  exact hz b off hp'
 ·intro ha
  simpa using hn ha
 ·intro p hp _
  simpa using hp
end
theorem z5U {P : Program} {k : Nat} {α ρ : Type} {enc : α → List A} {encR : ρ → A} {F : α → Option ρ} {gives : List Bool} {inj : ∀ x y, enc x = enc y → x = y} (h : (spF k enc encR F gives inj).Ok P) {x : α} {r : ρ} (hr : F x = some r) : XF P k (enc x) (encR r) := by
 have := h x ⟨r, hr⟩
 simpa only [spF, hr] using this
section
variable {P : Program} {w : World} {r : Reach} {base t : Nat} {v : Value}
theorem z3E (h : ∀ cs, v ≠ .agg cs) : v = v.cells.toList.headD undef := by
 cases v <;> first | rfl | exact (h _ rfl).elim
theorem z7A {k : IntKind} (hu : P.underlying t = some (.int k)) (h : Value.okWide P w r base t v) : v = v.cells.toList.headD undef := by
 refine z3E fun cs e => ?_
 subst e
 unfold Value.okWide at h
 rw [hu] at h
 simp only [Cell.okWide, hu, Cell.ok] at h
theorem z3c {fs : Array Field} (hu : P.underlying t = some (.struct fs)) (h : Value.okWide P w r base t v) : v = .agg v.cells.toList.toArray := by
 unfold Value.okWide at h
 rw [hu] at h
 obtain ⟨cs, rfl, _⟩ := h
 rfl
theorem z6d {k : IntKind} {S : zr} {a : A} (hu : P.underlying t = some (.int k)) (hr : Rep S a v.cells.toList) (h : Value.okWide P w r base t v) (ha : a.isAgg = false) : vS S a v := ⟨_, hr, by cases a <;> first | exact z7A hu h | cases ha⟩
theorem Jw {fs : Array Field} {S : zr} {a : A} (hu : P.underlying t = some (.struct fs)) (hr : Rep S a v.cells.toList) (h : Value.okWide P w r base t v) (ha : a.isAgg = true) : vS S a v := ⟨_, hr, by cases a <;> first | exact z3c hu h | cases ha⟩
theorem z6A {S : zr} {h : Array Obj} {v : Value} {F : List Nat} (q : Has S h (.atom (.bool true)) v F) : v = .bool true := by
 rcases q with ⟨q, _⟩ | ⟨cs, q, _, rfl⟩
 ·rw [(zz.1 q).1]
 ·simp only [zQ, Rep] at q
  obtain ⟨⟨rfl, _⟩, _⟩ := q
  rfl
end
open Go.Proofs
section
variable {H : Type} {enc : TypeId × Value → H} {w : World} {base : Nat} {spare : Nat → Bool} {held : Bool}
theorem z4U : Tryz.prog.cellsOf 5 = 1 := by kernel_rfl
theorem rd5 {fuel : Nat} {cs : List Value} {x : DataW H × List MemPlace} (h : DataW.trod enc Tryz.prog w base spare held fuel 5 cs = some x) : ∃ a : Int, Ok5 a ∧ Rep (Ub w) ((eI .u8) a) cs := by
 obtain ⟨n, h1, _, h2⟩ := z4v Tryz.underlying5 (lo := 0) (hi := 255) rfl rfl h
 exact ⟨n, h1, h2⟩
theorem z4V : Tryz.prog.cellsOf 22 = 2 := by kernel_rfl
theorem zfs {fuel : Nat} {cs : List Value} {x : DataW H × List MemPlace} (h : DataW.trod enc Tryz.prog w base spare held fuel 22 cs = some x) : ∃ a : z73 Int, zeX a ∧ Rep (Ub w) ((Kf (eI .u8)) a) cs := by
 obtain ⟨xs, m, _, _, hl, hx, hall⟩ := DataW.trod_array Tryz.underlying22 h
 rw [z4V] at hl
 rw [z4U] at hall
 have get : ∀ i, i < 2 → ∃ n : Int, Ok5 n ∧ Rep (Ub w) ((eI .u8) n) ((cs.drop (i * 1)).take 1) := by
  intro i hi
  have q := hall i hi
  rw [List.getElem?_eq_getElem (by omega)] at q
  exact rd5 q
 obtain ⟨a0, k0, r0⟩ := get 0 (by omega)
 obtain ⟨a1, k1, r1⟩ := get 1 (by omega)
 refine ⟨⟨a0, a1⟩, ⟨k0, k1⟩, ?_⟩
 show Rep (Ub w) (.agg [(eI .u8) a0, (eI .u8) a1]) cs
 simp only [Rep]
 refine wQ (n := 1) (by simpa [List.drop_drop] using r0) (wQ (n := 1) (by simpa [List.drop_drop] using r1) ?_)
 simp only [List.drop_drop, yl]
 exact List.drop_eq_nil_of_le (by omega)
theorem z4S : Tryz.prog.cellsOf 96 = 5 := by kernel_rfl
theorem zfm {fuel : Nat} {cs : List Value} {x : DataW H × List MemPlace} (h : DataW.trod enc Tryz.prog w base spare held fuel 96 cs = some x) : ∃ a : z3t Int, zdy a ∧ Rep (Ub w) ((XN (eI .u8)) a) cs := by
 obtain ⟨xs, m, _, _, hl, hx, hall⟩ := DataW.trod_array Tryz.underlying96 h
 rw [z4S] at hl
 rw [z4U] at hall
 have get : ∀ i, i < 5 → ∃ n : Int, Ok5 n ∧ Rep (Ub w) ((eI .u8) n) ((cs.drop (i * 1)).take 1) := by
  intro i hi
  have q := hall i hi
  rw [List.getElem?_eq_getElem (by omega)] at q
  exact rd5 q
 obtain ⟨a0, k0, r0⟩ := get 0 (by omega)
 obtain ⟨a1, k1, r1⟩ := get 1 (by omega)
 obtain ⟨a2, k2, r2⟩ := get 2 (by omega)
 obtain ⟨a3, k3, r3⟩ := get 3 (by omega)
 obtain ⟨a4, k4, r4⟩ := get 4 (by omega)
 refine ⟨⟨a0, a1, a2, a3, a4⟩, ⟨k0, k1, k2, k3, k4⟩, ?_⟩
 show Rep (Ub w) (.agg [(eI .u8) a0, (eI .u8) a1, (eI .u8) a2, (eI .u8) a3, (eI .u8) a4]) cs
 simp only [Rep]
 refine wQ (n := 1) (by simpa [List.drop_drop] using r0) (wQ (n := 1) (by simpa [List.drop_drop] using r1) (wQ (n := 1) (by simpa [List.drop_drop] using r2) (wQ (n := 1) (by simpa [List.drop_drop] using r3) (wQ (n := 1) (by simpa [List.drop_drop] using r4) ?_))))
 simp only [List.drop_drop, yl]
 exact List.drop_eq_nil_of_le (by omega)
theorem z8Y : Tryz.prog.cellsOf 93 = 1 := by kernel_rfl
theorem zfo {fuel : Nat} {cs : List Value} {x : DataW H × List MemPlace} (h : DataW.trod enc Tryz.prog w base spare held fuel 93 cs = some x) : ∃ a : List (z3t Int), zeT a ∧ Rep (Ub w) ((eSl 5 false (XN (eI .u8))) a) cs := by
 exact z0M (XN (eI .u8)) zdy Tryz.underlying93 z4S (by omega) (fun _ => rfl) (fun _ _ _ q => zfm q) h
theorem z4T : Tryz.prog.cellsOf 95 = 3 := by kernel_rfl
theorem zfn {fuel : Nat} {cs : List Value} {x : DataW H × List MemPlace} (h : DataW.trod enc Tryz.prog w base spare held fuel 95 cs = some x) : ∃ a : xA, zdz a ∧ Rep (Ub w) ((uO (eI .u8) (eI .u8) (eSl 5 false (XN (eI .u8)))) a) cs := by
 obtain ⟨hl, hf⟩ := X5 Tryz.underlying95 h
 rw [z4T] at hl
 obtain ⟨_, _, q0⟩ := hf 0 _ rfl
 obtain ⟨_, _, q1⟩ := hf 1 _ rfl
 obtain ⟨_, _, q2⟩ := hf 2 _ rfl
 simp only [z4U, z8Y] at q0 q1 q2
 obtain ⟨a0, k0, r0⟩ := rd5 q0
 obtain ⟨a1, k1, r1⟩ := rd5 q1
 obtain ⟨a2, k2, r2⟩ := zfo q2
 refine ⟨⟨a0, a1, a2⟩, ⟨k0, k1, k2⟩, ?_⟩
 show Rep (Ub w) (.agg [(eI .u8) a0, (eI .u8) a1, (eSl 5 false (XN (eI .u8))) a2]) cs
 simp only [Rep]
 refine wQ (n := 1) (by simpa [List.drop_drop] using r0) (wQ (n := 1) (by simpa [List.drop_drop] using r1) (wQ (n := 1) (by simpa [List.drop_drop] using r2) ?_))
 simp only [List.drop_drop, yl]
 exact List.drop_eq_nil_of_le (by omega)
theorem z91 : Tryz.prog.cellsOf 23 = 1 := by kernel_rfl
theorem zfr {fuel : Nat} {cs : List Value} {x : DataW H × List MemPlace} (h : DataW.trod enc Tryz.prog w base spare held fuel 23 cs = some x) : ∃ a : List xA, zeW a ∧ Rep (Ub w) ((eSl 3 false (uO (eI .u8) (eI .u8) (eSl 5 false (XN (eI .u8))))) a) cs := by
 exact z0M (uO (eI .u8) (eI .u8) (eSl 5 false (XN (eI .u8)))) zdz Tryz.underlying23 z4T (by omega) (fun _ => rfl) (fun _ _ _ q => zfn q) h
theorem z90 : Tryz.prog.cellsOf 25 = 3 := by kernel_rfl
theorem zfq {fuel : Nat} {cs : List Value} {x : DataW H × List MemPlace} (h : DataW.trod enc Tryz.prog w base spare held fuel 25 cs = some x) : ∃ a : ya, zeV a ∧ Rep (Ub w) ((kT (Kf (eI .u8)) (eSl 3 false (uO (eI .u8) (eI .u8) (eSl 5 false (XN (eI .u8)))))) a) cs := by
 obtain ⟨hl, hf⟩ := X5 Tryz.underlying25 h
 rw [z90] at hl
 obtain ⟨_, _, q0⟩ := hf 0 _ rfl
 obtain ⟨_, _, q1⟩ := hf 1 _ rfl
 simp only [z4V, z91] at q0 q1
 obtain ⟨a0, k0, r0⟩ := zfs q0
 obtain ⟨a1, k1, r1⟩ := zfr q1
 refine ⟨⟨a0, a1⟩, ⟨k0, k1⟩, ?_⟩
 show Rep (Ub w) (.agg [(Kf (eI .u8)) a0, (eSl 3 false (uO (eI .u8) (eI .u8) (eSl 5 false (XN (eI .u8))))) a1]) cs
 simp only [Rep]
 refine wQ (n := 2) (by simpa [List.drop_drop] using r0) (wQ (n := 1) (by simpa [List.drop_drop] using r1) ?_)
 simp only [List.drop_drop, yl]
 exact List.drop_eq_nil_of_le (by omega)
theorem zaB : Tryz.prog.cellsOf 3 = 1 := by kernel_rfl
theorem rd3 {fuel : Nat} {cs : List Value} {x : DataW H × List MemPlace} (h : DataW.trod enc Tryz.prog w base spare held fuel 3 cs = some x) : ∃ a : Int, Ok3 a ∧ Rep (Ub w) ((eI .i64) a) cs := by
 obtain ⟨n, h1, _, h2⟩ := z4v Tryz.underlying3 (lo := -9223372036854775808) (hi := 9223372036854775807) rfl rfl h
 exact ⟨n, h1, h2⟩
theorem z8Z : Tryz.prog.cellsOf 65 = 4 := by kernel_rfl
theorem zfp {fuel : Nat} {cs : List Value} {x : DataW H × List MemPlace} (h : DataW.trod enc Tryz.prog w base spare held fuel 65 cs = some x) : ∃ a : za, zeU a ∧ Rep (Ub w) ((yM (eI .i64) (eI .i64) (eI .i64) (eI .i64)) a) cs := by
 obtain ⟨hl, hf⟩ := X5 Tryz.underlying65 h
 rw [z8Z] at hl
 obtain ⟨_, _, q0⟩ := hf 0 _ rfl
 obtain ⟨_, _, q1⟩ := hf 1 _ rfl
 obtain ⟨_, _, q2⟩ := hf 2 _ rfl
 obtain ⟨_, _, q3⟩ := hf 3 _ rfl
 simp only [zaB] at q0 q1 q2 q3
 obtain ⟨a0, k0, r0⟩ := rd3 q0
 obtain ⟨a1, k1, r1⟩ := rd3 q1
 obtain ⟨a2, k2, r2⟩ := rd3 q2
 obtain ⟨a3, k3, r3⟩ := rd3 q3
 refine ⟨⟨a0, a1, a2, a3⟩, ⟨k0, k1, k2, k3⟩, ?_⟩
 show Rep (Ub w) (.agg [(eI .i64) a0, (eI .i64) a1, (eI .i64) a2, (eI .i64) a3]) cs
 simp only [Rep]
 refine wQ (n := 1) (by simpa [List.drop_drop] using r0) (wQ (n := 1) (by simpa [List.drop_drop] using r1) (wQ (n := 1) (by simpa [List.drop_drop] using r2) (wQ (n := 1) (by simpa [List.drop_drop] using r3) ?_)))
 simp only [List.drop_drop, yl]
 exact List.drop_eq_nil_of_le (by omega)
end
end Go.Own
namespace Go.Proofs.YtcldlioffanjaaaGreatDoor.systemsMoves
open Go Go.ChangeShapes Go.WideShapes Go.ChangeAt Go.RowKit
theorem own : ownKnob Tryz.prog.godebug = none := by kernel_rfl
theorem z8G : laidOutB Tryz.prog = true := by kernel_rfl
section
variable {H : Type} {enc : TypeId × Value → H} {W : World}
theorem z8q (u : TypeId) (h : Tryz.prog.typeName? 3 u = some "*errors.errorString") : u = 201 :=
 typeName_ptr_named (nm := "errors.errorString") (by rw [show "*" ++ "errors.errorString" = "*errors.errorString" by decide]; kernel_rfl) (by kernel_rfl) (by decide) u (by rw [show "*" ++ "errors.errorString" = "*errors.errorString" by decide]; exact h)
theorem z6D {W : World} (hL : laidMetH Tryz.prog Rows.systemsMovesRow.laid W) : Go.Own.Gok (Go.Own.Ub W) := by
 rw [MakeChecks.laidMetH_plain _ _ _ (by kernel_rfl)] at hL
 have hg : Tryz.prog.globalNamed "gauntlet/systems.errNo" = some 0 := by kernel_rfl
 obtain ⟨a, _, hv, _⟩ := laid_sentinel hL hg (show (Tryz.prog.globals[0]?).map (·.type) = some 154 by kernel_rfl) Tryz.underlying154 z8q Tryz.underlying201 Tryz.underlying226 rfl rfl Tryz.underlying9 (show Tryz.prog.cellsOf 226 = 1 by kernel_rfl) (show Tryz.prog.cellsOf 9 = 1 by kernel_rfl)
 have hw : W.cell? ⟨0, 0, none⟩ = some (.iface 201 (.pointer (some a))) := by
  have := World.var?_cell hg hv 0
  simpa using this
 have hc : Go.Own.Ub W 0 0 = some (.iface 201 (.pointer (some a))) := (Go.Own.z2m hw).2
 intro g x e
 unfold Go.Own.zc6 at e
 split at e
 ·rename_i h0
  subst h0
  cases e
  refine ⟨[.iface 201 (.pointer (some a))], ⟨_, rfl, fun _ => ⟨hc, a, rfl⟩, fun h => by cases h⟩, fun j v hj => ?_⟩
  cases j with
  | zero => cases hj; exact hc
  | succ j => simp at hj
 ·cases e
set_option maxRecDepth 100000 in
theorem zf6 {base : Nat} (hL : laidMetH Tryz.prog Rows.systemsMovesRow.laid W) {v0 : Value} {d0 : DataW H} {p0 : List MemPlace} {v1 : Value} {d1 : DataW H} {p1 : List MemPlace} {v2 : Value} {d2 : DataW H} {p2 : List MemPlace} (h0 : DataW.Trod enc Tryz.prog W 0 (fun _ => true) true 25 v0 d0 p0) (h1 : DataW.Trod enc Tryz.prog W 0 (fun _ => true) true 5 v1 d1 p1) (h2 : DataW.Trod enc Tryz.prog W 0 (fun _ => true) true 65 v2 d2 p2) (k0 : Value.okWide Tryz.prog W .any base (25 : Nat) v0) (k1 : Value.okWide Tryz.prog W .any base (5 : Nat) v1) (k2 : Value.okWide Tryz.prog W .any base (65 : Nat) v2) :
  Calls Tryz.prog 5 #[v0, v1, v2] W fun e w' => e = .returned (.bool true) ∧ Go.Own.Y2 (fun k => W.heap.size ≤ k) W w' := by
 obtain ⟨n0, h0⟩ := h0
 obtain ⟨x0, o0, r0⟩ := Go.Own.zfq h0
 obtain ⟨n1, h1⟩ := h1
 obtain ⟨x1, o1, r1⟩ := Go.Own.rd5 h1
 obtain ⟨n2, h2⟩ := h2
 obtain ⟨x2, o2, r2⟩ := Go.Own.zfp h2
 have q := (Go.Own.z5U (Go.Own.z3s Go.Own.zba List.mem_cons_self : Go.Own.qE.Ok Tryz.prog) (x := (x0, x1, x2)) (r := true) (Go.Own.z6t o0 o1 o2)).2 (Go.Own.Ub W) W [v0, v1, v2] [] ⟨fun _ _ _ h => h, z6D hL⟩ ?_ (by simp)
 ·refine Calls.mono q ?_
  rintro e w' ⟨v, S', F', rfl, hk, _, _, _, hr, _, _⟩
  refine ⟨?_, hk.mono (by rintro k (h | h) <;> simp_all)⟩
  rw [Go.Own.z6A hr]
 ·refine Go.Own.ZV ?_
  have g0 : Go.Own.vS (Go.Own.Ub W) ((Go.Own.kT (Go.Own.Kf (Go.Own.eI .u8)) (Go.Own.eSl 3 false (Go.Own.uO (Go.Own.eI .u8) (Go.Own.eI .u8) (Go.Own.eSl 5 false (Go.Own.XN (Go.Own.eI .u8)))))) x0) v0 := Go.Own.Jw (t := (25 : Nat)) Tryz.underlying25 r0 k0 rfl
  have g1 : Go.Own.vS (Go.Own.Ub W) ((Go.Own.eI .u8) x1) v1 := Go.Own.z6d (t := (5 : Nat)) Tryz.underlying5 r1 k1 rfl
  have g2 : Go.Own.vS (Go.Own.Ub W) ((Go.Own.yM (Go.Own.eI .i64) (Go.Own.eI .i64) (Go.Own.eI .i64) (Go.Own.eI .i64)) x2) v2 := Go.Own.Jw (t := (65 : Nat)) Tryz.underlying65 r2 k2 rfl
  exact ⟨g0, g1, g2, trivial⟩
end
set_option maxRecDepth 100000 in
theorem z6F (os : Os) (args : Array Value) : laidMetH Tryz.prog Rows.systemsMovesRow.laid ((World.doorLaid Tryz.prog 400 os).forCall (fun _ _ => 0) ⟨#[], args, []⟩).memory :=
 laidMetH_of_parts3 (fuel := 8) (laidMet_of_run' 8 (by kernel_rfl) (by kernel_rfl)) (by kernel_rfl) (by kernel_rfl)
set_option maxRecDepth 100000 in
theorem zae (os : Os) (started : os.Started) (H : Type) (enc : TypeId × Value → H) :
  ReturnsInHanded {} Tryz.checked os 5 .any (fun w args => (Rows.systemsMovesSpec.pre enc Tryz.prog Tryz.f5 Rows.systemsMovesRow.domain false w args ∧ laidMetH Tryz.prog Rows.systemsMovesRow.laid w) ∧ sizedMet enc Tryz.prog Tryz.f5 (OpenSpec.ofChange Rows.systemsMovesSpec) false w args) (Rows.systemsMovesSpec.post enc Tryz.prog Tryz.f5 false true false false) := by
 refine returnsInHanded_of_change_and (C := Tryz.checked) (X := fun w _ => laidMetH Tryz.prog Rows.systemsMovesRow.laid w) (fun _ _ _ hh h => h.of_heap hh) own started (by kernel_rfl) Tryz.func5
  (ChangeSpec.witness_shaped (enc := enc) (C := Tryz.checked) (os := os) (X := fun w _ => laidMetH Tryz.prog Rows.systemsMovesRow.laid w) false (World.doorLaid Tryz.prog 400 os) #[.agg #[.int .u8 0, .int .u8 0, .slice none 0 0], .int .u8 0, .agg #[.int .i64 0, .int .i64 0, .int .i64 0, .int .i64 0]] 8 rfl (World.shaped_of_RefB (by kernel_rfl) (by kernel_rfl)) (by kernel_rfl) (by kernel_rfl) (by kernel_rfl) (z6F os _)) ?_
 intro W base args ds gs before hval0 hW hcnd _ hL _
 have hval : ∀ (j : Nat) t v, Tryz.f5.params[j]? = some t → args[j]? = some v → Value.okWide Tryz.prog W .any base t v := hval0
 have hW' := hW
 obtain ⟨p, q, hA0, hV, rfl, hfz, hnd⟩ := hW
 have hA : DataW.TrodAll enc Tryz.prog W 0 (fun _ => true) true Tryz.f5.params.toList args.toList ds p := hA0
 rw [Tryz.params5] at hA hval
 obtain ⟨v0, v1, v2, d0, d1, d2, p0, p1, p2, rfl, rfl, rfl, h0, h1, h2⟩ := trodAll_three hA
 obtain ⟨rfl, rfl⟩ := trodVars_none hV
 clear hA0 hval0
 refine (zf6 hL h0 h1 h2 (hval 0 (25 : Nat) v0 rfl rfl) (hval 1 (5 : Nat) v1 rfl rfl) (hval 2 (65 : Nat) v2 rfl rfl)).mono fun e W' ⟨he, hk⟩ => ?_
 subst he
 have hb : Below W.heap.size W W' := ⟨hk.os, hk.tape, hk.output, hk.size, fun k q => hk.block k (by omega)⟩
 have hlt : ∀ x ∈ p0 ++ p1 ++ p2, x.block < W.heap.size := fun x hx => by simpa using hW'.lt x (by simpa using hx)
 refine ⟨_, rfl, Go.Own.z43 rfl rfl hW' hb (fun _ _ _ => trodAll_cons_mk (shut_bool Tryz.underlying4 _) trodAll_mk0) (fun sp hsp => ?_) (ok_one (by kernel_rfl) rfl (okWide_bool_mk Tryz.underlying4 _))⟩
 have st : ∀ {t : Nat} {v : Value} {d : DataW H} {p' : List MemPlace}, DataW.Trod enc Tryz.prog W 0 (fun _ => true) true t v d p' → Tryz.prog.readableRec t = true → t < Tryz.prog.types.size → (∀ x ∈ p', x ∈ p0 ++ p1 ++ p2) → DataW.Trod enc Tryz.prog W' 0 sp true t v d p' := by
  intro t v d p' hd h1 h2 hp
  exact WideElems.Trod_stays z8G h1 h2 hd (fun x hx => hb.same (hlt x (hp x hx))) (fun x hx => hsp x (by simpa using hp x hx))
 have := trodAll_mk3 (st h0 (by kernel_rfl) (of_decide_eq_true (by kernel_rfl)) (fun x hx => by simp [hx])) (st h1 (by kernel_rfl) (of_decide_eq_true (by kernel_rfl)) (fun x hx => by simp [hx])) (st h2 (by kernel_rfl) (of_decide_eq_true (by kernel_rfl)) (fun x hx => by simp [hx]))
 rw [← List.append_assoc] at this
 rw [Tryz.params5]
 exact this
theorem W9 : Rows.systemsMovesRow.holds Tryz.pinned (OpenSpec.ofChange Rows.systemsMovesSpec) :=
 OpenClaim.holds_of_wide 5 Tryz.f5 rfl rfl rfl rfl rfl rfl rfl ⟨rfl, rfl, rfl, rfl, rfl⟩ rfl rfl rfl rfl rfl (by kernel_rfl) Tryz.func5 (by kernel_rfl)
  (of_decide_eq_true (by kernel_rfl)) (by unfold Func.isWrapper; first | (rw [if_pos (by decide +kernel)]; kernel_rfl) | (rw [if_neg (by decide +kernel)]; exact ⟨rfl, rfl⟩))
  (fun os started H enc _ => zae os started H enc)
theorem proved : Rows.SystemsMovesCardSaid :=
 Claim7.holds_tied_plain_at .later [] [.sentinel] true (true, "7a337c67efc784e1f6936414ec661573001676227fe3319059bdf7cee06bd026") true
  W9 (fun _ h => by cases h) (by kernel_rfl) (fun _ h => by cases h) systemsMoves_row_tie rfl ⟨rfl, rfl⟩ (by kernel_rfl) rfl
  (fun f fn hf hfn => by
   obtain rfl : f = 5 := Option.some.inj ((show Tryz.prog.funcNamed "gauntlet/gauntletlaw31.SystemsMoves" = some 5 by kernel_rfl).symm.trans hf) |>.symm
   obtain rfl : fn = Tryz.f5 := (Option.some.inj (Tryz.func5.symm.trans hfn)).symm
   exact ⟨by kernel_rfl, fun j t ht => by
    rw [Tryz.params5] at ht
    have hm : t ∈ [25, 5, 65] := by simpa using Array.mem_of_getElem? ht
    have hall : ([25, 5, 65].all fun u => !Tryz.prog.wantsStandIn u) = true := by kernel_rfl
    exact (show Tryz.prog.wantsStandIn t = false by simpa using List.all_eq_true.1 hall t hm)⟩)
  (by kernel_rfl)
#print axioms proved
end Go.Proofs.YtcldlioffanjaaaGreatDoor.systemsMoves
