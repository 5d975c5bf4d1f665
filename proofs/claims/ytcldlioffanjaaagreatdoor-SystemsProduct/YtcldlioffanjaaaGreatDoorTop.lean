/- -/
import Derived.Test.YtcldlioffanjaaaGreatDoorPartG
import Derived.Test.YtcldlioffanjaaaGreatDoorPartE
import Derived.Test.YtcldlioffanjaaaGreatDoorPartB
import Derived.OpenShut
import Derived.ChangeShapes
import Derived.Test.YtcldlioffanjaaaGreatDoorPartC
import Derived.WalkKit
import Derived.ProofKit
import Derived.Carry
import Derived.Test.YtcldlioffanjaaaGreatDoorRows
import Derived.Test.YtcldlioffanjaaaGreatDoorChecked
import Derived.LaidMore
import Derived.Stop.Joined
import Derived.SevenTiedAt
import Derived.Test.YtcldlioffanjaaaGreatDoorCards
import Derived.Test.YtcldlioffanjaaaGreatDoorTie
import Derived.Stop.LaidErr
import Derived.MakeChecks
set_option linter.unusedVariables false
set_option linter.unusedSimpArgs false
namespace Go.Own
theorem JK {c : z7} (hs : c.States.length ≤ 4) (hq : c.Queues.length ≤ 4) (p : Nat) (st ch : Int) (q : List Int) (hc : ch = -1 ∨ 0 ≤ ch) :
  qY c (p : Int) st ch q = some ⟨c.States.set p st,if ch = -1 then c.Queues else c.Queues.set ch.toNat q⟩ := by
 unfold qY
 have h5 : loop (fun s => qW c (p : Int) st s.1 s.2) (([] : List Int),0) = some (c.States.set p st) := by
  have hl : (c.States.set p st).length = c.States.length := List.length_set
  refine Xu (fun j => ((c.States.set p st).take j,(j : Int))) c.States.length (by omega) (fun j hj => ?_) ?_
  ·have hv : c.States[j]? = some c.States[j] := List.getElem?_eq_getElem hj
   unfold qW ko
   dsimp only
   rw [decide_eq_true (by omega),cond_true,yf hv,oB,wj (by omega) (by omega)]
   have e : (if p = j then st else c.States[j]) = (c.States.set p st)[j]'(by rw [hl]; exact hj) := by rw [List.getElem_set]
   by_cases q : j = p
   ·subst q
    rw [beq_self_eq_true,cond_true,gdT (by rw [List.length_take,List.length_singleton]; omega),List.take_add_one,List.getElem?_set_self hj]
    rfl
   ·rw [beq_false_of_ne (by omega),cond_false,gdT (by rw [List.length_take,List.length_singleton]; omega),List.take_add_one,List.getElem?_set_ne (fun h => q h.symm),hv]
    rfl
  ·unfold qW
   dsimp only
   rw [decide_eq_false (by omega),cond_false,List.take_of_length_le (by omega)]
 rw [bdT h5]
 unfold Zv
 have h3 : loop (fun s => qX c ch q s.1 s.2) (([] : List (List Int)),0) = some (if ch = -1 then c.Queues else c.Queues.set ch.toNat q) := by
  have hl : (if ch = -1 then c.Queues else c.Queues.set ch.toNat q).length = c.Queues.length := by split <;> simp
  refine Xu (fun j => ((if ch = -1 then c.Queues else c.Queues.set ch.toNat q).take j,(j : Int))) c.Queues.length (by omega) (fun j hj => ?_) ?_
  ·have hv : c.Queues[j]? = some c.Queues[j] := List.getElem?_eq_getElem hj
   unfold qX kp
   dsimp only
   rw [decide_eq_true (by omega),cond_true,yf hv,oB,wj (by omega) (by omega)]
   by_cases q1 : (j : Int) = ch
   ·subst q1
    rw [beq_self_eq_true,cond_true,gdT (by rw [List.length_take,List.length_singleton]; omega),List.take_add_one,if_neg (by omega),Int.toNat_natCast,List.getElem?_set_self hj]
    rfl
   ·rw [beq_false_of_ne q1,cond_false,gdT (by rw [List.length_take,List.length_singleton]; omega),List.take_add_one]
    have : (if ch = -1 then c.Queues else c.Queues.set ch.toNat q)[j]? = some c.Queues[j] := by
     split
     ·exact hv
     ·rw [List.getElem?_set_ne (by omega)]; exact hv
    rw [this]
    rfl
  ·unfold qX
   dsimp only
   rw [decide_eq_false (by omega),cond_false,List.take_of_length_le (by omega)]
 rw [bdT h3]
 rfl
theorem z2t {α β ρ : Type} {B : Nat} {f : Nat → α → List β} {g : Nat → α → List β → Option (LR (List β) ρ)} : ∀ {l : List α} {k : Nat} {acc : List β},acc.length + (vK f l k).length ≤ B →
  (∀ (i : Nat) (x : α) (acc : List β),l[i]? = some x → acc.length + (f (k + i) x).length ≤ B → g (k + i) x acc = some (.next (acc ++ f (k + i) x))) → Uj g l k acc = some (.next (acc ++ vK f l k))
 | [],k,acc,_,_ => by simp [Uj,vK]
 | x :: l,k,acc,hb,h => by
  rw [vK,List.length_append] at hb
  have h0 := h 0 x acc rfl (by rw [Nat.add_zero]; omega)
  rw [Nat.add_zero] at h0
  rw [Uj,h0,oB]
  show Uj g l (k + 1) (acc ++ f k x) = _
  rw [z2t (f := f) (B := B) (by rw [List.length_append]; omega) (fun i y acc' hy hb' => by
   have := h (i + 1) y acc' (by simpa using hy)
   rw [show k + (i + 1) = k + 1 + i by omega] at this
   exact this hb'),vK,List.append_assoc]
theorem Vc {β : Type} (f : Int × zf → List β) (l : List zf) (st : Int) : (vE l st).flatMap f = vK (fun i a => if a.From = st then f ((i : Int),a) else []) l 0 := by
 have gen : ∀ (l : List zf) (k : Nat),(vK (fun k a => if a.From = st then [((k : Int),a)] else []) l k).flatMap f = vK (fun i a => if a.From = st then f ((i : Int),a) else []) l k := by
  intro l
  induction l with
  | nil => intro k; rfl
  | cons a l ih =>
   intro k
   rw [vK,vK,List.flatMap_append,ih]
   split <;> simp
 exact gen l 0
theorem kY {α β γ : Type} (h : β → γ) (f : Nat → α → List β) : ∀ (l : List α) (k : Nat),(vK f l k).map h = vK (fun i x => (f i x).map h) l k
 | [],_ => rfl
 | x :: l,k => by rw [vK,vK,List.map_append,kY h f l]
def zdW {β ρ : Type} (L acc : List β) : Option (LR (List β) ρ) := match L with
 | [] => some (.next acc)
 | _ :: _ => gd (acc.length + L.length ≤ 4294967296) (some (.next (acc ++ L)))
theorem zcb {α β : Type} {p : Prop} [Decidable p] {x : Option α} {f : α → β} : (gd p x).map f = gd p (x.map f) := by
 unfold gd
 split <;> rfl
theorem zaK {β ρ : Type} {L acc : List β} (h : acc.length + L.length ≤ 4294967296) : zdW (ρ := ρ) L acc = some (.next (acc ++ L)) := by
 cases L with
 | nil => simp [zdW]
 | cons x l => exact gdT h
theorem z5R {α β ρ : Type} {f : Nat → α → List β} {l : List α} {acc : List β} (h : acc.length + (vK f l 0).length ≤ 4294967296) : Uj (ρ := ρ) (fun k x acc => zdW (f k x) acc) l 0 acc = some (.next (acc ++ vK f l 0)) :=
 z2t (B := 4294967296) h fun i x acc _ hb => zaK hb
theorem WN {α β : Type} (l : List α) (hl : l.length < 4611686018427387904) {B : Nat} (f : Nat → α → List β) {step : List β × Int → Option (LR (List β × Int) (List β))} {acc : List β} (hb : acc.length + (vK f l 0).length ≤ B)
  (h : ∀ (i : Nat) (x : α) (s : List β),l[i]? = some x → s.length + (f i x).length ≤ B → step (s,(i : Int)) = some (.next (s ++ f i x,w64 ((i : Int) + 1)))) (h2 : ∀ s,step (s,(l.length : Int)) = some (.done s)) :
  loop step (acc,0) = some (acc ++ vK f l 0) := by
 have gen : ∀ (n k : Nat) (acc : List β),k ≤ l.length → l.length - k < n → acc.length + (vK f (l.drop k) k).length ≤ B → W0 step n (acc,(k : Int)) = some (acc ++ vK f (l.drop k) k) := by
  intro n
  induction n with
  | zero => intro k acc _ h _; omega
  | succ n ih =>
   intro k acc hk hn hb
   rw [jQ]
   rcases Nat.lt_or_ge k l.length with hlt | hge
   ·have hx : l[k]? = some l[k] := List.getElem?_eq_getElem hlt
    rw [List.drop_eq_getElem_cons hlt,vK,List.length_append] at hb
    rw [h k _ acc hx (by omega),List.drop_eq_getElem_cons hlt,vK]
    dsimp only
    rw [wj (by omega) (by omega)]
    have := ih (k + 1) (acc ++ f k l[k]) hlt (by omega) (by rw [List.length_append]; omega)
    rw [List.append_assoc] at this
    exact this
   ·have : k = l.length := by omega
    subst this
    rw [h2,List.drop_length]
    simp [vK]
 exact gen fuel 0 acc (Nat.zero_le _) (by show l.length - 0 < 18446744073709551616; omega) hb
theorem Kl {σ τ : Type} {step : σ → Option (LR σ τ)} {s : σ} {t : τ} (h : step s = some (.done t)) : loop step s = some t := by
 show W0 step (18446744073709551615 + 1) s = _
 rw [jQ,h]
def Zp (e : ze × z7) : zg := ⟨e.1,e.2⟩
section
variable {x : z8} {c : z7}
theorem zbZ (h : MOk x c) {p o : Nat} (hp : p < x.Parts.length) {Po : zh} (ho : x.Parts[o]? = some Po) (hop : o ≠ p) (i : Int) (a : zf) {acc : List zg}
  (hb : acc.length + ((vE Po.Arcs (stv c o)).flatMap (two c p i a o)).length ≤ 4294967296) :
  loop (fun s => wC x c (p : Int) i a (o : Int) s.1 s.2) (acc,0) = some (acc ++ ((vE Po.Arcs (stv c o)).flatMap (two c p i a o)).map Zp) := by
 have hv := h.sys.part Po (List.mem_of_getElem? ho)
 have harc := hv.arcs
 obtain ⟨hol,hos⟩ := h.stat ho
 have hps : p < c.States.length := by have := h.cfg.sl; omega
 rw [Vc] at hb ⊢
 rw [kY]
 have hb' : acc.length + (vK (fun (k : Nat) b => (if b.From = stv c o then two c p i a o ((k : Int),b) else []).map Zp) Po.Arcs 0).length ≤ 4294967296 := by
  rw [← kY,List.length_map]; exact hb
 rw [X8 Po.Arcs (by omega) (ρ := List zg) (fun k b acc => zdW ((if b.From = stv c o then two c p i a o ((k : Int),b) else []).map Zp) acc) z37 acc ?_ ?_]
 ·rw [z5R hb']
  rfl
 ·intro k b s hk
  have hkl := y6 hk
  unfold wC wD
  dsimp only
  rw [yf ho,oB,decide_eq_true (by omega),cond_true,show ((o : Int) != (p : Int)) = true from bne_iff_ne.2 (by omega),cond_true,oB,yf hk,oB,yf hos]
  unfold two
  dsimp only
  by_cases q1 : b.Kind = 2
  ·rw [q1,beq_self_eq_true,cond_true,oB]
   by_cases q2 : b.From = stv c o
   ·rw [q2,beq_self_eq_true,cond_true,if_pos rfl]
    by_cases q3 : b.Channel = a.Channel
    ·rw [q3,beq_self_eq_true,cond_true]
     by_cases q4 : b.Message = a.Message
     ·rw [q4,beq_self_eq_true,cond_true,if_pos ⟨rfl,rfl,rfl⟩,JK h.s4 h.q4 p _ _ _ (.inl rfl),oB,if_pos rfl,JK (c := ⟨c.States.set p a.To,c.Queues⟩) (by rw [List.length_set]; exact h.s4) h.q4 o _ _ _ (.inl rfl),oB,if_pos rfl]
      show gd _ _ = (gd (s.length + 1 ≤ 4294967296) _).map _
      rw [zcb]
      rfl
     ·rw [beq_false_of_ne q4,cond_false,if_neg (fun q => q4 q.2.2)]; rfl
    ·rw [beq_false_of_ne q3,cond_false,if_neg (fun q => q3 q.2.1)]; rfl
   ·rw [beq_false_of_ne q2,cond_false,if_neg q2]; rfl
  ·rw [beq_false_of_ne q1,cond_false]
   split
   ·rw [if_neg (fun q => q1 q.1)]; rfl
   ·rfl
 ·intro s
  unfold wC
  dsimp only
  rw [yf ho,oB,decide_eq_false (by omega),cond_false]
  rfl
theorem z80 (h : MOk x c) {p : Nat} (hp : p < x.Parts.length) (i : Int) (a : zf) (n : Int) {acc : List zg} (hb : acc.length + (Ug x c p i a).length ≤ 4294967296) :
  loop (fun s => wx x c (p : Int) i a n s.1 s.2) (acc,0) = some (acc ++ (if a.Kind = 1 ∧ n = 0 then (Ug x c p i a).map Zp else [])) := by
 have hpl := h.sys.pl
 by_cases q : a.Kind = 1 ∧ n = 0
 ·rw [if_pos q]
  unfold Ug at hb ⊢
  rw [kY]
  have hb' : acc.length + (vK (fun o (P : zh) => (if o = p then [] else (vE P.Arcs (stv c o)).flatMap (two c p i a o)).map Zp) x.Parts 0).length ≤ 4294967296 := by
   rw [← kY,List.length_map]; exact hb
  have each : ∀ (o : Nat) (P : zh),x.Parts[o]? = some P → ((vE P.Arcs (stv c o)).flatMap (two c p i a o)).length ≤ 256 := by
   intro o P hP
   have h1 := Q2 (st := stv c o) (h.sys.part P (List.mem_of_getElem? hP)).arcs
   have h2 := Xz (f := two c p i a o) (l := vE P.Arcs (stv c o)) (b := 1) fun e _ => by unfold two; split <;> simp
   omega
  refine WN x.Parts (by omega) (B := 4294967296) (fun o P => (if o = p then [] else (vE P.Arcs (stv c o)).flatMap (two c p i a o)).map Zp) hb' ?_ ?_
  ·intro o P s hP hbs
   have ho := y6 hP
   unfold wx kL
   dsimp only
   rw [decide_eq_true (by omega),cond_true,q.1,q.2,beq_self_eq_true,cond_true,beq_self_eq_true,cond_true]
   by_cases qo : o = p
   ·subst qo
    have : loop (fun s => wC x c (o : Int) i a (o : Int) s.1 s.2) (s,0) = some s := by
     refine Kl ?_
     unfold wC
     rw [yf hP,oB,bne_self_eq_false,cond_false]
     cases decide ((0 : Int) < ((P.Arcs.length : Nat) : Int)) <;> rfl
    rw [this,oB,if_pos rfl,List.map_nil,List.append_nil]
   ·rw [if_neg qo] at hbs
    rw [List.length_map] at hbs
    rw [zbZ h hp hP qo i a hbs,oB,if_neg qo]
  ·intro s
   unfold wx
   dsimp only
   rw [decide_eq_false (by omega),cond_false]
 ·rw [if_neg q,List.append_nil]
  refine Kl ?_
  unfold wx
  rw [decide_eq_true (by omega),cond_true]
  by_cases q1 : a.Kind = 1
  ·rw [q1,beq_self_eq_true,cond_true,beq_false_of_ne (fun h => q ⟨q1,h⟩),cond_false]
  ·rw [beq_false_of_ne q1,cond_false]
theorem z5E (h : MOk x c) {p : Nat} {P : zh} (hP : x.Parts[p]? = some P) {i : Nat} {a : zf} (ha : P.Arcs[i]? = some a) {acc : List zg}
  (hb : acc.length + (if a.From = stv c p then one x c p ((i : Int),a) else []).length ≤ 4294967296) :
  qa x c (p : Int) acc (i : Int) = some (.next (acc ++ (if a.From = stv c p then one x c p ((i : Int),a) else []).map Zp,w64 ((i : Int) + 1))) := by
 have hi := y6 ha
 have hp := y6 hP
 obtain ⟨hpl,hps⟩ := h.stat hP
 have hv := (h.sys.part P (List.mem_of_getElem? hP)).arc a (List.mem_of_getElem? ha)
 unfold qa
 rw [yf hP,oB,decide_eq_true (by omega),cond_true,oB,yf ha,oB,yf hps,oB]
 by_cases q : a.From = stv c p
 ·rw [if_pos q] at hb ⊢
  rw [q,bne_self_eq_false,cond_false]
  unfold one at hb ⊢
  dsimp only at hb ⊢
  by_cases q0 : a.Kind = 0
  ·rw [if_pos q0] at hb ⊢
   rw [q0,beq_self_eq_true,cond_true,JK h.s4 h.q4 p _ _ _ (.inl rfl),oB,if_pos rfl]
   rw [gdT (by simp only [List.length_singleton] at hb ⊢; exact hb)]
   rfl
  ·rw [if_neg q0] at hb ⊢
   obtain ⟨n,hn,hn4,e1,e2,hle,h4⟩ := h.chan hv q0
   have eq1 : idx c.Queues a.Channel = some (quv c a) := by rw [hn]; exact yf e1
   have eq2 : idx x.Channels a.Channel = some (rmv x a) := by rw [hn]; exact yf e2
   rw [beq_false_of_ne q0,cond_false,eq1,oB,eq2,oB]
   have j7 : ∀ (acc' : List zg),(acc'.length + (if a.Kind = 1 ∧ rmv x a = 0 then Ug x c p (i : Int) a else []).length ≤ 4294967296) → wy x c (p : Int) (i : Int) a (rmv x a) acc' = some (.next (acc' ++ (if a.Kind = 1 ∧ rmv x a = 0 then (Ug x c p (i : Int) a).map Zp else []),w64 ((i : Int) + 1))) := by
    intro acc' hb'
    unfold wy vJ
    by_cases q1 : a.Kind = 1 ∧ rmv x a = 0
    ·rw [if_pos q1] at hb'
     rw [z80 h hp i a _ hb',oB]
    ·have : loop (fun s => wx x c (p : Int) (i : Int) a (rmv x a) s.1 s.2) (acc',0) = some (acc' ++ []) := by
      rw [List.append_nil]
      refine Kl ?_
      unfold wx
      rw [decide_eq_true (by omega),cond_true]
      by_cases q2 : a.Kind = 1
      ·rw [q2,beq_self_eq_true,cond_true,beq_false_of_ne (fun h => q1 ⟨q2,h⟩),cond_false]
      ·rw [beq_false_of_ne q2,cond_false]
     rw [this,oB,if_neg q1]
   by_cases q1 : a.Kind = 1
   ·have j6 : ∀ acc',wW x c (p : Int) (i : Int) a (quv c a) (rmv x a) acc' = wy x c (p : Int) (i : Int) a (rmv x a) acc' := by
     intro acc'
     unfold wW
     rw [q1,show ((1 : Int) == 2) = false from rfl,cond_false]
    rw [show (a.Kind == 1) = true from beq_iff_eq.2 q1,cond_true,j6]
    by_cases q2 : rmv x a = 0
    ·rw [if_pos q2,if_pos q1] at hb ⊢
     rw [decide_eq_false (by omega),cond_false,j7 _ (by rw [if_pos ⟨q1,q2⟩]; exact hb),if_pos ⟨q1,q2⟩]
    ·rw [if_neg q2,if_pos q1] at hb ⊢
     by_cases q3 : ((quv c a).length : Int) < rmv x a
     ·rw [if_pos q3] at hb ⊢
      rw [decide_eq_true q3,cond_true,gdT (by simp; omega),gdT (by simp; omega),JK h.s4 h.q4 p _ _ _ (.inr (by omega)),oB,if_neg (by omega),gdT (by simp only [List.length_singleton] at hb ⊢; exact hb),j6,j7 _ (by rw [if_neg (fun h => q2 h.2)]; simp at hb ⊢; omega),if_neg (fun h => q2 h.2),List.append_nil]
      rfl
     ·rw [if_neg q3]
      rw [decide_eq_false q3,cond_false,j7 _ (by rw [if_neg (fun h => q2 h.2)]; rw [if_neg q3] at hb; exact hb),if_neg (fun h => q2 h.2)]
      rfl
   ·have q2 : a.Kind = 2 := by have := hv.kind; omega
    rw [beq_false_of_ne q1,cond_false]
    unfold wW
    rw [q2,show ((2 : Int) == 2) = true from rfl,cond_true]
    cases hq : quv c a with
    | nil =>
     rw [hq] at hb
     have e0 : (if rmv x a = 0 then if (2 : Int) = 1 then Ug x c p (i : Int) a else [] else if (2 : Int) = 1 then (if ((([] : List Int).length : Nat) : Int) < rmv x a then [(⟨(p : Int),(i : Int),-1,-1⟩,⟨c.States.set p a.To,c.Queues.set a.Channel.toNat (([] : List Int) ++ [a.Message])⟩)] else []) else if ([] : List Int).head? = some a.Message then [(⟨(p : Int),(i : Int),-1,-1⟩,⟨c.States.set p a.To,c.Queues.set a.Channel.toNat ([] : List Int).tail⟩)] else ([] : List (ze × z7))) = [] := by
      simp
     rw [e0,decide_eq_false (by simp),cond_false,j7 acc (by rw [if_neg (fun h => q1 h.1)]; simp; simp at hb; omega),if_neg (fun h => q1 h.1)]
     rfl
    | cons m l =>
     rw [hq] at hb hle
     simp only [List.length_cons] at hle
     have hr : rmv x a ≠ 0 := by omega
     rw [if_neg hr,if_neg (by omega)]
     rw [if_neg hr,if_neg q1] at hb
     rw [decide_eq_true (by simp),cond_true,show idx (m :: l) 0 = some m from rfl,oB]
     by_cases q3 : m = a.Message
     ·have q3' : (m :: l).head? = some a.Message := by rw [q3]; rfl
      rw [if_pos q3'] at hb ⊢
      rw [show (m == a.Message) = true from beq_iff_eq.2 q3,cond_true,gdT (by simp only [List.length_cons]; omega),JK h.s4 h.q4 p _ _ _ (.inr (by omega)),oB,if_neg (by omega),gdT (by simp only [List.length_singleton] at hb ⊢; exact hb),j7 _ (by rw [if_neg (fun h => q1 h.1)]; simp at hb ⊢; omega),if_neg (fun h => q1 h.1),List.append_nil]
      rfl
     ·have q3' : ¬(m :: l).head? = some a.Message := fun h => q3 (Option.some.inj h)
      rw [if_neg q3'] at hb ⊢
      rw [beq_false_of_ne q3,cond_false,j7 _ (by rw [if_neg (fun h => q1 h.1)]; exact hb),if_neg (fun h => q1 h.1)]
      rfl
 ·rw [if_neg q,show (a.From != stv c p) = true from bne_iff_ne.2 q,cond_true]
  unfold vJ
  rw [List.map_nil,List.append_nil]
theorem z7Q (h : MOk x c) : ZP x c = some ((mvs x c).map Zp) := by
 have hpl := h.sys.pl
 have hlen := z0W (c := c) h.sys
 unfold ZP
 have hl : loop (fun s => qd x c s.1 s.2) (([] : List zg),0) = some ([] ++ (mvs x c).map Zp) := by
  unfold mvs at hlen ⊢
  rw [kY]
  refine WN x.Parts (by omega) (B := 2097152) (fun p P => ((vE P.Arcs (stv c p)).flatMap (one x c p)).map Zp) (by rw [← kY,List.length_map,List.length_nil]; omega) ?_ ?_
  ·intro p P s hP hbs
   have hp := y6 hP
   have harc := (h.sys.part P (List.mem_of_getElem? hP)).arcs
   unfold qd kM
   dsimp only
   rw [decide_eq_true (by omega),cond_true]
   rw [Vc,kY] at hbs ⊢
   rw [WN P.Arcs (by omega) (B := 2097152) (fun i a => (if a.From = stv c p then one x c p ((i : Int),a) else []).map Zp) hbs ?_ ?_]
   ·rfl
   ·intro i a s' ha hb'
    rw [List.length_map] at hb'
    have := z5E h hP ha (acc := s') (by omega)
    exact this
   ·intro s'
    unfold qa
    dsimp only
    rw [yf hP,oB,decide_eq_false (by omega),cond_false]
  ·intro s
   unfold qd
   dsimp only
   rw [decide_eq_false (by omega),cond_false]
 rw [bdT hl]
 rfl
end
def z6A : List Int → List Int → Int
 | x :: a,y :: b => if x = y then z6A a b else if x < y then 1 else 0
 | _,_ => 0
theorem KB : ∀ a,z6A a a = 0
 | [] => rfl
 | x :: a => by rw [z6A,if_pos rfl,KB a]
theorem z6e : ∀ {a b : List Int},a.length = b.length → a ≠ b → z6A a b = 1 ∨ z6A b a = 1
 | [],[],_,h => absurd rfl h
 | x :: a,y :: b,hl,h => by
  simp only [z6A]
  by_cases q : x = y
  ·subst q
   rw [if_pos rfl,if_pos rfl]
   exact z6e (by simpa using hl) (fun e => h (by rw [e]))
  ·rw [if_neg q,if_neg (show ¬y = x from fun e => q e.symm)]
   by_cases q2 : x < y
   ·exact .inl (if_pos q2)
   ·exact .inr (if_pos (by omega))
theorem KA {a b : List Int} (hl : a.length = b.length) (hb : a.length < 4611686018427387904) : jP a b = some (z6A a b) := by
 unfold jP
 rw [hl,bne_self_eq_false,cond_false]
 rw [bdT (X7 a hb (fun i x => match b[i]? with | none => none | some y => if x = y then none else some (if x < y then (1 : Int) else 0)) ?_ ?_)]
 ·have gen : ∀ (l m : List Int) (k : Nat),b.drop k = m → l.length = m.length → (match oS (Zq (fun i x => match b[i]? with | none => none | some y => if x = y then none else some (if x < y then (1 : Int) else 0)) l k) with | .inl _ => some 0 | .inr p => some p) = some (z6A l m) := by
   intro l
   induction l with
   | nil => intro m k _ hm; cases m with
    | nil => rfl
    | cons y m => simp at hm
   | cons x l ih =>
    intro m k hd hm
    cases m with
    | nil => simp at hm
    | cons y m =>
     have hk : b[k]? = some y := by
      have := congrArg (fun z => z[0]?) hd
      simpa using this
     have hd' : b.drop (k + 1) = m := by
      rw [← List.drop_drop,hd]; rfl
     rw [z6A,Zq,hk]
     dsimp only
     by_cases q : x = y
     ·rw [if_pos q,if_pos q]
      exact ih m (k + 1) hd' (by simpa using hm)
     ·rw [if_neg q,if_neg q]
      rfl
  exact gen a b 0 rfl hl
 ·intro i x hx
  have hi := y6 hx
  have hy : b[i]? = some (b[i]'(by omega)) := List.getElem?_eq_getElem _
  generalize b[i]'(by omega) = y at hy
  unfold qP
  rw [decide_eq_true (by omega),cond_true,yf hx,oB,yf hy,oB,hy]
  dsimp only
  by_cases q : x = y
  ·rw [q,bne_self_eq_false,cond_false,if_pos rfl]
   rfl
  ·rw [show (x != y) = true from bne_iff_ne.2 q,cond_true,oB,oB,if_neg q]
   by_cases q2 : x < y
   ·rw [decide_eq_true q2,cond_true,if_pos q2]; rfl
   ·rw [decide_eq_false q2,cond_false,if_neg q2]; rfl
 ·unfold qP
  rw [decide_eq_false (by omega),cond_false]
theorem z1G {a b : List Int} (ha : a.length < 4611686018427387904) (hb : b.length < 4611686018427387904) : ZF a b = some (if a = b then 1 else 0) := by
 unfold ZF
 by_cases hl : a.length = b.length
 ·rw [hl,bne_self_eq_false,cond_false,KA hl ha,oB]
  by_cases q : a = b
  ·subst q
   rw [KB,show ((0 : Int) == 1) = false from rfl,cond_false,KA rfl ha,KB,oB,if_pos rfl]
   rfl
  ·rw [if_neg q]
   by_cases q1 : z6A a b = 1
   ·rw [q1,beq_self_eq_true,cond_true]
   ·rw [beq_false_of_ne q1,cond_false,KA hl.symm hb,oB,(z6e hl q).resolve_left q1,beq_self_eq_true,cond_true]
 ·rw [show (((a.length : Nat) : Int) != ((b.length : Nat) : Int)) = true from bne_iff_ne.2 (by omega),cond_true,if_neg (fun e => hl (by rw [e]))]
instance decCfg : DecidableEq z7 := fun a b => decidable_of_iff (a.States = b.States ∧ a.Queues = b.Queues) (by cases a; cases b; simp)
structure CS (c : z7) : Prop where
 s : c.States.length ≤ 4
 q : c.Queues.length ≤ 4
 b : ∀ q ∈ c.Queues,q.length ≤ 4
theorem MOk.cs {x : z8} {c : z7} (h : MOk x c) : CS c := ⟨h.s4,h.q4,h.qb⟩
theorem z4Z {a b : z7} (ha : CS a) (hb : CS b) : jO a b = some (if a = b then 1 else 0) := by
 have a1 := ha.s; have a2 := ha.q; have b1 := hb.s; have b2 := hb.q
 unfold jO
 rw [z1G (by omega) (by omega),oB]
 by_cases q : a.States = b.States
 ·rw [if_pos q,show ((1 : Int) == 0) = false from rfl,cond_false]
  by_cases ql : a.Queues.length = b.Queues.length
  ·rw [ql,bne_self_eq_false,cond_false]
   rw [bdT (X7 a.Queues (by omega) (fun i x => if some x = b.Queues[i]? then none else some (0 : Int)) ?_ ?_)]
   ·cases hf : Zq (fun i x => if some x = b.Queues[i]? then none else some (0 : Int)) a.Queues 0 with
    | none =>
     have hq : a.Queues = b.Queues := by
      refine List.ext_getElem? fun i => ?_
      rcases Nat.lt_or_ge i a.Queues.length with hi | hi
      ·have hx : a.Queues[i]? = some a.Queues[i] := List.getElem?_eq_getElem hi
       have := XB hf i _ hx
       rw [Nat.zero_add] at this
       split at this
       ·rename_i e; rw [hx]; exact e
       ·cases this
      ·rw [List.getElem?_eq_none hi,List.getElem?_eq_none (by omega)]
     have : a = b := by
      cases a; cases b
      simp only at q hq
      rw [q,hq]
     rw [if_pos this]
     rfl
    | some r =>
     obtain ⟨i,x,h1,h2⟩ := XA hf
     rw [Nat.zero_add] at h2
     split at h2
     ·cases h2
     ·rename_i hne
      cases h2
      rw [if_neg (fun e => hne (by rw [← e]; exact h1.symm))]
      rfl
   ·intro i x hx
    have hi := y6 hx
    have hy : b.Queues[i]? = some (b.Queues[i]'(by omega)) := List.getElem?_eq_getElem _
    generalize b.Queues[i]'(by omega) = y at hy
    have l1 := ha.b x (List.mem_of_getElem? hx)
    have l2 := hb.b y (List.mem_of_getElem? hy)
    unfold kq
    rw [decide_eq_true (by omega),cond_true,yf hx,oB,yf hy,oB,z1G (by omega) (by omega),oB,hy]
    by_cases e : x = y
    ·rw [if_pos e,if_pos (by rw [e])]; rfl
    ·rw [if_neg e,if_neg (fun h => e (Option.some.inj h))]; rfl
   ·unfold kq
    rw [decide_eq_false (by omega),cond_false]
  ·rw [show (((a.Queues.length : Nat) : Int) != ((b.Queues.length : Nat) : Int)) = true from bne_iff_ne.2 (by omega),cond_true,if_neg (fun e => ql (by rw [e]))]
 ·rw [if_neg q,show ((0 : Int) == 0) = true from rfl,cond_true,if_neg (fun e => q (by rw [e]))]
theorem z5B {α : Type} (l : List α) (hl : l.length < 4611686018427387904) (p : α → Bool) {step : Int → Option (LR Int Int)} (h : ∀ (i : Nat) (x : α),l[i]? = some x → step (i : Int) = some (bif p x then .done (i : Int) else .next (w64 ((i : Int) + 1)))) (h2 : step (l.length : Int) = some (.done (l.length : Int))) :
  loop step 0 = some ((l.findIdx p : Nat) : Int) := by
 have hle := List.findIdx_le_length (p := p) (xs := l)
 refine Xu (fun j => (j : Int)) (l.findIdx p) (by omega) (fun j hj => ?_) ?_
 ·have hx : l[j]? = some (l[j]'(by omega)) := List.getElem?_eq_getElem _
  have hp := List.not_of_lt_findIdx hj
  rw [h j _ hx,show p (l[j]'(by omega)) = false by simpa using hp,cond_false,wj (by omega) (by omega)]
  rfl
 ·rcases Nat.lt_or_ge (l.findIdx p) l.length with q | q
  ·have hx : l[l.findIdx p]? = some (l[l.findIdx p]'q) := List.getElem?_eq_getElem _
   rw [h _ _ hx,List.findIdx_getElem (w := q),cond_true]
  ·have : l.findIdx p = l.length := by omega
   rw [this]
   exact h2
def fnd (l : List z7) (c : z7) : Nat := l.findIdx fun y => decide (y = c)
def uj (s : List z7 × List z6) (e : ze × z7) : List z7 × List z6 :=
 (if fnd s.1 e.2 = s.1.length then s.1 ++ [e.2] else s.1,s.2 ++ [⟨e.1,(fnd s.1 e.2 : Nat)⟩])
theorem Uh (l : List (ze × z7)) : ∀ s,(l.foldl uj s).1.length ≤ s.1.length + l.length ∧ (l.foldl uj s).2.length = s.2.length + l.length ∧ s.1.length ≤ (l.foldl uj s).1.length := by
 induction l with
 | nil => intro s; exact ⟨Nat.le_refl _,rfl,Nat.le_refl _⟩
 | cons e l ih =>
  intro s
  obtain ⟨h1,h2,h3⟩ := ih (uj s e)
  have e1 : (uj s e).1.length ≤ s.1.length + 1 ∧ s.1.length ≤ (uj s e).1.length := by
   unfold uj
   dsimp only
   split
   ·rw [List.length_append,List.length_singleton]; omega
   ·omega
  have e2 : (uj s e).2.length = s.2.length + 1 := by
   unfold uj
   dsimp only
   rw [List.length_append,List.length_singleton]
  rw [List.foldl_cons,List.length_cons]
  omega
theorem z2p {P : z7 → Prop} (l : List (ze × z7)) : ∀ s,(∀ c ∈ s.1,P c) → (∀ e ∈ l,P e.2) → ∀ c ∈ (l.foldl uj s).1,P c := by
 induction l with
 | nil => intro s h _; exact h
 | cons e l ih =>
  intro s h he
  refine ih (uj s e) ?_ (fun e' h' => he e' (List.mem_cons_of_mem _ h'))
  intro c hc
  unfold uj at hc
  dsimp only at hc
  split at hc
  ·rcases List.mem_append.1 hc with hc | hc
   ·exact h c hc
   ·rw [List.mem_singleton.1 hc]; exact he e List.mem_cons_self
  ·exact h c hc
section
variable {x : z8}
theorem zez {c : z7} (h : MOk x c) {list : List z7} (hm : ∀ d ∈ list,MOk x d) (hl : list.length ≤ 1048576) :
  loop (fun s => qg ((mvs x c).map Zp) s.1 s.2.1 s.2.2) (list,([] : List z6),0) = some ((mvs x c).foldl uj (list,[])) := by
 have hlen := z0W (c := c) h.sys
 have hok : ∀ j,∀ d ∈ (((mvs x c).take j).foldl uj (list,[])).1,MOk x d := fun j => z2p _ _ hm fun e he => z3Y h (List.mem_of_mem_take he)
 refine Xu (fun j => ((((mvs x c).take j).foldl uj (list,[])).1,(((mvs x c).take j).foldl uj (list,[])).2,(j : Int))) (mvs x c).length (by omega) (fun j hj => ?_) ?_
 ·have he : (mvs x c)[j]? = some (mvs x c)[j] := List.getElem?_eq_getElem hj
  have hem := z3Y h (List.mem_of_getElem? he)
  have hle : ((mvs x c).map Zp)[j]? = some (Zp (mvs x c)[j]) := by rw [List.getElem?_map,he]; rfl
  have hk := hok j
  obtain ⟨g1,g2,_⟩ := Uh ((mvs x c).take j) (list,[])
  rw [List.length_take] at g1 g2
  have hnext : ((mvs x c).take (j + 1)).foldl uj (list,[]) = uj (((mvs x c).take j).foldl uj (list,[])) (mvs x c)[j] := by
   rw [List.take_add_one,he,List.foldl_append]
   rfl
  dsimp only
  rw [hnext]
  generalize ((mvs x c).take j).foldl uj (list,[]) = st at *
  generalize (mvs x c)[j] = e at *
  obtain ⟨li,l⟩ := st
  dsimp only at *
  unfold qg
  rw [List.length_map,decide_eq_true (by omega),cond_true]
  have h9 : loop (fun s => qe ((mvs x c).map Zp) li (j : Int) s) 0 = some ((fnd li e.2 : Nat) : Int) := by
   refine z5B li (by omega) (fun y => decide (y = e.2)) (fun i y hy => ?_) ?_
   ·have hi := y6 hy
    unfold qe
    rw [decide_eq_true (by omega),cond_true,yf hy,oB,yf hle,oB]
    show Option.bind (jO y e.2) _ = _
    rw [z4Z (hk y (List.mem_of_getElem? hy)).cs hem.cs,oB]
    by_cases q : y = e.2
    ·rw [if_pos q,decide_eq_true q]; rfl
    ·rw [if_neg q,decide_eq_false q]; rfl
   ·unfold qe
    rw [decide_eq_false (by omega),cond_false]
  rw [h9,oB]
  unfold kN jj kO uj
  dsimp only
  rw [wj (by omega) (by omega)]
  by_cases q : fnd li e.2 = li.length
  ·rw [q,beq_self_eq_true,cond_true,yf hle,oB,gdT (by rw [List.length_singleton]; omega),oB,gdT (by rw [List.length_singleton]; simp at g2; omega),if_pos rfl]
   rfl
  ·rw [beq_false_of_ne (by omega),cond_false,yf hle,oB,gdT (by rw [List.length_singleton]; simp at g2; omega),if_neg q]
   rfl
 ·dsimp only
  unfold qg
  rw [List.length_map,decide_eq_false (by omega),cond_false,List.take_length]
def z2m (x : z8) (n : Nat) (s : List z7 × List (List z6)) : List z7 × List (List z6) :=
 match s.1[n]? with
 | none => s
 | some c => (((mvs x c).foldl uj (s.1,[])).1,s.2 ++ [((mvs x c).foldl uj (s.1,[])).2])
def xJ (x : z8) : Nat → List z7 × List (List z6)
 | 0 => ([beg x],[])
 | n + 1 => z2m x n (xJ x n)
theorem z0Z (hv : z1i x) : ∀ n,(∀ d ∈ (xJ x n).1,MOk x d) ∧ 1 ≤ (xJ x n).1.length
 | 0 => ⟨fun d hd => by rw [List.mem_singleton.1 hd]; exact z8U hv,Nat.le_refl _⟩
 | n + 1 => by
  obtain ⟨h1,h2⟩ := z0Z hv n
  rw [xJ,z2m]
  split
  ·exact ⟨h1,h2⟩
  ·rename_i c hc
   have hco := h1 c (List.mem_of_getElem? hc)
   refine ⟨z2p _ _ h1 fun e he => z3Y hco he,?_⟩
   have := (Uh (mvs x c) ((xJ x n).1,[])).2.2
   dsimp only at this ⊢
   omega
theorem z5O (hv : z1i x) {most : Nat} (hmost : most ≤ 1048576) :
  ∃ n,ZQ x (most : Int) = some (xJ x n) ∧ ((xJ x n).1.length ≤ n ∨ most < (xJ x n).1.length) ∧ ∀ m,m < n → m < (xJ x m).1.length ∧ (xJ x m).1.length ≤ most := by
 unfold ZQ
 rw [z8j hv,oB]
 have hl : Ret (loop (fun s => ji x (most : Int) s.1 s.2.1 s.2.2) (([beg x] : List z7),([] : List (List z6)),0)) (fun r => ∃ n,r = xJ x n ∧ ((xJ x n).1.length ≤ n ∨ most < (xJ x n).1.length) ∧ ∀ m,m < n → m < (xJ x m).1.length ∧ (xJ x m).1.length ≤ most) := by
  refine kK (fun s => ∃ n : Nat,s = ((xJ x n).1,(xJ x n).2,(n : Int)) ∧ n ≤ most + 1 ∧ (xJ x n).2.length ≤ n ∧ ∀ m,m < n → m < (xJ x m).1.length ∧ (xJ x m).1.length ≤ most) (fun s => most + 1 - s.2.2.toNat) ⟨0,rfl,by omega,Nat.le_refl _,fun m hm => by omega⟩ (by show most + 1 - 0 < _; omega) ?_
  rintro s ⟨n,rfl,hn,hs,hm⟩
  dsimp only
  unfold ji
  obtain ⟨hok,h1⟩ := z0Z hv n
  by_cases q : n < (xJ x n).1.length
  ·by_cases q2 : (xJ x n).1.length ≤ most
   ·have hc : (xJ x n).1[n]? = some (xJ x n).1[n] := List.getElem?_eq_getElem q
    have hco := hok _ (List.mem_of_getElem? hc)
    have hg : xJ x (n + 1) = (((mvs x (xJ x n).1[n]).foldl uj ((xJ x n).1,[])).1,(xJ x n).2 ++ [((mvs x (xJ x n).1[n]).foldl uj ((xJ x n).1,[])).2]) := by
     rw [xJ,z2m,hc]
    rw [decide_eq_true (by omega),cond_true,decide_eq_true (by omega),cond_true,yf hc,oB,z7Q hco,oB,zez hco hok (by omega),oB]
    unfold kP kQ
    rw [gdT (by rw [List.length_singleton]; omega),wj (by omega) (by omega)]
    refine yp.2 ⟨⟨n + 1,by rw [hg]; rfl,by omega,by rw [hg]; dsimp only; rw [List.length_append,List.length_singleton]; omega,fun m hm' => ?_⟩,?_⟩
    ·rcases Nat.lt_or_ge m n with q3 | q3
     ·exact hm m q3
     ·have : m = n := by omega
      subst this
      exact ⟨q,q2⟩
    ·show most + 1 - ((n : Int) + 1).toNat < most + 1 - (n : Int).toNat
     omega
   ·rw [decide_eq_true (by omega),cond_true,decide_eq_false (by omega),cond_false]
    exact yp.2 ⟨n,rfl,.inr (by omega),hm⟩
  ·rw [decide_eq_false (by omega),cond_false]
   exact yp.2 ⟨n,rfl,.inl (by omega),hm⟩
 obtain ⟨r,e,n,rfl,h1,h2⟩ := hl
 rw [bdT e]
 exact ⟨n,rfl,h1,h2⟩
end
theorem z1b {α : Type} [BEq α] [LawfulBEq α] (a b : ya α) : (a == b) = true ↔ a = b := by
 cases a; cases b
 show ((_ == _) && (_ == _) && (_ == _) && (_ == _)) = true ↔ _
 simp [and_assoc]
theorem z1N (a b : zi) : (a == b) = true ↔ a = b := by
 cases a; cases b
 show ((_ == _) && (_ == _)) = true ↔ _
 rw [Bool.and_eq_true,z1b]
 simp
instance : LawfulBEq zi := {
 eq_of_beq h := (z1N _ _).1 h
 rfl := (z1N _ _).2 rfl }
theorem kJ (a b : zb) : (a == b) = true ↔ a = b := by
 cases a; cases b
 show ((_ == _) && (_ == _)) = true ↔ _
 rw [Bool.and_eq_true,z1b,z1b]
 simp
theorem zbT {V : Type} (l : List (zb × V)) (x : zb) (v : V) : KK (KJ l x v) x = some v := by
 induction l with
 | nil =>
  simp only [KJ,KK]
  rw [if_pos ((kJ x x).2 rfl)]
 | cons p l ih =>
  simp only [KJ]
  by_cases h : p.1 = x
  ·rw [if_pos ((kJ _ _).2 h)]
   simp only [KK]
   rw [if_pos ((kJ x x).2 rfl)]
  ·rw [if_neg (fun e => h ((kJ _ _).1 e))]
   simp only [KK,ih]
   rw [if_neg (fun e => h ((kJ _ _).1 e))]
theorem zbS {V : Type} (l : List (zb × V)) {x y : zb} (v : V) (q : x ≠ y) : KK (KJ l x v) y = KK l y := by
 induction l with
 | nil =>
  simp only [KJ,KK]
  rw [if_neg (fun e => q ((kJ x y).1 e))]
 | cons p l ih =>
  simp only [KJ]
  by_cases h : p.1 = x
  ·rw [if_pos ((kJ _ _).2 h)]
   simp only [KK]
   rw [if_neg (fun e => q ((kJ _ _).1 e)),if_neg (fun e => q (h ▸ (kJ _ _).1 e))]
  ·rw [if_neg (fun e => h ((kJ _ _).1 e))]
   simp only [KK,ih]
theorem z7a {x : z8} {a b : z7} (ha : MOk x a) (hb : MOk x b) (h : yj a = yj b) : a = b := by
 have h1 := z2y ha.cfg.sl ha.cfg.ql ha.sys.pl.2 ha.sys.chl ha.qb
 rw [h,z2y hb.cfg.sl hb.cfg.ql hb.sys.pl.2 hb.sys.chl hb.qb] at h1
 exact (Option.some.inj h1).symm
theorem z5T (l : List z7) (c : z7) : fnd l c ≤ l.length := List.findIdx_le_length
theorem z5U (l : List z7) (d c : z7) : fnd (l ++ [d]) c = if fnd l c < l.length then fnd l c else if d = c then l.length else l.length + 1 := by
 unfold fnd
 rw [List.findIdx_append]
 split
 ·rfl
 ·rw [List.findIdx_singleton]
  by_cases q : d = c
  ·simp [q]
  ·simp [q]; omega
def zaY (x : z8) (L : List z7) (m : List (zb × Int)) : Prop :=
 ∀ c,MOk x c → KK m (yj c) = if fnd L c < L.length then some ((fnd L c : Nat) : Int) else none
section
variable {x : z8}
theorem z3E {L : List z7} {m : List (zb × Int)} {d : z7} (hd : MOk x d) (h : zaY x L m) (hn : fnd L d = L.length) : zaY x (L ++ [d]) (KJ m (yj d) (L.length : Int)) := by
 intro c hc
 rw [List.length_append,List.length_singleton]
 have hle := z5T L c
 by_cases q : d = c
 ·subst q
  have e : fnd (L ++ [d]) d = L.length := by rw [z5U,if_neg (by omega),if_pos rfl]
  rw [zbT,e,if_pos (by omega)]
 ·rw [zbS _ _ (fun e => q (z7a hd hc e)),h c hc,z5U]
  by_cases q2 : fnd L c < L.length
  ·rw [if_pos q2,if_pos q2,if_pos (by omega)]
  ·rw [if_neg q2,if_neg q2,if_neg q,if_neg (by omega)]
theorem zeE (z : Int) : ∀ (es : List (ze × z7)) (L : List z7) (m : List (zb × Int)) (l : List z6),(∀ e ∈ es,MOk x e.2) → zaY x L m → L.length ≤ 1024 → l.length + es.length ≤ 4294967296 →
  ((es.foldl uj (L,l)).1.length ≤ 1024 ∧ ∃ m',zaY x (es.foldl uj (L,l)).1 m' ∧ uW (yeM (yOf (fun s (e : ze × zb) => zK s.1 s.2.1 s.2.2.1 s.2.2.2 e.1 e.2))) es (.next (z,L.map yj,m,l)) = some (.next (.next (z,(es.foldl uj (L,l)).1.map yj,m',(es.foldl uj (L,l)).2)))) ∨
  (1024 < (es.foldl uj (L,l)).1.length ∧ ∃ r,uW (yeM (yOf (fun s (e : ze × zb) => zK s.1 s.2.1 s.2.2.1 s.2.2.2 e.1 e.2))) es (.next (z,L.map yj,m,l)) = some (.done (.done (3,r)))) := by
 intro es
 induction es with
 | nil => intro L m l _ hm hl _; exact .inl ⟨hl,m,hm,rfl⟩
 | cons e es ih =>
  intro L m l he hm hl hb
  have hed := he e List.mem_cons_self
  have hes := fun e' h' => he e' (List.mem_cons_of_mem e h')
  rw [List.length_cons] at hb
  have hg := hm e.2 hed
  have hfl := z5T L e.2
  rw [List.foldl_cons]
  by_cases q : fnd L e.2 < L.length
  ·rw [if_pos q] at hg
   have hst : uj (L,l) e = (L,l ++ [⟨e.1,((fnd L e.2 : Nat) : Int)⟩]) := by
    unfold uj; dsimp only; rw [if_neg (by omega)]
   have e1 : yeM (yOf (fun s (e : ze × zb) => zK s.1 s.2.1 s.2.2.1 s.2.2.2 e.1 e.2)) (.next (z,L.map yj,m,l)) e = some (.next (z,L.map yj,m,l ++ [⟨e.1,((fnd L e.2 : Nat) : Int)⟩]),true) := by
    unfold yeM yOf zK xx
    dsimp only
    rw [hg,oB,show (some ((fnd L e.2 : Nat) : Int)).isSome = true from rfl,Bool.not_true,cond_false,gdT (by rw [List.length_singleton]; omega)]
    rfl
   rw [uW,e1,oB,cond_true,hst]
   exact ih L m _ hes hm hl (by rw [List.length_append,List.length_singleton]; omega)
  ·rw [if_neg q] at hg
   have hst : uj (L,l) e = (L ++ [e.2],l ++ [⟨e.1,((L.length : Nat) : Int)⟩]) := by
    unfold uj; dsimp only; rw [if_pos (by omega),show fnd L e.2 = L.length by omega]
   rw [hst]
   by_cases q2 : L.length = 1024
   ·have hlen := (Uh es (L ++ [e.2],l ++ [⟨e.1,((L.length : Nat) : Int)⟩])).2.2
    dsimp only at hlen
    rw [List.length_append,List.length_singleton] at hlen
    refine .inr ⟨by omega,(L.map yj,m,l),?_⟩
    have e1 : yeM (yOf (fun s (e : ze × zb) => zK s.1 s.2.1 s.2.2.1 s.2.2.2 e.1 e.2)) (.next (z,L.map yj,m,l)) e = some (.done (3,L.map yj,m,l),false) := by
     unfold yeM yOf zK
     dsimp only
     rw [hg,oB,show (none : Option Int).isSome = false from rfl,Bool.not_false,cond_true,List.length_map,q2,show (((1024 : Nat) : Int) == 1024) = true from rfl,cond_true]
    rw [uW,e1,oB,cond_false]
   ·have e1 : yeM (yOf (fun s (e : ze × zb) => zK s.1 s.2.1 s.2.2.1 s.2.2.2 e.1 e.2)) (.next (z,L.map yj,m,l)) e = some (.next (z,(L ++ [e.2]).map yj,KJ m (yj e.2) ((L.length : Nat) : Int),l ++ [⟨e.1,((L.length : Nat) : Int)⟩]),true) := by
     unfold yeM yOf zK xx
     dsimp only
     rw [hg,oB,show (none : Option Int).isSome = false from rfl,Bool.not_false,cond_true,List.length_map,beq_false_of_ne (by omega),cond_false,gdT (by rw [List.length_singleton]; omega),gdT (by rw [List.length_singleton]; omega),List.map_append]
     rfl
    rw [uW,e1,oB,cond_true]
    exact ih _ _ _ hes (z3E hed hm (by omega)) (by rw [List.length_append,List.length_singleton]; omega) (by rw [List.length_append,List.length_singleton]; omega)
theorem z88 (l : List z6) : ye l = some l := by
 unfold ye
 rw [gdT (by omega)]
 simp
theorem z7b : yj (beg x) = ⟨⟨0,0,0,0⟩,⟨⟨0,⟨0,0,0,0⟩⟩,⟨0,⟨0,0,0,0⟩⟩,⟨0,⟨0,0,0,0⟩⟩,⟨0,⟨0,0,0,0⟩⟩⟩⟩ ∨ 4 < x.Parts.length ∨ 4 < x.Channels.length := by
 by_cases h1 : 4 < x.Parts.length
 ·exact .inr (.inl h1)
 ·by_cases h2 : 4 < x.Channels.length
  ·exact .inr (.inr h2)
  ·refine .inl ?_
   unfold yj beg
   dsimp only
   generalize x.Parts.length = a at h1
   generalize x.Channels.length = b at h2
   have e1 : pad (List.replicate a 0) = ⟨0,0,0,0⟩ := by
    match a,h1 with
    | 0,_ => rfl
    | 1,_ => rfl
    | 2,_ => rfl
    | 3,_ => rfl
    | 4,_ => rfl
    | n + 5,h => omega
   have e2 : za4 (List.replicate b []) = ⟨⟨0,⟨0,0,0,0⟩⟩,⟨0,⟨0,0,0,0⟩⟩,⟨0,⟨0,0,0,0⟩⟩,⟨0,⟨0,0,0,0⟩⟩⟩ := by
    match b,h2 with
    | 0,_ => rfl
    | 1,_ => rfl
    | 2,_ => rfl
    | 3,_ => rfl
    | 4,_ => rfl
    | n + 5,h => omega
   rw [e1,e2]
theorem z2k (hv : z1i x) :
  (∃ n,zM x = some ((xJ x n).1.map yj,(xJ x n).2,0) ∧ (xJ x n).1.length ≤ n ∧ (xJ x n).1.length ≤ 1024 ∧ ∀ m,m < n → m < (xJ x m).1.length) ∨
  (∃ n,zM x = some ([],[],3) ∧ 1024 < (xJ x n).1.length ∧ ∀ m,m < n → m < (xJ x m).1.length) := by
 unfold zM
 have hb : (⟨⟨0,0,0,0⟩,⟨⟨0,⟨0,0,0,0⟩⟩,⟨0,⟨0,0,0,0⟩⟩,⟨0,⟨0,0,0,0⟩⟩,⟨0,⟨0,0,0,0⟩⟩⟩⟩ : zb) = yj (beg x) := by
  rcases z7b (x := x) with h | h | h
  ·exact h.symm
  ·have := hv.pl.2; omega
  ·have := hv.chl; omega
 rw [hb]
 have hinv0 : zaY x [beg x] (KJ ([] : List (zb × Int)) (yj (beg x)) 0) := z3E (L := []) (z8U hv) (fun c hc => rfl) rfl
 have hl : Ret (loop (fun s => xZ x s.1 s.2.1 s.2.2.1 s.2.2.2.1 s.2.2.2.2) (0,([yj (beg x)] : List zb),(KJ ([] : List (zb × Int)) (yj (beg x)) 0),([] : List (List z6)),0))
   (fun r => (∃ n,r = .inl (0,(xJ x n).1.map yj,(xJ x n).2) ∧ (xJ x n).1.length ≤ n ∧ (xJ x n).1.length ≤ 1024 ∧ ∀ m,m < n → m < (xJ x m).1.length) ∨ (∃ n,r = .inr ([],[],3) ∧ 1024 < (xJ x n).1.length ∧ ∀ m,m < n → m < (xJ x m).1.length)) := by
  refine kK (fun s => ∃ (n : Nat) (m : List (zb × Int)),s = (0,(xJ x n).1.map yj,m,(xJ x n).2,(n : Int)) ∧ zaY x (xJ x n).1 m ∧ n ≤ 1024 ∧ (xJ x n).2.length ≤ n ∧ (xJ x n).1.length ≤ 1024 ∧ ∀ m,m < n → m < (xJ x m).1.length) (fun s => 1024 - s.2.2.2.2.toNat) ⟨0,_,rfl,hinv0,by omega,Nat.le_refl _,by show 1 ≤ 1024; omega,fun m hm => by omega⟩ (by show 1024 - 0 < _; omega) ?_
  rintro s ⟨n,m,rfl,hinv,hn,hs,hlen,hm⟩
  dsimp only
  unfold xZ
  obtain ⟨hok,h1⟩ := z0Z hv n
  rw [List.length_map]
  by_cases q : n < (xJ x n).1.length
  ·have hc : (xJ x n).1[n]? = some (xJ x n).1[n] := List.getElem?_eq_getElem q
   have hco := hok _ (List.mem_of_getElem? hc)
   have hg : xJ x (n + 1) = (((mvs x (xJ x n).1[n]).foldl uj ((xJ x n).1,[])).1,(xJ x n).2 ++ [((mvs x (xJ x n).1[n]).foldl uj ((xJ x n).1,[])).2]) := by
    rw [xJ,z2m,hc]
   generalize (xJ x n).1[n] = c at *
   have hml := z0W (c := c) hv
   have hlt : ∀ m,m < n + 1 → m < (xJ x m).1.length := by
    intro m hm'
    rcases Nat.lt_or_ge m n with q3 | q3
    ·exact hm m q3
    ·have : m = n := by omega
     subst this
     exact q
   rw [decide_eq_true (by omega),cond_true,yf (l := (xJ x n).1.map yj) (i := n) (x := yj c) (by rw [List.getElem?_map,hc]; rfl),oB]
   unfold vS
   rw [oB]
   dsimp only
   rw [z7D hco]
   rcases zeE 0 (mvs x c) (xJ x n).1 m [] (fun e he => z3Y hco he) hinv hlen (by rw [List.length_nil]; omega) with ⟨h2,m',h3,h4⟩ | ⟨h2,r,h4⟩
   ·rw [h4]
    show Ret (w5 (xJ x n).2 (n : Int) 0 (((mvs x c).foldl uj ((xJ x n).1,[])).1.map yj) m' ((mvs x c).foldl uj ((xJ x n).1,[])).2) _
    unfold w5 wU
    rw [z88,oB,gdT (by rw [List.length_singleton]; omega),wj (by omega) (by omega)]
    refine yp.2 ⟨⟨n + 1,m',by rw [hg]; rfl,by rw [hg]; exact h3,by omega,by rw [hg]; dsimp only; rw [List.length_append,List.length_singleton]; omega,by rw [hg]; exact h2,hlt⟩,?_⟩
    show 1024 - ((n : Int) + 1).toNat < 1024 - (n : Int).toNat
    omega
   ·rw [h4]
    refine yp.2 (.inr ⟨n + 1,rfl,by rw [hg]; exact h2,hlt⟩)
  ·rw [decide_eq_false (by omega),cond_false]
   exact yp.2 (.inl ⟨n,rfl,by omega,hlen,hm⟩)
 obtain ⟨r,e,h⟩ := hl
 rw [bdT e]
 rcases h with ⟨n,rfl,h1,h2,h3⟩ | ⟨n,rfl,h1,h2⟩
 ·exact .inl ⟨n,rfl,h1,h2,h3⟩
 ·exact .inr ⟨n,rfl,h1,h2⟩
end
def z2o : List z7 → List (ze × z7) → List z7
 | L,[] => L
 | L,e :: es => z2o (if fnd L e.2 = L.length then L ++ [e.2] else L) es
def KT : List z7 → List (ze × z7) → List z6
 | L,[] => []
 | L,e :: es => ⟨e.1,(fnd L e.2 : Nat)⟩ :: KT (if fnd L e.2 = L.length then L ++ [e.2] else L) es
theorem JD : ∀ (es : List (ze × z7)) (L : List z7) (l : List z6),es.foldl uj (L,l) = (z2o L es,l ++ KT L es)
 | [],L,l => by simp [z2o,KT]
 | e :: es,L,l => by
  rw [List.foldl_cons,uj,JD es,z2o,KT,List.append_assoc]
  rfl
section
variable {x : z8}
theorem z2h {n : Nat} {c : z7} (hc : (xJ x n).1[n]? = some c) : xJ x (n + 1) = (z2o (xJ x n).1 (mvs x c),(xJ x n).2 ++ [KT (xJ x n).1 (mvs x c)]) := by
 rw [xJ,z2m,hc]
 dsimp only
 rw [JD,List.nil_append]
theorem UZ (n : Nat) : (xJ x n).1.length ≤ (xJ x (n + 1)).1.length := by
 rw [xJ,z2m]
 split
 ·exact Nat.le_refl _
 ·rename_i c hc
  exact (Uh (mvs x c) ((xJ x n).1,[])).2.2
theorem z2j {n m : Nat} (h : n ≤ m) : (xJ x n).1.length ≤ (xJ x m).1.length := by
 induction m with
 | zero => rw [Nat.le_zero.1 h]; exact Nat.le_refl _
 | succ m ih =>
  rcases Nat.lt_or_ge n (m + 1) with q | q
  ·exact Nat.le_trans (ih (by omega)) (UZ m)
  ·rw [show n = m + 1 by omega]; exact Nat.le_refl _
theorem z2i : ∀ n,(∀ m,m < n → m < (xJ x m).1.length) → (xJ x n).2.length = n
 | 0,_ => rfl
 | n + 1,h => by
  have hn := h n (by omega)
  rw [z2h (List.getElem?_eq_getElem hn),List.length_append,z2i n (fun m hm => h m (by omega))]
  rfl
theorem zhB {n most : Nat} (hv : z1i x) (hmost : most ≤ 1024) (h1 : (xJ x n).1.length ≤ n ∨ most < (xJ x n).1.length) (h2 : ∀ m,m < n → m < (xJ x m).1.length ∧ (xJ x m).1.length ≤ most) (hl : (xJ x n).1.length ≤ most) :
  zM x = some ((xJ x n).1.map yj,(xJ x n).2,0) ∧ (xJ x n).1.length = n ∧ (xJ x n).2.length = n := by
 have hle : (xJ x n).1.length ≤ n := by omega
 have hge : n ≤ (xJ x n).1.length := by
  cases n with
  | zero => omega
  | succ n =>
   have a := (h2 n (by omega)).1
   have b := UZ (x := x) n
   omega
 refine ⟨?_,by omega,z2i n fun m hm => (h2 m hm).1⟩
 rcases z2k hv with ⟨k,e,k1,k2,k3⟩ | ⟨k,e,k1,k2⟩
 ·have : k = n := by
   rcases Nat.lt_trichotomy k n with q | q | q
   ·have := (h2 k q).1; omega
   ·exact q
   ·have := k3 n q; omega
  rw [e,this]
 ·have hkn : k ≤ n := by
   rcases Nat.lt_or_ge n k with q | q
   ·have := k2 n q; omega
   ·exact q
  have := z2j (x := x) hkn
  omega
theorem z6b {n most : Nat} (hv : z1i x) (hmost : most ≤ 1024) (h2 : ∀ m,m < n → m < (xJ x m).1.length ∧ (xJ x m).1.length ≤ most) (hl : most < (xJ x n).1.length) :
  zM x = some ([],[],3) ∨ ∃ L st,zM x = some (L,st,0) ∧ most < L.length ∧ L.length ≤ 1024 := by
 rcases z2k hv with ⟨k,e,k1,k2,k3⟩ | ⟨k,e,k1,k2⟩
 ·refine .inr ⟨_,_,e,?_,by rw [List.length_map]; exact k2⟩
  rw [List.length_map]
  have hkn : n ≤ k := by
   rcases Nat.lt_or_ge k n with q | q
   ·have := (h2 k q).1; omega
   ·exact q
  have := z2j (x := x) hkn
  omega
 ·exact .inl e
end
theorem z2n : ∀ (es : List (ze × z7)) (L : List z7),(KT L es).length = es.length
 | [],_ => rfl
 | e :: es,L => by rw [KT,List.length_cons,List.length_cons,z2n es]
theorem UY {x : z8} (hv : z1i x) : ∀ n,∀ u ∈ (xJ x n).2,u.length ≤ 1048576
 | 0,u,h => by simp [xJ] at h
 | n + 1,u,h => by
  rw [xJ,z2m] at h
  split at h
  ·exact UY hv n u h
  ·rename_i c hc
   rcases List.mem_append.1 h with h | h
   ·exact UY hv n u h
   ·rw [List.mem_singleton.1 h,JD,List.nil_append]
    dsimp only
    rw [z2n]
    exact z0W hv
theorem zcs {α : Type} {l : List α} {a b : α} {j : Nat} (h : l[j]? = some b) : (l ++ [a])[j]? = some b := by
 rw [List.getElem?_append_left (y6 h)]; exact h
theorem zaI {α : Type} {l : List α} {a : α} : (l ++ [a])[l.length]? = some a := by
 rw [List.getElem?_append_right (Nat.le_refl _),Nat.sub_self]; rfl
def Wr (bad : Nat → Bool) : Nat → Nat → Option Nat
 | 0,_ => none
 | n + 1,i => bif bad i then some i else Wr bad n (i + 1)
theorem z3b {ρ : Type} (n : Nat) (hn : n < 4611686018427387904) (bad : Nat → Bool) (r : Nat → ρ) {step : Int → Option (LR Int (Unit ⊕ ρ))} (h : ∀ i : Nat,i < n → step (i : Int) = some (bif bad i then .done (.inr (r i)) else .next (w64 ((i : Int) + 1)))) (h2 : step (n : Int) = some (.done (.inl ()))) :
  loop step 0 = some (oS ((Wr bad n 0).map r)) := by
 have gen : ∀ (f k : Nat),k ≤ n → n - k < f → W0 step f (k : Int) = some (oS ((Wr bad (n - k) k).map r)) := by
  intro f
  induction f with
  | zero => intro k _ h; omega
  | succ f ih =>
   intro k hk hf
   rw [jQ]
   rcases Nat.lt_or_ge k n with q | q
   ·rw [h k q,show n - k = (n - (k + 1)) + 1 by omega,Wr]
    cases bad k with
    | true => rfl
    | false =>
     dsimp only [cond_false]
     rw [wj (by omega) (by omega)]
     exact ih (k + 1) q (by omega)
   ·have : k = n := by omega
    subst this
    rw [h2,Nat.sub_self]
    rfl
 exact gen fuel 0 (Nat.zero_le _) (by show n - 0 < 18446744073709551616; omega)
theorem z8Q (l : List Int) (v : Int) (hl : l.length < 4611686018427387904) : X4 l v = some (bif l.any (fun y => v == y) then 1 else 0) := by
 unfold X4
 rw [bdT (X7 l hl (fun _ x => bif v == x then some (1 : Int) else none) ?_ ?_)]
 ·cases hf : Zq (fun (_ : Nat) x => bif v == x then some (1 : Int) else none) l 0 with
  | none =>
   have : (l.any fun y => v == y) = false := List.any_eq_false.2 fun x hx => by
    obtain ⟨i,hi⟩ := List.mem_iff_getElem?.1 hx
    have := XB hf i x hi
    intro q
    rw [q] at this
    cases this
   rw [this]
   rfl
  | some r =>
   obtain ⟨i,x,h1,h2⟩ := XA hf
   cases hb : (v == x) with
   | false => rw [hb] at h2; cases h2
   | true =>
    rw [hb] at h2
    cases h2
    have : (l.any fun y => v == y) = true := List.any_eq_true.2 ⟨x,List.mem_of_getElem? h1,hb⟩
    rw [this]
    rfl
 ·intro i x hx
  have hi := y6 hx
  unfold kU
  rw [decide_eq_true (by omega),cond_true,yf hx,oB]
  by_cases q : x = v
  ·subst q; rw [beq_self_eq_true]; rfl
  ·rw [beq_false_of_ne q,beq_false_of_ne (fun e => q e.symm)]; rfl
 ·unfold kU
  rw [decide_eq_false (by omega),cond_false]
theorem z3a {ρ : Type} (n : Nat) (bad : Nat → Bool) (r : Nat → ρ) (hn : n < 4611686018427387904 ∨ ∃ j,j < 4611686018427387904 ∧ j < n ∧ bad j = true) {step : Int → Option (LR Int (Unit ⊕ ρ))} (h : ∀ i : Nat,i < n → i < 4611686018427387904 → step (i : Int) = some (bif bad i then .done (.inr (r i)) else .next (w64 ((i : Int) + 1)))) (h2 : n < 4611686018427387904 → step (n : Int) = some (.done (.inl ()))) :
  loop step 0 = some (oS ((Wr bad n 0).map r)) := by
 rcases hn with hn | ⟨j,hj,hjn,hbj⟩
 ·exact z3b n hn bad r (fun i hi => h i hi (by omega)) (h2 hn)
 ·have gen : ∀ (f k : Nat),k ≤ j → j - k < f → W0 step f (k : Int) = some (oS ((Wr bad (n - k) k).map r)) := by
   intro f
   induction f with
   | zero => intro k _ h; omega
   | succ f ih =>
    intro k hk hf
    rw [jQ,h k (by omega) (by omega),show n - k = (n - (k + 1)) + 1 by omega,Wr]
    cases hbk : bad k with
    | true => rfl
    | false =>
     dsimp only [cond_false]
     rw [wj (by omega) (by omega)]
     have : k ≠ j := fun e => by rw [e,hbj] at hbk; cases hbk
     exact ih (k + 1) (by omega) (by omega)
  exact gen fuel 0 (Nat.zero_le _) (by show j - 0 < 18446744073709551616; omega)
def z30 (l : List Int) (many : Int) (i : Nat) : Bool := match l[i]? with
 | none => false
 | some v => !decide (InR v many) || (decide (0 < i) && match l[i - 1]? with | some u => decide (v ≤ u) | none => false)
def z5a (l : List Int) (many : Int) : Bool := (Wr (z30 l many) l.length 0).isNone
theorem Kt {bad : Nat → Bool} : ∀ {n i : Nat},Wr bad n i = none → ∀ j,i ≤ j → j < i + n → bad j = false
 | 0,i,_,j,h1,h2 => by omega
 | n + 1,i,h,j,h1,h2 => by
  rw [Wr] at h
  cases hb : bad i with
  | true => rw [hb] at h; cases h
  | false =>
   rw [hb,cond_false] at h
   rcases Nat.lt_or_ge i j with q | q
   ·exact Kt h j q (by omega)
   ·rw [show j = i by omega]; exact hb
theorem z7s {l : List Int} {many : Int} (h : z5a l many = true) : Ris l many := by
 unfold z5a at h
 have hn := Option.isNone_iff_eq_none.1 h
 intro i v hv
 have hb := Kt hn i (Nat.zero_le _) (by have := y6 hv; omega)
 unfold z30 at hb
 rw [hv] at hb
 simp only [Bool.or_eq_false_iff,Bool.not_eq_false',decide_eq_true_eq] at hb
 refine ⟨hb.1,fun hi => ?_⟩
 have hl := y6 hv
 have hu : l[i - 1]? = some (l[i - 1]'(by omega)) := List.getElem?_eq_getElem _
 have h2 := hb.2
 rw [hu] at h2
 simp only [decide_eq_true hi,Bool.true_and,decide_eq_false_iff_not] at h2
 exact ⟨_,hu,by omega⟩
theorem z8H {l : List Int} {many : Int} (h : ∀ j,j < l.length → z30 l many j = false) : ∀ (i : Nat) (v : Int),l[i]? = some v → (i : Int) ≤ v ∧ v < many
 | 0,v,hv => by
  have hb := h 0 (y6 hv)
  unfold z30 at hb
  rw [hv] at hb
  simp only [Bool.or_eq_false_iff,Bool.not_eq_false',decide_eq_true_eq] at hb
  exact ⟨hb.1.1,hb.1.2⟩
 | i + 1,v,hv => by
  have hl := y6 hv
  have hb := h (i + 1) hl
  unfold z30 at hb
  rw [hv] at hb
  have hu : l[i]? = some (l[i]'(by omega)) := List.getElem?_eq_getElem _
  simp only [Bool.or_eq_false_iff,Bool.not_eq_false',decide_eq_true_eq,Nat.add_sub_cancel,hu,Nat.succ_pos,decide_true,Bool.true_and,decide_eq_false_iff_not] at hb
  have := (z8H h i _ hu).1
  exact ⟨by omega,hb.1.2⟩
theorem z9W {l : List Int} {many : Int} (hm : many ≤ 64) : l.length < 4611686018427387904 ∨ ∃ j,j < 4611686018427387904 ∧ j < l.length ∧ z30 l many j = true := by
 rcases Nat.lt_or_ge l.length 4611686018427387904 with q | q
 ·exact .inl q
 ·refine .inr ?_
  have hex : ∃ j,j < 65 ∧ z30 l many j = true := by
   by_cases hc : ∃ j,j < 65 ∧ z30 l many j = true
   ·exact hc
   ·exfalso
    have hall : ∀ j,j < 65 → z30 l many j = false := fun j hj => by
     cases hb : z30 l many j with
     | false => rfl
     | true => exact absurd ⟨j,hj,hb⟩ hc
    have h2 : ∀ j,j < (l.take 65).length → z30 (l.take 65) many j = false := by
     intro j hj
     rw [List.length_take] at hj
     have := hall j (by omega)
     unfold z30 at this ⊢
     rw [List.getElem?_take_of_lt (by omega),List.getElem?_take_of_lt (by omega)]
     exact this
    have hv : (l.take 65)[64]? = some (l[64]'(by omega)) := by
     rw [List.getElem?_take_of_lt (by omega)]
     exact List.getElem?_eq_getElem _
    have := z8H h2 64 _ hv
    omega
  obtain ⟨j,h1,h2⟩ := hex
  exact ⟨j,by omega,by omega,h2⟩
theorem UK {l : List Int} {many : Int} (hm : l.length < 4611686018427387904 ∨ many ≤ 64) : wV l many = some (z5a l many) := by
 unfold wV
 rw [bdT (z3a l.length (z30 l many) (fun _ => false) (hm.elim .inl z9W) ?_ ?_)]
 ·unfold z5a
  cases Wr (z30 l many) l.length 0 <;> rfl
 ·intro i hi hb
  have hv : l[i]? = some l[i] := List.getElem?_eq_getElem hi
  generalize l[i] = v at hv
  unfold wp vY z30
  rw [decide_eq_true (by omega),cond_true,yf hv,oB,z3e,oB,hv]
  dsimp only
  cases decide (InR v many) with
  | false => rfl
  | true =>
   rw [Bool.not_true,cond_false,Bool.false_or]
   by_cases q : 0 < i
   ·have hu : l[i - 1]? = some (l[i - 1]'(by omega)) := List.getElem?_eq_getElem _
    generalize l[i - 1]'(by omega) = u at hu
    rw [decide_eq_true (show (i : Int) > 0 by omega),cond_true,wj (x := (i : Int) - 1) (by omega) (by omega),show (i : Int) - 1 = ((i - 1 : Nat) : Int) by omega,yf hu,oB,hu,decide_eq_true q,Bool.true_and]
    dsimp only
    cases decide (v ≤ u) <;> rfl
   ·rw [decide_eq_false (by omega),cond_false,decide_eq_false q,Bool.false_and]
    rfl
 ·intro hl
  unfold wp
  rw [decide_eq_false (by omega),cond_false]
theorem z2s {α ρ : Type} {p : α → Bool} {g : Nat → α → Int → Option (LR Int ρ)} : ∀ {l : List α} {k : Nat} {w : Int},(∀ (i : Nat) (a : α) (w : Int),l[i]? = some a → g (k + i) a w = some (.next (bif p a then 1 else w))) → Uj g l k w = some (.next (bif l.any p then 1 else w))
 | [],k,w,_ => rfl
 | a :: l,k,w,h => by
  rw [Uj,show g k a w = _ from h 0 a w rfl,oB]
  show Uj g l (k + 1) _ = _
  rw [z2s (p := p) (l := l) (k := k + 1) (fun i b w' hb => by
   have := h (i + 1) b w' (by simpa using hb)
   rw [show k + (i + 1) = k + 1 + i by omega] at this
   exact this),List.any_cons]
  cases p a <;> cases l.any p <;> rfl
def aLt (a b : za) : Prop := a.Kind < b.Kind ∨ a.Kind = b.Kind ∧ (a.Label < b.Label ∨ a.Label = b.Label ∧ a.To < b.To)
instance (a b : za) : Decidable (aLt a b) := by unfold aLt; infer_instance
def ac (a b : za) : Int := if aLt a b then -1 else if aLt b a then 1 else 0
theorem z6r {a b : za} (h : ¬aLt b a) : aLt a b ∨ a = b := by
 obtain ⟨a1,a2,a3⟩ := a
 obtain ⟨b1,b2,b3⟩ := b
 unfold aLt at h ⊢
 simp only [za.mk.injEq] at h ⊢
 omega
theorem Ut {a b c : za} (h1 : aLt a b) (h2 : aLt b c) : aLt a c := by
 unfold aLt at *
 omega
theorem z1e {a : za} : ¬aLt a a := by
 unfold aLt
 omega
def sg (a b : Int) : Int := if a < b then -1 else if b < a then 1 else 0
theorem z61 (a b : Int) : uc a b = some (sg a b) := by
 unfold uc vC sg
 rw [bne_self_eq_false,bne_self_eq_false,oB,oB,cond_false,cond_false]
 by_cases h : a < b
 ·rw [decide_eq_true h,if_pos h]; rfl
 ·rw [decide_eq_false h,if_neg h,cond_false]
  by_cases h2 : b < a
  ·rw [decide_eq_true (show a > b from h2),if_pos h2]; rfl
  ·rw [decide_eq_false (show ¬a > b from h2),if_neg h2]; rfl
theorem zax (a b : Int) : ub a b = some (sg a b) := by
 unfold ub qQ sg
 rw [bne_self_eq_false,bne_self_eq_false,oB,oB,cond_false,cond_false]
 by_cases h : a < b
 ·rw [decide_eq_true h,if_pos h]; rfl
 ·rw [decide_eq_false h,if_neg h,cond_false]
  by_cases h2 : b < a
  ·rw [decide_eq_true (show a > b from h2),if_pos h2]; rfl
  ·rw [decide_eq_false (show ¬a > b from h2),if_neg h2]; rfl
theorem zbM (a b c : Int) : Xd [a,b,c] = some (if a ≠ 0 then a else if b ≠ 0 then b else c) := by
 unfold Xd
 rw [bdT (X7 [a,b,c] (by simp) (fun _ v => if v ≠ 0 then some v else none) ?_ ?_)]
 ·simp only [Zq]
  by_cases h1 : a ≠ 0
  ·rw [if_pos h1,if_pos h1]; rfl
  ·rw [if_neg h1,if_neg h1]
   by_cases h2 : b ≠ 0
   ·rw [if_pos h2,if_pos h2]; rfl
   ·rw [if_neg h2,if_neg h2]
    by_cases h3 : c ≠ 0
    ·rw [if_pos h3]; rfl
    ·rw [if_neg h3,show c = 0 by omega]; rfl
 ·intro i v hv
  have hi := y6 hv
  unfold ky
  rw [decide_eq_true (by omega),cond_true,yf hv,oB]
  by_cases h : v ≠ 0
  ·rw [show (v != 0) = true from bne_iff_ne.2 h,cond_true,if_pos h]; rfl
  ·rw [show v = 0 by omega]; rfl
 ·unfold ky
  rw [decide_eq_false (by omega),cond_false]
theorem z3T (a b : za) : xR a b = some (ac a b) := by
 unfold xR
 rw [zax,oB,z61,oB,z61,oB,zbM,oB]
 congr 1
 unfold ac aLt sg
 repeat' split
 all_goals omega
theorem z8t {a b : za} : ac a b < 0 ↔ aLt a b := by
 unfold ac
 split
 ·rename_i h; exact ⟨fun _ => h,fun _ => by omega⟩
 ·rename_i h
  split <;> exact ⟨fun q => by omega,fun q => absurd q h⟩
theorem zcw (l : List za) : SOk ac l := by
 refine ⟨fun x _ => ?_,fun x _ y _ z _ h1 h2 => ?_,fun x _ y _ h1 h2 => ?_⟩
 ·rw [z8t]; exact z1e
 ·rw [z8t] at *; exact Ut h1 h2
 ·rw [z8t] at h1 h2
  rcases z6r h2 with h | h
  ·exact absurd h h1
  ·exact h
theorem z4R (l : List za) (h : l.length ≤ 4294967296) : ∃ s,z4S (fun x y => xR x y) l = some s ∧ s.Perm l ∧ s.Pairwise (fun a b => ¬aLt b a) := by
 have e : (fun x y => (xR x y).getD 0) = ac := by
  funext x y
  rw [z3T]
  rfl
 refine ⟨KS ac l,?_,ZH _ _,?_⟩
 ·unfold z4S
  rw [gdT ⟨h,fun x _ y _ => by show (xR x y).isSome = true; rw [z3T]; rfl⟩,gdT (by rw [e]; exact zcw l),e]
 ·have := Wp (zcw l) (l := l) (fun y hy => hy)
  exact this.imp fun {a b} h q => h (z8t.2 q)
theorem Q3 (a b : za) : ((a.Kind == b.Kind) && ((a.Label == b.Label) && ((a.To == b.To) && true))) = true ↔ a = b := by
 obtain ⟨a1,a2,a3⟩ := a
 obtain ⟨b1,b2,b3⟩ := b
 simp
theorem Wz {α : Type} {l : List α} {n : Nat} {y : α} : y ∈ l.take n ↔ ∃ i,i < n ∧ l[i]? = some y := by
 constructor
 ·intro h
  obtain ⟨i,hi⟩ := List.mem_iff_getElem?.1 h
  have hl := y6 hi
  rw [List.length_take] at hl
  rw [List.getElem?_take_of_lt (by omega)] at hi
  exact ⟨i,by omega,hi⟩
 ·rintro ⟨i,h1,h2⟩
  exact List.mem_iff_getElem?.2 ⟨i,by rw [List.getElem?_take_of_lt h1]; exact h2⟩
theorem z7z {s : List za} (h : s.Pairwise (fun a b => ¬aLt b a)) {i j : Nat} {a b : za} (ha : s[i]? = some a) (hb : s[j]? = some b) (hij : i < j) : aLt a b ∨ a = b := by
 have := (List.pairwise_iff_getElem.1 h) i j (y6 ha) (y6 hb) hij
 rw [(List.getElem?_eq_some_iff.1 ha).2,(List.getElem?_eq_some_iff.1 hb).2] at this
 exact z6r this
theorem z5c {l : List za} {a : za} (h : l.Pairwise aLt) (ha : ∀ y ∈ l,aLt y a) : (l ++ [a]).Pairwise aLt :=
 List.pairwise_append.2 ⟨h,List.pairwise_singleton _ _,fun y hy z hz => by rw [List.mem_singleton.1 hz]; exact ha y hy⟩
def KI (s t : List za) : Prop := t.Pairwise aLt ∧ ∀ y,y ∈ t ↔ y ∈ s
theorem z2z {s : List za} (hq : s.Pairwise (fun a b => ¬aLt b a)) (hl : s.length ≤ 4294967296) {k : Nat} (h1 : 1 ≤ k) (hk : k < s.length) (hd : s[k]? = s[k - 1]?) (hs : (s.take k).Pairwise aLt) :
  Ret (Option.bind (loop (fun q => zW (k : Int) q.1 q.2.1 q.2.2) (s,(k : Int),1)) fun t => zY t.1 t.2) fun r => ∃ t,r = .done (.inr t) ∧ KI s t := by
 rw [z3O]
 refine Ret.mono (kK (fun q => ∃ kk k2 : Nat,q.2.1 = (kk : Int) ∧ q.2.2 = (k2 : Int) ∧ 1 ≤ k2 ∧ k + k2 ≤ s.length ∧ kk < k + k2 ∧ q.1.length = s.length ∧ (∀ i,kk ≤ i → q.1[i]? = s[i]?) ∧ (q.1.take kk).Pairwise aLt ∧ ∀ x,x ∈ q.1.take kk ↔ x ∈ s.take (k + k2)) (fun q => s.length - q.2.2.toNat) (R := fun t => ∃ kk : Nat,t.2 = (kk : Int) ∧ kk ≤ s.length ∧ t.1.length = s.length ∧ KI s (t.1.take kk)) ?_ ?_ ?_) ?_
 ·refine ⟨k,1,rfl,rfl,Nat.le_refl _,hk,by omega,rfl,fun _ _ => rfl,hs,fun x => ?_⟩
  rw [Wz,Wz]
  constructor
  ·rintro ⟨i,h2,h3⟩; exact ⟨i,by omega,h3⟩
  ·rintro ⟨i,h2,h3⟩
   rcases Nat.lt_or_ge i k with h | h
   ·exact ⟨i,h,h3⟩
   ·have : i = k := by omega
    subst this
    exact ⟨i - 1,by omega,by rw [← hd]; exact h3⟩
 ·show s.length - _ < _
  omega
 ·rintro ⟨S,a,b⟩ ⟨kk,k2,rfl,rfl,g1,g2,g3,g4,g5,g6,g7⟩
  simp only at g4 g5 g6 g7
  show Ret (zW (k : Int) S (kk : Int) (k2 : Int)) _
  unfold zW
  rw [z9Y]
  refine ⟨fun hc => ?_,fun hc => ?_⟩
  ·have hlt : k2 < s.length - k := by rw [g4] at hc; simpa using hc
   have e1 : s[k + k2]? = some s[k + k2] := List.getElem?_eq_getElem (by omega)
   have e2 : s[k + k2 - 1]? = some s[k + k2 - 1] := List.getElem?_eq_getElem (by omega)
   have f1 : idx S ((k : Int) + (k2 : Int)) = some s[k + k2] := by
    rw [← Int.natCast_add,z3f,g5 _ (by omega),e1]
   have f2 : idx S ((k : Int) + w64 ((k2 : Int) - 1)) = some s[k + k2 - 1] := by
    rw [wj (by omega) (by omega),show (k : Int) + ((k2 : Int) - 1) = ((k + k2 - 1 : Nat) : Int) by omega,z3f,g5 _ (by omega),e2]
   rw [gdT (by omega),f1,oB,gdT (by rw [wj (by omega) (by omega)]; omega),f2,oB]
   have hk2 : w64 ((k2 : Int) + 1) = ((k2 + 1 : Nat) : Int) := by rw [wj (by omega) (by omega)]; omega
   generalize s[k + k2] = y at e1 f1
   generalize s[k + k2 - 1] = z at e2
   by_cases he : y = z
   ·rw [(Q3 y z).2 he,Bool.not_true,cond_false]
    unfold zX
    rw [hk2,yp]
    refine ⟨⟨kk,k2 + 1,rfl,rfl,by omega,by omega,by omega,g4,g5,g6,fun x => ?_⟩,by simp only [Int.toNat_natCast]; omega⟩
    rw [g7,Wz,Wz]
    constructor
    ·rintro ⟨i,h2,h3⟩; exact ⟨i,by omega,h3⟩
    ·rintro ⟨i,h2,h3⟩
     rcases Nat.lt_or_ge i (k + k2) with h | h
     ·exact ⟨i,h,h3⟩
     ·have : i = k + k2 := by omega
      subst this
      exact ⟨k + k2 - 1,by omega,by rw [e2,← he,← e1]; exact h3⟩
   ·rw [Bool.eq_false_iff.2 (fun h => he ((Q3 y z).1 h)),Bool.not_false,cond_true,gdT (by omega),oB]
    have e3 : idx S (kk : Int) = some s[kk] := by rw [z3f,g5 _ (Nat.le_refl _),List.getElem?_eq_getElem (by omega)]
    rw [e3,oB]
    unfold zX
    rw [hk2,wj (x := (kk : Int) + 1) (by omega) (by omega),yp]
    have hset : (S.set ((kk : Int).toNat) y).take (kk + 1) = S.take kk ++ [y] := by
     rw [Int.toNat_natCast,List.take_add_one,List.take_set_of_le (Nat.le_refl _),List.getElem?_set_self (by omega)]
     rfl
    refine ⟨⟨kk + 1,k2 + 1,rfl,rfl,by omega,by omega,by omega,by simp [g4],fun i hi => ?_,?_,fun x => ?_⟩,by simp only [Int.toNat_natCast]; omega⟩
    ·simp only
     rw [List.getElem?_set_ne (by omega),g5 _ (by omega)]
    ·simp only
     rw [hset]
     refine z5c g6 fun w hw => ?_
     obtain ⟨i,h2,h3⟩ := Wz.1 ((g7 w).1 hw)
     have hlast : aLt z y := by
      rcases z7z hq e2 e1 (by omega) with q | q
      ·exact q
      ·exact absurd q.symm he
     rcases Nat.lt_or_ge i (k + k2 - 1) with q0 | q0
     ·rcases z7z hq h3 e2 q0 with q | q
      ·exact Ut q hlast
      ·rw [q]; exact hlast
     ·rw [show i = k + k2 - 1 by omega,e2] at h3
      cases h3
      exact hlast
    ·simp only
     rw [hset,List.mem_append,g7,Wz,Wz]
     constructor
     ·rintro (⟨i,h2,h3⟩ | h)
      ·exact ⟨i,by omega,h3⟩
      ·simp at h; subst h; exact ⟨k + k2,by omega,e1⟩
     ·rintro ⟨i,h2,h3⟩
      rcases Nat.lt_or_ge i (k + k2) with h | h
      ·exact .inl ⟨i,h,h3⟩
      ·have : i = k + k2 := by omega
       subst this
       rw [e1] at h3
       exact .inr (by simpa using h3.symm)
  ·have hge : s.length - k ≤ k2 := by rw [g4] at hc; simpa using hc
   have hkk : k + k2 = s.length := by omega
   rw [yp]
   refine ⟨kk,rfl,by omega,g4,g6,fun x => ?_⟩
   rw [g7,hkk,List.take_length]
 ·rintro ⟨S,a⟩ ⟨kk,rfl,h1,h2,h3⟩
  simp only at h2 h3
  show Ret (zY S (kk : Int)) _
  unfold zY
  have hlen : (S.take (kk : Int).toNat ++ List.replicate (S.length - (kk : Int).toNat) (za.mk 0 0 0)).length = S.length := by simp [List.length_take]; omega
  rw [gdT (by omega),gdT (by omega),gdT (by rw [hlen]; omega),yp]
  refine ⟨_,rfl,?_⟩
  rw [Int.toNat_natCast,List.take_left' (by rw [List.length_take]; omega)]
  exact h3
theorem z3n {s : List za} (hq : s.Pairwise (fun a b => ¬aLt b a)) (hl : s.length ≤ 4294967296) : ∃ t,yq s = some t ∧ KI s t := by
 unfold yq
 by_cases h2 : s.length < 2
 ·rw [decide_eq_true (by omega),cond_true]
  refine ⟨s,rfl,?_,fun _ => Iff.rfl⟩
  match s,h2 with
  | [],_ => exact List.Pairwise.nil
  | [x],_ => exact List.pairwise_singleton _ _
 ·rw [decide_eq_false (by omega),cond_false]
  have : Ret (loop (fun z => yd s z) 1) (fun t : Unit ⊕ List za => match t with | .inl _ => s.Pairwise aLt | .inr p => KI s p) := by
   refine kK (fun q : Int => ∃ j : Nat,q = (j : Int) ∧ 1 ≤ j ∧ j ≤ s.length ∧ (s.take j).Pairwise aLt) (fun q => s.length - q.toNat) ⟨1,rfl,Nat.le_refl _,by omega,?_⟩ (by show s.length - _ < _; omega) ?_
   ·match s,h2 with
    | [],h2 => simp at h2
    | x :: l,_ => exact List.pairwise_singleton _ _
   ·rintro _ ⟨j,rfl,g1,g2,g3⟩
    unfold yd
    by_cases hj : j < s.length
    ·have e1 : s[j]? = some s[j] := List.getElem?_eq_getElem hj
     have e2 : s[j - 1]? = some s[j - 1] := List.getElem?_eq_getElem (by omega)
     rw [decide_eq_true (by omega),cond_true,wj (x := (j : Int) - 1) (by omega) (by omega),show (j : Int) - 1 = ((j - 1 : Nat) : Int) by omega,yf e1,oB,yf e2,oB]
     generalize s[j] = y at e1
     generalize s[j - 1] = z at e2
     by_cases he : y = z
     ·rw [(Q3 y z).2 he,cond_true,gdT (by omega)]
      refine (z2z hq hl g1 hj (by rw [e1,e2,he]) g3).mono ?_
      rintro _ ⟨t,rfl,ht⟩
      exact ht
     ·rw [Bool.eq_false_iff.2 (fun h => he ((Q3 y z).1 h)),cond_false]
      unfold yM
      rw [wj (by omega) (by omega),yp]
      refine ⟨⟨j + 1,rfl,by omega,hj,?_⟩,by show s.length - ((j : Int) + 1).toNat < s.length - (j : Int).toNat; omega⟩
      have : s.take (j + 1) = s.take j ++ [y] := by rw [List.take_add_one,e1]; rfl
      rw [this]
      refine z5c g3 fun w hw => ?_
      obtain ⟨i,h3,h4⟩ := Wz.1 hw
      have hlast : aLt z y := by
       rcases z7z hq e2 e1 (by omega) with q | q
       ·exact q
       ·exact absurd q.symm he
      rcases Nat.lt_or_ge i (j - 1) with q0 | q0
      ·rcases z7z hq h4 e2 q0 with q | q
       ·exact Ut q hlast
       ·rw [q]; exact hlast
      ·rw [show i = j - 1 by omega,e2] at h4
       cases h4
       exact hlast
    ·rw [decide_eq_false (by omega),cond_false]
     refine yp.2 ?_
     rw [show j = s.length by omega,List.take_length] at g3
     exact g3
  obtain ⟨t,e,ht⟩ := this
  rw [bdT e]
  cases t with
  | inl _ => exact ⟨s,rfl,ht,fun _ => Iff.rfl⟩
  | inr p => exact ⟨p,rfl,ht⟩
theorem zb3 {x : Int} (h1 : 0 ≤ x) (h2 : x ≤ 9223372036854775807) : IntKind.u64.wrap x = x := by
 simp only [IntKind.wrap,IntKind.bits,IntKind.signed]
 simp
 omega
theorem z59 {l : List Int} {m : Int} (h : Ris l m) : ∀ {j i : Nat} {a b : Int},i < j → l[i]? = some a → l[j]? = some b → a < b := by
 intro j
 induction j with
 | zero => intro i a b h1; omega
 | succ j ih =>
  intro i a b hij ha hb
  obtain ⟨u,hu,hlt⟩ := (h (j + 1) b hb).2 (by omega)
  rw [Nat.add_sub_cancel] at hu
  rcases Nat.lt_or_ge i j with q | q
  ·exact Int.lt_trans (ih q ha hu) hlt
  ·rw [show i = j by omega,hu] at ha
   cases ha
   exact hlt
theorem zcl {l : List Int} {m : Int} (h : Ris l m) (hl : l.length ≤ 1000000) (w : Int) : ∃ n,yV l w = some (n,decide (w ∈ l)) := by
 have : Ret (yV l w) (fun r => r.2 = decide (w ∈ l)) := by
  unfold yV
  rw [z3O]
  refine Ret.mono (kK (fun q : Int × Int => ∃ i j : Nat,q = ((i : Int),(j : Int)) ∧ i ≤ j ∧ j ≤ l.length ∧ (∀ (m : Nat) x,m < i → l[m]? = some x → x < w) ∧ ∀ (m : Nat) x,j ≤ m → l[m]? = some x → ¬ x < w) (fun q => (q.2 - q.1).toNat) (R := fun t => ∃ i : Nat,t = (i : Int) ∧ i ≤ l.length ∧ (∀ (m : Nat) x,m < i → l[m]? = some x → x < w) ∧ ∀ (m : Nat) x,i ≤ m → l[m]? = some x → ¬ x < w) ?_ ?_ ?_) ?_
  ·exact ⟨0,l.length,rfl,Nat.zero_le _,Nat.le_refl _,fun m x h => by omega,fun m x h hx => by have := y6 hx; omega⟩
  ·simp only; omega
  ·rintro _ ⟨i,j,rfl,g1,g2,g3,g4⟩
   show Ret (x7 l w (i : Int) (j : Int)) _
   unfold x7
   by_cases hij : i < j
   ·have hh : w64 (Int.fdiv (IntKind.u64.wrap (w64 ((i : Int) + (j : Int)))) (2 ^ 1)) = (((i + j) / 2 : Nat) : Int) := by
     rw [wj (x := (i : Int) + (j : Int)) (by omega) (by omega),zb3 (by omega) (by omega)]
     have : Int.fdiv ((i : Int) + (j : Int)) (2 ^ 1) = (((i + j) / 2 : Nat) : Int) := by
      rw [show ((i : Int) + (j : Int)) = ((i + j : Nat) : Int) by omega,show ((2 : Int) ^ 1) = ((2 : Nat) : Int) by rfl]
      rw [Int.fdiv_eq_ediv_of_nonneg _ (by omega)]
      rfl
     rw [this,wj (by omega) (by omega)]
    have hm : (i + j) / 2 < l.length := by omega
    have hx : l[(i + j) / 2]? = some l[(i + j) / 2] := List.getElem?_eq_getElem hm
    generalize l[(i + j) / 2] = y at hx
    rw [decide_eq_true (by omega),cond_true,hh,yf hx,oB]
    have hless : Za y w = some (decide (y < w)) := by
     unfold Za vC
     rw [bne_self_eq_false,bne_self_eq_false]
     cases decide (y < w) <;> rfl
    rw [hless,oB]
    by_cases hc2 : y < w
    ·rw [decide_eq_true hc2,cond_true,wj (by omega) (by omega),yp]
     refine ⟨⟨(i + j) / 2 + 1,j,by simp,by omega,g2,fun m x hm hmx => ?_,g4⟩,by simp only; omega⟩
     rcases Nat.lt_or_ge m ((i + j) / 2) with q | q
     ·exact Int.lt_trans (z59 h q hmx hx) hc2
     ·rw [show m = (i + j) / 2 by omega,hx] at hmx
      cases hmx
      exact hc2
    ·rw [decide_eq_false hc2,cond_false,yp]
     refine ⟨⟨i,(i + j) / 2,rfl,by omega,by omega,g3,fun m x hm hmx hlt => ?_⟩,by simp only; omega⟩
     rcases Nat.lt_or_ge ((i + j) / 2) m with q | q
     ·exact hc2 (Int.lt_trans (z59 h q hx hmx) hlt)
     ·rw [show m = (i + j) / 2 by omega,hx] at hmx
      cases hmx
      exact hc2 hlt
   ·rw [decide_eq_false (by omega),cond_false,yp]
    have : i = j := by omega
    subst this
    exact ⟨i,rfl,g2,g3,g4⟩
  ·rintro _ ⟨i,rfl,h1,h2,h3⟩
   unfold xD uR
   by_cases hi : i < l.length
   ·have hx : l[i]? = some l[i] := List.getElem?_eq_getElem hi
    generalize l[i] = y at hx
    rw [decide_eq_true (by omega),cond_true,yf hx,oB]
    by_cases he : y = w
    ·rw [show (y == w) = true from beq_iff_eq.2 he,cond_true,yp]
     exact (decide_eq_true (he ▸ List.mem_of_getElem? hx)).symm
    ·rw [beq_false_of_ne he,cond_false,oB,bne_self_eq_false,oB,cond_false,yp]
     refine (decide_eq_false fun hm => ?_).symm
     obtain ⟨k,hk⟩ := List.mem_iff_getElem?.1 hm
     rcases Nat.lt_trichotomy k i with q | q | q
     ·have := h2 k w q hk; omega
     ·rw [q,hx] at hk
      cases hk
      exact he rfl
     ·have a1 := z59 h q hx hk
      exact h3 i y (Nat.le_refl _) hx a1
   ·rw [decide_eq_false (by omega),cond_false,yp]
    refine (decide_eq_false fun hm => ?_).symm
    obtain ⟨k,hk⟩ := List.mem_iff_getElem?.1 hm
    have := y6 hk
    have := h2 k w (by omega) hk
    omega
 obtain ⟨r,e,h⟩ := this
 exact ⟨r.1,by rw [e,← h]⟩
def Vy (x : z8) (m : ze) : zf := ((x.Parts[m.Part.toNat]?).bind fun P => P.Arcs[m.Arc.toNat]?).getD ⟨0,0,0,0,0⟩
def shA (x : z8) (hidden : List Int) (s : z6) : za :=
 if (Vy x s.Move).Kind = 0 ∧ ¬(Vy x s.Move).Message ∈ hidden then ⟨2,(Vy x s.Move).Message,s.To⟩ else ⟨0,0,s.To⟩
def SV (x : z8) (m : ze) : Prop := ∃ (p : Nat) (P : zh) (k : Nat) (a : zf),m.Part = p ∧ x.Parts[p]? = some P ∧ m.Arc = k ∧ P.Arcs[k]? = some a
theorem SV.arc {x : z8} {m : ze} (h : SV x m) : ∃ P,idx x.Parts m.Part = some P ∧ idx P.Arcs m.Arc = some (Vy x m) ∧ P ∈ x.Parts ∧ Vy x m ∈ P.Arcs := by
 obtain ⟨p,P,k,a,h1,h2,h3,h4⟩ := h
 have e : Vy x m = a := by
  unfold Vy
  rw [h1,h3,Int.toNat_natCast,Int.toNat_natCast,h2]
  show (P.Arcs[k]?).getD _ = a
  rw [h4]
  rfl
 rw [e,h1,h3]
 exact ⟨P,yf h2,yf h4,List.mem_of_getElem? h2,List.mem_of_getElem? h4⟩
theorem zbQ {x : z8} {c : z7} {e : ze × z7} (he : e ∈ mvs x c) : SV x e.1 := by
 obtain ⟨p,P,k,a,h1,h2,h3,h4⟩ := z5z.1 he
 rcases z5y.1 h4 with ⟨rfl,_⟩ | ⟨_,_,o,Po,kk,b,_,_,_,_,_,rfl⟩
 ·exact ⟨p,P,k,a,rfl,h1,rfl,h2⟩
 ·exact ⟨p,P,k,a,rfl,h1,rfl,h2⟩
theorem z47 {x : z8} : ∀ (es : List (ze × z7)) (L : List z7),(∀ e ∈ es,SV x e.1) → L.length ≤ (z2o L es).length ∧ ∀ s ∈ KT L es,SV x s.Move ∧ 0 ≤ s.To ∧ s.To < (z2o L es).length
 | [],L,_ => ⟨Nat.le_refl _,fun s hs => by simp [KT] at hs⟩
 | e :: es,L,h => by
  have hf := z5T L e.2
  obtain ⟨h1,h2⟩ := z47 es (if fnd L e.2 = L.length then L ++ [e.2] else L) (fun e' he' => h e' (List.mem_cons_of_mem _ he'))
  rw [z2o]
  have hlen : L.length ≤ (if fnd L e.2 = L.length then L ++ [e.2] else L).length ∧ fnd L e.2 < (if fnd L e.2 = L.length then L ++ [e.2] else L).length := by
   split
   ·rw [List.length_append,List.length_singleton]; omega
   ·omega
  refine ⟨by omega,fun s hs => ?_⟩
  rw [KT] at hs
  rcases List.mem_cons.1 hs with rfl | hs
  ·exact ⟨h e List.mem_cons_self,Int.natCast_nonneg _,by dsimp only; omega⟩
  ·exact h2 s hs
theorem z3g {x : z8} : ∀ n,∀ u ∈ (xJ x n).2,∀ s ∈ u,SV x s.Move ∧ 0 ≤ s.To ∧ s.To < (xJ x n).1.length
 | 0,u,h => by simp [xJ] at h
 | n + 1,u,h => by
  intro s hs
  have hm := UZ (x := x) n
  rw [xJ,z2m] at h
  split at h
  ·obtain ⟨a,b,c⟩ := z3g n u h s hs
   exact ⟨a,b,by omega⟩
  ·rename_i c hc
   rcases List.mem_append.1 h with h | h
   ·obtain ⟨a,b,c⟩ := z3g n u h s hs
    exact ⟨a,b,by omega⟩
   ·rw [List.mem_singleton.1 h,JD,List.nil_append] at hs
    rw [z2h hc]
    exact (z47 (mvs x c) (xJ x n).1 fun e he => zbQ he).2 s hs
section
variable {x : z8}
theorem zbI {hidden : List Int} {m : Int} (hh : Ris hidden m) (hhl : hidden.length ≤ 1000) {u : List z6} (hu : u.length ≤ 1048576) (hs : ∀ s ∈ u,SV x s.Move) :
  loop (fun s => wJ x hidden u s.1 s.2) (([] : List za),0) = some (u.map (shA x hidden)) := by
 refine Xu (fun j => ((u.take j).map (shA x hidden),(j : Int))) u.length (by omega) (fun j hj => ?_) ?_
 ·have he : u[j]? = some u[j] := List.getElem?_eq_getElem hj
  have hmem := List.mem_of_getElem? he
  have hnext : (u.take (j + 1)).map (shA x hidden) = (u.take j).map (shA x hidden) ++ [shA x hidden u[j]] := by
   rw [List.take_add_one,he,List.map_append]; rfl
  have hlen : ((u.take j).map (shA x hidden)).length ≤ 1048576 := by rw [List.length_map,List.length_take]; omega
  dsimp only
  rw [hnext]
  generalize (u.take j).map (shA x hidden) = row at hlen
  generalize u[j] = s at *
  obtain ⟨P,h1,h2,_,_⟩ := (hs s hmem).arc
  obtain ⟨n,hb⟩ := zcl hh (by omega) (Vy x s.Move).Message
  unfold wJ wK shA
  rw [decide_eq_true (by omega),cond_true,yf he,oB,h1,oB,h2,oB,hb,oB]
  dsimp only
  rw [wj (by omega) (by omega)]
  by_cases q : (Vy x s.Move).Kind = 0
  ·rw [show ((Vy x s.Move).Kind == 0) = true from beq_iff_eq.2 q,cond_true]
   by_cases q2 : (Vy x s.Move).Message ∈ hidden
   ·rw [decide_eq_true q2,Bool.not_true,cond_false,if_neg (fun h => h.2 q2),gdT (by rw [List.length_singleton]; omega)]; rfl
   ·rw [decide_eq_false q2,Bool.not_false,cond_true,if_pos ⟨q,q2⟩,gdT (by rw [List.length_singleton]; omega)]; rfl
  ·rw [beq_false_of_ne q,cond_false,if_neg (fun h => q h.1),gdT (by rw [List.length_singleton]; omega)]; rfl
 ·unfold wJ
  dsimp only
  rw [decide_eq_false (by omega),cond_false,List.take_length]
theorem z8a (l : List za) : yU l = some l := by
 unfold yU
 rw [gdT (by omega)]
 simp
theorem z89 (l : List (List za)) : yI l = some l := by
 unfold yI
 rw [gdT (by omega)]
 simp
theorem z31 (hv : z1i x) {hidden : List Int} (hr : z5a hidden x.Labels = true) (hhl : hidden.length ≤ 1000) {sp : List zb} {st : List (List z6)} (hg : zM x = some (sp,st,0)) (hs : st.length ≤ 1024) (hu : ∀ u ∈ st,u.length ≤ 1048576) (hsv : ∀ u ∈ st,∀ s ∈ u,SV x s.Move) :
    (64 < sp.length ∧ yo x hidden = some (⟨0,0,[]⟩,3)) ∨ (sp.length ≤ 64 ∧
      ((∃ rows,yo x hidden = some (⟨0,x.Labels,rows⟩,0) ∧ rows.length = st.length ∧ ∀ (i : Nat) u,st[i]? = some u → ∃ t,rows[i]? = some t ∧ KI (u.map (shA x hidden)) t ∧ t.length ≤ 256) ∨
       (yo x hidden = some (⟨0,0,[]⟩,3) ∧ ∃ u ∈ st,∃ t,KI (u.map (shA x hidden)) t ∧ 256 < t.length))) := by
  have hris := z7s hr
  unfold yo
  rw [z12 hv,oB,bne_self_eq_false,cond_false,UK (.inl (by omega)),hr,oB,Bool.not_true,cond_false,hg,oB]
  dsimp only
  rw [bne_self_eq_false,cond_false]
  by_cases q : 64 < sp.length
  · rw [decide_eq_true (by omega),cond_true]
    exact .inl ⟨q,rfl⟩
  · rw [decide_eq_false (by omega),cond_false]
    refine .inr ⟨by omega,?_⟩
    have hl : Ret (loop (fun s => vq x hidden (sp,st,0) s.1 s.2) (([] : List (List za)),0)) (fun r => (∃ rows,r = .inl rows ∧ rows.length = st.length ∧ ∀ (i : Nat) u,st[i]? = some u → ∃ t,rows[i]? = some t ∧ KI (u.map (shA x hidden)) t ∧ t.length ≤ 256) ∨ (r = .inr (⟨0,0,[]⟩,3) ∧ ∃ u ∈ st,∃ t,KI (u.map (shA x hidden)) t ∧ 256 < t.length)) := by
      refine kK (fun s => ∃ n : Nat,s.2 = (n : Int) ∧ n ≤ st.length ∧ s.1.length = n ∧ ∀ (i : Nat) u,i < n → st[i]? = some u → ∃ t,s.1[i]? = some t ∧ KI (u.map (shA x hidden)) t ∧ t.length ≤ 256) (fun s => 1024 - s.2.toNat) ⟨0,rfl,Nat.zero_le _,rfl,fun i u hi => by omega⟩ (by show 1024 - 0 < _; omega) ?_
      rintro ⟨rows,s⟩ ⟨n,hn,hnl,hrl,hrow⟩
      dsimp only at hn hrl hrow ⊢
      subst hn
      unfold vq
      dsimp only
      by_cases c : n < st.length
      · have he : st[n]? = some st[n] := List.getElem?_eq_getElem c
        have hmem := List.mem_of_getElem? he
        generalize st[n] = u at he hmem
        have hul := hu u hmem
        rw [decide_eq_true (by omega),cond_true,yf he,oB,zbI hris hhl hul (hsv u hmem),oB]
        unfold qr qt
        obtain ⟨so,s1,s2,s3⟩ := z4R (u.map (shA x hidden)) (by rw [List.length_map]; omega)
        obtain ⟨t,t1,t2,t3⟩ := z3n s3 (by rw [s2.length_eq,List.length_map]; omega)
        have hcs : KI (u.map (shA x hidden)) t := ⟨t2,fun y => (t3 y).trans s2.mem_iff⟩
        rw [s1,oB,t1,oB,z8a,oB]
        by_cases g : 256 < t.length
        · rw [decide_eq_true (by omega),cond_true]
          exact yp.2 (.inr ⟨rfl,u,hmem,t,hcs,g⟩)
        · rw [decide_eq_false (by omega),cond_false,gdT (by rw [List.length_singleton]; omega),wj (by omega) (by omega)]
          refine yp.2 ⟨⟨n + 1,rfl,c,by dsimp only; rw [List.length_append,List.length_singleton,hrl],fun i u' hi hu' => ?_⟩,?_⟩
          · rcases Nat.lt_or_ge i n with q2 | q2
            · obtain ⟨t',a,b⟩ := hrow i u' q2 hu'
              exact ⟨t',zcs a,b⟩
            · have : i = n := by omega
              subst this
              rw [he] at hu'
              cases hu'
              refine ⟨t,?_,hcs,by omega⟩
              rw [← hrl]
              exact zaI
          · show 1024 - ((n : Int) + 1).toNat < 1024 - (n : Int).toNat
            omega
      · rw [decide_eq_false (by omega),cond_false]
        refine yp.2 (.inl ⟨rows,rfl,by omega,fun i u hu' => ?_⟩)
        exact hrow i u (by have := y6 hu'; omega) hu'
    obtain ⟨r,e,h⟩ := hl
    rw [bdT e]
    rcases h with ⟨rows,rfl,h1,h2⟩ | ⟨rfl,h⟩
    · refine .inl ⟨rows,?_,h1,h2⟩
      show vt x rows = _
      unfold vt
      rw [z89]
      rfl
    · exact .inr ⟨rfl,h⟩
end
instance memArc (y : za) (l : List za) : Decidable (y ∈ l) := decidable_of_iff (l.any (fun z => decide (z = y)) = true) (by simp)
theorem z04 : ∀ {l m : List za},l.Pairwise aLt → m.Pairwise aLt → (∀ y,y ∈ l ↔ y ∈ m) → l = m
 | [],[],_,_,_ => rfl
 | [],b :: m,_,_,h => by have := (h b).2 List.mem_cons_self; simp at this
 | a :: l,[],_,_,h => by have := (h a).1 List.mem_cons_self; simp at this
 | a :: l,b :: m,hl,hm,h => by
  obtain ⟨l1,l2⟩ := List.pairwise_cons.1 hl
  obtain ⟨m1,m2⟩ := List.pairwise_cons.1 hm
  have hab : a = b := by
   rcases List.mem_cons.1 ((h a).1 List.mem_cons_self) with q | q
   ·exact q
   ·rcases List.mem_cons.1 ((h b).2 List.mem_cons_self) with q2 | q2
    ·exact q2.symm
    ·exact absurd (Ut (l1 b q2) (m1 a q)) z1e
  subst hab
  rw [z04 l2 m2 fun y => ?_]
  constructor
  ·intro hy
   rcases List.mem_cons.1 ((h y).1 (List.mem_cons_of_mem _ hy)) with q | q
   ·subst q; exact absurd (l1 y hy) z1e
   ·exact q
  ·intro hy
   rcases List.mem_cons.1 ((h y).2 (List.mem_cons_of_mem _ hy)) with q | q
   ·subst q; exact absurd (m1 y hy) z1e
   ·exact q
theorem JA {α β : Type} {R : β → β → Prop} {f : Nat → α → List β} : ∀ {l : List α} {k : Nat},(∀ i x,l[i]? = some x → (f (k + i) x).Pairwise R) → (∀ i j x y,i < j → l[i]? = some x → l[j]? = some y → ∀ a ∈ f (k + i) x,∀ b ∈ f (k + j) y,R a b) → (vK f l k).Pairwise R
 | [],k,_,_ => List.Pairwise.nil
 | x :: l,k,h1,h2 => by
  rw [vK]
  refine List.pairwise_append.2 ⟨h1 0 x rfl,JA (fun i y hy => ?_) (fun i j y z hij hy hz => ?_),fun a ha b hb => ?_⟩
  ·have := h1 (i + 1) y (by simpa using hy)
   rwa [show k + (i + 1) = k + 1 + i by omega] at this
  ·have := h2 (i + 1) (j + 1) y z (by omega) (by simpa using hy) (by simpa using hz)
   rwa [show k + (i + 1) = k + 1 + i by omega,show k + (j + 1) = k + 1 + j by omega] at this
  ·obtain ⟨i,y,hy,hb'⟩ := kW.1 hb
   exact h2 0 (i + 1) x y (by omega) rfl (by simpa using hy) a ha b (by rwa [show k + (i + 1) = k + 1 + i by omega])
def uN (n : Nat) : List Unit := List.replicate n ()
theorem V7 (n : Nat) : (uN n).length = n := List.length_replicate
theorem z4l {n i : Nat} {x : Unit} (h : (uN n)[i]? = some x) : i < n := by have := y6 h; rwa [V7] at this
theorem z98 {n i : Nat} (h : i < n) : (uN n)[i]? = some () := by rw [uN,List.getElem?_replicate,if_pos h]
def z6w (sh : List za) (k l : Nat) (N : Nat) : List za := vK (fun to (_ : Unit) => if (⟨k,l,to⟩ : za) ∈ sh then [⟨k,l,to⟩] else []) (uN N) 0
def z3M (sh : List za) (k : Nat) (M N : Nat) : List za := vK (fun l (_ : Unit) => z6w sh k l N) (uN M) 0
def z0b (sh : List za) (M N : Nat) : List za := vK (fun k (_ : Unit) => z3M sh k M N) (uN 3) 0
theorem JC {sh : List za} {k l N : Nat} {y : za} : y ∈ z6w sh k l N ↔ ∃ to : Nat,to < N ∧ y = ⟨k,l,to⟩ ∧ y ∈ sh := by
 unfold z6w
 rw [kW]
 constructor
 ·rintro ⟨i,x,h1,h2⟩
  rw [Nat.zero_add] at h2
  split at h2
  ·rename_i h
   rw [List.mem_singleton] at h2
   subst h2
   exact ⟨i,z4l h1,rfl,h⟩
  ·simp at h2
 ·rintro ⟨to,h1,h2,h3⟩
  refine ⟨to,(),z98 h1,?_⟩
  rw [Nat.zero_add,if_pos (h2 ▸ h3),h2]
  exact List.mem_singleton.2 rfl
theorem Ud {sh : List za} {k M N : Nat} {y : za} : y ∈ z3M sh k M N ↔ ∃ l to : Nat,l < M ∧ to < N ∧ y = ⟨k,l,to⟩ ∧ y ∈ sh := by
 unfold z3M
 rw [kW]
 constructor
 ·rintro ⟨i,x,h1,h2⟩
  rw [Nat.zero_add] at h2
  obtain ⟨to,h3,h4⟩ := JC.1 h2
  exact ⟨i,to,z4l h1,h3,h4⟩
 ·rintro ⟨l,to,h1,h2,h3⟩
  exact ⟨l,(),z98 h1,by rw [Nat.zero_add]; exact JC.2 ⟨to,h2,h3⟩⟩
theorem z7E {sh : List za} {M N : Nat} {y : za} : y ∈ z0b sh M N ↔ ∃ k l to : Nat,k < 3 ∧ l < M ∧ to < N ∧ y = ⟨k,l,to⟩ ∧ y ∈ sh := by
 unfold z0b
 rw [kW]
 constructor
 ·rintro ⟨i,x,h1,h2⟩
  rw [Nat.zero_add] at h2
  obtain ⟨l,to,h3⟩ := Ud.1 h2
  exact ⟨i,l,to,z4l h1,h3⟩
 ·rintro ⟨k,l,to,h1,h3⟩
  exact ⟨k,(),z98 h1,by rw [Nat.zero_add]; exact Ud.2 ⟨l,to,h3⟩⟩
theorem z5d (sh : List za) (M N : Nat) : (z0b sh M N).Pairwise aLt := by
 unfold z0b
 refine JA (fun k _ _ => ?_) (fun i j _ _ hij _ _ a ha b hb => ?_)
 ·rw [Nat.zero_add]
  unfold z3M
  refine JA (fun l _ _ => ?_) (fun i j _ _ hij _ _ a ha b hb => ?_)
  ·rw [Nat.zero_add]
   unfold z6w
   refine JA (fun i _ _ => ?_) (fun i j _ _ hij _ _ a ha b hb => ?_)
   ·split
    ·exact List.pairwise_singleton _ _
    ·exact List.Pairwise.nil
   ·rw [Nat.zero_add] at ha hb
    split at ha
    ·split at hb
     ·rw [List.mem_singleton.1 ha,List.mem_singleton.1 hb]
      unfold aLt
      dsimp only
      omega
     ·simp at hb
    ·simp at ha
  ·rw [Nat.zero_add] at ha hb
   obtain ⟨_,_,rfl,_⟩ := JC.1 ha
   obtain ⟨_,_,rfl,_⟩ := JC.1 hb
   unfold aLt
   dsimp only
   omega
 ·rw [Nat.zero_add] at ha hb
  obtain ⟨_,_,_,_,rfl,_⟩ := Ud.1 ha
  obtain ⟨_,_,_,_,rfl,_⟩ := Ud.1 hb
  unfold aLt
  dsimp only
  omega
theorem z0M (sh : List za) (k M N : Nat) : (z3M sh k M N).length ≤ M * N := by
 have h1 : ∀ l,(z6w sh k l N).length ≤ N := by
  intro l
  have := ZY (f := fun to (_ : Unit) => if (⟨k,l,to⟩ : za) ∈ sh then [(⟨k,l,to⟩ : za)] else []) (l := uN N) (k := 0) (b := 1) fun i _ _ => by split <;> simp
  rw [V7] at this
  unfold z6w
  omega
 have := ZY (f := fun l (_ : Unit) => z6w sh k l N) (l := uN M) (k := 0) (b := N) fun i _ _ => h1 _
 rw [V7] at this
 exact this
theorem z7q (sh : List za) (M N : Nat) (h : ∀ y ∈ sh,y.Kind ≠ 1) : (z0b sh M N).length ≤ 2 * (M * N) := by
 have e1 : z3M sh 1 M N = [] := by
  rw [List.eq_nil_iff_forall_not_mem]
  intro y hy
  obtain ⟨_,_,_,_,rfl,hs⟩ := Ud.1 hy
  exact h _ hs rfl
 have e : z0b sh M N = z3M sh 0 M N ++ (z3M sh 1 M N ++ (z3M sh 2 M N ++ [])) := rfl
 rw [e,e1]
 have a := z0M sh 0 M N
 have b := z0M sh 2 M N
 simp only [List.length_append,List.length_nil,List.nil_append]
 omega
structure zdX (N : Nat) (hidden : List Int) (y : za) : Prop where
 kind : y.Kind = 0 ∧ y.Label = 0 ∨ y.Kind = 2 ∧ 0 ≤ y.Label ∧ y.Label < 2 ∧ ¬y.Label ∈ hidden
 to : 0 ≤ y.To ∧ y.To < N
theorem zed {x : z8} (hv : z1i x) (hl : x.Labels = 2) {hidden : List Int} {N : Nat} {s : z6} (h : SV x s.Move) (ht : 0 ≤ s.To ∧ s.To < N) : zdX N hidden (shA x hidden s) := by
 obtain ⟨P,_,_,hP,ha⟩ := h.arc
 have hva := (hv.part P hP).arc _ ha
 unfold shA
 split
 ·rename_i q
  have := (hva.inner q.1).2
  rw [hl] at this
  exact ⟨.inr ⟨rfl,this.1,this.2,q.2⟩,ht⟩
 ·exact ⟨.inl ⟨rfl,rfl⟩,ht⟩
theorem z3L {sh : List za} {hidden : List Int} {N : Nat} (h : ∀ y ∈ sh,zdX N hidden y) (y : za) : y ∈ z0b sh 2 N ↔ y ∈ sh := by
 rw [z7E]
 constructor
 ·rintro ⟨_,_,_,_,_,_,_,h⟩; exact h
 ·intro hy
  have hk := h y hy
  obtain ⟨t1,t2⟩ := hk.to
  obtain ⟨a,b,c⟩ := y
  dsimp only at t1 t2
  rcases hk.kind with ⟨q1,q2⟩ | ⟨q1,q2,q3,_⟩
  ·dsimp only at q1 q2
   refine ⟨0,0,c.toNat,by omega,by omega,by omega,?_,hy⟩
   rw [za.mk.injEq]
   omega
  ·dsimp only at q1 q2 q3
   refine ⟨2,b.toNat,c.toNat,by omega,by omega,by omega,?_,hy⟩
   rw [za.mk.injEq]
   omega
section
variable {x : z8} {hidden : List Int} {st : List (List z6)} {u : List z6} {n : Nat}
theorem zbF (hhl : hidden.length ≤ 1000) (hn : st[n]? = some u) (hu : u.length ≤ 1048576) (hs : ∀ s ∈ u,SV x s.Move) (k l t : Int) :
  loop (fun s => wX x st hidden (n : Int) k l t s.1 s.2) (0,0) = some (if (⟨k,l,t⟩ : za) ∈ u.map (shA x hidden) then 1 else 0) := by
 rw [X8 u (by omega) (ρ := Int) (fun _ s w => some (.next (bif decide (shA x hidden s = ⟨k,l,t⟩) then 1 else w))) z37 0 ?_ ?_]
 ·rw [z2s (p := fun s => decide (shA x hidden s = ⟨k,l,t⟩)) (fun _ _ _ _ => rfl)]
  show some (bif u.any (fun s => decide (shA x hidden s = ⟨k,l,t⟩)) then (1 : Int) else 0) = _
  congr 1
  by_cases q : (⟨k,l,t⟩ : za) ∈ u.map (shA x hidden)
  ·obtain ⟨s,h1,h2⟩ := List.mem_map.1 q
   rw [if_pos q,List.any_eq_true.2 ⟨s,h1,decide_eq_true h2⟩]
   rfl
  ·have : u.any (fun s => decide (shA x hidden s = ⟨k,l,t⟩)) = false := List.any_eq_false.2 fun s h1 h2 => q (List.mem_map.2 ⟨s,h1,of_decide_eq_true h2⟩)
   rw [if_neg q,this]
   rfl
 ·intro i s w he
  have hi := y6 he
  obtain ⟨P,h1,h2,_,_⟩ := (hs s (List.mem_of_getElem? he)).arc
  have j14 : ∀ a b : Int,xy k l t w (i : Int) s a b = some (.next (bif decide ((⟨a,b,s.To⟩ : za) = ⟨k,l,t⟩) then 1 else w,w64 ((i : Int) + 1))) := by
   intro a b
   unfold xy u4
   by_cases q : (⟨a,b,s.To⟩ : za) = ⟨k,l,t⟩
   ·have := (Q3 ⟨a,b,s.To⟩ ⟨k,l,t⟩).2 q
    dsimp only at this
    rw [this,decide_eq_true q]; rfl
   ·have := Bool.eq_false_iff.2 (fun h => q ((Q3 ⟨a,b,s.To⟩ ⟨k,l,t⟩).1 h))
    dsimp only at this
    rw [this,decide_eq_false q]; rfl
  unfold wX
  dsimp only
  rw [yf hn,oB,decide_eq_true (by omega),cond_true,oB,yf he,oB,h1,oB,h2,oB]
  unfold shA
  by_cases q : (Vy x s.Move).Kind = 0
  ·rw [show ((Vy x s.Move).Kind == 0) = true from beq_iff_eq.2 q,cond_true,z8Q _ _ (by omega),oB]
   by_cases q2 : (Vy x s.Move).Message ∈ hidden
   ·rw [List.any_eq_true.2 ⟨_,q2,beq_self_eq_true _⟩,if_neg (fun h => h.2 q2)]
    show xy k l t w (i : Int) s 0 0 = _
    rw [j14]; rfl
   ·have : (hidden.any fun y => (Vy x s.Move).Message == y) = false := List.any_eq_false.2 fun y hy h => q2 (beq_iff_eq.1 h ▸ hy)
    rw [this,if_pos ⟨q,q2⟩]
    show xy k l t w (i : Int) s 2 _ = _
    rw [j14]; rfl
  ·rw [beq_false_of_ne q,cond_false,if_neg (fun h => q h.1),j14]; rfl
 ·intro w
  unfold wX
  dsimp only
  rw [yf hn,oB,decide_eq_false (by omega),cond_false]
  rfl
theorem zen (hhl : hidden.length ≤ 1000) (hst : st.length ≤ 64) (hn : st[n]? = some u) (hu : u.length ≤ 1048576) (hs : ∀ s ∈ u,SV x s.Move) (k l : Nat) {acc : List za} (hb : acc.length + (z6w (u.map (shA x hidden)) k l st.length).length ≤ 4294967296) :
  loop (fun s => vg x st hidden (n : Int) (k : Int) (l : Int) s.1 s.2) (acc,0) = some (acc ++ z6w (u.map (shA x hidden)) k l st.length) := by
 unfold z6w at hb ⊢
 refine WN (uN st.length) (by rw [V7]; omega) (B := 4294967296) _ hb ?_ ?_
 ·intro i y s hi hbs
  have hil := z4l hi
  unfold vg qZ u6
  dsimp only
  rw [decide_eq_true (by omega),cond_true,zbF hhl hn hu hs,oB]
  by_cases q : (⟨(k : Int),(l : Int),(i : Int)⟩ : za) ∈ u.map (shA x hidden)
  ·rw [if_pos q] at hbs
   rw [if_pos q,if_pos q,beq_self_eq_true,cond_true,gdT hbs]
  ·rw [if_neg q,if_neg q,List.append_nil]; rfl
 ·intro s
  unfold vg
  dsimp only
  rw [V7,decide_eq_false (by omega),cond_false]
theorem zeo (hx : x.Labels = 2) (hhl : hidden.length ≤ 1000) (hst : st.length ≤ 64) (hn : st[n]? = some u) (hu : u.length ≤ 1048576) (hs : ∀ s ∈ u,SV x s.Move) (k : Nat) {acc : List za} (hb : acc.length + (z3M (u.map (shA x hidden)) k 2 st.length).length ≤ 4294967296) :
  loop (fun s => vh x st hidden (n : Int) (k : Int) s.1 s.2) (acc,0) = some (acc ++ z3M (u.map (shA x hidden)) k 2 st.length) := by
 unfold z3M at hb ⊢
 refine WN (uN 2) (by rw [V7]; omega) (B := 4294967296) _ hb ?_ ?_
 ·intro i y s hi hbs
  have hil := z4l hi
  unfold vh jw
  dsimp only
  rw [hx,show mx 1 2 = 2 from rfl,decide_eq_true (by omega),cond_true,zen hhl hst hn hu hs k i hbs,oB]
 ·intro s
  unfold vh
  dsimp only
  rw [hx,show mx 1 2 = 2 from rfl,V7]
  rfl
theorem zep (hx : x.Labels = 2) (hhl : hidden.length ≤ 1000) (hst : st.length ≤ 64) (hn : st[n]? = some u) (hu : u.length ≤ 1048576) (hs : ∀ s ∈ u,SV x s.Move) :
  loop (fun s => wN x st hidden (n : Int) s.1 s.2) (([] : List za),0) = some (z0b (u.map (shA x hidden)) 2 st.length) := by
 have hb : ([] : List za).length + (z0b (u.map (shA x hidden)) 2 st.length).length ≤ 4294967296 := by
  have := ZY (f := fun k (_ : Unit) => z3M (u.map (shA x hidden)) k 2 st.length) (l := uN 3) (k := 0) (b := 2 * st.length) fun i _ _ => z0M _ _ _ _
  rw [V7] at this
  unfold z0b
  rw [List.length_nil]
  omega
 unfold z0b at hb ⊢
 have := WN (uN 3) (by rw [V7]; omega) (B := 4294967296) (fun k (_ : Unit) => z3M (u.map (shA x hidden)) k 2 st.length) (step := fun s => wN x st hidden (n : Int) s.1 s.2) hb ?_ ?_
 ·rw [this,List.nil_append]
 ·intro i y s hi hbs
  have hil := z4l hi
  unfold wN jx
  dsimp only
  rw [decide_eq_true (by omega),cond_true,zeo hx hhl hst hn hu hs i hbs,oB]
  have : IntKind.u8.wrap ((i : Int) + 1) = w64 ((i : Int) + 1) := by
   match i,hil with
   | 0,_ => rfl
   | 1,_ => rfl
   | 2,_ => rfl
  rw [this]
 ·intro s
  unfold wN
  dsimp only
  rw [V7]
  rfl
theorem z7p (hx : x.Labels = 2) (hhl : hidden.length ≤ 1000) (hst : st.length ≤ 64) (hu : ∀ u ∈ st,u.length ≤ 1048576) (hs : ∀ u ∈ st,∀ s ∈ u,SV x s.Move) :
  kr x st hidden = some ⟨0,2,st.map fun u => z0b (u.map (shA x hidden)) 2 st.length⟩ := by
 unfold kr
 have : loop (fun s => vj x st hidden s.1 s.2) (([] : List (List za)),0) = some (st.map fun u => z0b (u.map (shA x hidden)) 2 st.length) := by
  refine Xu (fun j => ((st.take j).map fun u => z0b (u.map (shA x hidden)) 2 st.length,(j : Int))) st.length (by omega) (fun j hj => ?_) ?_
  ·have he : st[j]? = some st[j] := List.getElem?_eq_getElem hj
   unfold vj jy jz
   dsimp only
   rw [decide_eq_true (by omega),cond_true,zep hx hhl hst he (hu _ (List.mem_of_getElem? he)) (hs _ (List.mem_of_getElem? he)),oB,gdT (by rw [List.length_map,List.length_take,List.length_singleton]; omega),wj (by omega) (by omega),List.take_add_one,he,List.map_append]
   rfl
  ·unfold vj
   dsimp only
   rw [decide_eq_false (by omega),cond_false,List.take_length]
 rw [bdT this]
 unfold jA
 rw [hx]
end
theorem QO : ZX = some true := by kernel_rfl
def Ok5 (a : Int) : Prop := (0) ≤ a ∧ a ≤ 255
def zgK (a : z8x Int) : Prop := Ok5 a.e0 ∧ Ok5 a.e1
def zfo (a : z4B Int) : Prop := Ok5 a.e0 ∧ Ok5 a.e1 ∧ Ok5 a.e2 ∧ Ok5 a.e3 ∧ Ok5 a.e4
def zgH (l : List (z4B Int)) : Prop := ∀ a ∈ l,zfo a
def zfp (a : xI) : Prop := Ok5 a.States ∧ Ok5 a.Final ∧ zgH a.Arcs
def zgJ (l : List xI) : Prop := ∀ a ∈ l,zfp a
def zgI (a : yk) : Prop := zgK a.Channels ∧ zgJ a.Parts
theorem z7A {x : z8} (hv : z1i x) {hidden : List Int} (hr : z5a hidden x.Labels = true) (hhl : hidden.length ≤ 1000) {sp : List zb} {st : List (List z6)} (hg : zM x = some (sp,st,0)) (q : 64 < sp.length) :
  yo x hidden = some (⟨0,0,[]⟩,3) := by
 unfold yo
 rw [z12 hv,oB,bne_self_eq_false,cond_false,UK (.inl (by omega)),hr,oB,Bool.not_true,cond_false,hg,oB]
 dsimp only
 rw [bne_self_eq_false,cond_false,decide_eq_true (by omega),cond_true]
theorem z5i {x : z8} (hv : z1i x) {hidden : List Int} (hr : z5a hidden x.Labels = true) (hhl : hidden.length ≤ 1000) (hg : zM x = some ([],[],3)) :
  yo x hidden = some (⟨0,0,[]⟩,3) := by
 unfold yo
 rw [z12 hv,oB,bne_self_eq_false,cond_false,UK (.inl (by omega)),hr,oB,Bool.not_true,cond_false,hg]
 rfl
structure z6s (N : Nat) (hidden : List Int) (rows : List (List za)) : Prop where
 len : rows.length = N
 pos : 1 ≤ N ∧ N ≤ 64
 row : ∀ r ∈ rows,r.length ≤ 256 ∧ r.Pairwise aLt ∧ ∀ y ∈ r,zdX N hidden y
theorem z8r (y : za) : (!((y.Kind == y.Kind) && ((y.Label == y.Label) && ((y.To == y.To) && true)))) = false := by simp
theorem z1R {N : Nat} {hidden : List Int} {p : zr} (h : z6s N hidden p.Rows) : uF p p = some 1 := by
 have h1 := h.len
 have h2 := h.pos
 unfold uF
 rw [bne_self_eq_false,cond_false,bne_self_eq_false,cond_false,bne_self_eq_false,cond_false]
 rw [bdT (Zw p.Rows (by omega) ?_ ?_)]
 ·rfl
 ·intro i r hr
  have hi := y6 hr
  have hrl := (h.row r (List.mem_of_getElem? hr)).1
  unfold uV
  rw [decide_eq_true (by omega),cond_true,yf hr,oB,oB,bne_self_eq_false,cond_false]
  rw [bdT (Zw r (by omega) ?_ ?_)]
  ·rfl
  ·intro k y hy
   have hk := y6 hy
   unfold uU
   rw [yf hr,oB,decide_eq_true (by omega),cond_true,oB,yf hy,oB,oB,yf hy,oB,z8r,cond_false]
  ·unfold uU
   rw [yf hr,oB,decide_eq_false (by omega),cond_false]
 ·unfold uV
  rw [decide_eq_false (by omega),cond_false]
theorem z8k {a b : za} (h : aLt a b) : kV a b = some 1 := by
 unfold kV
 unfold aLt at h
 by_cases c1 : a.Kind < b.Kind
 ·rw [decide_eq_true c1,cond_true]
 ·rw [decide_eq_false c1,cond_false]
  have c2 : a.Kind = b.Kind := by omega
  rw [show (a.Kind == b.Kind) = true from beq_iff_eq.2 c2,cond_true]
  by_cases c3 : a.Label < b.Label
  ·rw [decide_eq_true c3,cond_true]
  ·rw [decide_eq_false c3,cond_false]
   have c4 : a.Label = b.Label := by omega
   rw [show (a.Label == b.Label) = true from beq_iff_eq.2 c4,cond_true,decide_eq_true (by omega),cond_true]
theorem zay {N : Nat} {hidden : List Int} {rows : List (List za)} (h : z6s N hidden rows) : ZS ⟨0,2,rows⟩ = some 0 := by
 have h1 := h.len
 have h2 := h.pos
 unfold ZS
 rw [decide_eq_false (by dsimp only; omega),cond_false,decide_eq_false (by dsimp only; omega),cond_false,decide_eq_false (by dsimp only; omega),cond_false]
 rw [bdT (Zw rows (by omega) ?_ ?_)]
 ·show jp ⟨0,2,rows⟩ = some 0
  unfold jp
  dsimp only
  rw [decide_eq_false (by decide),cond_false,decide_eq_false (by decide),cond_false,beq_false_of_ne (by omega),cond_false]
  rw [bdT (Zw rows (by omega) ?_ ?_)]
  ·rfl
  ·intro i r hr
   have hi := y6 hr
   obtain ⟨hrl,hpw,hok⟩ := h.row r (List.mem_of_getElem? hr)
   unfold jm
   dsimp only
   rw [decide_eq_true (by omega),cond_true]
   rw [bdT (Zw r (by omega) ?_ ?_)]
   ·rfl
   ·intro k y hy
    have hk := y6 hy
    obtain ⟨hkind,hto⟩ := hok y (List.mem_of_getElem? hy)
    unfold jl
    dsimp only
    rw [yf hr,oB,decide_eq_true (by omega),cond_true,oB,yf hy,oB,beq_false_of_ne (by omega),cond_false]
    have j8 : ∀ most : Int,0 ≤ y.Label ∧ y.Label < most → qh ⟨0,2,rows⟩ (i : Int) (k : Int) y most = some (.next (w64 ((k : Int) + 1))) := by
     intro most hm
     unfold qh jo
     dsimp only
     rw [decide_eq_false (by omega),cond_false,decide_eq_false (by omega),cond_false,decide_eq_false (by omega),cond_false,decide_eq_false (by omega),cond_false,decide_eq_false (by omega),cond_false]
     by_cases q : (k : Int) > 0
     ·have hz : r[k - 1]? = some r[k - 1] := List.getElem?_eq_getElem (by omega)
      have hlt : aLt r[k - 1] y := by
       have := (List.pairwise_iff_getElem.1 hpw) (k - 1) k (by omega) hk (by omega)
       rwa [(List.getElem?_eq_some_iff.1 hy).2] at this
      rw [decide_eq_true q,cond_true,yf hr,oB,wj (x := (k : Int) - 1) (by omega) (by omega),show (k : Int) - 1 = ((k - 1 : Nat) : Int) by omega,yf hz,oB,z8k hlt,oB]
      rfl
     ·rw [decide_eq_false q,cond_false]
    unfold jn
    rcases hkind with ⟨q1,q2⟩ | ⟨q1,q2,q3,_⟩
    ·rw [beq_false_of_ne (by omega),cond_false,j8 1 (by omega)]
    ·rw [show (y.Kind == 2) = true from beq_iff_eq.2 q1,cond_true,j8 2 (by omega)]
   ·unfold jl
    dsimp only
    rw [yf hr,oB,decide_eq_false (by omega),cond_false]
  ·unfold jm
   dsimp only
   rw [decide_eq_false (by omega),cond_false]
 ·intro i r hr
  have hi := y6 hr
  have hrl := (h.row r (List.mem_of_getElem? hr)).1
  unfold jk
  dsimp only
  rw [decide_eq_true (by omega),cond_true,yf hr,oB,decide_eq_false (by omega),cond_false]
 ·unfold jk
  dsimp only
  rw [decide_eq_false (by omega),cond_false]
theorem zbY {x : z8} (hv : z1i x) (hx : x.Labels = 2) {hidden : List Int} (hh : hidden.length ≤ 1000) (hr : z5a hidden 2 = true) {k : Nat}
  (g1 : (xJ x k).1.length ≤ k ∨ 64 < (xJ x k).1.length) (g2 : ∀ m,m < k → m < (xJ x m).1.length ∧ (xJ x m).1.length ≤ 64) : wd x (xJ x k) hidden = some true := by
 have hr' : z5a hidden x.Labels = true := by rw [hx]; exact hr
 unfold wd
 by_cases q : 64 < (xJ x k).1.length
 ·have hp : yo x hidden = some (⟨0,0,[]⟩,3) := by
   rcases z6b hv (by omega) g2 q with e | ⟨L,st,e,h,_⟩
   ·exact z5i hv hr' hh e
   ·exact z7A hv hr' hh e h
  rw [hp,oB,decide_eq_true (by omega),cond_true,QO]
  rfl
 ·obtain ⟨h1,h2,h3⟩ := zhB hv (by omega) g1 g2 (by omega)
  have hst := UY hv k
  have hsv := z3g (x := x) k
  have hpos := (z0Z hv k).2
  have hsh : ∀ u ∈ (xJ x k).2,∀ y ∈ u.map (shA x hidden),zdX (xJ x k).2.length hidden y := by
   intro u hu y hy
   obtain ⟨s,hs,rfl⟩ := List.mem_map.1 hy
   obtain ⟨a,b,c⟩ := hsv u hu s hs
   exact zed hv hx a ⟨b,by omega⟩
  have hrow : ∀ u ∈ (xJ x k).2,(z0b (u.map (shA x hidden)) 2 (xJ x k).2.length).length ≤ 256 := by
   intro u hu
   have := z7q (u.map (shA x hidden)) 2 (xJ x k).2.length fun y hy => by rcases (hsh u hu y hy).kind with ⟨a,_⟩ | ⟨a,_⟩ <;> omega
   omega
  have hcs : ∀ u ∈ (xJ x k).2,∀ t,KI (u.map (shA x hidden)) t → t = z0b (u.map (shA x hidden)) 2 (xJ x k).2.length := by
   intro u hu t ht
   exact z04 ht.1 (z5d _ _ _) fun y => (ht.2 y).trans (z3L (hsh u hu) y).symm
  have hrp := z7p (x := x) (hidden := hidden) (st := (xJ x k).2) hx hh (by omega) hst fun u hu s hs => (hsv u hu s hs).1
  have hval : yo x hidden = some (⟨0,2,(xJ x k).2.map fun u => z0b (u.map (shA x hidden)) 2 (xJ x k).2.length⟩,0) := by
   rcases z31 hv hr' hh h1 (by omega) hst (fun u hu s hs => (hsv u hu s hs).1) with ⟨c,_⟩ | ⟨_,⟨rows,e,hl,hrw⟩ | ⟨_,u,hu,t,ht,hlt⟩⟩
   ·rw [List.length_map] at c; omega
   ·rw [e,hx]
    have : rows = (xJ x k).2.map fun u => z0b (u.map (shA x hidden)) 2 (xJ x k).2.length := by
     refine List.ext_getElem? fun i => ?_
     rw [List.getElem?_map]
     rcases Nat.lt_or_ge i (xJ x k).2.length with c | c
     ·have he : (xJ x k).2[i]? = some (xJ x k).2[i] := List.getElem?_eq_getElem c
      obtain ⟨t,a,b,_⟩ := hrw i _ he
      rw [a,he,hcs _ (List.mem_of_getElem? he) t b]
      rfl
     ·rw [List.getElem?_eq_none (by omega),List.getElem?_eq_none c]
      rfl
    rw [this]
   ·rw [hcs u hu t ht] at hlt
    have := hrow u hu
    omega
  have hro : z6s (xJ x k).2.length hidden ((xJ x k).2.map fun u => z0b (u.map (shA x hidden)) 2 (xJ x k).2.length) := by
   refine ⟨by rw [List.length_map],⟨by omega,by omega⟩,fun r hr2 => ?_⟩
   obtain ⟨u,hu,rfl⟩ := List.mem_map.1 hr2
   exact ⟨hrow u hu,z5d _ _ _,fun y hy => hsh u hu y ((z3L (hsh u hu) y).1 hy)⟩
  rw [hval,hrp,oB,decide_eq_false (by omega),cond_false]
  dsimp only
  rw [bne_self_eq_false,cond_false,oB]
  clear hval hrp hcs hrow hsh hsv hst
  generalize ((xJ x k).2.map fun u => z0b (u.map (shA x hidden)) 2 (xJ x k).2.length) = rows at hro
  rw [z1R (p := ⟨0,2,rows⟩) hro,oB,show ((1 : Int) == 0) = false from rfl,cond_false,bne_self_eq_false,cond_false,zay hro,oB,bne_self_eq_false,cond_false]
  have l1 := hro.len
  have l2 := hro.pos
  rw [bdT (Zw rows (by omega) ?_ ?_)]
  ·show wc = some true
   unfold wc
   rw [QO]
   rfl
  ·intro i r hr2
   have hi := y6 hr2
   obtain ⟨hrl,_,hok⟩ := hro.row r (List.mem_of_getElem? hr2)
   unfold w9
   dsimp only
   rw [decide_eq_true (by omega),cond_true]
   rw [bdT (Zw r (by omega) ?_ ?_)]
   ·rfl
   ·intro j y hy
    have hj := y6 hy
    have hk := (hok y (List.mem_of_getElem? hy)).kind
    unfold w8 wb
    dsimp only
    rw [yf hr2,oB,decide_eq_true (by omega),cond_true,oB,yf hy,oB]
    rcases hk with ⟨q1,q2⟩ | ⟨q1,q2,q3,q4⟩
    ·rw [beq_false_of_ne (by omega),cond_false]
    ·rw [show (y.Kind == 2) = true from beq_iff_eq.2 q1,cond_true,oB,yf hy,oB,z8Q _ _ (by omega),oB]
     have : (hidden.any fun z => y.Label == z) = false := List.any_eq_false.2 fun z hz h => q4 (beq_iff_eq.1 h ▸ hz)
     rw [this]
     rfl
   ·unfold w8
    dsimp only
    rw [yf hr2,oB,decide_eq_false (by omega),cond_false]
  ·unfold w9
   dsimp only
   rw [decide_eq_false (by omega),cond_false]
theorem zap (hide : Int) : Ret (loop (fun s => w7 hide s.1 s.2) (([] : List Int),0)) (fun t => t.length ≤ 2 ∧ z5a t 2 = true) := by
 refine kK (fun s => s = ([],0) ∨ s = ([],1) ∨ s = ([0],1) ∨ (s.2 = 2 ∧ s.1.length ≤ 2 ∧ z5a s.1 2 = true)) (fun s => 2 - s.2.toNat) (.inl rfl) (by show 2 - 0 < _; omega) ?_
 rintro ⟨l,i⟩ h
 unfold w7 wa
 dsimp only at h ⊢
 rcases h with h | h | h | ⟨rfl,h1,h2⟩
 ·cases h
  rw [decide_eq_true (by decide),cond_true,gdT (by decide)]
  cases (z8X .u8 (Int.fdiv hide (2 ^ (min (IntKind.u64.wrap 0).toNat 8))) 1 == 1)
  ·exact yp.2 ⟨.inr (.inl rfl),by decide⟩
  ·exact yp.2 ⟨.inr (.inr (.inl rfl)),by decide⟩
 ·cases h
  rw [decide_eq_true (by decide),cond_true,gdT (by decide)]
  cases (z8X .u8 (Int.fdiv hide (2 ^ (min (IntKind.u64.wrap 1).toNat 8))) 1 == 1)
  ·exact yp.2 ⟨.inr (.inr (.inr ⟨rfl,by decide,by decide⟩)),by decide⟩
  ·exact yp.2 ⟨.inr (.inr (.inr ⟨rfl,by decide,by decide⟩)),by decide⟩
 ·cases h
  rw [decide_eq_true (by decide),cond_true,gdT (by decide)]
  cases (z8X .u8 (Int.fdiv hide (2 ^ (min (IntKind.u64.wrap 1).toNat 8))) 1 == 1)
  ·exact yp.2 ⟨.inr (.inr (.inr ⟨rfl,by decide,by decide⟩)),by decide⟩
  ·exact yp.2 ⟨.inr (.inr (.inr ⟨rfl,by decide,by decide⟩)),by decide⟩
 ·rw [decide_eq_false (by decide),cond_false]
  exact yp.2 ⟨h1,h2⟩
theorem z7R {x : yk} {hide : Int} (hx : zgI x) (hh : Ok5 hide) : vV x hide = some true := by
 obtain ⟨⟨hc0,hc1⟩,hps⟩ := hx
 have hy : OkY x := ⟨hc0,hc1,fun z hz => ⟨(hps z hz).1,fun a ha => (hps z hz).2.2 a ha⟩⟩
 obtain ⟨s,e,hs⟩ := zbN hy
 have hvs := z5J hy hs
 obtain ⟨k,eg,g1,g2⟩ := z5O hvs (most := 64) (by omega)
 obtain ⟨t,et,t1,t2⟩ := zap hide
 unfold vV
 rw [show yk.mk x.Channels x.Parts = x from rfl,e,oB,show (64 : Int) = ((64 : Nat) : Int) from rfl,eg,oB,et,oB]
 exact zbY hvs hs.lab (by omega) t2 g1 g2
def JI (w : World) : zt := fun b o => yH w.heap b o
theorem z3o {w : World} {a : Addr} {v : Value} (h : w.cell? a = some v) : a.spot = none ∧ yH w.heap a.block a.off = some v := by
 unfold World.cell? at h
 unfold yH
 split at h
 ·rename_i c ty fr he
  rw [he]
  split at h
  ·cases h
  ·rename_i hs
   exact ⟨by simpa using hs,h⟩
 ·cases h
section
variable {H : Type} {enc : TypeId × Value → H} {P : Program} {w : World} {base : Nat} {spare : Nat → Bool} {held : Bool}
theorem z63 {a : Addr} {n : Nat} {cs : List Value} (h : w.cells? base a n = some cs) (hn : 0 < n) : a.spot = none ∧ cs.length = n ∧ KX (JI w) a.block a.off cs := by
 obtain ⟨_,h2,h3⟩ := World.cells?_some h
 have h0 : a.spot = none := by
  have h4 := h3 0 hn
  cases hc : cs[0]? with
  | none => rw [List.getElem?_eq_none_iff] at hc; omega
  | some v =>
   rw [hc] at h4
   have := (z3o h4).1
   simpa [Addr.add] using this
 refine ⟨h0,h2,fun j v hj => ?_⟩
 have hlt := (List.getElem?_eq_some_iff.1 hj).1
 have h4 := h3 j (by omega)
 rw [hj] at h4
 have q := (z3o h4).2
 unfold Addr.add at q
 split at q
 ·rename_i e; subst e; exact q
 ·exact q
theorem z1J {S : zt} : ∀ {bs : List A} {cs : List Value} {a : A} {c : List Value},yG S bs cs → Rep S a c → yG S (bs ++ [a]) (cs ++ c)
 | [],cs,a,c,h1,h2 => by
  simp only [yG] at h1
  subst h1
  simp only [List.nil_append,yG]
  exact ⟨c,[],by simp,h2,rfl⟩
 | x :: bs,cs,a,c,h1,h2 => by
  simp only [yG] at h1
  obtain ⟨c1,c2,rfl,r1,r2⟩ := h1
  simp only [List.cons_append,yG]
  exact ⟨c1,c2 ++ c,by simp,r1,z1J r2 h2⟩
theorem z7K {S : zt} {b o : Nat} {c1 c2 : List Value} (h1 : KX S b o c1) (h2 : KX S b (o + c1.length) c2) : KX S b o (c1 ++ c2) := by
 intro j v hj
 rcases Nat.lt_or_ge j c1.length with q | q
 ·rw [List.getElem?_append_left q] at hj
  exact h1 j v hj
 ·rw [List.getElem?_append_right q] at hj
  have := h2 _ _ hj
  rwa [show o + c1.length + (j - c1.length) = o + j by omega] at this
theorem z1v {α : Type} {t e sz : Nat} (f : α → A) (ok : α → Prop) (ht : P.underlying t = some (.slice e)) (hsz : P.cellsOf e = sz) (h0 : 0 < sz) (hf : ∀ a,(f a).size = sz)
    (hel : ∀ n cs x,DataW.trod enc P w base spare held n e cs = some x → ∃ a,ok a ∧ Rep (JI w) (f a) cs)
    {fuel : Nat} {cs : List Value} {x : DataW H × List MemPlace} (h : DataW.trod enc P w base spare held fuel t cs = some x) : ∃ l : List α,(∀ a ∈ l,ok a) ∧ Rep (JI w) (.sl sz false (l.map f)) cs := by
  rcases DataW.trod_slice ht h with ⟨rfl,_⟩ | ⟨a,len,cap,elems,rest,n,_,rfl,_,_,hlc,_,hlen,hall,_,_⟩
  · refine ⟨[],by simp,?_⟩
    simp only [Rep,List.map_nil,List.length_nil]
    exact ⟨none,0,rfl,by simp,Nat.le_refl _,by simp,.inl trivial⟩
  · have key : ∀ k,k ≤ len → ∃ (l : List α) (cells : List Value),l.length = k ∧ (∀ a ∈ l,ok a) ∧ yG (JI w) (l.map f) cells ∧ cells.length = k * sz ∧ (0 < k → a.spot = none) ∧ KX (JI w) a.block a.off cells := by
      intro k
      induction k with
      | zero => intro _; exact ⟨[],[],rfl,by simp,by simp [yG],by simp,by simp,fun j v h => by simp at h⟩
      | succ k ih =>
        intro hk
        obtain ⟨l,cells,q1,q2,q3,q4,q5,q6⟩ := ih (by omega)
        have hk' := hall k (by omega)
        have hsome : elems[k]? = some elems[k] := List.getElem?_eq_getElem (by omega)
        rw [hsome,Option.bind_eq_some_iff,hsz] at hk'
        obtain ⟨c,hc,htr⟩ := hk'
        obtain ⟨y,hy,hr⟩ := hel _ _ _ htr
        obtain ⟨g1,g2,g3⟩ := z63 hc h0
        refine ⟨l ++ [y],cells ++ c,by simp [q1],?_,?_,?_,?_,?_⟩
        · intro z hz
          rcases List.mem_append.1 hz with q | q
          · exact q2 z q
          · simp only [List.mem_cons,List.not_mem_nil,or_false] at q; subst q; exact hy
        · rw [List.map_append]; exact z1J q3 hr
        · rw [List.length_append,q4,g2,Nat.succ_mul]
        · intro _
          rcases Nat.eq_zero_or_pos k with rfl | hk0
          · simpa [Addr.add] using g1
          · exact q5 hk0
        · refine z7K q6 ?_
          rw [q4]
          unfold Addr.add at g3
          split at g3
          · rename_i e0
            rw [e0,Nat.add_zero]
            exact g3
          · exact g3
    obtain ⟨l,cells,q1,q2,q3,q4,q5,q6⟩ := key len (Nat.le_refl _)
    refine ⟨l,q2,?_⟩
    simp only [Rep,List.length_map]
    refine ⟨some a,cap,by rw [q1],by simp,by omega,?_,?_⟩
    · intro y hy
      obtain ⟨z,_,rfl⟩ := List.mem_map.1 hy
      exact hf z
    · rcases Nat.eq_zero_or_pos len with rfl | hl
      · left; rw [List.length_eq_zero_iff.1 q1]; rfl
      · right
        refine ⟨a.block,a.off,cells,?_,q3,q6⟩
        have := q5 hl
        obtain ⟨b,o,s⟩ := a
        simp only at this
        subst this
        rfl
theorem zag {t : Nat} {k : IntKind} {lo hi : Int} (ht : P.underlying t = some (.int k)) (hlo : k.min = lo) (hhi : k.max = hi) {fuel : Nat} {cs : List Value} {x : DataW H × List MemPlace} (h : DataW.trod enc P w base spare held fuel t cs = some x) :
  ∃ n : Int,(lo ≤ n ∧ n ≤ hi) ∧ cs = [.int k n] ∧ Rep (JI w) (.atom (.int k n)) cs := by
 obtain ⟨n,rfl,_,hw⟩ := DataW.trod_int ht h
 simp only [Lit.wf,Bool.and_eq_true,decide_eq_true_eq,hlo,hhi] at hw
 exact ⟨n,hw,rfl,by simp only [Rep]; exact ⟨trivial,rfl⟩⟩
theorem U0 {t : Nat} {fs : List Field} (ht : P.underlying t = some (.struct ⟨fs⟩)) {fuel : Nat} {cs : List Value} {x : DataW H × List MemPlace} (h : DataW.trod enc P w base spare held fuel t cs = some x) :
  cs.length = P.cellsOf t ∧ ∀ (i : Nat) (f : Field),fs[i]? = some f → ∃ n y,DataW.trod enc P w base spare held n f.type ((cs.drop f.offset).take (P.cellsOf f.type)) = some y := by
 obtain ⟨xs,n,_,_,hl,hxl,hall⟩ := DataW.trod_struct ht h
 refine ⟨hl,fun i f hf => ?_⟩
 have hlt := (List.getElem?_eq_some_iff.1 hf).1
 have := hall i f (by simpa using hf)
 rw [List.getElem?_eq_getElem (by rw [hxl]; simpa using hlt)] at this
 exact ⟨n,_,this⟩
end
theorem uS {S : zt} {a : A} {bs : List A} {cs : List Value} {n : Nat} (h1 : Rep S a (cs.take n)) (h2 : yG S bs (cs.drop n)) : yG S (a :: bs) cs := by
 simp only [yG]
 exact ⟨cs.take n,cs.drop n,(List.take_append_drop n cs).symm,h1,h2⟩
section
open Go Go.ChangeShapes Go.WideShapes Go.ChangeAt Go.RowKit
theorem z5j {P : Program} {H : Type} {enc : TypeId × Value → H} {f : Func} {s : ChangeSpec} {apart fresh handsOn again : Bool} {W W' : World} {args : Array Value} {v : Value} {ds : List (DataW H)} {pa : List MemPlace}
  (hvar : s.vars = []) (hvars2 : (s.fn H (ds ++ [])).vars = []) (hW : DataW.Whole enc P f.params.toList s.vars apart W args.toList ds [] (pa ++ [])) (hb : Below W.heap.size W W')
  (hres : ∀ (b : Nat) (sp : Nat → Bool) (hd : Bool),DataW.TrodAll enc P W' b sp hd f.resultTypes.toList (v.resultList f.resultTypes.size) (s.fn H (ds ++ [])).results [])
  (hargs : ∀ sp : Nat → Bool,(∀ p ∈ pa ++ [],sp p.block = true) → DataW.TrodAll enc P W' 0 sp true f.params.toList args.toList (s.fn H (ds ++ [])).args pa)
  (hok : ∀ (j : Nat) (t : TypeId) (r : Value),f.resultTypes[j]? = some t → (v.resultList f.resultTypes.size)[j]? = some r → Value.okWide P W' .any 0 t r) :
  s.post enc P f apart fresh handsOn again W args v W' := by
 have hlt : ∀ p ∈ pa ++ [],p.block < W.heap.size := fun p hp => by simpa using hW.lt p hp
 have hvr : ∀ sp : Nat → Bool,DataW.TrodVars enc P W' sp s.vars (s.fn H (ds ++ [])).vars [] := fun sp => by rw [hvar,hvars2]; rfl
 refine ⟨ds,[],pa ++ [],[],pa,[],hW,hres _ _ _,hargs _ (fun p hp => by simpa using hlt p hp),hvr _,World.keptBut_mono (fun _ q => q.elim) (hb.frame fun _ => False),fun _ => ?_⟩
 obtain ⟨_,_,_,_,_,hz,hn⟩ := hW
 refine ⟨hok,_,_,([] ++ pa) ++ [],⟨[] ++ pa,[],trodAll_append (hargs _ (fun _ _ => rfl)) (hres _ _ _),hvr _,rfl,?_,?_⟩,?_⟩
 ·intro b off hp
  have hp' : MemPlace.cell b off ∈ pa ++ [] := by simpa using hp
  rw [hb.frozen (p := ⟨b,off,none⟩) (hlt _ hp')]
  exact hz b off hp'
 ·intro ha
  simpa using hn ha
 ·intro p hp _
  simpa using hp
end
theorem z7c {P : Program} {k : Nat} {α ρ : Type} {enc : α → List A} {encR : ρ → A} {F : α → Option ρ} {gives : List Bool} {inj : ∀ x y,enc x = enc y → x = y} (h : (spF k enc encR F gives inj).Ok P) {x : α} {r : ρ} (hr : F x = some r) : XS P k (enc x) (encR r) := by
 have := h x ⟨r,hr⟩
 simpa only [spF,hr] using this
section
variable {P : Program} {w : World} {r : Reach} {base t : Nat} {v : Value}
theorem z4J (h : ∀ cs,v ≠ .agg cs) : v = v.cells.toList.headD undef := by
 cases v <;> first | rfl | exact (h _ rfl).elim
theorem z95 {k : IntKind} (hu : P.underlying t = some (.int k)) (h : Value.okWide P w r base t v) : v = v.cells.toList.headD undef := by
 refine z4J fun cs e => ?_
 subst e
 unfold Value.okWide at h
 rw [hu] at h
 simp only [Cell.okWide,hu,Cell.ok] at h
theorem z4k {fs : Array Field} (hu : P.underlying t = some (.struct fs)) (h : Value.okWide P w r base t v) : v = .agg v.cells.toList.toArray := by
 unfold Value.okWide at h
 rw [hu] at h
 obtain ⟨cs,rfl,_⟩ := h
 rfl
theorem z7x {k : IntKind} {S : zt} {a : A} (hu : P.underlying t = some (.int k)) (hr : Rep S a v.cells.toList) (h : Value.okWide P w r base t v) (ha : a.isAgg = false) : vW S a v := ⟨_,hr,by cases a <;> first | exact z95 hu h | cases ha⟩
theorem z2Z {fs : Array Field} {S : zt} {a : A} (hu : P.underlying t = some (.struct fs)) (hr : Rep S a v.cells.toList) (h : Value.okWide P w r base t v) (ha : a.isAgg = true) : vW S a v := ⟨_,hr,by cases a <;> first | exact z4k hu h | cases ha⟩
theorem z7Y {S : zt} {h : Array Obj} {v : Value} {F : List Nat} (q : Has S h (.atom (.bool true)) v F) : v = .bool true := by
 rcases q with ⟨q,_⟩ | ⟨cs,q,_,rfl⟩
 ·rw [(zA.1 q).1]
 ·simp only [zQ,Rep] at q
  obtain ⟨⟨rfl,_⟩,_⟩ := q
  rfl
end
open Go.Proofs
section
variable {H : Type} {enc : TypeId × Value → H} {w : World} {base : Nat} {spare : Nat → Bool} {held : Bool}
theorem z67 : Tryz.prog.cellsOf 5 = 1 := by kernel_rfl
theorem rd5 {fuel : Nat} {cs : List Value} {x : DataW H × List MemPlace} (h : DataW.trod enc Tryz.prog w base spare held fuel 5 cs = some x) : ∃ a : Int,Ok5 a ∧ Rep (JI w) ((eI .u8) a) cs := by
 obtain ⟨n,h1,_,h2⟩ := zag Tryz.underlying5 (lo := 0) (hi := 255) rfl rfl h
 exact ⟨n,h1,h2⟩
theorem z68 : Tryz.prog.cellsOf 22 = 2 := by kernel_rfl
theorem zhf {fuel : Nat} {cs : List Value} {x : DataW H × List MemPlace} (h : DataW.trod enc Tryz.prog w base spare held fuel 22 cs = some x) : ∃ a : z8x Int,zgK a ∧ Rep (JI w) ((KV (eI .u8)) a) cs := by
 obtain ⟨xs,m,_,_,hl,hx,hall⟩ := DataW.trod_array Tryz.underlying22 h
 rw [z68] at hl
 rw [z67] at hall
 have get : ∀ i,i < 2 → ∃ n : Int,Ok5 n ∧ Rep (JI w) ((eI .u8) n) ((cs.drop (i * 1)).take 1) := by
  intro i hi
  have q := hall i hi
  rw [List.getElem?_eq_getElem (by omega)] at q
  exact rd5 q
 obtain ⟨a0,k0,r0⟩ := get 0 (by omega)
 obtain ⟨a1,k1,r1⟩ := get 1 (by omega)
 refine ⟨⟨a0,a1⟩,⟨k0,k1⟩,?_⟩
 show Rep (JI w) (.agg [(eI .u8) a0,(eI .u8) a1]) cs
 simp only [Rep]
 refine uS (n := 1) (by simpa [List.drop_drop] using r0) (uS (n := 1) (by simpa [List.drop_drop] using r1) ?_)
 simp only [List.drop_drop,yG]
 exact List.drop_eq_nil_of_le (by omega)
theorem z64 : Tryz.prog.cellsOf 96 = 5 := by kernel_rfl
theorem zha {fuel : Nat} {cs : List Value} {x : DataW H × List MemPlace} (h : DataW.trod enc Tryz.prog w base spare held fuel 96 cs = some x) : ∃ a : z4B Int,zfo a ∧ Rep (JI w) ((W1 (eI .u8)) a) cs := by
 obtain ⟨xs,m,_,_,hl,hx,hall⟩ := DataW.trod_array Tryz.underlying96 h
 rw [z64] at hl
 rw [z67] at hall
 have get : ∀ i,i < 5 → ∃ n : Int,Ok5 n ∧ Rep (JI w) ((eI .u8) n) ((cs.drop (i * 1)).take 1) := by
  intro i hi
  have q := hall i hi
  rw [List.getElem?_eq_getElem (by omega)] at q
  exact rd5 q
 obtain ⟨a0,k0,r0⟩ := get 0 (by omega)
 obtain ⟨a1,k1,r1⟩ := get 1 (by omega)
 obtain ⟨a2,k2,r2⟩ := get 2 (by omega)
 obtain ⟨a3,k3,r3⟩ := get 3 (by omega)
 obtain ⟨a4,k4,r4⟩ := get 4 (by omega)
 refine ⟨⟨a0,a1,a2,a3,a4⟩,⟨k0,k1,k2,k3,k4⟩,?_⟩
 show Rep (JI w) (.agg [(eI .u8) a0,(eI .u8) a1,(eI .u8) a2,(eI .u8) a3,(eI .u8) a4]) cs
 simp only [Rep]
 refine uS (n := 1) (by simpa [List.drop_drop] using r0) (uS (n := 1) (by simpa [List.drop_drop] using r1) (uS (n := 1) (by simpa [List.drop_drop] using r2) (uS (n := 1) (by simpa [List.drop_drop] using r3) (uS (n := 1) (by simpa [List.drop_drop] using r4) ?_))))
 simp only [List.drop_drop,yG]
 exact List.drop_eq_nil_of_le (by omega)
theorem zaz : Tryz.prog.cellsOf 93 = 1 := by kernel_rfl
theorem zhc {fuel : Nat} {cs : List Value} {x : DataW H × List MemPlace} (h : DataW.trod enc Tryz.prog w base spare held fuel 93 cs = some x) : ∃ a : List (z4B Int),zgH a ∧ Rep (JI w) ((eSl 5 false (W1 (eI .u8))) a) cs := by
 exact z1v (W1 (eI .u8)) zfo Tryz.underlying93 z64 (by omega) (fun _ => rfl) (fun _ _ _ q => zha q) h
theorem z65 : Tryz.prog.cellsOf 95 = 3 := by kernel_rfl
theorem zhb {fuel : Nat} {cs : List Value} {x : DataW H × List MemPlace} (h : DataW.trod enc Tryz.prog w base spare held fuel 95 cs = some x) : ∃ a : xI,zfp a ∧ Rep (JI w) ((uX (eI .u8) (eI .u8) (eSl 5 false (W1 (eI .u8)))) a) cs := by
 obtain ⟨hl,hf⟩ := U0 Tryz.underlying95 h
 rw [z65] at hl
 obtain ⟨_,_,q0⟩ := hf 0 _ rfl
 obtain ⟨_,_,q1⟩ := hf 1 _ rfl
 obtain ⟨_,_,q2⟩ := hf 2 _ rfl
 simp only [z67,zaz] at q0 q1 q2
 obtain ⟨a0,k0,r0⟩ := rd5 q0
 obtain ⟨a1,k1,r1⟩ := rd5 q1
 obtain ⟨a2,k2,r2⟩ := zhc q2
 refine ⟨⟨a0,a1,a2⟩,⟨k0,k1,k2⟩,?_⟩
 show Rep (JI w) (.agg [(eI .u8) a0,(eI .u8) a1,(eSl 5 false (W1 (eI .u8))) a2]) cs
 simp only [Rep]
 refine uS (n := 1) (by simpa [List.drop_drop] using r0) (uS (n := 1) (by simpa [List.drop_drop] using r1) (uS (n := 1) (by simpa [List.drop_drop] using r2) ?_))
 simp only [List.drop_drop,yG]
 exact List.drop_eq_nil_of_le (by omega)
theorem zaB : Tryz.prog.cellsOf 23 = 1 := by kernel_rfl
theorem zhe {fuel : Nat} {cs : List Value} {x : DataW H × List MemPlace} (h : DataW.trod enc Tryz.prog w base spare held fuel 23 cs = some x) : ∃ a : List xI,zgJ a ∧ Rep (JI w) ((eSl 3 false (uX (eI .u8) (eI .u8) (eSl 5 false (W1 (eI .u8))))) a) cs := by
 exact z1v (uX (eI .u8) (eI .u8) (eSl 5 false (W1 (eI .u8)))) zfp Tryz.underlying23 z65 (by omega) (fun _ => rfl) (fun _ _ _ q => zhb q) h
theorem zaA : Tryz.prog.cellsOf 25 = 3 := by kernel_rfl
theorem zhd {fuel : Nat} {cs : List Value} {x : DataW H × List MemPlace} (h : DataW.trod enc Tryz.prog w base spare held fuel 25 cs = some x) : ∃ a : yk,zgI a ∧ Rep (JI w) ((kZ (KV (eI .u8)) (eSl 3 false (uX (eI .u8) (eI .u8) (eSl 5 false (W1 (eI .u8)))))) a) cs := by
 obtain ⟨hl,hf⟩ := U0 Tryz.underlying25 h
 rw [zaA] at hl
 obtain ⟨_,_,q0⟩ := hf 0 _ rfl
 obtain ⟨_,_,q1⟩ := hf 1 _ rfl
 simp only [z68,zaB] at q0 q1
 obtain ⟨a0,k0,r0⟩ := zhf q0
 obtain ⟨a1,k1,r1⟩ := zhe q1
 refine ⟨⟨a0,a1⟩,⟨k0,k1⟩,?_⟩
 show Rep (JI w) (.agg [(KV (eI .u8)) a0,(eSl 3 false (uX (eI .u8) (eI .u8) (eSl 5 false (W1 (eI .u8))))) a1]) cs
 simp only [Rep]
 refine uS (n := 2) (by simpa [List.drop_drop] using r0) (uS (n := 1) (by simpa [List.drop_drop] using r1) ?_)
 simp only [List.drop_drop,yG]
 exact List.drop_eq_nil_of_le (by omega)
end
end Go.Own
namespace Go.Proofs.YtcldlioffanjaaaGreatDoor.systemsProduct
open Go Go.ChangeShapes Go.WideShapes Go.ChangeAt Go.RowKit
theorem own : ownKnob Tryz.prog.godebug = none := by kernel_rfl
theorem zac : laidOutB Tryz.prog = true := by kernel_rfl
section
variable {H : Type} {enc : TypeId × Value → H} {W : World}
theorem z9V (u : TypeId) (h : Tryz.prog.typeName? 3 u = some "*errors.errorString") : u = 201 :=
 typeName_ptr_named (nm := "errors.errorString") (by rw [show "*" ++ "errors.errorString" = "*errors.errorString" by decide]; kernel_rfl) (by kernel_rfl) (by decide) u (by rw [show "*" ++ "errors.errorString" = "*errors.errorString" by decide]; exact h)
theorem z81 {W : World} (hL : laidMetH Tryz.prog Rows.systemsProductRow.laid W) : Go.Own.Gok (Go.Own.JI W) := by
 rw [MakeChecks.laidMetH_plain _ _ _ (by kernel_rfl)] at hL
 have hg : Tryz.prog.globalNamed "gauntlet/systems.errNo" = some 0 := by kernel_rfl
 obtain ⟨a,_,hv,_⟩ := laid_sentinel hL hg (show (Tryz.prog.globals[0]?).map (·.type) = some 154 by kernel_rfl) Tryz.underlying154 z9V Tryz.underlying201 Tryz.underlying226 rfl rfl Tryz.underlying9 (show Tryz.prog.cellsOf 226 = 1 by kernel_rfl) (show Tryz.prog.cellsOf 9 = 1 by kernel_rfl)
 have hw : W.cell? ⟨0,0,none⟩ = some (.iface 201 (.pointer (some a))) := by
  have := World.var?_cell hg hv 0
  simpa using this
 have hc : Go.Own.JI W 0 0 = some (.iface 201 (.pointer (some a))) := (Go.Own.z3o hw).2
 intro g x e
 unfold Go.Own.zdS at e
 split at e
 ·rename_i h0
  subst h0
  cases e
  refine ⟨[.iface 201 (.pointer (some a))],⟨_,rfl,fun _ => ⟨hc,a,rfl⟩,fun h => by cases h⟩,fun j v hj => ?_⟩
  cases j with
  | zero => cases hj; exact hc
  | succ j => simp at hj
 ·cases e
set_option maxRecDepth 100000 in
theorem zgU {base : Nat} (hL : laidMetH Tryz.prog Rows.systemsProductRow.laid W) {v0 : Value} {d0 : DataW H} {p0 : List MemPlace} {v1 : Value} {d1 : DataW H} {p1 : List MemPlace} (h0 : DataW.Trod enc Tryz.prog W 0 (fun _ => true) true 25 v0 d0 p0) (h1 : DataW.Trod enc Tryz.prog W 0 (fun _ => true) true 5 v1 d1 p1) (k0 : Value.okWide Tryz.prog W .any base (25 : Nat) v0) (k1 : Value.okWide Tryz.prog W .any base (5 : Nat) v1) :
  Calls Tryz.prog 4 #[v0,v1] W fun e w' => e = .returned (.bool true) ∧ Go.Own.Ya (fun k => W.heap.size ≤ k) W w' := by
 obtain ⟨n0,h0⟩ := h0
 obtain ⟨x0,o0,r0⟩ := Go.Own.zhd h0
 obtain ⟨n1,h1⟩ := h1
 obtain ⟨x1,o1,r1⟩ := Go.Own.rd5 h1
 have q := (Go.Own.z7c (Go.Own.z4A Go.Own.zcU List.mem_cons_self : Go.Own.uB.Ok Tryz.prog) (x := (x0,x1)) (r := true) (Go.Own.z7R o0 o1)).2 (Go.Own.JI W) W [v0,v1] [] ⟨fun _ _ _ h => h,z81 hL⟩ ?_ (by simp)
 ·refine Calls.mono q ?_
  rintro e w' ⟨v,S',F',rfl,hk,_,_,_,hr,_,_⟩
  refine ⟨?_,hk.mono (by rintro k (h | h) <;> simp_all)⟩
  rw [Go.Own.z7Y hr]
 ·refine Go.Own.Y4 ?_
  have g0 : Go.Own.vW (Go.Own.JI W) ((Go.Own.kZ (Go.Own.KV (Go.Own.eI .u8)) (Go.Own.eSl 3 false (Go.Own.uX (Go.Own.eI .u8) (Go.Own.eI .u8) (Go.Own.eSl 5 false (Go.Own.W1 (Go.Own.eI .u8)))))) x0) v0 := Go.Own.z2Z (t := (25 : Nat)) Tryz.underlying25 r0 k0 rfl
  have g1 : Go.Own.vW (Go.Own.JI W) ((Go.Own.eI .u8) x1) v1 := Go.Own.z7x (t := (5 : Nat)) Tryz.underlying5 r1 k1 rfl
  exact ⟨g0,g1,trivial⟩
end
set_option maxRecDepth 100000 in
theorem z83 (os : Os) (args : Array Value) : laidMetH Tryz.prog Rows.systemsProductRow.laid ((World.doorLaid Tryz.prog 400 os).forCall (fun _ _ => 0) ⟨#[],args,[]⟩).memory :=
 laidMetH_of_parts3 (fuel := 8) (laidMet_of_run' 8 (by kernel_rfl) (by kernel_rfl)) (by kernel_rfl) (by kernel_rfl)
set_option maxRecDepth 100000 in
theorem zbV (os : Os) (started : os.Started) (H : Type) (enc : TypeId × Value → H) :
  ReturnsInHanded {} Tryz.checked os 4 .any (fun w args => (Rows.systemsProductSpec.pre enc Tryz.prog Tryz.f4 Rows.systemsProductRow.domain false w args ∧ laidMetH Tryz.prog Rows.systemsProductRow.laid w) ∧ sizedMet enc Tryz.prog Tryz.f4 (OpenSpec.ofChange Rows.systemsProductSpec) false w args) (Rows.systemsProductSpec.post enc Tryz.prog Tryz.f4 false true false false) := by
 refine returnsInHanded_of_change_and (C := Tryz.checked) (X := fun w _ => laidMetH Tryz.prog Rows.systemsProductRow.laid w) (fun _ _ _ hh h => h.of_heap hh) own started (by kernel_rfl) Tryz.func4
  (ChangeSpec.witness_shaped (enc := enc) (C := Tryz.checked) (os := os) (X := fun w _ => laidMetH Tryz.prog Rows.systemsProductRow.laid w) false (World.doorLaid Tryz.prog 400 os) #[.agg #[.int .u8 0,.int .u8 0,.slice none 0 0],.int .u8 0] 8 rfl (World.shaped_of_RefB (by kernel_rfl) (by kernel_rfl)) (by kernel_rfl) (by kernel_rfl) (by kernel_rfl) (z83 os _)) ?_
 intro W base args ds gs before hval0 hW hcnd _ hL _
 have hval : ∀ (j : Nat) t v,Tryz.f4.params[j]? = some t → args[j]? = some v → Value.okWide Tryz.prog W .any base t v := hval0
 have hW' := hW
 obtain ⟨p,q,hA0,hV,rfl,hfz,hnd⟩ := hW
 have hA : DataW.TrodAll enc Tryz.prog W 0 (fun _ => true) true Tryz.f4.params.toList args.toList ds p := hA0
 rw [Tryz.params4] at hA hval
 obtain ⟨v0,v1,d0,d1,p0,p1,rfl,rfl,rfl,h0,h1⟩ := trodAll_two hA
 obtain ⟨rfl,rfl⟩ := trodVars_none hV
 clear hA0 hval0
 refine (zgU hL h0 h1 (hval 0 (25 : Nat) v0 rfl rfl) (hval 1 (5 : Nat) v1 rfl rfl)).mono fun e W' ⟨he,hk⟩ => ?_
 subst he
 have hb : Below W.heap.size W W' := ⟨hk.os,hk.tape,hk.output,hk.size,fun k q => hk.block k (by omega)⟩
 have hlt : ∀ x ∈ p0 ++ p1,x.block < W.heap.size := fun x hx => by simpa using hW'.lt x (by simpa using hx)
 refine ⟨_,rfl,Go.Own.z5j rfl rfl hW' hb (fun _ _ _ => trodAll_cons_mk (shut_bool Tryz.underlying4 _) trodAll_mk0) (fun sp hsp => ?_) (ok_one (by kernel_rfl) rfl (okWide_bool_mk Tryz.underlying4 _))⟩
 have st : ∀ {t : Nat} {v : Value} {d : DataW H} {p' : List MemPlace},DataW.Trod enc Tryz.prog W 0 (fun _ => true) true t v d p' → Tryz.prog.readableRec t = true → t < Tryz.prog.types.size → (∀ x ∈ p',x ∈ p0 ++ p1) → DataW.Trod enc Tryz.prog W' 0 sp true t v d p' := by
  intro t v d p' hd h1 h2 hp
  exact WideElems.Trod_stays zac h1 h2 hd (fun x hx => hb.same (hlt x (hp x hx))) (fun x hx => hsp x (by simpa using hp x hx))
 have := trodAll_mk2 (st h0 (by kernel_rfl) (of_decide_eq_true (by kernel_rfl)) (fun x hx => by simp [hx])) (st h1 (by kernel_rfl) (of_decide_eq_true (by kernel_rfl)) (fun x hx => by simp [hx]))
 rw [Tryz.params4]
 exact this
theorem Wm : Rows.systemsProductRow.holds Tryz.pinned (OpenSpec.ofChange Rows.systemsProductSpec) :=
 OpenClaim.holds_of_wide 4 Tryz.f4 rfl rfl rfl rfl rfl rfl rfl ⟨rfl,rfl,rfl,rfl,rfl⟩ rfl rfl rfl rfl rfl (by kernel_rfl) Tryz.func4 (by kernel_rfl)
  (of_decide_eq_true (by kernel_rfl)) (by unfold Func.isWrapper; first | (rw [if_pos (by decide +kernel)]; kernel_rfl) | (rw [if_neg (by decide +kernel)]; exact ⟨rfl,rfl⟩))
  (fun os started H enc _ => zbV os started H enc)
theorem proved : Rows.SystemsProductCardSaid :=
 Claim7.holds_tied_plain_at .later [] [.sentinel] true (true,"7a337c67efc784e1f6936414ec661573001676227fe3319059bdf7cee06bd026") true
  Wm (fun _ h => by cases h) (by kernel_rfl) (fun _ h => by cases h) systemsProduct_row_tie rfl ⟨rfl,rfl⟩ (by kernel_rfl) rfl
  (fun f fn hf hfn => by
   obtain rfl : f = 4 := Option.some.inj ((show Tryz.prog.funcNamed "gauntlet/gauntletlaw31.SystemsProduct" = some 4 by kernel_rfl).symm.trans hf) |>.symm
   obtain rfl : fn = Tryz.f4 := (Option.some.inj (Tryz.func4.symm.trans hfn)).symm
   exact ⟨by kernel_rfl,fun j t ht => by
    rw [Tryz.params4] at ht
    have hm : t ∈ [25,5] := by simpa using Array.mem_of_getElem? ht
    have hall : ([25,5].all fun u => !Tryz.prog.wantsStandIn u) = true := by kernel_rfl
    exact (show Tryz.prog.wantsStandIn t = false by simpa using List.all_eq_true.1 hall t hm)⟩)
  (by kernel_rfl)
#print axioms proved
end Go.Proofs.YtcldlioffanjaaaGreatDoor.systemsProduct
