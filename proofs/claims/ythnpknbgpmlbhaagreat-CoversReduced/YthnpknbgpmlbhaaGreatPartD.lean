/- -/
import Derived.Test.YthnpknbgpmlbhaaGreatPartC
import Derived.Shelf.SlSortCmp.NoneTotal
import Derived.Laws.BytesString
noncomputable section
set_option linter.unusedVariables false
set_option linter.unusedSimpArgs false
namespace Go.Own
open Go.Proofs Go.Shelf
section
variable {α : Type}
def z6R (c : α → α → Int) (x : α) : List α → List α
 | [] => [x]
 | y :: l => if c y x < 0 then y :: z6R c x l else x :: y :: l
def VW (c : α → α → Int) : List α → List α
 | [] => []
 | x :: l => z6R c x (VW c l)
def SOk (c : α → α → Int) (l : List α) : Prop :=
 (∀ x ∈ l, ¬ c x x < 0) ∧ (∀ x ∈ l, ∀ y ∈ l, ∀ z ∈ l, c x y < 0 → c y z < 0 → c x z < 0) ∧ (∀ x ∈ l, ∀ y ∈ l, ¬ c x y < 0 → ¬ c y x < 0 → x = y)
instance [DecidableEq α] (c : α → α → Int) (l : List α) : Decidable (SOk c l) := by unfold SOk; infer_instance
def z7g [DecidableEq α] (cmp : α → α → Option Int) (l : List α) : Option (List α) :=
 gd (l.length ≤ 4294967296 ∧ ∀ x ∈ l, ∀ y ∈ l, (cmp x y).isSome = true) <| gd (SOk (fun x y => (cmp x y).getD 0) l) <| some (VW (fun x y => (cmp x y).getD 0) l)
theorem SOk.ntr {c : α → α → Int} {l : List α} (h : SOk c l) : ∀ x ∈ l, ∀ y ∈ l, ∀ z ∈ l, ¬ c x y < 0 → ¬ c y z < 0 → ¬ c x z < 0 := by
 intro x hx y hy z hz h1 h2 h3
 by_cases h4 : c y x < 0
 ·exact h2 (h.2.1 y hy x hx z hz h4 h3)
 ·have := h.2.2 x hx y hy h1 h4
  subst this
  exact h2 h3
theorem z0f (c : α → α → Int) (x : α) : ∀ l, (z6R c x l).Perm (x :: l)
 | [] => .refl _
 | y :: l => by
  simp only [z6R]
  split
  ·exact ((z0f c x l).cons y).trans (.swap x y l)
  ·exact .refl _
theorem kw (c : α → α → Int) : ∀ l, (VW c l).Perm l
 | [] => .refl _
 | x :: l => (z0f c x _).trans ((kw c l).cons x)
theorem z0e {c : α → α → Int} {L : List α} (h : SOk c L) {x : α} (hx : x ∈ L) : ∀ {l : List α}, (∀ y ∈ l, y ∈ L) → l.Pairwise (fun a b => ¬ c b a < 0) → (z6R c x l).Pairwise (fun a b => ¬ c b a < 0)
 | [], _, _ => by simp [z6R]
 | y :: l, hl, hp => by
  have hy := hl y (by simp)
  obtain ⟨p1, p2⟩ := List.pairwise_cons.1 hp
  simp only [z6R]
  split
  ·rename_i hc
   refine List.pairwise_cons.2 ⟨?_, z0e h hx (fun z hz => hl z (by simp [hz])) p2⟩
   intro z hz
   rcases List.mem_cons.1 ((z0f c x l).mem_iff.1 hz) with rfl | hz
   ·exact fun q => h.1 _ hx (h.2.1 _ hx _ hy _ hx q hc)
   ·exact p1 z hz
  ·rename_i hc
   refine List.pairwise_cons.2 ⟨?_, hp⟩
   intro z hz
   rcases List.mem_cons.1 hz with rfl | hz
   ·exact hc
   ·exact h.ntr z (hl z (by simp [hz])) y hy x hx (p1 z hz) hc
theorem V1 {c : α → α → Int} {L : List α} (h : SOk c L) : ∀ {l : List α}, (∀ y ∈ l, y ∈ L) → (VW c l).Pairwise (fun a b => ¬ c b a < 0)
 | [], _ => .nil
 | x :: l, hl => z0e h (hl x (by simp)) (fun y hy => hl y (by simp [(kw c l).mem_iff.1 hy])) (V1 h fun y hy => hl y (by simp [hy]))
theorem z3U {c : α → α → Int} {l l' : List α} (h : SOk c l) (hp : l'.Perm l) (hs : l'.Pairwise (fun a b => ¬ c b a < 0)) : l' = VW c l := by
 refine List.Perm.eq_of_pairwise (le := fun a b => ¬ c b a < 0) ?_ hs (V1 h fun _ q => q) (hp.trans (kw c l).symm)
 intro a b ha hb h1 h2
 exact h.2.2 a (hp.mem_iff.1 ha) b ((kw c l).mem_iff.1 hb) h2 h1
theorem z6s [DecidableEq α] {cmp : α → α → Option Int} {l l' : List α} (h : z7g cmp l = some l') : l.length ≤ 4294967296 ∧ (∀ x ∈ l, ∀ y ∈ l, cmp x y = some ((cmp x y).getD 0)) ∧ SOk (fun x y => (cmp x y).getD 0) l ∧ l' = VW (fun x y => (cmp x y).getD 0) l := by
 obtain ⟨h1, h⟩ := gdE h
 obtain ⟨h2, h⟩ := gdE h
 refine ⟨h1.1, fun x hx y hy => ?_, h2, (zf h).symm⟩
 have := h1.2 x hx y hy
 cases hc : cmp x y with
 | none => rw [hc] at this; cases this
 | some _ => rfl
end
theorem zeF {α : Type} [Inhabited α] (enc : α → List Value) (k : Nat) (hk : ∀ x, (enc x).length = k) : ∀ l : List α, ((List.range (l.length * k)).map fun t => (enc l[t / k]!)[t % k]!) = l.flatMap enc
 | [] => by simp
 | x :: l => by
  rcases Nat.eq_zero_or_pos k with rfl | h0
  ·simp only [Nat.mul_zero, List.range_zero, List.map_nil]
   symm
   rw [List.flatMap_eq_nil_iff]
   intro y _
   exact List.eq_nil_of_length_eq_zero (hk y)
  rw [List.length_cons, Nat.add_mul, Nat.one_mul, Nat.add_comm, List.range_add, List.map_append, List.map_map, List.flatMap_cons]
  congr 1
  ·apply List.ext_getElem?
   intro i
   rw [List.getElem?_map]
   by_cases hi : i < k
   ·rw [List.getElem?_range hi, Option.map_some, Nat.div_eq_of_lt hi, Nat.mod_eq_of_lt hi]
    have : i < (enc x).length := by rw [hk]; exact hi
    simp [this]
   ·rw [List.getElem?_eq_none (by simpa using hi), List.getElem?_eq_none (by rw [hk]; omega)]; rfl
  ·rw [← zeF enc k hk l]
   apply List.map_congr_left
   intro t _
   simp only [Function.comp]
   rw [Nat.add_div_left _ h0, Nat.add_mod_left]
   simp
theorem Jq {α : Type} [Inhabited α] (enc : α → List Value) (k : Nat) (hk : ∀ x, (enc x).length = k) (d : Array α) : (Sort.flatK enc k d).toList = d.toList.flatMap enc := by
 rw [← zeF enc k hk d.toList]
 simp only [Sort.flatK, Array.toList_map, Array.toList_range, Array.length_toList]
 apply List.map_congr_left
 intro a _
 have : d.toList[a / k]! = d[a / k]! := by
  by_cases hlt : a / k < d.size
  ·rw [getElem!_pos d _ hlt, getElem!_pos d.toList _ (by simpa using hlt)]; simp
  ·rw [getElem!_neg d _ hlt, getElem!_neg d.toList _ (by simpa using hlt)]
 rw [this]
def zd9 (P : Program) (kf k : Nat) (ag : Bool) : Prop := ∃ ρ, SlLaysF0.n6 P ρ ∧ ρ.f 6 = kf ∧ (∀ w, (isAgg (ρ.t 24)).run P w = .ok ag w) ∧ (∀ w, (Go.sizeOf (ρ.t 24)).run P w = .ok k w) ∧ (ag = false → k = 1)
theorem z1p {S : zj} {α : Type} {enc : α → A} {k : Nat} (hsz : ∀ x, (enc x).size = k) (L : List α) : ∀ {l : List α} {cs : List Value}, (∀ x ∈ l, x ∈ L) → yc S (l.map enc) cs →
  ∃ d : List {p : List Value × α // Rep S (enc p.2) p.1 ∧ p.2 ∈ L}, d.map (fun p => p.1.2) = l ∧ d.flatMap (fun p => p.1.1) = cs
 | [], cs, _, h => by
  simp only [List.map_nil, yc] at h
  exact ⟨[], rfl, by simp [h]⟩
 | x :: l, cs, hl, h => by
  simp only [List.map_cons, yc] at h
  obtain ⟨c1, c2, rfl, h1, h2⟩ := h
  obtain ⟨d, e1, e2⟩ := z1p hsz L (fun y hy => hl y (by simp [hy])) h2
  exact ⟨⟨(c1, x), h1, hl x (by simp)⟩ :: d, by simp [e1], by simp [e2]⟩
theorem Uz {S : zj} {α : Type} {enc : α → A} {L : List α} : ∀ (d : List {p : List Value × α // Rep S (enc p.2) p.1 ∧ p.2 ∈ L}), yc S ((d.map fun p => p.1.2).map enc) (d.flatMap fun p => p.1.1)
 | [] => by simp [yc]
 | p :: d => by
  simp only [List.map_cons, List.flatMap_cons, yc]
  exact ⟨_, _, rfl, p.2.1, Uz d⟩
theorem z9J {P : Program} {tt : TT} {ρ : Ren} {kf k t : Nat} {ag : Bool} (hT : w4 P tt) (L : SlLaysF0.n6 P ρ) (h6 : ρ.f 6 = kf) (h24 : ρ.t 24 = t) (hs : (tt t).map (fun i => (i.kind.isAgg, i.size)) = some (ag, k)) (h1 : ag = false → k = 1) : zd9 P kf k ag := by
 obtain ⟨i, hi, he⟩ := Option.map_eq_some_iff.1 hs
 simp only [Prod.mk.injEq] at he
 refine ⟨ρ, L, h6, fun w => ?_, fun w => ?_, h1⟩
 ·rw [h24, WT (hT t i hi).kind w, he.1]
 ·rw [h24, qj hT hi w, he.2]
section
variable {α : Type} [Inhabited α] (enc : α → List Value) (k : Nat) (w : World) (b n : Nat) (d : Array α) (os : Array Obj)
theorem z5j {j : Nat} (hj : j < w.heap.size) (hb : j ≠ b) : (sortWorldK enc k w b 0 n d os).heap[j]? = w.heap[j]? := by
 show ((w.heap.modify b _) ++ os)[j]? = _
 rw [Array.getElem?_append_left (by simpa using hj), Array.getElem?_modify, if_neg (Ne.symm hb)]
theorem zgZ {arr : Array Value} {ty : TypeId} {fr : Nat × Nat} (hb : w.heap[b]? = some (.cells arr ty fr)) : (sortWorldK enc k w b 0 n d os).heap[b]? = some (.cells (Sort.putCells id 0 (Sort.flatK enc k d) arr) ty fr) := by
 have hlt := (Array.getElem?_eq_some_iff.1 hb).1
 show ((w.heap.modify b _) ++ os)[b]? = _
 rw [Array.getElem?_append_left (by simpa using hlt), Array.getElem?_modify, if_pos rfl, hb]
 rfl
theorem zbW : (sortWorldK enc k w b 0 n d os).heap.size = w.heap.size + os.size := by
 show ((w.heap.modify b _) ++ os).size = _
 simp
end
theorem z2f {D arr : Array Value} (h : D.size ≤ arr.size) : (Sort.putCells id 0 D arr).toList.take D.size = D.toList := by
 apply List.ext_getElem?
 intro i
 rw [List.getElem?_take]
 by_cases hi : i < D.size
 ·rw [if_pos hi]
  have : i < arr.size := by omega
  simp [Sort.putCells, hi, this]
 ·rw [if_neg hi, List.getElem?_eq_none (by simpa using hi)]
theorem z2g (D arr : Array Value) : (Sort.putCells id 0 D arr).size = arr.size := by simp [Sort.putCells]
theorem z3B {S : zj} : ∀ {caps : List A} {vs : List Value}, yc S caps vs → (∀ c ∈ caps, c.size = 1 ∧ ∀ fs, c ≠ .agg fs) → Zx (vT S) caps vs
 | [], vs, h, _ => by simp only [yc] at h; subst h; trivial
 | c :: caps, vs, h, hc => by
  simp only [yc] at h
  obtain ⟨c1, c2, rfl, h1, h2⟩ := h
  obtain ⟨s1, s2⟩ := hc c (by simp)
  have hl := h1.len
  rw [s1] at hl
  obtain ⟨u, rfl⟩ := List.length_eq_one_iff.1 hl
  refine ⟨⟨[u], h1, ?_⟩, z3B h2 fun x hx => hc x (by simp [hx])⟩
  cases c <;> first | rfl | exact absurd rfl (s2 _)
theorem Jo {S : zj} {h : Array Obj} : ∀ {bs : List A} {vs : List Value}, Zx (vT S) bs vs → kb S h bs vs []
 | [], [], _ => rfl
 | _ :: _, _ :: _, q => ⟨[], [], rfl, .inl ⟨q.1.repV, rfl⟩, Jo q.2⟩
 | [], _ :: _, q => q.elim
 | _ :: _, [], q => q.elim
theorem z88 {w w' : World} (h : Xc (fun k => w.heap.size ≤ k) w w') : ∃ q os', w' = Sort.grow (w.drewN q) os' := by
 refine ⟨w'.drawn - w.drawn, w'.heap.extract w.heap.size w'.heap.size, ?_⟩
 have h1 : w'.heap = w.heap ++ w'.heap.extract w.heap.size w'.heap.size := by
  apply Array.ext_getElem?
  intro i
  by_cases hi : i < w.heap.size
  ·rw [Array.getElem?_append_left hi]
   exact h.block i (by omega)
  ·rw [Array.getElem?_append_right (by omega), Array.getElem?_extract]
   by_cases h2 : i < w'.heap.size
   ·rw [if_pos (by omega)]
    congr 1; omega
   ·rw [if_neg (by omega), Array.getElem?_eq_none (by omega)]
 have h2 := h.drawn
 have h3 := h.os
 have h4 := h.tape
 have h5 := h.output
 cases w' with
 | mk heap tape drawn os output =>
  cases w with
  | mk heap0 tape0 drawn0 os0 output0 =>
   simp only at h1 h2 h3 h4 h5
   subst h3 h4 h5
   simp only [Sort.grow, World.drewN, World.mk.injEq, true_and, and_true]
   exact ⟨h1, by omega⟩
theorem zaV {α : Type} [Inhabited α] (enc : α → List Value) (e1 : α → Value) (he : ∀ x, enc x = [e1 x]) (w : World) (b m : Nat) (d : Array α) (os : Array Obj) : sortWorld e1 w b 0 m d os = sortWorldK enc 1 w b 0 m d os := by
 have hflat : Sort.flatK enc 1 d = d.map e1 := by
  apply Array.ext
  ·simp [Sort.flatK]
  ·intro i h1 h2
   have hi : i < d.size := by simpa using h2
   have := Sort.get_flatK enc 1 d i (by omega)
   rw [getElem!_pos _ i h1] at this
   rw [this, he]
   simp [Nat.mod_one, hi]
 unfold sortWorld sortWorldK
 congr 1
 unfold Sort.putRowK Sort.putRow
 congr 1
 rw [hflat]
 funext c
 unfold Sort.putCells
 congr 1
 funext k x
 simp only [Nat.zero_le, true_and, Nat.zero_add, Nat.sub_zero, Array.size_map, id]
 by_cases hk : k < d.size
 ·rw [if_pos hk, if_pos hk, getElem!_pos d k hk, getElem!_pos _ k (by simpa using hk)]; simp
 ·rw [if_neg hk, if_neg hk]
theorem z8c {α : Type} [Inhabited α] {enc : α → List Value} {e1 : α → Value} (he : ∀ x, enc x = [e1 x]) {w : World} {b : Nat} {d : Array α} (h : Sort.HoldsK enc 1 w b 0 d) : Sort.Holds e1 w b 0 d := by
 intro j hj
 have := h j (by simpa using hj)
 rw [Sort.get_flatK enc 1 d j (by omega), he] at this
 simpa [Nat.mod_one] using this
theorem z7f {P : Program} {kf k g : Nat} {ag : Bool} {α : Type} [DecidableEq α] {f : α → A} [hD : z2X f] {t : Bool} {v : Value} {caps : List A} {cmp : α → α → Option Int} {l l' : List α} (hT : zd9 P kf k ag) (hsz : ∀ x, (f x).size = k) (hag : ∀ x, (f x).isAgg = ag)
  (hc : ∀ x y c, cmp x y = some c → Wn P g (f x :: f y :: caps) (.atom (.int .i64 c))) (h : z7g cmp l = some l') : vZ P (.fn kf []) [.atom v, .fn g caps] [(v, .osl k t (l.map f))] (.tup []) [.osl k t (l'.map f)] := by
 obtain ⟨hlen0, hcmp, hO, rfl⟩ := z6s h
 obtain ⟨ρ, L, rfl, aE, zE, hk1⟩ := hT
 intro S w fv vs F hS hfv hvs hH hF
 obtain ⟨cs, c1, c2⟩ := hfv
 simp only [Rep] at c1
 obtain ⟨us, u1, _, rfl⟩ := c1
 have hu : us = [] := by
  cases us with
  | nil => rfl
  | cons _ _ => simp [yc] at u1
 subst hu
 rcases vs with _ | ⟨v1, _ | ⟨v2, _ | ⟨v3, vs⟩⟩⟩
 ·exact hvs.elim
 ·exact hvs.2.elim
 case cons.cons.cons => exact hvs.2.2.elim
 obtain ⟨hv1, hv2, _⟩ := hvs
 obtain ⟨rfl, _⟩ := um.1 hv1
 obtain ⟨cs2, d1, d2⟩ := hv2
 simp only [Rep] at d1
 obtain ⟨cv, d3, d4, rfl⟩ := d1
 have hcv := z3B d3 d4
 obtain ⟨F1, F2, rfl, q1, q2⟩ := hH
 have hF2 : F2 = [] := q2
 subst hF2
 rw [List.nil_append] at hF ⊢
 have act : ∀ R : Ending → World → Prop, Calls P (ρ.f 6) #[v1, .func (.func g) #[] cv.toArray] w R → Calls P (ρ.f 6) ([v1, v2].toArray ++ #[]) w R := by
  intro R q
  rw [d2, Array.append_empty]
  exact q
 have fnOk : ∃ fn, P.funcs[ρ.f 6]? = some fn ∧ (fn.name == "runtime.NumGoroutine") = false ∧ fn.body.isNone = false := by
  obtain ⟨nm, hne, FG⟩ := L.f6
  exact ⟨_, FG, by simpa using hne, rfl⟩
 obtain ⟨fn, f1, f2, f3⟩ := fnOk
 refine .inl ⟨ρ.f 6, #[], fn, c2, f1, f2, f3, act _ ?_⟩
 rcases q1 with ⟨q1, _⟩ | ⟨cs, q1, q3, q4⟩
 ·simp only [w5, vT, Rep, false_and, exists_false] at q1
 simp only [zH] at q1
 obtain ⟨p, c, rfl, t1, t2, t3, t4, t5⟩ := q1
 have ev : v1 = .slice p l.length c := by
  have q5 : v1 = zN (.osl k t (l.map f)) [.slice p (l.map f).length c] := q4
  rw [q5]; simp [zN]
 subst ev
 simp only [List.length_map] at t1 t2 t5
 by_cases hl : l = []
 ·subst hl
  refine (AnyF.slices_SortFunc_none { L with } p c _ w).mono ?_
  rintro e w' ⟨rfl, rfl⟩
  refine ⟨.tuple #[], rfl, S, [], F1, Xc.refl _ _, fun _ _ _ q => q, fun _ _ _ _ => rfl, hS, .inl ⟨?_, rfl⟩, ⟨F1, [], by simp, .inr ⟨[.slice p 0 c], ?_, q3, rfl⟩, rfl⟩, by simpa using hF, fun k hk => .inr (by simpa using hk)⟩
  ·simp only [w5]; exact ⟨[], rfl, trivial⟩
  ·simp only [VW, List.map_nil, zH]
   exact ⟨p, c, rfl, t1, t2, t3, by simp, by simpa using t5⟩
 have hpos : 0 < l.length := List.length_pos_iff.2 hl
 rcases t5 with ⟨e, _⟩ | ⟨b, arr, ty, cl, F', rfl, e1, e2, e3, e4, rfl, e5⟩
 ·exact absurd (by simpa using e) hl
 obtain ⟨hr, rfl⟩ := e4.areD (dM f l)
 obtain ⟨d, g1, g2⟩ := z1p (S := S) hsz l (fun _ q => q) hr
 have hblk := (Array.getElem?_eq_some_iff.1 e1).1
 obtain ⟨x0, hx0⟩ : ∃ x, x ∈ d := by
  cases d with
  | nil => exact absurd g1.symm hl
  | cons x _ => exact ⟨x, by simp⟩
 letI : Inhabited {p : List Value × α // Rep S (f p.2) p.1 ∧ p.2 ∈ l} := ⟨x0⟩
 let enc : {p : List Value × α // Rep S (f p.2) p.1 ∧ p.2 ∈ l} → List Value := fun p => p.1.1
 let c0 : α → α → Int := fun x y => (cmp x y).getD 0
 have hk : ∀ x, (enc x).length = k := fun x => (x.2.1.len).trans (hsz _)
 have h1 : ∀ x, ∀ v ∈ enc x, v.oneCell' = true := fun x => x.2.1.one
 have hswo : Sort.SWO (ltOf fun x y : {p : List Value × α // Rep S (f p.2) p.1 ∧ p.2 ∈ l} => c0 x.1.2 y.1.2) := by
  refine ⟨fun x => ?_, fun x y z q1 q2 => ?_, fun x y z q1 q2 => ?_⟩
  ·simpa [ltOf] using hO.1 _ x.2.2
  ·simp only [ltOf, decide_eq_true_eq] at q1 q2 ⊢
   exact hO.2.1 _ x.2.2 _ y.2.2 _ z.2.2 q1 q2
  ·simp only [ltOf, decide_eq_false_iff_not] at q1 q2 ⊢
   exact hO.ntr _ x.2.2 _ y.2.2 _ z.2.2 q1 q2
 have hdl : d.length = l.length := by have := congrArg List.length g1; simpa using this
 have hD0 : (Sort.flatK enc k d.toArray).toList = cl := by rw [Jq enc k hk]; exact g2
 have hszF : ∀ d' : Array {p : List Value × α // Rep S (f p.2) p.1 ∧ p.2 ∈ l}, d'.size = d.length → (Sort.flatK enc k d').size = l.length * k := fun d' q => by rw [Sort.size_flatK, q, hdl]
 have hle : l.length * k ≤ arr.size := Nat.le_trans (Nat.mul_le_mul_right _ t2) e2
 have hH2 : Sort.HoldsK enc k w b 0 d.toArray := by
  intro j hj
  have hj' : j < cl.length := by rw [← hD0]; simpa using hj
  have hget : (Sort.flatK enc k d.toArray)[j]! = cl[j] := by
   rw [getElem!_pos _ j hj]
   have : (Sort.flatK enc k d.toArray).toList[j]'(by simpa using hj) = cl[j] := by simp only [hD0]
   simpa using this
  have hcell : arr[j]? = some cl[j] := by
   obtain ⟨u, hu⟩ : ∃ u, u = cl[j] := ⟨_, rfl⟩
   have q : cl[j]? = some u := by rw [hu]; exact List.getElem?_eq_getElem hj'
   rw [← hu]
   clear hget hu
   subst e3
   rw [List.getElem?_take] at q
   split at q
   ·simpa using q
   ·cases q
  constructor
  ·simp only [World.cell?, e1, Option.isSome_none, Bool.false_eq_true, if_false, Nat.zero_add, id, hget]
   exact hcell
  ·simp [World.frozen?, e1]
 have hst : ∀ n (d' : Array {p : List Value × α // Rep S (f p.2) p.1 ∧ p.2 ∈ l}) os, wN S (sortWorldK enc k w b 0 n d' os) := by
  intro n d' os b' o' u hu
  have hne : b' ≠ b := by rintro rfl; rw [e5] at hu; cases hu
  have := hS b' o' u hu
  have hlt : b' < w.heap.size := by
   unfold y9 at this
   cases hq : w.heap[b']? with
   | none => simp [hq] at this
   | some _ => exact (Array.getElem?_eq_some_iff.1 hq).1
  unfold y9 at this ⊢
  rw [z5j enc k w b n d' os hlt hne]
  exact this
 have heg : Enters P g := by
  obtain ⟨⟨fn', p1, p2, p3⟩, _⟩ := hc x0.1.2 x0.1.2 _ (hcmp _ x0.2.2 _ x0.2.2)
  cases hb : fn'.body with
  | none => simp [hb] at p3
  | some body => exact enters_of p1 p2 hb
 have hcall0 : ∀ (m : Nat) (os : Array Obj) (dk : Array {p : List Value × α // Rep S (f p.2) p.1 ∧ p.2 ∈ l}) (x y : {p : List Value × α // Rep S (f p.2) p.1 ∧ p.2 ∈ l}),
   Calls P g (#[zN (f x.1.2) (enc x), zN (f y.1.2) (enc y)] ++ cv.toArray) (sortWorldK enc k w b 0 m dk os) fun e w' => e = .returned (.int .i64 (c0 x.1.2 y.1.2)) ∧ ∃ q os', w' = Sort.grow ((sortWorldK enc k w b 0 m dk os).drewN q) os' := by
  intro m os dk x y
  have hcall := (hc x.1.2 y.1.2 _ (hcmp _ x.2.2 _ y.2.2)).2 S (sortWorldK enc k w b 0 m dk os) (zN (f x.1.2) (enc x) :: zN (f y.1.2) (enc y) :: cv) [] (hst _ _ _)
   (Jo ⟨⟨enc x, x.2.1, rfl⟩, ⟨enc y, y.2.1, rfl⟩, hcv⟩) List.nodup_nil
  have ea : (#[zN (f x.1.2) (enc x), zN (f y.1.2) (enc y)] ++ cv.toArray : Array Value) = (zN (f x.1.2) (enc x) :: zN (f y.1.2) (enc y) :: cv : List Value).toArray := by simp
  rw [ea]
  refine hcall.mono ?_
  rintro e w' ⟨v', S', F', rfl, b1, b2, b3, b4, b5, b6, b7⟩
  have hv : v' = .int .i64 (c0 x.1.2 y.1.2) := by
   rcases b5 with ⟨r, _⟩ | ⟨cs, r, _, r2⟩
   ·exact (zy.1 r).1
   ·simp only [zH, Rep] at r
    rw [r2, r.1.1]; rfl
  refine ⟨by rw [hv], z88 (b1.mono fun k hk => ?_)⟩
  simpa using hk
 have hsz62 : d.toArray.size < 4611686018427387904 := by
  simp only [List.size_toArray, hdl]
  omega
 have hcon : Calls P (ρ.f 6) #[.slice (some ⟨b, 0, none⟩) d.toArray.size c, .func (.func g) #[] cv.toArray] w fun e w' =>
   e = .returned (.tuple #[]) ∧ ∃ d' n os, Sort.PermIn 0 d.toArray.size d.toArray d' ∧ Sort.SortedIn (ltOf fun x y : {p : List Value × α // Rep S (f p.2) p.1 ∧ p.2 ∈ l} => c0 x.1.2 y.1.2) 0 d.toArray.size d' ∧ w' = sortWorldK enc k w b 0 n d' os := by
  cases ag with
  | true =>
   refine AnyQ.slices_SortFunc (P := P) (ρ := ρ) L k aE zE enc hk h1 (fun x y => c0 x.1.2 y.1.2) hswo g cv.toArray b 0 c d.toArray w heg ?_ hH2 hblk hsz62
   intro m os dk hs x y
   have q := hcall0 m os dk x y
   have hx : ∀ z : {p : List Value × α // Rep S (f p.2) p.1 ∧ p.2 ∈ l}, zN (f z.1.2) (enc z) = .agg (enc z).toArray := by
    intro z
    have := hag z.1.2
    cases hz : f z.1.2 <;> simp [hz, A.isAgg] at this
    rfl
   rw [hx, hx] at q
   exact q
  | false =>
   have hk1' := hk1 rfl
   subst hk1'
   let e1 : {p : List Value × α // Rep S (f p.2) p.1 ∧ p.2 ∈ l} → Value := fun x => (enc x).headD undef
   have he : ∀ x, enc x = [e1 x] := by
    intro x
    obtain ⟨u, hu⟩ := List.length_eq_one_iff.1 (hk x)
    show enc x = [(enc x).headD undef]
    rw [hu]; rfl
   have hx : ∀ z : {p : List Value × α // Rep S (f p.2) p.1 ∧ p.2 ∈ l}, zN (f z.1.2) (enc z) = e1 z := by
    intro z
    have := hag z.1.2
    cases hz : f z.1.2 <;> simp [hz, A.isAgg] at this <;> rfl
   refine (Any.slices_SortFunc (P := P) (ρ := ρ) { L with a24 := aE, z24 := zE } e1 (fun x => h1 x _ (by rw [he x]; simp)) (fun x y => c0 x.1.2 y.1.2) hswo g cv.toArray b 0 c d.toArray w heg ?_ (z8c he hH2) hblk hsz62).mono ?_
   ·intro m os dk hs x y
    have q := hcall0 m os dk x y
    rw [hx, hx] at q
    rw [zaV enc e1 he]
    exact q
   ·rintro e w' ⟨q1, d', n, os, q2, q3, q4⟩
    exact ⟨q1, d', n, os, q2, q3, by rw [q4, zaV enc e1 he]⟩
 have ea2 : (#[.slice (some ⟨b, 0, none⟩) l.length c, .func (.func g) #[] cv.toArray] : Array Value) = #[.slice (some ⟨b, 0, none⟩) d.toArray.size c, .func (.func g) #[] cv.toArray] := by simp only [List.size_toArray, hdl]
 rw [ea2]
 refine hcon.mono ?_
 rintro e w' ⟨rfl, d', n, os, hp, hs, rfl⟩
 have hds : d'.size = d.length := by simpa using hp.1
 have hperm : d'.toList.Perm d := by
  have := hp.2.2
  have e1 : d'.extract 0 d.toArray.size = d' := by rw [show d.toArray.size = d'.size by simp [hds]]; exact Array.extract_size
  rw [e1, Array.extract_size] at this
  simpa using this
 have hl' : d'.toList.map (fun p => p.1.2) = VW c0 l := by
  refine z3U hO ?_ ?_
  ·exact (hperm.map _).trans (List.Perm.of_eq g1)
  ·rw [List.pairwise_map, List.pairwise_iff_getElem]
   intro i j hi hj hij
   have hi' : i < d'.size := by simpa using hi
   have hj' : j < d'.size := by simpa using hj
   have := hs i j (Nat.zero_le _) hij (by simpa [hds] using hj')
   rw [getElem!_pos d' j hj', getElem!_pos d' i hi'] at this
   simpa [ltOf] using this
 have hat := zgZ enc k w b n d' os e1
 have hFs : (Sort.flatK enc k d').size = l.length * k := hszF d' hds
 have hlen : (VW c0 l).length = l.length := (kw c0 l).length_eq
 refine ⟨.tuple #[], rfl, S, [], [b], ⟨rfl, rfl, rfl, Nat.le_add_right _ _, by rw [zbW]; omega, ?_⟩, fun _ _ _ q => q, fun _ _ _ _ => rfl, hst _ _ _, .inl ⟨?_, rfl⟩, ⟨[b], [], rfl, .inr ⟨[.slice (some ⟨b, 0, none⟩) l.length c], ?_, by simp, rfl⟩, rfl⟩, by simp, by simp⟩
 ·intro j hj
  simp only [not_or, Nat.not_le, List.mem_cons, List.not_mem_nil, or_false] at hj
  exact z5j enc k w b n d' os hj.1 hj.2
 ·simp only [w5]; exact ⟨[], rfl, trivial⟩
 ·simp only [zH, List.length_map]
  refine ⟨some ⟨b, 0, none⟩, c, by rw [hlen], by rw [hlen]; exact t1, by rw [hlen]; exact t2, t3, ?_, .inr ⟨b, _, ty, (Sort.flatK enc k d').toList, [], rfl, hat, by rw [z2g]; exact e2, ?_, ?_, rfl, e5⟩⟩
  ·intro x hx
   obtain ⟨y, _, rfl⟩ := List.mem_map.1 hx
   exact hsz y
  ·rw [hlen, ← hFs]
   exact z2f (by rw [hFs]; exact hle)
  ·have := (Uz d'.toList).concs (sortWorldK enc k w b 0 n d' os).heap
   rw [hl'] at this
   rw [Jq enc k hk]
   exact this
def X2 (sz : Nat) (v : Value) (l : Int) : Value :=
 match v with
 | .slice a n c => .slice (if c = l.toNat then a else a.map (·.add (l.toNat * sz))) (n - l.toNat) (c - l.toNat)
 | v => v
theorem zax {sz : Nat} {v : Value} {l : Int} (h : v.oneCell' = true) : (X2 sz v l).oneCell' = true := by
 unfold X2
 split
 ·rfl
 ·exact h
section
variable {C : Ctx} {S : zj} {Fp : Nat → List Nat} {st : St} {a : Act} {w : World}
theorem z7H {r : Nat} {er ec : Nat} {u : Value} (ha : Ze w.heap st (Act.tv a) r [] er ec u) {x0 : A} (hr : (st r).t = .own x0) (e1 : (st r).er = er) : u = Act.tv a r := by
 have a3 := ha.2.2
 simp only [hr] at a3
 simp [Vf] at a3
 exact a3 e1
theorem z2n (h : Sim C S Fp [] st a w) {r sz : Nat} {tg : Bool} {es : List A} (hr : (st r).t = .own (.osl sz tg es)) :
  ∃ p c, Act.tv a r = .slice p es.length c ∧ es.length ≤ c ∧ (∀ x ∈ es, x.size = sz) ∧ (0 < es.length → ∃ b, p = some ⟨b, 0, none⟩) := by
 have hq := h.ent r
 unfold xu at hq
 simp only [hr] at hq
 obtain ⟨cs, c1, c2, c3⟩ := hq
 simp only [zH] at c1
 obtain ⟨p, c, rfl, t1, t2, t3, t4, t5⟩ := c1
 refine ⟨p, c, by rw [c3]; rfl, t2, t4, fun hp => ?_⟩
 rcases t5 with ⟨rfl, _⟩ | ⟨b, arr, ty, l, F', rfl, _⟩
 ·simp at hp
 ·exact ⟨b, rfl⟩
open Classical in
def vwK (tt : TT) (n : Fr) (dst : Option Nat) (ty r : Nat) (v : Value) (tx : T) (vl : A) (e : Ent) : SM Unit :=
 match vl with
 | .atom (.int _ j) =>
  if (tx = .als r [] e.er e.ec ∨ tx = .d (.atom v)) ∧ Qe n.pin r = some v then
   match e.t with
   | .own (.osl sz _ es) => if xq tt ty = some sz ∧ 0 ≤ j ∧ j.toNat ≤ es.length then wrT n dst (.d (.atom (X2 sz v j))) else zt
   | _ => zt
  else zt
 | _ => zt
def vwO (tt : TT) (n : Fr) (dst : Option Nat) (ty r : Nat) (v : Value) (x lo : Operand) : SM Unit := do
 let tx ← opnd x
 let tl ← opnd lo
 let vl ← val tl
 let e ← rdE r
 vwK tt n dst ty r v tx vl e
def vwH (tt : TT) (n : Fr) (dst : Option Nat) (ty r : Nat) (v : Value) (x lo : Operand) : HM Unit := ya (opnd x) >>= fun tx => ya (opnd lo) >>= fun tl => KA tl >>= fun vl => ya (rdE r) >>= fun e =>
 match vl with
 | .atom (.int _ j) => Zq ((tx = .als r [] e.er e.ec ∨ tx = .d (.atom v)) ∧ Qe n.pin r = some v)
   (match e.t with
   | .own (.osl sz _ es) => if xq tt ty = some sz then Zq (0 ≤ j ∧ j.toNat ≤ es.length) (ya (wrT n dst (.d (.atom (X2 sz v j))))) else zG
   | _ => zG)
 | _ => zG
open Classical in
theorem zjh (tt : TT) (n : Fr) (dst : Option Nat) (ty r : Nat) (v : Value) (x lo : Operand) : Snd (vwO tt n dst ty r v x lo) (vwH tt n dst ty r v x lo) := by
 refine zh (zl _) fun tx => zh (zl _) fun tl => zh (Yy _) fun vl => zh (zl _) fun e => ?_
 cases vl with
 | atom u =>
  cases u with
  | int k j =>
   refine uL ?_
   cases e.t with
   | own y =>
    cases y with
    | osl sz tg es => exact JB (fun h1 h2 => ⟨h1, h2.1, h2.2⟩) (zl _)
    | _ => exact zr _
   | _ => exact zr _
  | _ => exact zr _
 | _ => exact zr _
open Classical in
theorem Loc.vwO (tt : TT) (n : Fr) (dst : Option Nat) (ty r : Nat) (v : Value) (x lo : Operand) : Loc (vwO tt n dst ty r v x lo) := by
 unfold Go.Own.vwO
 refine Loc.bind (Loc.opnd _) fun _ => Loc.bind (Loc.opnd _) fun _ => Loc.bind (Loc.val _) fun _ => Loc.bind (Loc.rdE _) fun _ => ?_
 unfold Go.Own.vwK
 split
 ·refine Loc.ite ?_ Loc.fail
  split
  ·exact Loc.ite (Loc.wrT _ _ _) Loc.fail
  ·exact Loc.fail
 ·exact Loc.fail
theorem zgS {P : Program} {tt : TT} (hT : w4 P tt) (h : Sim C S Fp [] st a w) {o : Oper} {t r : Nat} {v : Value} {x lo : Operand} (ho : o.op = .slice t x (some lo) none none) {u : Unit} {R : List Nat} {U : List (Nat × Ent)} (e0 : vwO tt C.n o.dst t r v x lo st = some (u, R, U)) : uQ P C o a w (ze U st) := by
 unfold vwO at e0
 obtain ⟨tx, R1, U1, R2, U2, h1, e1, rfl, rfl⟩ := bind_some e0
 obtain ⟨rfl, hx⟩ := zB h h1
 obtain ⟨tl, R3, U3, R4, U4, h3, e2, rfl, rfl⟩ := bind_some e1
 obtain ⟨rfl, hl⟩ := zB h h3
 obtain ⟨vl, R5, U5, R6, U6, h5, e3, rfl, rfl⟩ := bind_some e2
 obtain ⟨rfl, ql⟩ := qD h hl h5
 obtain ⟨en, R7, U7, R8, U8, h7, e4, rfl, rfl⟩ := bind_some e3
 obtain ⟨rfl, rfl, rfl⟩ := yh h7
 simp only [ze, List.nil_append] at e4 ⊢
 unfold vwK at e4
 split at e4
 ·rename_i k j
  split at e4
  ·rename_i hc
   obtain ⟨c1, c2⟩ := hc
   have hs := h.pin r v (qp c2)
   cases ht : (st r).t with
   | own y =>
    cases y with
    | osl sz tg es =>
     simp only [ht] at e4
     split at e4
     ·rename_i hd
      obtain ⟨d1, d2, d3⟩ := hd
      obtain ⟨p, c, ev, hlc, _, _⟩ := z2n h ht
      have hxv : a.eval x = .slice p es.length c := by
       rcases c1 with rfl | rfl
       ·rw [← ev]; exact z7H hx ht rfl
       ·rw [(zy.1 hx).1, ← hs, ev]
      obtain ⟨el, he, hsz⟩ := wt hT d1 w
      obtain ⟨el', _⟩ := zy.1 ql
      have hrun := ko (P := P) (w := w) he hsz (p := p) (len := es.length) (c := c) (m := c) (lo := some (.int k j)) (hi := none) (mx := none) (.inr ⟨k, j, rfl, d2, rfl⟩) (.inl ⟨rfl, rfl⟩) (.inl ⟨rfl, rfl⟩) d3 hlc (Nat.le_refl c) (by simp)
      have hvv : v = .slice p es.length c := by rw [← hs, ev]
      obtain ⟨Fp', hs'⟩ := wx h e4 (x := .d (.atom (X2 sz v j))) (v := X2 sz v j) (zy.2 ⟨rfl, by rw [hvv]; exact zax rfl⟩)
      refine zq ?_ hs'
      rw [hvv]
      simp [execOp, ho, hxv, el', hrun, X2]
     ·exact (z6 e4).elim
    | _ => simp only [ht] at e4; exact (z6 e4).elim
   | _ => simp only [ht] at e4; exact (z6 e4).elim
  ·exact (z6 e4).elim
 ·exact (z6 e4).elim
open Classical in
def vlO (n : Fr) (dst : Option Nat) (sz r : Nat) (v : Value) (l : Int) (x : Operand) : SM Unit := do
 let tx ← opnd x
 let e ← rdE r
 if tx = .d (.atom (X2 sz v l)) ∧ Qe n.pin r = some v then
  match e.t with
  | .own (.osl _ _ es) => wrT n dst (.d (.atom (.int .i64 ((es.length - l.toNat : Nat) : Int))))
  | _ => zt
 else zt
def vlH (n : Fr) (dst : Option Nat) (sz r : Nat) (v : Value) (l : Int) (x : Operand) : HM Unit := ya (opnd x) >>= fun tx => ya (rdE r) >>= fun e => Zq (tx = .d (.atom (X2 sz v l)) ∧ Qe n.pin r = some v)
  (match e.t with
  | .own (.osl _ _ es) => eqA (.atom (.int .i64 ((es.length - l.toNat : Nat) : Int))) >>= fun y => ya (wrT n dst (.d y))
  | _ => zG)
open Classical in
theorem zji (n : Fr) (dst : Option Nat) (sz r : Nat) (v : Value) (l : Int) (x : Operand) : Snd (vlO n dst sz r v l x) (vlH n dst sz r v l x) := by
 refine zh (zl _) fun tx => zh (zl _) fun e => uL ?_
 cases e.t with
 | own y =>
  cases y with
  | osl sz tg es => exact VB (zT _ fun y => wrT n dst (.d y)).symm (zh (z2d _) fun _ => zl _)
  | _ => exact zr _
 | _ => exact zr _
open Classical in
theorem Loc.vlO (n : Fr) (dst : Option Nat) (sz r : Nat) (v : Value) (l : Int) (x : Operand) : Loc (vlO n dst sz r v l x) := by
 unfold Go.Own.vlO
 refine Loc.bind (Loc.opnd _) fun _ => Loc.bind (Loc.rdE _) fun _ => Loc.ite ?_ Loc.fail
 split
 ·exact Loc.wrT _ _ _
 ·exact Loc.fail
theorem zgT {P : Program} {tt : TT} (hT : w4 P tt) (h : Sim C S Fp [] st a w) {o : Oper} {t sz r : Nat} {v : Value} {l : Int} {x : Operand} (hty : qW tt t = true) (ho : o.op = .call ⟨.builtin .len, ⟨[x]⟩, ⟨[t]⟩⟩) {u : Unit} {R : List Nat} {U : List (Nat × Ent)} (e0 : vlO C.n o.dst sz r v l x st = some (u, R, U)) : uQ P C o a w (ze U st) := by
 unfold vlO at e0
 obtain ⟨tx, R1, U1, R2, U2, h1, e1, rfl, rfl⟩ := bind_some e0
 obtain ⟨rfl, hx⟩ := zB h h1
 obtain ⟨en, R7, U7, R8, U8, h7, e4, rfl, rfl⟩ := bind_some e1
 obtain ⟨rfl, rfl, rfl⟩ := yh h7
 simp only [ze, List.nil_append] at e4 ⊢
 split at e4
 ·rename_i hc
  obtain ⟨rfl, c2⟩ := hc
  have hs := h.pin r v (qp c2)
  cases ht : (st r).t with
  | own y =>
   cases y with
   | osl sz' tg es =>
    simp only [ht] at e4
    obtain ⟨p, c, ev, hlc, _, _⟩ := z2n h ht
    have hxv := (zy.1 hx).1
    have hvv : v = .slice p es.length c := by rw [← hs, ev]
    obtain ⟨el, he⟩ := Yl hT hty
    obtain ⟨Fp', hs'⟩ := wx h e4 (x := .d (.atom (.int .i64 ((es.length - l.toNat : Nat) : Int)))) (zy.2 ⟨rfl, rfl⟩)
    refine zq ?_ hs'
    have ex : a.eval x = .slice (if c = l.toNat then p else p.map (·.add (l.toNat * sz))) (es.length - l.toNat) (c - l.toNat) := by rw [hxv, hvv]; rfl
    simp [execOp, ho, resolve, invoke, builtin, Builtin.len_, run_underlying he, ex, goInt]
   | _ => simp only [ht] at e4; exact (z6 e4).elim
  | _ => simp only [ht] at e4; exact (z6 e4).elim
 ·exact (z6 e4).elim
open Classical in
def viO (tt : TT) (n : Fr) (dst : Option Nat) (ty sz r : Nat) (v : Value) (l : Int) (x i : Operand) : SM Unit := do
 let tx ← opnd x
 let ti ← opnd i
 let vi ← val ti
 let e ← rdE r
 match vi with
 | .atom (.int _ j) =>
  if tx = .d (.atom (X2 sz v l)) ∧ Qe n.pin r = some v then
   match e.t with
   | .own (.osl sz' _ es) => if xq tt ty = some sz ∧ sz' = sz ∧ 0 ≤ l ∧ 0 ≤ j ∧ (l + j).toNat < es.length then wrT n dst (.ptr r [.idx (l + j).toNat] e.er e.ec) else zt
   | _ => zt
  else zt
 | _ => zt
def viH (tt : TT) (n : Fr) (dst : Option Nat) (ty sz r : Nat) (v : Value) (l : Int) (x i : Operand) : HM Unit := ya (opnd x) >>= fun tx => ya (opnd i) >>= fun ti => KA ti >>= fun vi => ya (rdE r) >>= fun e =>
 match vi with
 | .atom (.int _ j) => Zq (tx = .d (.atom (X2 sz v l)) ∧ Qe n.pin r = some v)
   (match e.t with
   | .own (.osl sz' _ es) => if xq tt ty = some sz ∧ sz' = sz then Zq (0 ≤ l ∧ 0 ≤ j ∧ (l + j).toNat < es.length) (ya (wrT n dst (.ptr r [.idx (l + j).toNat] e.er e.ec))) else zG
   | _ => zG)
 | _ => zG
open Classical in
theorem zjj (tt : TT) (n : Fr) (dst : Option Nat) (ty sz r : Nat) (v : Value) (l : Int) (x i : Operand) : Snd (viO tt n dst ty sz r v l x i) (viH tt n dst ty sz r v l x i) := by
 refine zh (zl _) fun tx => zh (zl _) fun ti => zh (Yy _) fun vi => zh (zl _) fun e => ?_
 cases vi with
 | atom u =>
  cases u with
  | int k j =>
   refine uL ?_
   cases e.t with
   | own y =>
    cases y with
    | osl sz' tg es => exact JB (fun h1 h2 => ⟨h1.1, h1.2, h2.1, h2.2.1, h2.2.2⟩) (zl _)
    | _ => exact zr _
   | _ => exact zr _
  | _ => exact zr _
 | _ => exact zr _
open Classical in
theorem Loc.viO (tt : TT) (n : Fr) (dst : Option Nat) (ty sz r : Nat) (v : Value) (l : Int) (x i : Operand) : Loc (viO tt n dst ty sz r v l x i) := by
 unfold Go.Own.viO
 refine Loc.bind (Loc.opnd _) fun _ => Loc.bind (Loc.opnd _) fun _ => Loc.bind (Loc.val _) fun _ => Loc.bind (Loc.rdE _) fun _ => ?_
 split
 ·refine Loc.ite ?_ Loc.fail
  split
  ·exact Loc.ite (Loc.wrT _ _ _) Loc.fail
  ·exact Loc.fail
 ·exact Loc.fail
theorem zgU {P : Program} {tt : TT} (hT : w4 P tt) (h : Sim C S Fp [] st a w) {o : Oper} {t sz r : Nat} {v : Value} {l : Int} {x i : Operand} (ho : o.op = .indexAddr t x i) {u : Unit} {R : List Nat} {U : List (Nat × Ent)} (e0 : viO tt C.n o.dst t sz r v l x i st = some (u, R, U)) : uQ P C o a w (ze U st) := by
 unfold viO at e0
 obtain ⟨tx, R1, U1, R2, U2, h1, e1, rfl, rfl⟩ := bind_some e0
 obtain ⟨rfl, hx⟩ := zB h h1
 obtain ⟨ti, R3, U3, R4, U4, h3, e2, rfl, rfl⟩ := bind_some e1
 obtain ⟨rfl, hi⟩ := zB h h3
 obtain ⟨vi, R5, U5, R6, U6, h5, e3, rfl, rfl⟩ := bind_some e2
 obtain ⟨rfl, qi⟩ := qD h hi h5
 obtain ⟨en, R7, U7, R8, U8, h7, e4, rfl, rfl⟩ := bind_some e3
 obtain ⟨rfl, rfl, rfl⟩ := yh h7
 simp only [ze, List.nil_append] at e4 ⊢
 split at e4
 ·rename_i k j
  split at e4
  ·rename_i hc
   obtain ⟨rfl, c2⟩ := hc
   have hs := h.pin r v (qp c2)
   cases ht : (st r).t with
   | own y =>
    cases y with
    | osl sz' tg es =>
     simp only [ht] at e4
     split at e4
     ·rename_i hd
      obtain ⟨d1, rfl, d3, d4, d5⟩ := hd
      have hals : Ze w.heap st (Act.tv a) r [] (st r).er (st r).ec (Act.tv a r) := by
       refine ⟨Nat.le_refl _, Nat.le_refl _, ?_⟩
       simp [ht]
      obtain ⟨b, c, ev, hp⟩ := z8S h hals ht rfl (.inl rfl) rfl d5
      obtain ⟨e', he, hsz⟩ := wt hT d1 w
      have hp' : TOk S w.heap st (Act.tv a) (T.ptr r [Zu.idx (l + j).toNat] (st r).er (st r).ec) (.pointer (some ⟨b, (l + j).toNat * sz', none⟩)) := hp
      obtain ⟨Fp', hs'⟩ := wx h e4 hp'
      obtain ⟨ei, _⟩ := zy.1 qi
      have hvv : v = .slice (some ⟨b, 0, none⟩) es.length c := by rw [← hs, ev]
      obtain ⟨p2, c2', ev2, hlc, _, _⟩ := z2n h ht
      have hcc : es.length ≤ c := by
       rw [ev] at ev2
       simp only [Value.slice.injEq] at ev2
       rw [ev2.2.2]; exact hlc
      have hxv : a.eval x = .slice (some ⟨b, l.toNat * sz', none⟩) (es.length - l.toNat) (c - l.toNat) := by
       rw [(zy.1 hx).1, hvv]
       have : ¬ c = l.toNat := by omega
       simp [X2, this, Addr.add_lit]
      have hsum : (l + j).toNat = l.toNat + j.toNat := by omega
      refine zq ?_ hs'
      have hrun := XN (P := P) (b := b) (o := l.toNat * sz') (n := es.length - l.toNat) (c := c - l.toNat) (k := k) he hsz d4 (by omega)
      have hoff : l.toNat * sz' + j.toNat * sz' = (l + j).toNat * sz' := by rw [hsum, Nat.add_mul]
      rw [hoff] at hrun
      simp [execOp, ho, ei, hxv, hrun]
     ·exact (z6 e4).elim
    | _ => simp only [ht] at e4; exact (z6 e4).elim
   | _ => simp only [ht] at e4; exact (z6 e4).elim
  ·exact (z6 e4).elim
 ·exact (z6 e4).elim
end
def z4q (i : TI) : Option A :=
 match i.zero with
 | some z => if z.live = true then some z.shut.loose else none
 | none => none
theorem z6m {i : TI} {z' : A} (h : z4q i = some z') : ∃ z, i.zero = some z ∧ z.live = true ∧ z' = z.shut.loose := by
 unfold z4q at h
 split at h
 ·rename_i z hz
  split at h
  ·rename_i hl; cases h; exact ⟨z, hz, hl, rfl⟩
  ·cases h
 ·cases h
theorem z0U (z : Array Value) (n : Nat) : (Builtin.zeroCells z n).toList = (List.replicate n z.toList).flatten := by
 apply List.ext_getElem?
 intro k
 rw [z2x, Array.length_toList]
 simp only [Builtin.zeroCells, Array.toList_map, Array.toList_range, List.getElem?_map]
 by_cases hk : k < n * z.size
 ·rw [if_pos hk, List.getElem?_range hk, Option.map_some]
  have hz : 0 < z.size := by
   rcases Nat.eq_zero_or_pos z.size with h0 | h0
   ·rw [h0] at hk; simp at hk
   ·exact h0
  have hmod : k % z.size < z.size := Nat.mod_lt _ hz
  rw [Array.getElem?_toList, Array.getElem?_eq_getElem hmod, getElem!_pos z _ hmod]
 ·rw [if_neg hk, List.getElem?_eq_none (by simpa using hk), Option.map_none]
theorem zb3 {S : zj} {sz : Nat} : ∀ {xs : List A} {cs : List Value} (_ : yc S xs cs) (_ : ∀ x ∈ xs, x.size = sz) (l : Nat), yc S (xs.take l) (cs.take (l * sz))
 | [], cs, h, _, l => by simp only [yc] at h; subst h; simp [yc]
 | x :: xs, cs, h, hs, 0 => by simp [yc]
 | x :: xs, cs, h, hs, l + 1 => by
  simp only [yc] at h
  obtain ⟨c1, c2, rfl, h1, h2⟩ := h
  have hl : c1.length = sz := by rw [h1.len]; exact hs x (by simp)
  rw [List.take_succ_cons, Nat.succ_mul, Nat.add_comm, ← hl, List.take_length_add_append]
  simp only [yc]
  rw [hl]
  exact ⟨c1, _, rfl, h1, zb3 h2 (fun y hy => hs y (by simp [hy])) l⟩
theorem z7L {arr : Array Value} {o : Nat} {zs : List Value} (h : o + zs.length ≤ arr.size) : (XV arr o zs).toList.take (o + zs.length) = arr.toList.take o ++ zs := by
 rw [← ul h]
 have h1 : (arr.toList.take o).length = o := by simp; omega
 simp only []
 rw [show o + zs.length = (arr.toList.take o ++ zs).length by simp; omega, List.take_left]
section
variable {C : Ctx} {S : zj} {Fp : Nat → List Nat} {st : St} {a : Act} {w : World}
def vcK (tt : TT) (n : Fr) (dst : Option Nat) (ty sz r : Nat) (l : Int) (e : Ent) : SM Unit :=
 match e.t with
 | .own (.osl sz' tg es) =>
  match tt ty with
  | some ⟨.slice el, _, _, _, _⟩ =>
   match tt el with
   | some i =>
    match z4q i with
    | some z => if sz' = sz ∧ i.size = sz ∧ 0 ≤ l ∧ l.toNat ≤ es.length ∧ A.areD es = true then
      wrE r ⟨.own (.osl sz tg (es.take l.toNat ++ List.replicate (es.length - l.toNat) z)), e.er, e.ec + 1⟩ >>= fun _ => wrT n dst (.d (.tup []))
     else zt
    | none => zt
   | none => zt
  | _ => zt
 | _ => zt
open Classical in
def vcO (tt : TT) (n : Fr) (dst : Option Nat) (ty sz r : Nat) (v : Value) (l : Int) (x : Operand) : SM Unit := do
 let tx ← opnd x
 let e ← rdE r
 if tx = .d (.atom (X2 sz v l)) ∧ Qe n.pin r = some v then vcK tt n dst ty sz r l e else zt
def vcH (tt : TT) (n : Fr) (dst : Option Nat) (ty sz r : Nat) (v : Value) (l : Int) (x : Operand) : HM Unit := ya (opnd x) >>= fun tx => ya (rdE r) >>= fun e => Zq (tx = .d (.atom (X2 sz v l)) ∧ Qe n.pin r = some v)
  (match e.t with
  | .own (.osl sz' tg es) =>
   match tt ty with
   | some ⟨.slice el, _, _, _, _⟩ =>
    match tt el with
    | some i =>
     match z4q i with
     | some z => if sz' = sz ∧ i.size = sz then Zq (0 ≤ l ∧ l.toNat ≤ es.length ∧ A.areD es = true)
       (eqL (es.take l.toNat ++ List.replicate (es.length - l.toNat) z) >>= fun zs => ya (wrE r ⟨.own (.osl sz tg zs), e.er, e.ec + 1⟩ >>= fun _ => wrT n dst (.d (.tup []))))
      else zG
     | none => zG
    | none => zG
   | _ => zG
  | _ => zG)
open Classical in
theorem zjk (tt : TT) (n : Fr) (dst : Option Nat) (ty sz r : Nat) (v : Value) (l : Int) (x : Operand) : Snd (vcO tt n dst ty sz r v l x) (vcH tt n dst ty sz r v l x) := by
 refine zh (zl _) fun tx => zh (zl _) fun e => uL ?_
 unfold vcK
 cases e.t with
 | own y =>
  cases y with
  | osl sz' tg es =>
   dsimp only
   generalize tt ty = q
   rcases q with _ | ⟨k, a1, a2, a3, a4⟩
   ·exact zr _
   ·cases k with
    | slice el =>
     dsimp only
     generalize tt el = q
     cases q with
     | none => exact zr _
     | some i =>
      dsimp only
      cases z4q i with
      | none => exact zr _
      | some z =>
       refine JB (fun h1 h2 => ⟨h1.1, h1.2, h2.1, h2.2.1, h2.2.2⟩) ?_
       exact VB (zT _ fun zs => wrE r ⟨.own (.osl sz tg zs), e.er, e.ec + 1⟩ >>= fun _ => wrT n dst (.d (.tup []))).symm (zh (z6u _) fun _ => zl _)
    | _ => exact zr _
  | _ => exact zr _
 | _ => exact zr _
open Classical in
theorem Loc.vcO (tt : TT) (n : Fr) (dst : Option Nat) (ty sz r : Nat) (v : Value) (l : Int) (x : Operand) : Loc (vcO tt n dst ty sz r v l x) := by
 unfold Go.Own.vcO
 refine Loc.bind (Loc.opnd _) fun _ => Loc.bind (Loc.rdE _) fun _ => Loc.ite ?_ Loc.fail
 unfold Go.Own.vcK
 split
 ·split
  ·split
   ·split
    ·exact Loc.ite (Loc.bind (Loc.wrE _ _) fun _ => Loc.wrT _ _ _) Loc.fail
    ·exact Loc.fail
   ·exact Loc.fail
  ·exact Loc.fail
 ·exact Loc.fail
theorem zgV {P : Program} {tt : TT} (hT : w4 P tt) (h : Sim C S Fp [] st a w) {o : Oper} {t sz r : Nat} {v : Value} {l : Int} {x : Operand} (ho : o.op = .call ⟨.builtin .clear, ⟨[x]⟩, ⟨[t]⟩⟩) {u : Unit} {R : List Nat} {U : List (Nat × Ent)} (e0 : vcO tt C.n o.dst t sz r v l x st = some (u, R, U)) : uQ P C o a w (ze U st) := by
  unfold vcO at e0
  obtain ⟨tx, R1, U1, R2, U2, h1, e1, rfl, rfl⟩ := bind_some e0
  obtain ⟨rfl, hx⟩ := zB h h1
  obtain ⟨en, R7, U7, R8, U8, h7, e4, rfl, rfl⟩ := bind_some e1
  obtain ⟨rfl, rfl, rfl⟩ := yh h7
  simp only [ze, List.nil_append] at e4 ⊢
  split at e4
  · rename_i hc
    obtain ⟨rfl, c2⟩ := hc
    have hs := h.pin r v (qp c2)
    unfold vcK at e4
    cases ht : (st r).t with
    | own y =>
     cases y with
     | osl sz' tg es =>
      simp only [ht] at e4
      obtain ⟨el, a1, a2, a3, a4, hty⟩ : ∃ el a1 a2 a3 a4, tt t = some ⟨.slice el, a1, a2, a3, a4⟩ := by
        cases hq : tt t with
        | none => simp only [hq] at e4; exact (z6 e4).elim
        | some it =>
          obtain ⟨k, a1, a2, a3, a4⟩ := it
          cases k with
          | slice el => exact ⟨el, a1, a2, a3, a4, rfl⟩
          | _ => simp only [hq] at e4; exact (z6 e4).elim
      simp only [hty] at e4
      obtain ⟨i, hi⟩ : ∃ i, tt el = some i := by
        cases hq : tt el with
        | none => simp only [hq] at e4; exact (z6 e4).elim
        | some i => exact ⟨i, rfl⟩
      simp only [hi] at e4
      obtain ⟨z', hz'⟩ : ∃ z', z4q i = some z' := by
        cases hq : z4q i with
        | none => simp only [hq] at e4; exact (z6 e4).elim
        | some i => exact ⟨i, rfl⟩
      simp only [hz'] at e4
      have hel : P.underlying t = some (.slice el) := (hT _ _ hty).kind
      · · split at e4
          · rename_i hd
            obtain ⟨rfl, d2, d3, d4, d5⟩ := hd
            obtain ⟨z, hz, hlv, rfl⟩ := z6m hz'
            obtain ⟨f, f1, f2, f3, f4⟩ := (hT _ _ hi).info
            obtain ⟨zv, v1, v2, v3⟩ := f4 z hz
            have hzr : Rep S z.shut.loose zv.cells.toList := ((v3 S w.heap).shut (fun _ _ _ q => q) hlv (by simp)).loose
            have hzl : zv.cells.toList.length = sz' := by rw [((v3 S w.heap).shut (S' := S) (fun _ _ _ q => q) hlv (by simp)).len, A.size_shut, v2, d2]
            have hq := h.ent r
            unfold xu at hq
            simp only [ht] at hq
            obtain ⟨cs, c1, c3, c4⟩ := hq
            simp only [zH] at c1
            obtain ⟨p, c, rfl, t1, t2, t3, t4, t5⟩ := c1
            have ev : Act.tv a r = .slice p es.length c := c4
            have hvv : v = .slice p es.length c := by rw [← hs, ev]
            have hxv := (zy.1 hx).1
            rw [hvv] at hxv
            obtain ⟨y1, R9, U9, R10, U10, h9, e5, rfl, rfl⟩ := bind_some e4
            obtain ⟨rfl, rfl⟩ := wW h9
            have hlen : (es.take l.toNat ++ List.replicate (es.length - l.toNat) z.shut.loose).length = es.length := by simp; omega
            have hsz : ∀ y ∈ es.take l.toNat ++ List.replicate (es.length - l.toNat) z.shut.loose, y.size = sz' := by
              intro y hy
              rcases List.mem_append.1 hy with q | q
              · exact t4 y (List.mem_of_mem_take q)
              · rw [List.eq_of_mem_replicate q, ← hzr.len, hzl]
            have hreps : ∀ n, yc S (List.replicate n z.shut.loose) (List.replicate n zv.cells.toList).flatten := by
              intro n
              induction n with
              | zero => simp [yc]
              | succ n ih => simp only [List.replicate_succ, List.flatten_cons, yc]; exact ⟨_, _, rfl, hzr, ih⟩
            obtain ⟨w', F', hrun, hkept, hst, hfr, hconc, hF'⟩ : ∃ w' F', (Builtin.clear_ #[t] o.type #[a.eval x]).run P w = .ok (.tuple #[]) w' ∧ Xc C.M w w' ∧ (∀ b o u, S b o = some u → y9 w'.heap b o = some u) ∧ (∀ k, k ∉ Fp r → w'.heap[k]? = w.heap[k]?) ∧
                zH S w'.heap (.osl sz' tg (es.take l.toNat ++ List.replicate (es.length - l.toNat) z.shut.loose)) [.slice p es.length c] F' ∧ F' = Fp r := by
              by_cases hn : es.length - l.toNat = 0
              · refine ⟨w, Fp r, ?_, Xc.refl _ _, h.still, fun _ _ => rfl, ?_, rfl⟩
                · rw [hxv]
                  simp only [X2]
                  rw [hn]
                  cases hp : (if c = l.toNat then p else p.map (·.add (l.toNat * sz'))) with
                  | none => simp [Builtin.clear_, run_underlying hel]
                  | some _ => simp [Builtin.clear_, run_underlying hel]
                · have : es.take l.toNat ++ List.replicate (es.length - l.toNat) z.shut.loose = es := by rw [hn, List.replicate_zero, List.append_nil, List.take_of_length_le (by omega)]
                  rw [this]
                  simp only [zH]
                  exact ⟨p, c, rfl, t1, t2, t3, t4, t5⟩
              · rcases t5 with ⟨rfl, _⟩ | ⟨b, arr, ty, cl, F1, rfl, k1, k2, k3, k4, k5, k6⟩
                · simp at hn
                obtain ⟨hr, rfl⟩ := k4.areD d5
                let zs := (List.replicate (es.length - l.toNat) zv.cells.toList).flatten
                have hzs : zs.length = (es.length - l.toNat) * sz' := by
                  show (List.replicate _ _).flatten.length = _
                  rw [List.length_flatten]
                  simp [hzl]
                have hfit : l.toNat * sz' + zs.length ≤ arr.size := by
                  rw [hzs, ← Nat.add_mul]
                  refine Nat.le_trans (Nat.mul_le_mul_right _ ?_) k2
                  omega
                let w' := w.setRow b (XV arr (l.toNat * sz') zs)
                have hheap : ∀ k, k ≠ b → w'.heap[k]? = w.heap[k]? := fun k hk => setRow_other w b k _ hk
                have hheapb : w'.heap[b]? = some (.cells (XV arr (l.toNat * sz') zs) ty (0, 0)) := setRow_heap w b arr _ ty (0, 0) k1
                have hb : b ∈ Fp r := by rw [k5]; simp
                have h1c : ∀ u ∈ zs, u.oneCell' = true := by
                  intro u hu
                  obtain ⟨m, hm, hu⟩ := List.mem_flatten.1 hu
                  rw [List.eq_of_mem_replicate hm] at hu
                  exact hzr.one u hu
                refine ⟨w', Fp r, ?_, ⟨rfl, rfl, rfl, Nat.le_refl _, by simp [w'], fun k hk => hheap k (fun e => hk (e ▸ h.base r b hb))⟩, ?_, fun k hk => hheap k (fun e => hk (e ▸ hb)), ?_, rfl⟩
                · have hst := run_storeCells_at P b (l.toNat * sz') ty zs 0 arr w k1 (by simpa using hfit) h1c
                  simp only [Nat.add_zero] at hst
                  rw [ul hfit] at hst
                  have hz0 : (zeroValue el).run P w = .ok zv w := by simp [zeroValue, typeInfo, f1, v1]
                  rw [hxv]
                  have hcl : ¬ c = l.toNat := by omega
                  simp only [X2, if_neg hcl, Option.map_some, Addr.add_lit, Nat.zero_add]
                  obtain ⟨m, hm⟩ : ∃ m, es.length - l.toNat = m + 1 := ⟨es.length - l.toNat - 1, by omega⟩
                  have hzc : (Builtin.zeroCells zv.cells (m + 1)).toList = zs := by rw [z0U, ← hm]
                  rw [hm]
                  simp [Builtin.clear_, run_underlying hel, hz0, hzc, hst, w']
                · intro b' o'' u hu
                  have hne : b' ≠ b := by rintro rfl; rw [k6] at hu; cases hu
                  rw [xW (h := w.heap) (h' := w'.heap) (hheap b' hne)]
                  exact h.still b' o'' u hu
                · simp only [zH, hlen]
                  refine ⟨_, c, rfl, t1, t2, t3, hsz, .inr ⟨b, _, ty, _, [], rfl, hheapb, by simpa using k2, rfl, ?_, k5, k6⟩⟩
                  have e1 : es.length * sz' = l.toNat * sz' + zs.length := by rw [hzs, ← Nat.add_mul]; congr 1; omega
                  rw [e1, z7L hfit]
                  have e2 : arr.toList.take (l.toNat * sz') = cl.take (l.toNat * sz') := by
                    rw [← k3, List.take_take, Nat.min_eq_left (Nat.mul_le_mul_right _ d4)]
                  rw [e2]
                  exact ((zb3 hr t4 _).append (hreps _)).concs _
            subst hF'
            have hs1 : Sim C S (Qm Fp r (Fp r)) [] (upd st r ⟨.own (.osl sz' tg (es.take l.toNat ++ List.replicate (es.length - l.toNat) z.shut.loose)), (st r).er, (st r).ec + 1⟩) a w' := by
              refine h.change r (.own _) _ _ (Fp r) (h.below.trans hkept) (fun _ _ _ q => q) hst h.sbase ?_ ⟨⟨_, hconc, c3, by rw [ev]; simp [zN]⟩, _, ht⟩ (.inl ⟨_, ht⟩) (Nat.le_refl _) (Nat.lt_succ_self _) ?_ ?_ (by simp) (by simp) (by simp) (by simp)
              · intro t' k htr hk
                exact ⟨hfr k (fun q => htr (h.disj t' r k hk q)), (h.free t' k hk).2.1⟩
              · intro t' k htr hk hk'
                exact htr (h.disj t' r k hk' hk)
              · intro k hk
                exact h.base r k hk
            rw [zw]
            simp only [ze] at e5 ⊢
            obtain ⟨Fp', hs'⟩ := wx hs1 e5 (x := .d (.tup [])) (v := .tuple #[]) (by simp only [TOk, w5]; exact ⟨[], rfl, trivial⟩)
            refine zq ?_ hs'
            simp [execOp, ho, resolve, invoke, builtin, hrun]
          · exact (z6 e4).elim
     | _ => simp only [ht] at e4; exact (z6 e4).elim
    | _ => simp only [ht] at e4; exact (z6 e4).elim
  · exact (z6 e4).elim
end
def xAt (P : Program) {β : Type} (p : Oper → Option β) (e : Fr → Oper → β → SM Unit) (h : Fr → Oper → β → HM Unit)
  (ok : ∀ (C : Ctx) (S : zj) (Fp : Nat → List Nat) (st : St) (a : Act) (w : World) (o : Oper) (b : β), p o = some b → Sim C S Fp [] st a w → ∀ u R U, e C.n o b st = some (u, R, U) → uQ P C o a w (ze U st))
  (loc : ∀ n o b, Loc (e n o b)) (sd : ∀ n o b, Snd (e n o b) (h n o b)) : XH P := {
 e := fun n o => (p o).map (e n o)
 h := fun n o => (p o).map (h n o)
 ok := by
  refine ⟨?_, ?_⟩
  ·intro C S Fp st a w o m u R U e0 h h2
   obtain ⟨b, hp, rfl⟩ := Option.map_eq_some_iff.1 e0
   exact ok C S Fp st a w o b hp h _ _ _ h2
  ·intro n o m e0
   obtain ⟨b, hp, rfl⟩ := Option.map_eq_some_iff.1 e0
   exact fun st st' a R U => loc n o b st st' a R U
 none := by
  intro n o e0
  rw [Option.map_eq_none_iff] at e0 ⊢
  exact e0
 some := by
  intro n o m e0
  obtain ⟨b, hp, rfl⟩ := Option.map_eq_some_iff.1 e0
  exact ⟨_, by rw [hp]; rfl, sd n o b⟩ }
theorem z4p {o : Oper} {d : Nat} {β : Type} {x : Option β} {b : β} (h : (if o.dst = some d then x else none) = some b) : x = some b := by
 split at h
 ·exact h
 ·cases h
def zgF (d : Nat) (o : Oper) : Option (Nat × Operand × Operand) := match o.op with | .slice t x (some lo) none none => if o.dst = some d then some (t, x, lo) else none | _ => none
def xVw {P : Program} {tt : TT} (hT : w4 P tt) (d r : Nat) (v : Value) : XH P :=
 xAt P (zgF d) (fun n o b => vwO tt n o.dst b.1 r v b.2.1 b.2.2) (fun n o b => vwH tt n o.dst b.1 r v b.2.1 b.2.2)
  (by
   intro C S Fp st a w o b hp h u R U e
   unfold zgF at hp
   split at hp
   ·rename_i ho; cases z4p hp; exact zgS hT h ho e
   ·cases hp)
  (fun n o b => Loc.vwO _ _ _ _ _ _ _ _) (fun n o b => zjh _ _ _ _ _ _ _ _)
def zgG (d t : Nat) (o : Oper) : Option Operand := match o.op with | .call ⟨.builtin .len, ⟨[x]⟩, ⟨[t']⟩⟩ => if o.dst = some d then (if t' = t then some x else none) else none | _ => none
def xVl {P : Program} {tt : TT} (hT : w4 P tt) (d t sz r : Nat) (v : Value) (l : Int) (hty : qW tt t = true) : XH P :=
 xAt P (zgG d t) (fun n o x => vlO n o.dst sz r v l x) (fun n o x => vlH n o.dst sz r v l x)
  (by
   intro C S Fp st a w o x hp h u R U e
   unfold zgG at hp
   split at hp
   ·rename_i ho
    replace hp := z4p hp
    split at hp
    ·rename_i ht; subst ht; cases hp; exact zgT hT h hty ho e
    ·cases hp
   ·cases hp)
  (fun n o x => Loc.vlO _ _ _ _ _ _ _) (fun n o x => zji _ _ _ _ _ _ _)
def zgH (d : Nat) (o : Oper) : Option (Nat × Operand × Operand) := match o.op with | .indexAddr t x i => if o.dst = some d then some (t, x, i) else none | _ => none
def xVi {P : Program} {tt : TT} (hT : w4 P tt) (d sz r : Nat) (v : Value) (l : Int) : XH P :=
 xAt P (zgH d) (fun n o b => viO tt n o.dst b.1 sz r v l b.2.1 b.2.2) (fun n o b => viH tt n o.dst b.1 sz r v l b.2.1 b.2.2)
  (by
   intro C S Fp st a w o b hp h u R U e
   unfold zgH at hp
   split at hp
   ·rename_i ho; cases z4p hp; exact zgU hT h ho e
   ·cases hp)
  (fun n o b => Loc.viO _ _ _ _ _ _ _ _ _ _) (fun n o b => zjj _ _ _ _ _ _ _ _ _ _)
def ziM (s : Nat) (o : Oper) : Option Nat := match o.op with | .call ⟨.builtin .clear, ⟨[.tmp s']⟩, ⟨[t]⟩⟩ => if s' = s then some t else none | _ => none
def xVc {P : Program} {tt : TT} (hT : w4 P tt) (s sz r : Nat) (v : Value) (l : Int) : XH P :=
 xAt P (ziM s) (fun n o t => vcO tt n o.dst t sz r v l (.tmp s)) (fun n o t => vcH tt n o.dst t sz r v l (.tmp s))
  (by
   intro C S Fp st a w o b hp h u R U e
   unfold ziM at hp
   split at hp
   ·rename_i ho
    split at hp
    ·rename_i hs; subst hs; cases hp; exact zgV hT h ho e
    ·cases hp
   ·cases hp)
  (fun n o b => Loc.vcO _ _ _ _ _ _ _ _ _) (fun n o b => zjk _ _ _ _ _ _ _ _ _)
def clO (tt : TT) (n : Fr) (dst : Option Nat) (t : Nat) (x hi mx : Operand) : SM Unit := do
 let y ← opnd x
 let z ← take y
 match z with
 | .osl sz _ es => if xq tt t = some sz then bound es.length (some hi) >>= fun h => bound 0 (some mx) >>= fun m => if h ≤ m ∧ m ≤ es.length then wrT n dst (.own (.osl sz (m == h) (es.take h))) else zt else zt
 | _ => zt
def clH (tt : TT) (n : Fr) (dst : Option Nat) (t : Nat) (x hi mx : Operand) : HM Unit := ya (opnd x) >>= fun y => z4x y >>= fun z =>
 match z with
 | .osl sz _ es => if xq tt t = some sz then z0t es.length (some hi) >>= fun h => z0t 0 (some mx) >>= fun m => Zq (h ≤ m ∧ m ≤ es.length) (eqA (.osl sz (m == h) (es.take h)) >>= fun z => ya (wrT n dst (.own z))) else zG
 | _ => zG
theorem zjq (tt : TT) (n : Fr) (dst : Option Nat) (t : Nat) (x hi mx : Operand) : Snd (clO tt n dst t x hi mx) (clH tt n dst t x hi mx) := by
 refine zh (zl _) fun y => zh (z1l _) fun z => ?_
 cases z with
 | osl sz tg es =>
  refine vU (zh (Qr _ _) fun h => zh (Qr _ _) fun m => uL ?_) (zr _)
  exact VB (zT _ fun z => wrT n dst (.own z)).symm (zh (z2d _) fun _ => zl _)
 | _ => exact zr _
theorem Loc.clO (tt : TT) (n : Fr) (dst : Option Nat) (t : Nat) (x hi mx : Operand) : Loc (clO tt n dst t x hi mx) := by
 unfold Go.Own.clO
 refine Loc.bind (Loc.opnd _) fun _ => Loc.bind (Loc.take _) fun z => ?_
 cases z with
 | osl sz tg es => exact Loc.ite (Loc.bind (Loc.bound _ _) fun _ => Loc.bind (Loc.bound _ _) fun _ => Loc.ite (Loc.wrT _ _ _) Loc.fail) Loc.fail
 | _ => exact Loc.fail
section
variable {C : Ctx} {S : zj} {Fp : Nat → List Nat} {st : St} {a : Act} {w : World}
theorem zhp {P : Program} {tt : TT} (hT : w4 P tt) (h : Sim C S Fp [] st a w) {o : Oper} {t : Nat} {x hi mx : Operand} (ho : o.op = .slice t x none (some hi) (some mx)) {u : Unit} {R : List Nat} {U : List (Nat × Ent)} (e : clO tt C.n o.dst t x hi mx st = some (u, R, U)) : uQ P C o a w (ze U st) := by
 unfold clO at e
 obtain ⟨y, R1, U1, R2, U2, h1, e1, rfl, rfl⟩ := bind_some e
 obtain ⟨rfl, hx⟩ := zB h h1
 simp only [ze, List.nil_append] at e1 ⊢
 obtain ⟨z, R3, U3, R4, U4, h3, e2, rfl, rfl⟩ := bind_some e1
 obtain ⟨Fp', F, g1, g2⟩ := Qn h hx h3
 rw [zw]
 cases z with
 | osl sz tg es =>
  simp only at e2
  split at e2
  ·rename_i hel
   obtain ⟨hh, R5, U5, R6, U6, h5, e3, rfl, rfl⟩ := bind_some e2
   obtain ⟨rfl, b2⟩ := Vm g1 h5
   simp only [ze, List.nil_append] at e3 ⊢
   obtain ⟨m, R7, U7, R8, U8, h7, e4, rfl, rfl⟩ := bind_some e3
   obtain ⟨rfl, b3⟩ := Vm g1 h7
   simp only [ze, List.nil_append] at e4 ⊢
   split at e4
   ·rename_i hle
    obtain ⟨hle1, hle2⟩ := hle
    obtain ⟨el, he, hsz⟩ := wt hT hel w
    obtain ⟨cs, k1, k2, k3⟩ : ∃ cs, zH S w.heap (.osl sz tg es) cs F ∧ F.Nodup ∧ a.eval x = zN (.osl sz tg es) cs := by
     rcases g2 with ⟨q, _⟩ | q
     ·simp only [w5, vT, Rep, false_and, exists_false] at q
     ·exact q
    simp only [zH] at k1
    obtain ⟨p, c, rfl, t1, t2, t3, t4, t5⟩ := k1
    have ev : a.eval x = .slice p es.length c := k3
    have b3' : Jf ((some mx).map a.eval) c m := by
     rcases b3 with ⟨q, _⟩ | ⟨o, k, j, q, q2, q3, q4⟩
     ·cases q
     ·cases q; exact .inr ⟨k, j, by simp [q2], q3, q4⟩
    have b2' : (Option.isSome ((some hi).map a.eval)) = true := rfl
    have hrun := ko (P := P) (w := w) he hsz (p := p) (len := es.length) (c := c) (lo := none) (.inl ⟨rfl, rfl⟩) (Vn b2) b3' (Nat.zero_le _) hle1 (by omega) (fun _ => b2')
    have hp : (if m = 0 then p else p.map (·.add (0 * sz))) = p := by
     split
     ·rfl
     ·cases p <;> simp [Addr.add]
    rw [hp] at hrun
    have hlen : (es.take hh).length = hh := by simp; omega
    have ht4 : ∀ x ∈ es.take hh, x.size = sz := fun x hx => t4 x (List.mem_of_mem_take hx)
    obtain ⟨F2, cs2, m1, m2, m3, m4⟩ : ∃ F2 cs2, zH S w.heap (.osl sz (m == hh) (es.take hh)) cs2 F2 ∧ F2.Nodup ∧ (∀ k ∈ F2, k ∈ F) ∧ zN (.osl sz (m == hh) (es.take hh)) cs2 = .slice p hh m := by
     rcases t5 with ⟨rfl, rfl, rfl, rfl⟩ | ⟨b, arr, ty, l, F', rfl, e1, e2, e3, e4, rfl, e5⟩
     ·have hm0 : m = 0 := by simpa using hle2
      subst hm0
      have : hh = 0 := by omega
      subst this
      refine ⟨[], [.slice none 0 0], ?_, by simp, by simp, rfl⟩
      simp only [zH]
      exact ⟨none, 0, by simp, by simp, by simp, Nat.zero_le _, by simp, .inl (by simp)⟩
     ·obtain ⟨F3, q1, q2, q3⟩ := z1F e4 hh
      have hn := List.nodup_cons.1 k2
      refine ⟨b :: F3, [.slice (some ⟨b, 0, none⟩) hh m], ?_, List.nodup_cons.2 ⟨fun q => hn.1 (q2 b q), q3 hn.2⟩, ?_, rfl⟩
      ·simp only [zH]
       refine ⟨some ⟨b, 0, none⟩, m, by rw [hlen], by intro q; rw [hlen]; simpa using q, by rw [hlen]; omega, by omega, ht4, .inr ⟨b, arr, ty, _, F3, rfl, e1, Nat.le_trans (Nat.mul_le_mul_right _ (by omega)) e2, ?_, q1, rfl, e5⟩⟩
       rw [← e3, List.take_take, A.sizes_const ht4, hlen]
       congr 1
       have := Nat.mul_le_mul_right sz (show hh ≤ es.length by omega)
       omega
      ·intro k hk
       rcases List.mem_cons.1 hk with rfl | hk
       ·simp
       ·simp [q2 k hk]
    have g1' : Sim C S Fp' (F2 ++ []) (ze U3 st) a w := g1.mem g1.below (fun _ _ _ h => h) g1.still g1.sbase (fun t' k hk => ⟨rfl, (g1.free t' k hk).2.1⟩) (by simpa using m2) (fun t' k hk => g1.xd t' k (by simp at hk ⊢; exact m3 k hk)) (fun k hk => g1.xb k (by simp at hk ⊢; exact m3 k hk))
    obtain ⟨Fp'', hs⟩ := Xe g1' e4 m1 m2
    rw [m4] at hs
    refine zq ?_ hs
    simp only [Nat.sub_zero] at hrun
    simp only [Option.map_some] at hrun
    simp [execOp, ho, ev, hrun]
   ·exact (z6 e4).elim
  ·exact (z6 e2).elim
 | _ => exact (z6 e2).elim
end
def ziS (d : Nat) (o : Oper) : Option (Nat × Operand × Operand × Operand) := match o.op with | .slice t x none (some hi) (some mx) => if o.dst = some d then some (t, x, hi, mx) else none | _ => none
def xCl {P : Program} {tt : TT} (hT : w4 P tt) (d : Nat) : XH P :=
 xAt P (ziS d) (fun n o b => clO tt n o.dst b.1 b.2.1 b.2.2.1 b.2.2.2) (fun n o b => clH tt n o.dst b.1 b.2.1 b.2.2.1 b.2.2.2)
  (by
   intro C S Fp st a w o b hp h u R U e
   unfold ziS at hp
   split at hp
   ·rename_i ho; cases z4p hp; exact zhp hT h ho e
   ·cases hp)
  (fun n o b => Loc.clO _ _ _ _ _ _ _) (fun n o b => zjq _ _ _ _ _ _ _)
def zjC (d : Nat) (o : Oper) : Option Unit := match o.op with | .call ⟨.value _, _, _⟩ => if o.dst = some d then some () else none | _ => none
def Qi {P : Program} {tt : TT} (hT : w4 P tt) {s : zU} (h : s.Ok P) (d : Nat) : XH P :=
 xAt P (zjC d) (fun n o _ => stepO tt (VH.add s) n o) (fun n o _ => z3n tt (VH.add s) n o)
  (fun C S Fp st a w o b hp hS u R U e => z27 hT (Ctr.add_ok (z54 P) h) hS e)
  (fun n o b => Loc.stepO _ _ _ _) (fun n o b => z4F _ _ _ _)
theorem vlM {α : Type} (f : α → A) (l : List α) (k : Nat) : A.atom (.int .i64 (((l.map f).length - k : Nat) : Int)) = .atom (.int .i64 ((l.length - k : Nat) : Int)) := by rw [List.length_map]
theorem vcM {α : Type} (f : α → A) (l : List α) (k : Nat) (z : α) : (l.map f).take k ++ List.replicate ((l.map f).length - k) (f z) = (l.take k ++ List.replicate (l.length - k) z).map f := by simp
theorem clB {α : Type} (f : α → A) (l : List α) : ((l.length : Nat) : Int).toNat ≤ ((l.length : Nat) : Int).toNat ∧ ((l.length : Nat) : Int).toNat ≤ (l.map f).length := by simp
theorem clE {α : Type} (sz : Nat) (f : α → A) (l : List α) : A.osl sz (((l.length : Nat) : Int).toNat == ((l.length : Nat) : Int).toNat) ((l.map f).take ((l.length : Nat) : Int).toNat) = eOs sz true f l := by
 simp only [beq_self_eq_true, Int.toNat_natCast, eOs]
 rw [List.take_of_length_le (by simp)]
def zcr : Value → Option Bool
 | .slice none _ _ => some true
 | .slice (some _) _ _ => some false
 | _ => none
theorem z8K {P : Program} {n : Fr} {c : Code} {st : St} {Q : Exit → St → Prop} {fs : List Fm} (e : fs = []) (k : Nat) {sz : Nat} {t : Bool} {es : List A} (hk : (st k).t = .d (.sl sz t es))
  (h : ∀ v, v.oneCell' = true → (zcr v = some true ∧ es = []) ∨ zcr v = some false → AWP P ⟨n.size, (k, v) :: n.pin⟩ c st (Qf P ⟨n.size, (k, v) :: n.pin⟩ [] Q)) : AWP P n c st (Qf P n fs Q) := by
 subst e
 intro rd m df w0 S0 M S Fp a w hc hs
 have q := hs.ent k
 unfold xu at q
 simp only [hk] at q
 have q1 := q.1
 simp only [w5] at q1
 obtain ⟨cs, r1, r2⟩ := q1
 simp only [Rep] at r1
 obtain ⟨p, c', rfl, r3, r4, r5, r6⟩ := r1
 have ev : Act.tv a k = .slice p es.length c' := r2
 have hcase : (zcr (Act.tv a k) = some true ∧ es = []) ∨ zcr (Act.tv a k) = some false := by
  rw [ev]
  cases p with
  | none =>
   refine .inl ⟨rfl, ?_⟩
   rcases r6 with r6 | ⟨b, o, l, e, _⟩
   ·exact r6
   ·cases e
  | some p => exact .inr rfl
 refine wpIn_mono (h (Act.tv a k) (by rw [ev]; rfl) hcase rd m df w0 S0 M S Fp a w ⟨hc.nodup, hc.df, hc.rd⟩ (hs.pinned k)) ?_
 rintro e a' w' ⟨df', st1, S1, Fp1, h1, h2, h3⟩
 exact ⟨df', st1, S1, Fp1, h1.unpinned, h2, h3⟩
open Classical in
def nilO (n : Fr) (dst : Option Nat) (v : Value) (b : Bool) (x y : Operand) : SM Unit := do
 let tx ← opnd x
 let ty ← opnd y
 if tx = .d (.atom v) ∧ ty = .d (.atom (.slice none 0 0)) then wrT n dst (.d (.atom (.bool b))) else zt
def ziJ (n : Fr) (dst : Option Nat) (v : Value) (b : Bool) (x y : Operand) : HM Unit := ya (opnd x) >>= fun tx => ya (opnd y) >>= fun ty => Zq (tx = .d (.atom v) ∧ ty = .d (.atom (.slice none 0 0))) (ya (wrT n dst (.d (.atom (.bool b)))))
open Classical in
theorem zh6 (n : Fr) (dst : Option Nat) (v : Value) (b : Bool) (x y : Operand) : Snd (nilO n dst v b x y) (ziJ n dst v b x y) := zh (zl _) fun _ => zh (zl _) fun _ => uL (zl _)
open Classical in
theorem Loc.nilO (n : Fr) (dst : Option Nat) (v : Value) (b : Bool) (x y : Operand) : Loc (nilO n dst v b x y) := by
 unfold Go.Own.nilO
 exact Loc.bind (Loc.opnd _) fun _ => Loc.bind (Loc.opnd _) fun _ => Loc.ite (Loc.wrT _ _ _) Loc.fail
theorem zeo {P : Program} {tt : TT} (hT : w4 P tt) {C : Ctx} {S : zj} {Fp : Nat → List Nat} {st : St} {a : Act} {w : World} (h : Sim C S Fp [] st a w) {o : Oper} {t yt : Nat} {v : Value} {b : Bool} {x y : Operand} (hty : qW tt t = true) (hv : zcr v = some b) (ho : o.op = .binOp .eql t x y yt) {u : Unit} {R : List Nat} {U : List (Nat × Ent)} (e0 : nilO C.n o.dst v b x y st = some (u, R, U)) : uQ P C o a w (ze U st) := by
 unfold nilO at e0
 obtain ⟨tx, R1, U1, R2, U2, h1, e1, rfl, rfl⟩ := bind_some e0
 obtain ⟨rfl, hx⟩ := zB h h1
 obtain ⟨ty, R3, U3, R4, U4, h3, e2, rfl, rfl⟩ := bind_some e1
 obtain ⟨rfl, hy⟩ := zB h h3
 simp only [ze, List.nil_append] at e2 ⊢
 split at e2
 ·rename_i hc
  obtain ⟨rfl, rfl⟩ := hc
  have ex := (zy.1 hx).1
  have ey := (zy.1 hy).1
  obtain ⟨el, hel⟩ := Yl hT hty
  obtain ⟨Fp', hs⟩ := wx h e2 (x := .d (.atom (.bool b))) (zy.2 ⟨rfl, rfl⟩)
  refine zq ?_ hs
  have heq : (Op.equal t v (.slice none 0 0)).run P w = .ok b w := by
   unfold Op.equal Op.maxDepth
   show (Op.equalIn (9999 + 1) t v _).run P w = _
   generalize 9999 = q
   unfold Op.equalIn
   simp only [Sem.run_bind, run_underlying hel, Result.andThen_ok]
   cases v with
   | slice p l c => cases p <;> (simp only [zcr, Option.some.injEq] at hv; subst hv; simp)
   | _ => cases hv
  cases v with
  | slice p l c => simp [execOp, ho, ex, ey, eqGuard, Go.binOp, heq]
  | _ => cases hv
 ·exact (z6 e2).elim
def zeA (d t : Nat) (o : Oper) : Option (Operand × Operand) := match o.op with | .binOp .eql t' x y _ => if o.dst = some d then (if t' = t then some (x, y) else none) else none | _ => none
def zgz {P : Program} {tt : TT} (hT : w4 P tt) (d t : Nat) {v : Value} {b : Bool} (hty : qW tt t = true) (hv : zcr v = some b) : XH P :=
 xAt P (zeA d t) (fun n o q => nilO n o.dst v b q.1 q.2) (fun n o q => ziJ n o.dst v b q.1 q.2)
  (by
   intro C S Fp st a w o q hp h u R U e
   unfold zeA at hp
   split at hp
   ·rename_i ho
    replace hp := z4p hp
    split at hp
    ·rename_i ht; subst ht; cases hp; exact zeo hT h hty hv ho e
    ·cases hp
   ·cases hp)
  (fun n o q => Loc.nilO _ _ _ _ _ _) (fun n o q => zh6 _ _ _ _ _ _)
instance (k : IntKind) (x y : Int) : SzA (eI k x) (eI k y) := ⟨rfl⟩
open Classical in
def asO (n : Fr) (dst : Option Nat) (v : Value) (x : Operand) : SM Unit := do
 let tx ← opnd x
 if tx = .d (.atom v) then wrT n dst (.d (.atom v)) else zt
def asH (n : Fr) (dst : Option Nat) (v : Value) (x : Operand) : HM Unit := ya (opnd x) >>= fun tx => Zq (tx = .d (.atom v)) (ya (wrT n dst (.d (.atom v))))
open Classical in
theorem zjr (n : Fr) (dst : Option Nat) (v : Value) (x : Operand) : Snd (asO n dst v x) (asH n dst v x) := zh (zl _) fun _ => uL (zl _)
open Classical in
theorem Loc.asO (n : Fr) (dst : Option Nat) (v : Value) (x : Operand) : Loc (asO n dst v x) := by
 unfold Go.Own.asO
 exact Loc.bind (Loc.opnd _) fun _ => Loc.ite (Loc.wrT _ _ _) Loc.fail
theorem zhr {P : Program} {C : Ctx} {S : zj} {Fp : Nat → List Nat} {st : St} {a : Act} {w : World} (h : Sim C S Fp [] st a w) {o : Oper} {v : Value} {x : Operand} (ho : o.op = .assign x) {u : Unit} {R : List Nat} {U : List (Nat × Ent)} (e0 : asO C.n o.dst v x st = some (u, R, U)) : uQ P C o a w (ze U st) := by
 unfold asO at e0
 obtain ⟨tx, R1, U1, R2, U2, h1, e1, rfl, rfl⟩ := bind_some e0
 obtain ⟨rfl, hx⟩ := zB h h1
 simp only [ze, List.nil_append] at e1 ⊢
 split at e1
 ·rename_i hc
  subst hc
  have hx' : w5 S (.atom v) (a.eval x) := hx
  obtain ⟨Fp', hs⟩ := wx h e1 (x := .d (.atom v)) (v := a.eval x) hx'
  exact zq (by simp [execOp, ho]) hs
 ·exact (z6 e1).elim
def ziU (d : Nat) (o : Oper) : Option Operand := match o.op with | .assign x => if o.dst = some d then some x else none | _ => none
def xAs (P : Program) (d : Nat) (v : Value) : XH P :=
 xAt P (ziU d) (fun n o x => asO n o.dst v x) (fun n o x => asH n o.dst v x)
  (by
   intro C S Fp st a w o x hp h u R U e
   unfold ziU at hp
   split at hp
   ·rename_i ho; cases z4p hp; exact zhr h ho e
   ·cases hp)
  (fun n o x => Loc.asO _ _ _ _) (fun n o x => zjr _ _ _ _)
theorem z8w {sz : Nat} {p : Option Addr} {n c : Nat} : X2 sz (.slice p n c) 0 = .slice p n c := by
 have : (0 : Int).toNat = 0 := rfl
 simp only [X2, this, Nat.sub_zero, Nat.zero_mul]
 congr 1
 split
 ·rfl
 ·cases p <;> simp [Addr.add]
def mwK (n : Fr) (dst : Option Nat) (r sz : Nat) (v : Value) (e : Ent) : SM Unit :=
 match e.t with
 | .own (.osl sz' _ _) => if sz' = sz then wrT n dst (.d (.atom (X2 sz v 0))) else zt
 | _ => zt
open Classical in
def mwO (n : Fr) (dst : Option Nat) (r sz : Nat) (v : Value) : SM Unit := if Qe n.pin r = some v then (rdE r >>= fun e => mwK n dst r sz v e) else zt
def mwH (n : Fr) (dst : Option Nat) (r sz : Nat) (v : Value) : HM Unit := Zq (Qe n.pin r = some v) (ya (rdE r >>= fun e => mwK n dst r sz v e))
open Classical in
theorem Loc.mwO (n : Fr) (dst : Option Nat) (r sz : Nat) (v : Value) : Loc (mwO n dst r sz v) := by
 unfold Go.Own.mwO
 refine Loc.ite (Loc.bind (Loc.rdE _) fun e => ?_) Loc.fail
 unfold Go.Own.mwK
 split
 ·exact Loc.ite (Loc.wrT _ _ _) Loc.fail
 ·exact Loc.fail
theorem zhf {P : Program} {C : Ctx} {S : zj} {Fp : Nat → List Nat} {st : St} {a : Act} {w : World} (h : Sim C S Fp [] st a w) {o : Oper} {r sz : Nat} {v : Value} (ho : o.op = .move (.tmp r)) {u : Unit} {R : List Nat} {U : List (Nat × Ent)} (e0 : mwO C.n o.dst r sz v st = some (u, R, U)) : uQ P C o a w (ze U st) := by
 unfold mwO at e0
 split at e0
 ·rename_i hp
  have hs := h.pin r v (qp hp)
  obtain ⟨en, R7, U7, R8, U8, h7, e4, rfl, rfl⟩ := bind_some e0
  obtain ⟨rfl, rfl, rfl⟩ := yh h7
  simp only [ze, List.nil_append] at e4 ⊢
  unfold mwK at e4
  cases ht : (st r).t with
  | own y =>
   cases y with
   | osl sz' tg es =>
    simp only [ht] at e4
    split at e4
    ·rename_i hz
     subst hz
     obtain ⟨p, c, ev, _, _, _⟩ := z2n h ht
     have hvv : v = .slice p es.length c := by rw [← hs, ev]
     obtain ⟨Fp', hs'⟩ := wx h e4 (x := .d (.atom (X2 sz' v 0))) (v := v) (by rw [hvv, z8w]; exact zy.2 ⟨rfl, rfl⟩)
     refine zq ?_ hs'
     have ex : a.eval (.tmp r) = v := hs
     simp [execOp, ho, ex]
    ·exact (z6 e4).elim
   | _ => simp only [ht] at e4; exact (z6 e4).elim
  | _ => simp only [ht] at e4; exact (z6 e4).elim
 ·exact (z6 e0).elim
open Classical in
theorem zjo (n : Fr) (dst : Option Nat) (r sz : Nat) (v : Value) : Snd (mwO n dst r sz v) (mwH n dst r sz v) := uL (zl _)
def ziP (d r : Nat) (o : Oper) : Option Unit := match o.op with | .move (.tmp r') => if o.dst = some d then (if r' = r then some () else none) else none | _ => none
def xMw (P : Program) (d r sz : Nat) (v : Value) : XH P :=
 xAt P (ziP d r) (fun n o _ => mwO n o.dst r sz v) (fun n o _ => mwH n o.dst r sz v)
  (by
   intro C S Fp st a w o q hp h u R U e
   unfold ziP at hp
   split at hp
   ·rename_i ho
    replace hp := z4p hp
    split at hp
    ·rename_i ht; subst ht; exact zhf h ho e
    ·cases hp
   ·cases hp)
  (fun n o q => Loc.mwO _ _ _ _ _) (fun n o q => zjo _ _ _ _ _)
theorem zd1 {C : Ctx} {S : zj} {Fp : Nat → List Nat} {st : St} {a : Act} {w : World} (h : Sim C S Fp [] st a w) {r : Nat} {x : A} (hr : (st r).t = .own (.box x)) : ∃ b, Act.tv a r = .pointer (some ⟨b, 0, none⟩) := by
 have hq := h.ent r
 unfold xu at hq
 simp only [hr] at hq
 obtain ⟨cs, c1, c2, c3⟩ := hq
 simp only [zH] at c1
 obtain ⟨b, ty, l, F', rfl, _⟩ := c1
 exact ⟨b, c3⟩
theorem zeR {P : Program} {n : Fr} {c : Code} {st : St} {Q : Exit → St → Prop} (k : Nat) {v : Value} {y : A} (hk : (st k).t = .own y) (ho : z4o y = true) (hp : Qe n.pin k = some v) (h : v.oneCell' = true → AWP P n c st Q) : AWP P n c st Q := by
 intro rd m df w0 S0 M S Fp a w hc hs
 have hone : (Act.tv a k).oneCell' = true := by
  have q := hs.ent k
  unfold xu at q
  simp only [hk] at q
  obtain ⟨cs, c1, _, hv⟩ := q
  have hcs := Vh ho c1
  rw [hv]
  exact c1.one1 (Vi ho) _ (by have q := List.mem_singleton_self (zN y cs); rwa [← hcs] at q)
 have hv := hs.pin k v (qp hp)
 exact h (by rw [← hv]; exact hone) rd m df w0 S0 M S Fp a w hc hs
def ncK (n : Fr) (dst : Option Nat) (r : Nat) (e : Ent) : SM Unit :=
 match e.t with
 | .own (.box _) => wrT n dst (.als r [] e.er e.ec)
 | _ => zt
open Classical in
def ncO (n : Fr) (dst : Option Nat) (r : Nat) (v : Value) (x : Operand) : SM Unit := do
 let tx ← opnd x
 if tx = .d (.atom v) ∧ Qe n.pin r = some v then (rdE r >>= fun e => ncK n dst r e) else zt
def ncH (n : Fr) (dst : Option Nat) (r : Nat) (v : Value) (x : Operand) : HM Unit := ya (opnd x) >>= fun tx => Zq (tx = .d (.atom v) ∧ Qe n.pin r = some v) (ya (rdE r >>= fun e => ncK n dst r e))
open Classical in
theorem zjm (n : Fr) (dst : Option Nat) (r : Nat) (v : Value) (x : Operand) : Snd (ncO n dst r v x) (ncH n dst r v x) := zh (zl _) fun _ => uL (zl _)
open Classical in
theorem Loc.ncO (n : Fr) (dst : Option Nat) (r : Nat) (v : Value) (x : Operand) : Loc (ncO n dst r v x) := by
 unfold Go.Own.ncO
 refine Loc.bind (Loc.opnd _) fun _ => Loc.ite (Loc.bind (Loc.rdE _) fun e => ?_) Loc.fail
 unfold Go.Own.ncK
 split
 ·exact Loc.wrT _ _ _
 ·exact Loc.fail
theorem zhd {P : Program} {C : Ctx} {S : zj} {Fp : Nat → List Nat} {st : St} {a : Act} {w : World} (h : Sim C S Fp [] st a w) {o : Oper} {r : Nat} {v : Value} {x : Operand} (ho : o.op = .nilCheck x) {u : Unit} {R : List Nat} {U : List (Nat × Ent)} (e0 : ncO C.n o.dst r v x st = some (u, R, U)) : uQ P C o a w (ze U st) := by
 unfold ncO at e0
 obtain ⟨tx, R1, U1, R2, U2, h1, e1, rfl, rfl⟩ := bind_some e0
 obtain ⟨rfl, hx⟩ := zB h h1
 simp only [ze, List.nil_append] at e1 ⊢
 split at e1
 ·rename_i hc
  obtain ⟨rfl, hp⟩ := hc
  have hs := h.pin r v (qp hp)
  obtain ⟨en, R7, U7, R8, U8, h7, e4, rfl, rfl⟩ := bind_some e1
  obtain ⟨rfl, rfl, rfl⟩ := yh h7
  simp only [ze, List.nil_append] at e4 ⊢
  unfold ncK at e4
  cases ht : (st r).t with
  | own y =>
   cases y with
   | box z =>
    simp only [ht] at e4
    obtain ⟨b, ev⟩ := zd1 h ht
    have hvv : v = .pointer (some ⟨b, 0, none⟩) := by rw [← hs, ev]
    have hals : Ze w.heap st (Act.tv a) r [] (st r).er (st r).ec (Act.tv a r) := by
     refine ⟨Nat.le_refl _, Nat.le_refl _, ?_⟩
     simp [ht]
    have hT : TOk S w.heap st (Act.tv a) (.als r [] (st r).er (st r).ec) v := by rw [← hs]; exact hals
    obtain ⟨Fp', hs'⟩ := wx h e4 hT
    refine zq ?_ hs'
    have ex : a.eval x = v := (zy.1 hx).1
    simp [execOp, ho, ex, hvv]
   | _ => simp only [ht] at e4; exact (z6 e4).elim
  | _ => simp only [ht] at e4; exact (z6 e4).elim
 ·exact (z6 e1).elim
def ziN (d : Nat) (o : Oper) : Option Operand := match o.op with | .nilCheck x => if o.dst = some d then some x else none | _ => none
def xNc (P : Program) (d r : Nat) (v : Value) : XH P :=
 xAt P (ziN d) (fun n o x => ncO n o.dst r v x) (fun n o x => ncH n o.dst r v x)
  (by
   intro C S Fp st a w o x hp h u R U e
   unfold ziN at hp
   split at hp
   ·rename_i ho; cases z4p hp; exact zhd h ho e
   ·cases hp)
  (fun n o x => Loc.ncO _ _ _ _ _) (fun n o x => zjm _ _ _ _ _)
def spR (k : Nat) {α ρ : Type} (enc : α → List A) (encR : ρ → A) (F : α → Option ρ) (gives : List Bool) (inj : ∀ x y, enc x = enc y → x = y) : zU := {
 α := α
 k := k
 raw := true
 gives := gives
 enc := enc
 pre := fun x => ∃ r, F x = some r
 f := fun x => match F x with | some r => encR r | none => .dead 0
 inj := by
  intro x y h _ _
  rw [inj x y h] }
theorem zaW {P : Program} {k : Nat} {α ρ : Type} {enc : α → List A} {encR : ρ → A} {F : α → Option ρ} {gives : List Bool} {inj : ∀ x y, enc x = enc y → x = y} (h : ∀ x r, F x = some r → Wn P k (enc x) (encR r)) : (spR k enc encR F gives inj).Ok P := by
 rintro x ⟨r, hr⟩
 have := h x r hr
 simpa only [spR, hr] using this
theorem ziX {k : Nat} {α ρ : Type} {enc : α → List A} {encR : ρ → A} {F : α → Option ρ} {gives : List Bool} {inj : ∀ x y, enc x = enc y → x = y} {x : α} {r : ρ} (hr : F x = some r) {as_ : List A} (ha : as_ = enc x) :
  (VH.add (spR k enc encR F gives inj)).run k ((VH.add (spR k enc encR F gives inj)).norm k as_) = some (encR r) := by
 have h := Ctr.add_has VH (spR k enc encR F gives inj)
 have h1 := h.run x ⟨r, hr⟩
 have h2 : (VH.add (spR k enc encR F gives inj)).raw k = true := h.raw
 unfold Ctr.norm
 rw [h2, ha]
 refine Eq.trans h1 ?_
 simp only [spR, hr]
theorem zeD {k : Nat} {α ρ : Type} {enc : α → List A} {encR : ρ → A} {F : α → Option ρ} {gives : List Bool} {inj : ∀ x y, enc x = enc y → x = y} : (VH.add (spR k enc encR F gives inj)).lend k = none ∧ (VH.add (spR k enc encR F gives inj)).gives k = gives := ⟨(Ctr.add_has VH _).lend, (Ctr.add_has VH _).gives⟩
section
variable {α : Type}
def eFl (sz : Nat) (f : α → A) (x : List α × Bool) : A := .sl sz x.2 (x.1.map f)
instance (sz : Nat) (f : α → A) : z6N (eFl sz f) (eFl sz f) := ⟨fun _ => rfl, fun _ => rfl⟩
theorem flL (sz : Nat) (tg : Bool) (f : α → A) (l : List (List α)) : (l.map fun x => (x, tg)).map (eFl sz f) = l.map (eSl sz tg f) := by
 rw [List.map_map]; rfl
theorem flE {sz : Nat} {f : α → A} {l : List (List α × Bool)} (h : ∀ x ∈ l, x.2 = true) : l.map (eFl sz f) = (l.map (·.1)).map (eSl sz true f) := by
 rw [List.map_map]
 exact List.map_congr_left fun x hx => by simp [eFl, eSl, h x hx]
instance LeA.flO (s t : Nat) (tg : Bool) (b : Bool) (f : α → A) (l : List (List α)) : LeA (eOs s b (eSl t tg f) l) (eOs s b (eFl t f) (l.map fun x => (x, tg))) := by
 unfold eOs; rw [flL]; infer_instance
theorem flA {s t : Nat} {b : Bool} {f : α → A} {l : List (List α × Bool)} (h : ∀ x ∈ l, x.2 = true) : LeA (eSl s b (eFl t f) l) (eSl s b (eSl t true f) (l.map (·.1))) := by
 unfold eSl; rw [flE h]; exact LeA.refl _
end
theorem VD {S : zj} {h : Array Obj} {F : List Nat} (hF : ∀ k ∈ F, ∀ o, S k o = none) : ∀ b o u, S b o = some u → ye S h F b o = some u := by
 intro b o u hs
 unfold ye
 rw [if_neg (fun q => by rw [hF b q o] at hs; cases hs)]
 exact hs
theorem Sim.sealX {C : Ctx} {S : zj} {Fp : Nat → List Nat} {F : List Nat} {st : St} {a : Act} {w : World} (h : Sim C S Fp (F ++ []) st a w) (hF : ∀ k ∈ F, ∀ o, S k o = none) : Sim C (ye S w.heap F) Fp [] st a w := by
 refine h.mem h.below (VD hF) ?_ ?_ ?_ (by simp) (by simp) (by simp)
 ·intro b o v q
  unfold ye at q
  split at q
  ·exact q
  ·exact h.still b o v q
 ·intro b o hb
  unfold ye
  rw [if_neg (fun q => hb (h.xb b (by simpa using q)))]
  exact h.sbase b o hb
 ·intro t k hk
  refine ⟨rfl, fun o => ?_⟩
  unfold ye
  rw [if_neg (fun q => h.xd t k (by simpa using q) hk)]
  exact (h.free t k hk).2.1 o
mutual
theorem A.live_isD : ∀ {a : A}, a.isD = true → a.live = true
 | .atom _, _ => rfl
 | .fn _ _, _ => rfl
 | .agg fs, h => by simp only [A.isD] at h; simp only [A.live]; exact A.lives_areD h
 | .sl _ _ _, _ => rfl
 | .sptr _, _ => rfl
 | .tup _, h => by simp [A.isD] at h
 | .osl _ _ _, h => by simp [A.isD] at h
 | .box _, h => by simp [A.isD] at h
 | .dead _, h => by simp [A.isD] at h
 | .opq _, h => by simp [A.isD] at h
theorem A.lives_areD : ∀ {as_ : List A}, A.areD as_ = true → A.lives as_ = true
 | [], _ => rfl
 | a :: as_, h => by
  simp only [A.areD, Bool.and_eq_true] at h
  simp only [A.lives, A.live_isD h.1, A.lives_areD h.2, Bool.and_self]
end
theorem A.areD_app : ∀ {as_ bs : List A}, A.areD as_ = true → A.areD bs = true → A.areD (as_ ++ bs) = true
 | [], _, _, h => h
 | a :: as_, bs, h1, h2 => by
  simp only [A.areD, Bool.and_eq_true] at h1
  simp only [List.cons_append, A.areD, Bool.and_eq_true]
  exact ⟨h1.1, A.areD_app h1.2 h2⟩
def zhs (tt : TT) (t sz : Nat) : Bool :=
 match tt t with
 | some ⟨.slice e, _, _, _, _⟩ => match tt e with | some i => sz == i.size && decide (i.bytes ≤ 4096) && decide (0 < i.size) && i.zero.isSome | none => false
 | _ => false
def apO (tt : TT) (n : Fr) (dst : Option Nat) (t : Nat) (s x : Operand) : SM Unit := do
 let ts ← opnd s
 let tx ← opnd x
 match ts, tx with
 | .d (.sl sz tg es), .d (.sl sz2 _ ys) => if zhs tt t sz = true ∧ sz2 = sz ∧ tg = true ∧ es.length + ys.length ≤ lim ∧ A.areD es = true ∧ A.areD ys = true then wrT n dst (.d (.sl sz false (es ++ ys))) else zt
 | _, _ => zt
def apH (tt : TT) (n : Fr) (dst : Option Nat) (t : Nat) (s x : Operand) : HM Unit := ya (opnd s) >>= fun ts => ya (opnd x) >>= fun tx =>
 match ts, tx with
 | .d (.sl sz tg es), .d (.sl sz2 _ ys) => if zhs tt t sz = true ∧ sz2 = sz ∧ tg = true then Zq (es.length + ys.length ≤ lim ∧ A.areD es = true ∧ A.areD ys = true) (eqL (es ++ ys) >>= fun zs => ya (wrT n dst (.d (.sl sz false zs)))) else zG
 | _, _ => zG
theorem zjs (tt : TT) (n : Fr) (dst : Option Nat) (t : Nat) (s x : Operand) : Snd (apO tt n dst t s x) (apH tt n dst t s x) := by
 refine zh (zl _) fun ts => zh (zl _) fun tx => ?_
 split
 ·refine JB (fun h1 h2 => ⟨h1.1, h1.2.1, h1.2.2, h2.1, h2.2.1, h2.2.2⟩) ?_
  exact VB (zT _ fun zs => wrT n dst (.d (.sl _ false zs))).symm (zh (z6u _) fun _ => zl _)
 ·exact zr _
theorem Loc.apO (tt : TT) (n : Fr) (dst : Option Nat) (t : Nat) (s x : Operand) : Loc (apO tt n dst t s x) := by
 unfold Go.Own.apO
 refine Loc.bind (Loc.opnd _) fun _ => Loc.bind (Loc.opnd _) fun _ => ?_
 split
 ·exact Loc.ite (Loc.wrT _ _ _) Loc.fail
 ·exact Loc.fail
theorem zht {P : Program} {tt : TT} (hT : w4 P tt) {C : Ctx} {S : zj} {Fp : Nat → List Nat} {st : St} {a : Act} {w : World} (h : Sim C S Fp [] st a w) {o : Oper} {t : Nat} {s x : Operand} (ho : o.op = .call { callee := .builtin .append, args := #[s, x], argTypes := #[t, t] }) {u : Unit} {R : List Nat} {U : List (Nat × Ent)} (e0 : apO tt C.n o.dst t s x st = some (u, R, U)) : uQ P C o a w (ze U st) := by
 unfold apO at e0
 obtain ⟨ts, R1, U1, R2, U2, h1, e1, rfl, rfl⟩ := bind_some e0
 obtain ⟨rfl, hs⟩ := zB h h1
 obtain ⟨tx, R3, U3, R4, U4, h3, e2, rfl, rfl⟩ := bind_some e1
 obtain ⟨rfl, hx⟩ := zB h h3
 simp only [ze, List.nil_append] at e2 ⊢
 split at e2
 ·rename_i sz tg es sz2 tg2 ys
  split at e2
  ·rename_i hc
   obtain ⟨c1, rfl, rfl, c4, c5, c6⟩ := hc
   obtain ⟨el, i, hel, hi, hsz, c3, cz, c7⟩ : ∃ el i, P.underlying t = some (.slice el) ∧ tt el = some i ∧ sz2 = i.size ∧ i.bytes ≤ 4096 ∧ 0 < i.size ∧ i.zero.isSome = true := by
    unfold zhs at c1
    split at c1
    ·rename_i e _ _ _ _ ht
     split at c1
     ·rename_i i hi
      simp only [Bool.and_eq_true, beq_iff_eq, decide_eq_true_eq] at c1
      exact ⟨e, i, (hT _ _ ht).kind, hi, c1.1.1.1, c1.1.1.2, c1.1.2, c1.2⟩
     ·cases c1
    ·cases c1
   obtain ⟨f, f1, f2, f3, f4⟩ := (hT _ _ hi).info
   obtain ⟨z0, hz0⟩ := Option.isSome_iff_exists.1 c7
   obtain ⟨zv, v1, v2, v3⟩ := f4 z0 hz0
   have hzs : zv.cells.size = f.size := by
    have := (v3 (fun _ _ => none) #[]).len
    rw [v2, ← f2] at this
    simpa using this
   have hs' : w5 S (.sl sz2 true es) (a.eval s) := hs
   have hx' : w5 S (.sl sz2 tg2 ys) (a.eval x) := hx
   obtain ⟨p, d, news, ev, r1, r2, r3⟩ := Uu (y := .sl sz2 tg2 ys) h (.inl ⟨tg2, rfl⟩) c6 (.inl hx')
   have fin : ∀ v w', (Builtin.append_ #[t, t] o.type #[a.eval s, a.eval x]).run P w = .ok v w' → (execOp a.eval o).run P w = .ok (.value v) w' := by
    intro v w' hrun
    simp [execOp, ho, resolve, invoke, builtin, hrun]
   simp only [w5] at hs'
   obtain ⟨cs, q1, q2⟩ := hs'
   simp only [Rep] at q1
   obtain ⟨pp, c, rfl, t1, t2, t3, t4⟩ := q1
   have hcl := t1 trivial
   subst hcl
   have es1 : a.eval s = .slice pp es.length es.length := q2
   by_cases hne : ys = []
   ·subst hne
    obtain ⟨Fp', hs2⟩ := wx h e2 (x := .d (.sl sz2 false (es ++ []))) (v := .slice pp es.length es.length) (by
     simp only [TOk, w5, List.append_nil]
     refine ⟨[.slice pp es.length es.length], ?_, rfl⟩
     simp only [Rep]
     exact ⟨pp, _, rfl, by simp, Nat.le_refl _, t3, t4⟩)
    refine zq (fin _ _ ?_) hs2
    rw [es1, ev]
    exact Ye hel f1 pp p es.length es.length d (Nat.le_refl _) w
   ·have hpos : 0 < ys.length := List.length_pos_iff.2 hne
    rcases r3 with ⟨hy, _⟩ | ⟨ad, rfl, hnews⟩
    ·exact absurd hy hne
    subst hsz
    rw [← f2] at t3 r2 e2
    have hold : ∃ olds, yc S es olds ∧ ((pp = none ∧ es = [] ∧ es.length = 0) ∨ ∃ b, pp = some b ∧ ∀ j v, olds[j]? = some v → w.cell? (b.add j) = some v) := by
     rcases t4 with rfl | ⟨b, o', l, rfl, k1, k2⟩
     ·cases pp with
      | none => exact ⟨[], by simp [yc], .inl ⟨rfl, rfl, rfl⟩⟩
      | some b => exact ⟨[], by simp [yc], .inr ⟨b, rfl, by simp⟩⟩
     ·exact ⟨l, k1, .inr ⟨_, rfl, KP h k2⟩⟩
    obtain ⟨olds, n1, n2⟩ := hold
    have h' : Sim C S Fp ([] ++ []) st a w := by simpa using h
    obtain ⟨v, w', hrun, F', m1, m2, cs', m3, rfl⟩ := kD (ty := o.type) hel f1 v1 hzs h' (n1.concs w.heap) (by simp) (r1.concs w.heap) t3 r2 n2 (d := d) hnews (by omega) c4 (by omega) hpos
    have hF : ∀ k ∈ F', ∀ o, S k o = none := fun k hk => (m3.own k hk).2.1
    have hs3 := m1.sealX hF
    have hD : A.areD (es ++ ys) = true := A.areD_app c5 c6
    have hrep := m3.shut (VD hF) (by simp only [A.live]; exact A.lives_areD hD) (fun k hk o => by unfold ye; rw [if_pos hk])
    simp only [A.shut] at hrep
    rw [A.shuts_areD hD] at hrep
    obtain ⟨Fp'', hs'⟩ := wx hs3 e2 (x := .d (.sl f.size false (es ++ ys))) (v := zN (.osl f.size false (es ++ ys)) cs') (by
     simp only [TOk, w5]
     exact ⟨cs', hrep, rfl⟩)
    exact zq (fin _ _ (by rw [es1, ev]; exact hrun)) hs'
  ·exact (z6 e2).elim
 ·exact (z6 e2).elim
def zgI (d : Nat) (o : Oper) : Option (Nat × Operand × Operand) := match o.op with | .call ⟨.builtin .append, ⟨[s, x]⟩, ⟨[t, t']⟩⟩ => if o.dst = some d then (if t' = t then some (t, s, x) else none) else none | _ => none
def xAp {P : Program} {tt : TT} (hT : w4 P tt) (d : Nat) : XH P :=
 xAt P (zgI d) (fun n o q => apO tt n o.dst q.1 q.2.1 q.2.2) (fun n o q => apH tt n o.dst q.1 q.2.1 q.2.2)
  (by
   intro C S Fp st a w o q hp h u R U e
   unfold zgI at hp
   split at hp
   ·rename_i ho
    replace hp := z4p hp
    split at hp
    ·rename_i ht; subst ht; cases hp; exact zht hT h ho e
    ·cases hp
   ·cases hp)
  (fun n o q => Loc.apO _ _ _ _ _ _) (fun n o q => zjs _ _ _ _ _ _)
theorem apM {α : Type} (f : α → A) [z2X f] {l m : List α} (h : l.length + m.length ≤ 4294967296) : (l.map f).length + (m.map f).length ≤ lim ∧ A.areD (l.map f) = true ∧ A.areD (m.map f) = true := ⟨by simpa [lim] using h, dM f l, dM f m⟩
theorem zaf {P : Program} {tt : TT} {k : Nat} {fn : Func} {body : Code} {nt t : Nat} (is : List Nat) {args caps xs : List A} {vals : List Value} {r : A} {ys : List A} (hT : w4 P tt) (hf : P.funcs[k]? = some fn) (hnm : (fn.name == "runtime.NumGoroutine") = false) (hb : fn.body = some body)
  (hn : nt = fn.ntmps) (hr : fn.results = #[.tmp t]) (ha : (args ++ caps).length ≤ fn.ntmps) (hnd : is.Nodup) (hbase : is.map (fun i => (args ++ caps)[i]?) = vals.map (fun v => some (.atom v))) (hl : xs.length = vals.length) (hrd : r.isD = true) (hrn : Xm tt 0 r = r)
  (h : ∀ E : Exit → St → Prop, (∀ ex st, (ex = .normal ∨ ex = .ret) → (∀ p ∈ is.zip ys, (st p.1).t = .own p.2) → (st t).t = .d r → E ex st) →
   AWP P ⟨nt, is.zip vals⟩ body (ofL (z6S 0 (Ux (args ++ caps) is xs))) (Qf P ⟨nt, is.zip vals⟩ [] E)) (hy : is.length = ys.length) : vZ P (.fn k caps) args (vals.zip xs) r ys := by
 subst hn
 refine z09 (tt := tt) (rs := [(t, none)]) is hT hf hnm hb hr ha hnd hbase hl ?_
 rw [z3W]
 refine h _ ?_
 intro ex st hx hc hrt
 refine ⟨hx, ?_⟩
 have h2 := z02 hy hc
 have hop : opnd (.tmp t) st = some (.d r, [t], []) := by
  simp only [opnd, hrt, bind, SM.bind, rdE, pure, SM.pure, ze, List.append_nil]
 have hsh : shutT tt 0 (.d r) st = some (r, [], []) := by
  have : shutT tt 0 (.d r) = pure r := by
   cases r <;> first | (simp [A.isD] at hrd; done) | (simp only [shutT, hrn, A.shut_isD hrd]) | skip
  rw [this]; rfl
 have h1 : shutArgs tt [(Operand.tmp t, 0)] st = some ([r], [t], []) := by
  simp only [shutArgs, bind, SM.bind, hop, ze, hsh, pure, SM.pure, List.append_nil, List.nil_append]
 refine ⟨[t] ++ (is ++ []), [], ?_⟩
 simp only [zeI, List.map_cons, List.map_nil, bind, SM.bind, h1, ze, h2, jD, Option.map_some, pure, SM.pure, zgY, List.append_nil, List.nil_append]
theorem zjH {live : List Nat} {st : St} {l : List (Nat × T)} (hc : canon live st = ofL l) {k : Nat} {y : A} (hk : live.contains k = true) (hy : (ofL l k).t = .d y) : (st k).t = .d y := by
 have := congrFun hc k
 rw [ZS, if_pos (List.contains_iff_mem.1 hk)] at this
 rw [← this] at hy
 unfold z97 at hy
 cases hx : (st k).t with
 | als r p er ec => simp only [hx] at hy; split at hy <;> cases hy
 | ptr r p er ec => simp only [hx] at hy; split at hy <;> cases hy
 | own a => simp only [hx] at hy; cases hy
 | d a => simpa only [hx] using hy
 | gone => simp only [hx] at hy; cases hy
def VG (x : List UInt8) : A := .atom (.string ⟨x.toArray⟩)
def u8s (l : List Int) : List UInt8 := l.map fun n => UInt8.ofNat n.toNat
def Wm : List A → Option (List Int)
 | [] => some []
 | .atom (.int .u8 n) :: as_ => (Wm as_).map (n :: ·)
 | _ => none
theorem z1H : ∀ l : List Int, Wm (l.map (eI .u8)) = some l
 | [] => rfl
 | n :: l => by simp only [List.map_cons, eI, Wm]; rw [show l.map (eI .u8) = l.map (eI .u8) from rfl]; simp only [z1H l, Option.map_some]
theorem z0s {S : zj} : ∀ {as_ : List A} {ns : List Int} {cs : List Value}, Wm as_ = some ns → yc S as_ cs → cs = ns.map (Value.int .u8) ∧ as_.length = ns.length
 | [], ns, cs, h, r => by simp only [Wm, Option.some.injEq] at h; subst h; simp only [yc] at r; subst r; exact ⟨rfl, rfl⟩
 | a :: as_, ns, cs, h, r => by
  unfold Wm at h
  split at h
  ·cases ‹_ = []›
  ·rename_i n as' e
   cases e
   obtain ⟨ms, h1, rfl⟩ := Option.map_eq_some_iff.1 h
   simp only [yc] at r
   obtain ⟨c1, c2, rfl, r1, r2⟩ := r
   simp only [Rep] at r1
   obtain ⟨q1, q2⟩ := z0s h1 r2
   obtain ⟨rfl, _⟩ := r1
   subst q1
   exact ⟨rfl, by simp [q2]⟩
  ·cases h
theorem z6e : ∀ {as_ : List A} {ns : List Int}, Wm as_ = some ns → A.areD as_ = true
 | [], _, _ => rfl
 | a :: as_, ns, h => by
  unfold Wm at h
  split at h
  ·cases ‹_ = []›
  ·rename_i n as' e
   cases e
   obtain ⟨ms, h1, rfl⟩ := Option.map_eq_some_iff.1 h
   simp only [A.areD, A.isD, z6e h1, Bool.and_self]
  ·cases h
theorem z1r : ∀ (ns : List Int) (s : List UInt8), ns.foldl (fun r n => r.push (UInt8.ofNat n.toNat)) (⟨s.toArray⟩ : ByteArray) = ⟨(s ++ u8s ns).toArray⟩
 | [], s => by simp [u8s]
 | n :: ns, s => by
  rw [List.foldl_cons]
  have : (⟨s.toArray⟩ : ByteArray).push (UInt8.ofNat n.toNat) = ⟨(s ++ [UInt8.ofNat n.toNat]).toArray⟩ := by simp [ByteArray.push]
  rw [this, z1r ns]
  simp [u8s]
def zgM (P : Program) (s d : Nat) : Prop := ∃ e, P.underlying s = some (.slice e) ∧ P.underlying e = some (.int .u8) ∧ P.underlying d = some .string
theorem zbX {P : Program} {s d e : Nat} (h1 : P.underlying s = some (.slice e)) (h2 : P.underlying e = some (.int .u8)) (h3 : P.underlying d = some .string) : zgM P s d := ⟨e, h1, h2, h3⟩
def strO (n : Fr) (dst : Option Nat) (x : Operand) : SM Unit := do
 let tx ← opnd x
 let y ← peek tx
 match y with
 | .sl _ _ ys | .osl _ _ ys => ofO ((Wm ys).map fun ns => VG (u8s ns)) >>= fun r => wrT n dst (.d r)
 | _ => zt
def ziB (n : Fr) (dst : Option Nat) (x : Operand) : HM Unit := ya (opnd x) >>= fun tx => z2i tx >>= fun y =>
 match y with
 | .sl _ _ ys | .osl _ _ ys => z6K ((Wm ys).map fun ns => VG (u8s ns)) >>= fun r => ya (wrT n dst (.d r))
 | _ => zG
theorem zh0 (n : Fr) (dst : Option Nat) (x : Operand) : Snd (strO n dst x) (ziB n dst x) := by
 refine zh (zl _) fun tx => zh (Jg _) fun y => ?_
 cases y with
 | sl sz t ys => exact zh (Ji _) fun _ => zl _
 | osl sz t ys => exact zh (Ji _) fun _ => zl _
 | _ => exact zr _
theorem Loc.strO (n : Fr) (dst : Option Nat) (x : Operand) : Loc (strO n dst x) := by
 unfold Go.Own.strO
 refine Loc.bind (Loc.opnd _) fun _ => Loc.bind (Loc.peek _) fun _ => ?_
 split
 ·exact Loc.bind (Loc.ofO _) fun _ => Loc.wrT _ _ _
 ·exact Loc.bind (Loc.ofO _) fun _ => Loc.wrT _ _ _
 ·exact Loc.fail
theorem zdZ {P : Program} {C : Ctx} {S : zj} {Fp : Nat → List Nat} {st : St} {a : Act} {w : World} (h : Sim C S Fp [] st a w) {o : Oper} {s t : Nat} {x : Operand} (hs : zgM P s t) (ho : o.op = .convert s t x) {u : Unit} {R : List Nat} {U : List (Nat × Ent)} (e0 : strO C.n o.dst x st = some (u, R, U)) : uQ P C o a w (ze U st) := by
 unfold strO at e0
 obtain ⟨tx, R1, U1, R2, U2, h1, e1, rfl, rfl⟩ := bind_some e0
 obtain ⟨rfl, hx⟩ := zB h h1
 obtain ⟨y, R3, U3, R4, U4, h3, e2, rfl, rfl⟩ := bind_some e1
 obtain ⟨rfl, q⟩ := WW h hx h3
 simp only [ze, List.nil_append] at e2 ⊢
 obtain ⟨el, k1, k2, k3⟩ := hs
 have main : ∀ (sz : Nat) (ys : List A), ((∃ tg, y = .sl sz tg ys) ∨ ∃ tg, y = .osl sz tg ys) → (ofO ((Wm ys).map fun ns => VG (u8s ns)) >>= fun r => wrT C.n o.dst (.d r)) st = some (u, R4, U4) → uQ P C o a w (ze U4 st) := by
  intro sz ys hy e3
  obtain ⟨r, R5, U5, R6, U6, h5, e4, rfl, rfl⟩ := bind_some e3
  obtain ⟨hm, rfl, rfl⟩ := uM h5
  simp only [ze, List.nil_append] at e4 ⊢
  obtain ⟨ns, hn, rfl⟩ := Option.map_eq_some_iff.1 hm
  obtain ⟨p, d, news, ev, r1, r2, r3⟩ := Uu h hy (z6e hn) q
  obtain ⟨rfl, hl⟩ := z0s hn r1
  obtain ⟨Fp', hs'⟩ := wx h e4 (x := .d (VG (u8s ns))) (v := .string ⟨(u8s ns).toArray⟩) (zy.2 ⟨rfl, rfl⟩)
  refine zq ?_ hs'
  have hrun : (convert s t (a.eval x)).run P w = .ok (.string ⟨(u8s ns).toArray⟩) w := by
   rw [ev, run_convert_bytes_string w s t el p ys.length d k1 k2 k3]
   rcases r3 with ⟨rfl, hnil⟩ | ⟨ad, rfl, hc⟩
   ·have : ns = [] := by simpa using hnil
    subst this
    cases p with
    | none => rfl
    | some ad =>
     rw [run_bytesToString w ad _ d [] (by simpa using run_loadCells_list w ad [] (by simp))]
     rfl
   ·have hlc := run_loadCells_list (P := P) w ad _ hc
    rw [List.length_map, ← hl] at hlc
    rw [run_bytesToString w ad _ d ns hlc]
    have := z1r ns []
    simp only [List.nil_append] at this
    exact congrArg (fun z => Result.ok (Value.string z) w) this
  simp [execOp, ho, hrun]
 cases y with
 | sl sz tg ys => exact main sz ys (.inl ⟨tg, rfl⟩) e2
 | osl sz tg ys => exact main sz ys (.inr ⟨tg, rfl⟩) e2
 | _ => exact (z6 e2).elim
def zey (s t : Nat) (o : Oper) : Option Operand := match o.op with | .convert s' t' x => if s' = s ∧ t' = t then some x else none | _ => none
def zjd (P : Program) {s t : Nat} (hs : zgM P s t) : XH P :=
 xAt P (zey s t) (fun n o x => strO n o.dst x) (fun n o x => ziB n o.dst x)
  (by
   intro C S Fp st a w o x hp h u R U e
   unfold zey at hp
   split at hp
   ·rename_i ho
    split at hp
    ·rename_i ht; obtain ⟨rfl, rfl⟩ := ht; cases hp; exact zdZ h hs ho e
    ·cases hp
   ·cases hp)
  (fun n o x => Loc.strO _ _ _) (fun n o x => zh0 _ _ _)
theorem stM (l : List Int) : ((Wm (l.map (eI .u8))).map fun ns => VG (u8s ns)) = some (VG (u8s l)) := by rw [z1H]; rfl
def z2o : A → Bool
 | .atom (.string _) => true
 | _ => false
theorem Xl {a : A} (h : z2o a = true) : ∃ x, a = .atom (.string x) := by
 unfold z2o at h
 split at h
 ·exact ⟨_, rfl⟩
 ·cases h
instance : zj7 (K := List UInt8) VG := ⟨fun x y => by
 simp only [VG, z0b, z5V, Option.map_some, Option.some.injEq, zN, List.headD_cons, Value.string.injEq, ByteArray.mk.injEq, beq_iff_eq]
 constructor
 ·intro h; simpa using congrArg Array.toList h
 ·rintro rfl; rfl⟩
theorem z8J (x y : ByteArray) : (x == y) = true ↔ x = y := by
 cases x; cases y
 rw [ByteArray.mk.injEq]
 rename_i a b
 show (a == b) = true ↔ a = b
 exact beq_iff_eq
theorem za7 {P : Program} {t kt et : Nat} {z : A} (hu : P.underlying t = some (.map kt et)) (hk : P.underlying kt = some .string) (hz : ∃ zv, (∀ w, (zeroValue et).run P w = .ok zv w) ∧ ∀ S, vT S z zv) (zd : z.isD = true) : zda P t kt et z2o z := {
 und := hu
 zero := hz
 zd := zd
 key := fun a h => by obtain ⟨x, rfl⟩ := Xl h; exact ⟨_, rfl⟩
 check := fun a kv e w h hv => by
  obtain ⟨x, rfl⟩ := Xl h
  cases hv
  show (Instr.checkKey e (9999 + 1) kt _).run P w = _
  generalize 9999 = q
  unfold Instr.checkKey
  simp only [Sem.run_bind, run_underlying hk, Result.andThen_ok]
  simp
 bits := fun a kv h hv => by
  obtain ⟨x, rfl⟩ := Xl h
  cases hv
  simp [zN, Instr.sameBits, (z8J x x).2 rfl]
 find := fun a kv h hv ents es hes hall w => by
  obtain ⟨x, rfl⟩ := Xl h
  cases hv
  have gen : ∀ (ents : List MapEntry) (es : List (A × A)) (i : Nat), (∀ p ∈ es, z2o p.1 = true) → Zx (fun p (e : MapEntry) => z0b p.1 = some e.key) es ents → Instr.findNow .string (.string x) ents i = some (z0l (.string x) ents i) := by
   intro ents
   induction ents with
   | nil => intro es i _ _; rfl
   | cons e ents ih =>
    intro es i h1 h2
    cases es with
    | nil => exact h2.elim
    | cons p es =>
     obtain ⟨y, hy⟩ := Xl (h1 p (by simp))
     have hk2 : e.key = .string y := by
      have : z0b p.1 = some e.key := h2.1
      rw [hy] at this
      simp only [z0b, z5V, Option.map_some, Option.some.injEq, zN, List.headD_cons] at this
      exact this.symm
     simp only [Instr.findNow, z0l, hk2, Instr.sameNow, Value.string.injEq]
     by_cases hxy : x = y
     ·subst hxy; rw [(z8J x x).2 rfl]; simp
     ·rw [if_neg (Ne.symm hxy), show (x == y) = false by cases hb : x == y with | false => rfl | true => exact absurd ((z8J x y).1 hb) hxy]
      exact ih es (i + 1) (fun p hp => h1 p (by simp [hp])) h2.2
  simp only [Instr.findKey, Sem.run_bind, run_underlying hk, Result.andThen_ok, zN, List.headD_cons, gen ents es 0 hes hall, Sem.run_pure] }
section
variable {α : Type}
instance SzA.opS {β : Type} (s s' : Nat) (b b' : Bool) (f : α → A) (g : β → A) (l : List α) (l' : List β) : SzA (eOs s b f l) (eOs s' b' g l') := ⟨rfl⟩
end
theorem Sim.retag {C : Ctx} {S : zj} {Fp : Nat → List Nat} {st : St} {a : Act} {w : World} (h : Sim C S Fp [] st a w) (k : Nat) (x y : A) (hx : (st k).t = .own x) (hl : LeA x y) : Sim C S Fp [] (upd st k ⟨.own y, (st k).er + 1, (st k).ec + 1⟩) a w := by
 refine { size := h.size, pin := h.pin, defers := h.defers, below := h.below, mine := h.mine, still := h.still, sinc := h.sinc, sbase := h.sbase, ent := ?_, disj := h.disj, base := h.base, xn := h.xn, xd := h.xd, xb := h.xb }
 intro t
 have q := h.ent t
 by_cases ht : t = k
 ·subst ht
  rw [jo]
  unfold xu at q ⊢
  simp only [hx] at q ⊢
  obtain ⟨cs, q1, q2, q3⟩ := q
  exact ⟨cs, hl.conc _ _ _ _ q1, q2, by rw [← hl.val]; exact q3⟩
 ·rw [Wj _ _ ht]
  unfold xu at q ⊢
  have als : ∀ {r p er' ec' v}, Ze w.heap st (Act.tv a) r p er' ec' v → Ze w.heap (upd st k ⟨.own y, (st k).er + 1, (st k).ec + 1⟩) (Act.tv a) r p er' ec' v := by
   intro r p er' ec' v q
   by_cases hr : r = k
   ·subst hr
    obtain ⟨q1, q2, q3⟩ := q
    unfold Ze
    rw [jo]
    refine ⟨Nat.le_succ_of_le q1, Nat.le_succ_of_le q2, ?_⟩
    simp only
    intro e1
    omega
   ·unfold Ze
    rw [Wj _ _ hr]
    exact q
  have ptr : ∀ {r p er' ec' v}, ka w.heap st (Act.tv a) r p er' ec' v → ka w.heap (upd st k ⟨.own y, (st k).er + 1, (st k).ec + 1⟩) (Act.tv a) r p er' ec' v := by
   intro r p er' ec' v q
   by_cases hr : r = k
   ·subst hr
    obtain ⟨q1, q2, q3⟩ := q
    unfold ka
    rw [jo]
    refine ⟨Nat.le_succ_of_le q1, Nat.le_succ_of_le q2, ?_⟩
    simp only
    intro e1
    omega
   ·unfold ka
    rw [Wj _ _ hr]
    exact q
  cases hz : (st t).t with
  | gone => simp only [hz] at q ⊢; exact q
  | d y => simp only [hz] at q ⊢; exact q
  | own y => simp only [hz] at q ⊢; exact q
  | als r p er' ec' => simp only [hz] at q ⊢; exact ⟨q.1, als q.2⟩
  | ptr r p er' ec' => simp only [hz] at q ⊢; exact ⟨q.1, ptr q.2⟩
theorem uQ.retag {P : Program} {C : Ctx} {o : Oper} {a : Act} {w : World} {st1 : St} (hg : uQ P C o a w st1) (k : Nat) (x y : A) (hx : (st1 k).t = .own x) (hl : LeA x y) : uQ P C o a w (upd st1 k ⟨.own y, (st1 k).er + 1, (st1 k).ec + 1⟩) :=
 fun r m K Q hk => hg r m K Q fun S Fp a' w' hs => hk S Fp a' w' (hs.retag k x y hx hl)
def rtM (y : T) : Option (Nat × Bool × Nat × List A) := match y with | .own (.osl z b [.osl s true l]) => some (z, b, s, l) | _ => none
theorem z9S {y : T} {q : Nat × Bool × Nat × List A} (h : rtM y = some q) : y = .own (.osl q.1 q.2.1 [.osl q.2.2.1 true q.2.2.2]) := by
 unfold rtM at h
 split at h
 ·cases h; rfl
 ·cases h
def nbO (tt : TT) (n : Fr) (dst : Option Nat) (d t len : Nat) (ps : List (Nat × Operand)) : SM Unit :=
 j6 tt n dst t len ps >>= fun _ => rdE d >>= fun e => ofO (rtM e.t) >>= fun q => wrE d ⟨.own (.osl q.1 false [.osl q.2.2.1 false q.2.2.2]), e.er + 1, e.ec + 1⟩
def nbH (tt : TT) (n : Fr) (dst : Option Nat) (d t len : Nat) (ps : List (Nat × Operand)) : HM Unit :=
 W4 tt n dst t len ps >>= fun _ => ya (rdE d) >>= fun e => ya (ofO (rtM e.t)) >>= fun q => ya (wrE d ⟨.own (.osl q.1 false [.osl q.2.2.1 false q.2.2.2]), e.er + 1, e.ec + 1⟩)
theorem zjn (tt : TT) (n : Fr) (dst : Option Nat) (d t len : Nat) (ps : List (Nat × Operand)) : Snd (nbO tt n dst d t len ps) (nbH tt n dst d t len ps) :=
 zh (Jh _ _ _ _ _ _) fun _ => zh (zl _) fun _ => zh (zl _) fun _ => zl _
theorem Loc.nbO (tt : TT) (n : Fr) (dst : Option Nat) (d t len : Nat) (ps : List (Nat × Operand)) : Loc (nbO tt n dst d t len ps) :=
 Loc.bind (by have q := Loc.stepO tt VH n ⟨dst, .buildSlice t len ⟨ps⟩, 0, default, default, none⟩; exact q) fun _ => Loc.bind (Loc.rdE _) fun _ => Loc.bind (Loc.ofO _) fun _ => Loc.wrE _ _
section
variable {C : Ctx} {S : zj} {Fp : Nat → List Nat} {st : St} {a : Act} {w : World}
theorem zhe {P : Program} {tt : TT} (hT : w4 P tt) (h : Sim C S Fp [] st a w) {o : Oper} {d t len : Nat} {ps : Array (Nat × Operand)} (ho : o.op = .buildSlice t len ps) {u : Unit} {R : List Nat} {U : List (Nat × Ent)} (e0 : nbO tt C.n o.dst d t len ps.toList st = some (u, R, U)) : uQ P C o a w (ze U st) := by
 obtain ⟨y, R1, U1, R2, U2, h1, e1, rfl, rfl⟩ := bind_some e0
 have g := UN hT h ho h1
 rw [zw]
 generalize ze U1 st = s1 at g e1 ⊢
 obtain ⟨e, R7, U7, R8, U8, h7, e4, rfl, rfl⟩ := bind_some e1
 obtain ⟨rfl, rfl, rfl⟩ := yh h7
 simp only [ze, List.nil_append] at e4 ⊢
 obtain ⟨q, R9, U9, R10, U10, h9, e5, rfl, rfl⟩ := bind_some e4
 obtain ⟨hq, rfl, rfl⟩ := uM h9
 simp only [ze, List.nil_append] at e5 ⊢
 obtain ⟨rfl, rfl⟩ := wW e5
 have ht := z9S hq
 exact g.retag d _ _ ht (@LeA.osl _ _ _ _ (@z31.cons _ _ _ _ (LeA.osl _ _ _ _) ⟨rfl⟩ z31.nil))
end
def ziO (d : Nat) (o : Oper) : Option (Nat × Nat × Array (Nat × Operand)) := match o.op with | .buildSlice t len ps => if o.dst = some d then some (t, len, ps) else none | _ => none
def xNb {P : Program} {tt : TT} (hT : w4 P tt) (d : Nat) : XH P :=
 xAt P (ziO d) (fun n o b => nbO tt n o.dst d b.1 b.2.1 b.2.2.toList) (fun n o b => nbH tt n o.dst d b.1 b.2.1 b.2.2.toList)
  (by
   intro C S Fp st a w o b hp h u R U e
   unfold ziO at hp
   split at hp
   ·rename_i ho; cases z4p hp; exact zhe hT h ho e
   ·cases hp)
  (fun n o b => Loc.nbO _ _ _ _ _ _ _) (fun n o b => zjn _ _ _ _ _ _ _)
abbrev HO := List H × List Ob
def hoH (l : List HO) : List H := List.rec [] (fun x _ r => x.1 ++ r) l
def hoO (l : List HO) : List Prop := List.rec [] (fun x _ r => x.2.map Ob.p ++ r) l
def hoB (l : List HO) : List Ob := List.rec [] (fun x _ r => x.2 ++ r) l
theorem UI (l : List HO) : hoO l = (hoB l).map Ob.p := by
 induction l with
 | nil => rfl
 | cons x l ih =>
  show x.2.map Ob.p ++ hoO l = (x.2 ++ hoB l).map Ob.p
  rw [List.map_append, ih]
def Hq {t b : Bool} (h : t = b) : HO := ([.b b], [ob h])
abbrev qT : HO := Hq (Eq.refl true)
abbrev qF : HO := Hq (Eq.refl false)
def Ha {x y : A} (h : x = y) : HO := ([.a y], [ob h])
def Hs {x : Option A} {y : A} (h : x = some y) : HO := ([.a y], [ob h])
def Hl {x y : List A} (h : x = y) : HO := ([.l y], [ob h])
def Hm {p : Prop} {x y : List A} (h : p ∧ x = y) : HO := ([.l y], [ob h])
def Hx (a : H) {p : Prop} (h : p) : HO := ([a], [ob h])
def Hn {p : Prop} (h : p) : HO := ([], [ob h])
def Hh (a : H) : HO := ([a], [])
def Hi {α : Type} (f : α → A) {l : List α} {i : Int} {u : α} (h : idx l i = some u) : HO := ([.a (f u)], [ob (i0 h), ob (iM f h)])
def Hc {c : Ctr} {k : Nat} {α ρ : Type} {enc : α → List A} {encR : ρ → A} {F : α → Option ρ} {gives : List Bool} {inj : ∀ x y, enc x = enc y → x = y} (h : c.Has (spF k enc encR F gives inj)) {x : α} {r : ρ} (hr : F x = some r) {as_ : List A} (ha : as_.map A.loose = enc x) : HO :=
 ([.g gives, .a (encR r)], [ob (z0i h), ob (z0j h hr ha)])
def Hg {c : Ctr} {k : Nat} {gives : List Bool} (h : c.lend k = none ∧ c.gives k = gives) : HO := ([.g gives], [ob h])
def VV (l : List (Nat × T)) : List Nat := l.map (·.1)
section
variable {P : Program} {tt : TT} {ctr : Ctr} {n : Fr} {Q : Exit → St → Prop}
theorem yE6 (X : XH P) (hT : w4 P tt) (hC : zA P ctr) (hm : P.follows .mixedOrders = true) {E : St → Prop} {r : A} {keep : Bool} {rs : List (Nat × Option Nat)} (hE : ∀ st x R U, z7y tt keep rs st = some (x, R, U) → LeV x r → E st) {c : Code} {fs : List Fm} {st : St} (L : List HO)
  (e : zdf X tt ctr n keep rs 4000 c fs st (hoH L) = some (r, hoO L)) : AWP P n c st (Qf P n fs (z6P E)) :=
 zbk X hT hC hm hE 4000 (hoB L) (by rw [← UI]; exact e) (LeV.refl _)
theorem zj9 (X : XH P) (hT : w4 P tt) (hC : zA P ctr) (hm : P.follows .mixedOrders = true) {E : St → Prop} {r : A} {keep : Bool} {rs : List (Nat × Option Nat)} (hE : ∀ st x R U, z7y tt keep rs st = some (x, R, U) → LeV x r → E st) {c : Code} {fs : List Fm} {st : St} (L : List HO) (x : A) (hle : LeV x r)
  (e : zdf X tt ctr n keep rs 4000 c fs st (hoH L) = some (x, hoO L)) : AWP P n c st (Qf P n fs (z6P E)) :=
 zbk X hT hC hm hE 4000 (hoB L) (by rw [← UI]; exact e) hle
theorem yB6 (X : XH P) (hT : w4 P tt) (hC : zA P ctr) (hm : P.follows .mixedOrders = true) {τ : Type} {J : St → Prop} {live : List Nat} {S : τ → List (Nat × T)} {Inv : τ → Prop} (hJ : ∀ st' l' z, Inv z → canon live st' = ofL l' → LeL l' (S z) → J st') (z : τ) (hz : Inv z) {c : Code} {fs : List Fm} {st : St} (L : List HO)
  (e : z1o X tt ctr n live 4000 c fs st (hoH L) = some (.back J, ofL (S z), hoO L)) : AWP P n c st (Qf P n fs Q) :=
 z8L X hT hC hm live 4000 (hoH L) J (S z) (hoB L) (by rw [← UI]; exact e) fun st0 h0 => hJ st0 _ z hz h0 (LeL.refl _)
theorem zja (X : XH P) (hT : w4 P tt) (hC : zA P ctr) (hm : P.follows .mixedOrders = true) {τ : Type} {J : St → Prop} {live : List Nat} {S : τ → List (Nat × T)} {Inv : τ → Prop} (hJ : ∀ st' l' z, Inv z → canon live st' = ofL l' → LeL l' (S z) → J st') (z : τ) (hz : Inv z) {c : Code} {fs : List Fm} {st : St} (l : List (Nat × T)) (hl : LeL l (S z)) (L : List HO)
  (e : z1o X tt ctr n live 4000 c fs st (hoH L) = some (.back J, ofL l, hoO L)) : AWP P n c st (Qf P n fs Q) :=
 z8L X hT hC hm live 4000 (hoH L) J l (hoB L) (by rw [← UI]; exact e) fun st0 h0 => hJ st0 _ z hz h0 hl
theorem yA6 (X : XH P) (hT : w4 P tt) (hC : zA P ctr) (hm : P.follows .mixedOrders = true) {c : Code} {fs : List Fm} {st : St} (bd : Code) (path : List Nat) (Js : List (St → Prop)) (l : List (Nat × T)) (L : List HO)
  (e : z1o X tt ctr n (VV l) 4000 c fs st (hoH L) = some (.at (sub path bd) (frs path Js bd []), ofL l, hoO L)) (h : AWP P n (sub path bd) (ofL l) (Qf P n (frs path Js bd []) Q)) : AWP P n c st (Qf P n fs Q) :=
 zaM X hT hC hm (VV l) 4000 (hoH L) _ _ l (hoB L) (by rw [← UI]; exact e) fun st0 h0 => z6J h0 h
theorem yL6 (X : XH P) (hT : w4 P tt) (hC : zA P ctr) (hm : P.follows .mixedOrders = true) {c : Code} {fs : List Fm} {st : St} (bd : Code) (path : List Nat) (Js : List (St → Prop)) {σ τ : Type} (f : σ → Option (LR σ τ)) (S : σ → List (Nat × T)) (x0 : σ) {t : τ} (ht : loop f x0 = some t) (l : List (Nat × T)) (hl : LeL l (S x0)) (L : List HO)
  (hk : ∀ x, VV (S x) = VV l)
  (e : z1o X tt ctr n (VV l) 4000 c fs st (hoH L) = some (.at (sub path bd) (frs path Js bd []), ofL l, hoO L))
  (e2 : sub path bd = .loop (sub (path ++ [0]) bd))
  (round : ∀ x m lr, f x = some lr → zgO f m t lr → ∀ J : St → Prop, (∀ st' l' x', Wt f m x' = some t → canon (VV l) st' = ofL l' → LeL l' (S x') → J st') → AWP P n (sub (path ++ [0]) bd) (ofL (S x)) (Qf P n (.pre J :: frs path Js bd []) Q)) : AWP P n c st (Qf P n fs Q) := by
 refine zaM X hT hC hm (VV l) 4000 (hoH L) _ _ l (hoB L) (by rw [← UI]; exact e) fun st0 h0 => ?_
 refine zaK (X := σ × Nat) e2 (VV l) (fun x => Wt f x.2 x.1 = some t) (fun x => x.2) (fun x => S x.1) (x0, Xq) _ h0 hl ht ?_
 rintro ⟨x, k⟩ hx J hJ
 obtain ⟨m, lr, rfl, hf, hr⟩ := zhi hx
 exact round x m lr hf hr J fun st' l' x' h1 h2 h3 => hJ st' l' (x', m) h1 (Nat.lt_succ_self m) h2 h3
theorem yJ6 (X : XH P) (hT : w4 P tt) (hC : zA P ctr) (hm : P.follows .mixedOrders = true) {c : Code} {fs : List Fm} {st : St} (bd : Code) (path : List Nat) (Js : List (St → Prop)) {σ : Type} (live : List Nat) (Inv : σ → Prop) (S : σ → List (Nat × T)) (l : List (Nat × T)) (L : List HO)
  (e : z1o X tt ctr n (VV l) 4000 c fs st (hoH L) = some (.at (sub path bd) (frs path Js bd []), ofL l, hoO L))
  (e2 : sub path bd = .seq (sub (path ++ [2]) bd) (sub (path ++ [1]) bd))
  (h1 : ∀ z, Inv z → AWP P n (sub (path ++ [1]) bd) (ofL (S z)) (Qf P n (frs path Js bd []) Q))
  (h2 : ∀ J : St → Prop, (∀ st' l' z, Inv z → canon live st' = ofL l' → LeL l' (S z) → J st') → AWP P n (sub (path ++ [2]) bd) (ofL l) (Qf P n (.pre J :: frs path Js bd []) Q)) : AWP P n c st (Qf P n fs Q) := by
 refine zaM X hT hC hm (VV l) 4000 (hoH L) _ _ l (hoB L) (by rw [← UI]; exact e) fun st0 h0 => ?_
 exact zaL e2 live (VV l) _ h0 Inv S h1 h2
theorem yF6 (X : XH P) (hT : w4 P tt) (hC : zA P ctr) (hm : P.follows .mixedOrders = true) {c : Code} {fs : List Fm} {st : St} (ex : Exit) (l : List (Nat × T)) (L : List HO)
  (e : z1o X tt ctr n (VV l) 4000 c fs st (hoH L) = some (.fin ex, ofL l, hoO L)) (h : ∀ st0, canon (VV l) st0 = ofL l → Q ex st0) : AWP P n c st (Qf P n fs Q) :=
 zeS X hT hC hm (VV l) 4000 (hoH L) ex l (hoB L) (by rw [← UI]; exact e) h
theorem zjb (X : XH P) (hT : w4 P tt) (hC : zA P ctr) (hm : P.follows .mixedOrders = true) {c : Code} {fs : List Fm} {st : St} (c' : Code) (fs' : List Fm) (l : List (Nat × T)) (L : List HO)
  (e : z1o X tt ctr n (VV l) 4000 c fs st (hoH L) = some (.at c' fs', ofL l, hoO L)) (h : ∀ st0, canon (VV l) st0 = ofL l → AWP P n c' st0 (Qf P n fs' Q)) : AWP P n c st (Qf P n fs Q) :=
 zaM X hT hC hm (VV l) 4000 (hoH L) _ _ l (hoB L) (by rw [← UI]; exact e) h
theorem yO6 {k : Nat} {fn : Func} {r : A} {ls : List A} (hT : w4 P tt) (keep : Bool) (rs : List (Nat × Option Nat)) (body : Code) (nt : Nat) (hf : P.funcs[k]? = some fn) (hb : fn.body = some body) (hn : nt = fn.ntmps) (hr : fn.results = (rs.map z3j).toArray) (hnm : (fn.name == "runtime.NumGoroutine") = false) (ha : Nat.ble ls.length nt = true)
  (h : ∀ E : St → Prop, (∀ st x R U, z7y tt keep rs st = some (x, R, U) → LeV x r → E st) → AWP P ⟨nt, []⟩ body (ofL (z6S 0 ls)) (Qf P ⟨nt, []⟩ [] (z6P E))) : Wn P k ls r := by
 subst hn
 exact zaF (tt := tt) (keep := keep) (rs := rs) (n := ⟨fn.ntmps, []⟩) (body := body) hT hf hnm hb rfl hr (Nat.le_of_ble_eq_true ha) h
end
section
variable {α β γ δ ε ζ η : Type} {f0 : α → A} {f1 : β → A} {f2 : γ → A} {f3 : δ → A} {f4 : ε → A} {f5 : ζ → A} {f6 : η → A}
theorem VX [h0 : uI f0] (x y : α) (h : [f0 x] = [f0 y]) : x = y := by simp only [List.cons.injEq, and_true] at h; exact h0.inj _ _ h
theorem Wu [h0 : uI f0] [h1 : uI f1] (x y : α × β) (h : [f0 x.1, f1 x.2] = [f0 y.1, f1 y.2]) : x = y := by
 simp only [List.cons.injEq, and_true] at h
 exact Prod.ext (h0.inj _ _ h.1) (h1.inj _ _ h.2)
theorem ziV [h0 : uI f0] [h1 : uI f1] [h2 : uI f2] (x y : α × β × γ) (h : [f0 x.1, f1 x.2.1, f2 x.2.2] = [f0 y.1, f1 y.2.1, f2 y.2.2]) : x = y := by
 simp only [List.cons.injEq, and_true] at h
 exact Prod.ext (h0.inj _ _ h.1) (Prod.ext (h1.inj _ _ h.2.1) (h2.inj _ _ h.2.2))
end
def ZG (sz : Nat) (es : List A) (S : zj) (h : Array Obj) (v : Value) (F : List Nat) : Prop :=
  (∀ x ∈ es, x.size = sz) ∧ ∃ p c, v = .slice p es.length c ∧ es.length ≤ c ∧ c ≤ maxLen ∧
    ((es = [] ∧ c = 0 ∧ p = none ∧ F = []) ∨
     ∃ b off arr ty l, p = some ⟨b, off, none⟩ ∧ h[b]? = some (.cells arr ty (0, 0)) ∧ off + c * sz ≤ arr.size ∧ (arr.toList.drop off).take (es.length * sz) = l ∧ yc S es l ∧ F = [b] ∧ ∀ o, S b o = none)
def KT (sz : Nat) (es : List A) : Qh := {
 holds := ZG sz es
 one := by rintro S h v F ⟨_, p, c, rfl, _⟩; rfl
 frame := by
  rintro S S' h h' v F hS hF ⟨h1, p, c, rfl, h2, h3, h4⟩
  refine ⟨h1, p, c, rfl, h2, h3, h4.imp id ?_⟩
  rintro ⟨b, off, arr, ty, l, rfl, k1, k2, k3, k4, rfl, k6⟩
  obtain ⟨f1, f2⟩ := hF b (by simp)
  exact ⟨b, off, arr, ty, l, rfl, by rw [f1]; exact k1, k2, k3, k4.mono hS, rfl, f2⟩
 own := by
  rintro S h v F ⟨h1, p, c, rfl, h2, h3, h4⟩ k hk
  rcases h4 with ⟨_, _, _, rfl⟩ | ⟨b, off, arr, ty, l, rfl, k1, k2, k3, k4, rfl, k6⟩
  ·simp at hk
  ·rw [List.mem_singleton] at hk
   subst hk
   exact ⟨(Array.getElem?_eq_some_iff.1 k1).1, k6⟩
 idx := 0 }
def eDq {α : Type} (sz : Nat) (f : α → A) (l : List α) : A := .opq (KT sz (l.map f)).q
theorem z7N {S : zj} {h : Array Obj} {sz : Nat} {t : Bool} {es : List A} (hd : A.areD es = true) {cs : List Value} {F : List Nat} (q : zH S h (.osl sz t es) cs F) : ∃ v, cs = [v] ∧ ZG sz es S h v F := by
 simp only [zH] at q
 obtain ⟨p, c, rfl, t1, t2, t3, t4, t5⟩ := q
 refine ⟨_, rfl, t4, p, c, rfl, t2, t3, ?_⟩
 rcases t5 with ⟨rfl, rfl, rfl, rfl⟩ | ⟨b, arr, ty, l, F', rfl, k1, k2, k3, k4, rfl, k6⟩
 ·exact .inl ⟨rfl, rfl, rfl, rfl⟩
 ·obtain ⟨r1, rfl⟩ := k4.areD hd
  exact .inr ⟨b, 0, arr, ty, l, rfl, k1, by omega, by simpa using k3, r1, rfl, k6⟩
instance LeA.que {α : Type} (sz : Nat) (t : Bool) (f : α → A) [h : z2X f] (l : List α) : LeA (eOs sz t f l) (eDq sz f l) := {
 rep := fun S cs q => by simp only [eOs, Rep] at q
 conc := fun S hp cs F q => by
  obtain ⟨v, rfl, q2⟩ := z7N (z2R f l h.isD) q
  simp only [eDq, zH]
  exact ⟨v, rfl, q2⟩
 val := fun cs => rfl
 tup := fun _ e => by cases e }
theorem z3A {S : zj} {sz : Nat} : ∀ {es : List A} {l : List Value}, (∀ x ∈ es, x.size = sz) → yc S es l → ∀ k, yc S (es.drop k) (l.drop (k * sz))
 | es, l, h, r, 0 => by simpa using r
 | [], l, h, r, k + 1 => by
  simp only [yc] at r
  subst r
  simp [yc]
 | x :: es, l, h, r, k + 1 => by
  simp only [yc] at r
  obtain ⟨c1, c2, rfl, r1, r2⟩ := r
  have hx : c1.length = sz := by rw [r1.len]; exact h x (by simp)
  have e : (k + 1) * sz = c1.length + k * sz := by rw [hx, Nat.add_mul]; omega
  rw [e, List.drop_append, List.drop_succ_cons, List.drop_eq_nil_of_le (show c1.length ≤ c1.length + k * sz by omega), List.nil_append, Nat.add_sub_cancel_left]
  exact z3A (fun y hy => h y (by simp [hy])) r2 k
theorem zgE {p : Prop} [Decidable p] {m : SM Unit} {st : St} {q : Unit × List Nat × List (Nat × Ent)} (h : (if p then m else zt) st = some q) : p ∧ m st = some q := by
 by_cases hp : p
 ·rw [if_pos hp] at h; exact ⟨hp, h⟩
 ·rw [if_neg hp] at h; exact (z6 h).elim
section
variable {C : Ctx} {S : zj} {Fp : Nat → List Nat} {X : List Nat} {st : St} {a : Act} {w : World}
open Classical in
def zgC (tt : TT) (n : Fr) (dst : Option Nat) (t sz : Nat) (es : List A) (z vl : A) : SM Unit :=
 match vl with
 | .atom (.int _ j) => if z = .opq (KT sz es).q then (if xq tt t = some sz then (if 0 ≤ j ∧ j.toNat ≤ es.length then wrT n dst (.own (.opq (KT sz (es.drop j.toNat)).q)) else zt) else zt) else zt
 | _ => zt
def qslO (tt : TT) (n : Fr) (dst : Option Nat) (t sz : Nat) (es : List A) (x lo : Operand) : SM Unit := do
 let y ← opnd x
 let z ← take y
 let tl ← opnd lo
 let vl ← val tl
 zgC tt n dst t sz es z vl
def ziE (tt : TT) (n : Fr) (dst : Option Nat) (t sz : Nat) (es es' : List A) (x lo : Operand) : HM Unit := ya (opnd x) >>= fun y => z4x y >>= fun z => ya (opnd lo) >>= fun tl => KA tl >>= fun vl =>
 match vl with
 | .atom (.int _ j) => Zq (z = .opq (KT sz es).q) (if xq tt t = some sz then Zq (0 ≤ j ∧ j.toNat ≤ es.length) (Zq (es.drop j.toNat = es') (ya (wrT n dst (.own (.opq (KT sz es').q))))) else zG)
 | _ => zG
open Classical in
theorem zh1 (tt : TT) (n : Fr) (dst : Option Nat) (t sz : Nat) (es es' : List A) (x lo : Operand) : Snd (qslO tt n dst t sz es x lo) (ziE tt n dst t sz es es' x lo) := by
 refine zh (zl _) fun y => zh (z1l _) fun z => zh (zl _) fun tl => zh (Yy _) fun vl => ?_
 unfold zgC
 cases vl with
 | atom u =>
  cases u with
  | int k j => exact uL (vU (uL (Qq fun e => by rw [e]; exact zl _)) (zr _))
  | _ => exact zr _
 | _ => exact zr _
open Classical in
theorem Loc.qslO (tt : TT) (n : Fr) (dst : Option Nat) (t sz : Nat) (es : List A) (x lo : Operand) : Loc (qslO tt n dst t sz es x lo) := by
 unfold Go.Own.qslO
 refine Loc.bind (Loc.opnd _) fun _ => Loc.bind (Loc.take _) fun z => Loc.bind (Loc.opnd _) fun _ => Loc.bind (Loc.val _) fun vl => ?_
 unfold Go.Own.zgC
 split
 ·exact Loc.ite (Loc.ite (Loc.ite (Loc.wrT _ _ _) Loc.fail) Loc.fail) Loc.fail
 ·exact Loc.fail
theorem zb4 {sz : Nat} {es : List A} {F : List Nat} {v : Value} (q : (w5 S (.opq (KT sz es).q) v ∧ F = []) ∨ ∃ cs, zH S w.heap (.opq (KT sz es).q) cs F ∧ F.Nodup ∧ v = zN (.opq (KT sz es).q) cs) : ZG sz es S w.heap v F ∧ F.Nodup := by
 rcases q with ⟨q, _⟩ | ⟨cs, q1, q2, q3⟩
 ·simp only [w5, vT, Rep, false_and, exists_false] at q
 ·simp only [zH] at q1
  obtain ⟨u, rfl, q1⟩ := q1
  exact ⟨by rw [q3]; exact q1, q2⟩
theorem z69 {sz : Nat} {es : List A} {F : List Nat} {v : Value} {h : Array Obj} (q : ZG sz es S h v F) : zH S h (.opq (KT sz es).q) [v] F := by
 simp only [zH]; exact ⟨v, rfl, q⟩
theorem zef {P : Program} {tt : TT} (hT : w4 P tt) (h : Sim C S Fp [] st a w) {o : Oper} {t sz : Nat} {es : List A} {x lo : Operand} (ho : o.op = .slice t x (some lo) none none) {u : Unit} {R : List Nat} {U : List (Nat × Ent)} (e0 : qslO tt C.n o.dst t sz es x lo st = some (u, R, U)) : uQ P C o a w (ze U st) := by
 unfold qslO at e0
 obtain ⟨y, R1, U1, R2, U2, h1, e1, rfl, rfl⟩ := bind_some e0
 obtain ⟨rfl, hx⟩ := zB h h1
 simp only [ze, List.nil_append] at e1 ⊢
 obtain ⟨z, R3, U3, R4, U4, h3, e2, rfl, rfl⟩ := bind_some e1
 obtain ⟨Fp', F, g1, g2⟩ := Qn h hx h3
 rw [zw]
 obtain ⟨tl, R5, U5, R6, U6, h5, e3, rfl, rfl⟩ := bind_some e2
 obtain ⟨rfl, hl⟩ := zB g1 h5
 obtain ⟨vl, R7, U7, R8, U8, h7, e4, rfl, rfl⟩ := bind_some e3
 obtain ⟨rfl, ql⟩ := qD g1 hl h7
 simp only [ze, List.nil_append] at e4 ⊢
 unfold zgC at e4
 split at e4
 ·rename_i k j
  split at e4
  ·rename_i hz
   subst hz
   split at e4
   ·rename_i hel
    split at e4
    ·rename_i hj
     obtain ⟨j0, j1⟩ := hj
     obtain ⟨el, he, hsz⟩ := wt hT hel w
     obtain ⟨el', _⟩ := zy.1 ql
     obtain ⟨⟨t4, p, c, ev, t2, t3, t5⟩, hn⟩ := zb4 g2
     have hrun := ko (P := P) (w := w) he hsz (p := p) (len := es.length) (c := c) (m := c) (lo := some (.int k j)) (hi := none) (mx := none) (.inr ⟨k, j, rfl, j0, rfl⟩) (.inl ⟨rfl, rfl⟩) (.inl ⟨rfl, rfl⟩) j1 t2 (Nat.le_refl c) (by simp)
     have hq : ZG sz (es.drop j.toNat) S w.heap (.slice (if c = j.toNat then p else p.map (·.add (j.toNat * sz))) (es.length - j.toNat) (c - j.toNat)) F := by
      refine ⟨fun y hy => t4 y (List.mem_of_mem_drop hy), _, _, by rw [List.length_drop], by rw [List.length_drop]; omega, by omega, ?_⟩
      rcases t5 with ⟨rfl, rfl, rfl, rfl⟩ | ⟨b, off, arr, ty, l, rfl, k1, k2, k3, k4, rfl, k6⟩
      ·exact .inl ⟨by simp, by simp, by simp, rfl⟩
      ·have hr := z3A t4 k4 j.toNat
       have hm : (es.length - j.toNat) * sz + j.toNat * sz = es.length * sz := by rw [← Nat.add_mul]; congr 1; omega
       have hcj : (c - j.toNat) * sz + j.toNat * sz = c * sz := by rw [← Nat.add_mul]; congr 1; omega
       by_cases hcc : c = j.toNat
       ·have : es.length = j.toNat := by omega
        refine .inr ⟨b, off, arr, ty, [], by simp [hcc], k1, by rw [hcc]; simp; omega, by simp [List.length_drop, this], ?_, rfl, k6⟩
        rw [List.drop_eq_nil_of_le (by omega)]; simp [yc]
       ·refine .inr ⟨b, off + j.toNat * sz, arr, ty, l.drop (j.toNat * sz), by simp [hcc, Addr.add_lit], k1, by omega, ?_, hr, rfl, k6⟩
        rw [List.length_drop, ← k3, List.drop_take, List.drop_drop]
        congr 1
        omega
     obtain ⟨Fp'', hs⟩ := Xe g1 e4 (z69 hq) hn
     refine zq ?_ hs
     simp [execOp, ho, ev, el', hrun, zN]
    ·exact (z6 e4).elim
   ·exact (z6 e4).elim
  ·exact (z6 e4).elim
 ·exact (z6 e4).elim
open Classical in
def zgD (n : Fr) (dst : Option Nat) (sz : Nat) (es : List A) (x : Operand) : SM Unit := do
 let tx ← opnd x
 let y ← peek tx
 if y = .opq (KT sz es).q then wrT n dst (.d (.atom (.int .i64 (es.length : Nat)))) else zt
def ziF (n : Fr) (dst : Option Nat) (sz : Nat) (es : List A) (x : Operand) : HM Unit := ya (opnd x) >>= fun tx => z2i tx >>= fun y => Zq (y = .opq (KT sz es).q) (eqA (.atom (.int .i64 (es.length : Nat))) >>= fun r => ya (wrT n dst (.d r)))
open Classical in
theorem zh2 (n : Fr) (dst : Option Nat) (sz : Nat) (es : List A) (x : Operand) : Snd (zgD n dst sz es x) (ziF n dst sz es x) :=
 zh (zl _) fun _ => zh (Jg _) fun _ => uL (VB (zT _ fun r => wrT n dst (.d r)).symm (zh (z2d _) fun _ => zl _))
theorem zeg {P : Program} {tt : TT} (hT : w4 P tt) (h : Sim C S Fp [] st a w) {o : Oper} {t sz : Nat} {es : List A} {x : Operand} (hty : qW tt t = true) (ho : o.op = .call ⟨.builtin .len, ⟨[x]⟩, ⟨[t]⟩⟩) {u : Unit} {R : List Nat} {U : List (Nat × Ent)} (e : zgD C.n o.dst sz es x st = some (u, R, U)) : uQ P C o a w (ze U st) := by
 unfold zgD at e
 obtain ⟨tx, R1, U1, R2, U2, h1, e1, rfl, rfl⟩ := bind_some e
 obtain ⟨rfl, hx⟩ := zB h h1
 obtain ⟨y, R3, U3, R4, U4, h3, e2, rfl, rfl⟩ := bind_some e1
 obtain ⟨rfl, qx⟩ := WW h hx h3
 simp only [ze, List.nil_append] at e2 ⊢
 split at e2
 ·rename_i hc
  subst hc
  obtain ⟨F, g⟩ := z5N qx
  obtain ⟨_, p, c, ev, _⟩ := g
  obtain ⟨el, hel⟩ := Yl hT hty
  obtain ⟨Fp', hs⟩ := wx h e2 (x := .d _) (zy.2 ⟨rfl, rfl⟩)
  refine zq ?_ hs
  simp [execOp, ho, resolve, invoke, builtin, Builtin.len_, ev, run_underlying hel, goInt]
 ·exact (z6 e2).elim
def z6x (sz : Nat) (v : Value) (j : Int) : Value :=
 match v with
 | .slice (some p) _ _ => .pointer (some (p.add (j.toNat * sz)))
 | _ => .pointer none
theorem za3 {sz : Nat} {v : Value} {j : Int} : (z6x sz v j).oneCell' = true := by
 unfold z6x; split <;> rfl
theorem z7A (h : Sim C S Fp [] st a w) {r sz : Nat} {es : List A} (hr : (st r).t = .own (.opq (KT sz es).q)) : ∃ F, ZG sz es S w.heap (Act.tv a r) F := by
 have hq := h.ent r
 unfold xu at hq
 simp only [hr] at hq
 obtain ⟨cs, c1, c2, c3⟩ := hq
 simp only [zH] at c1
 obtain ⟨v, rfl, c1⟩ := c1
 exact ⟨_, by rw [c3]; exact c1⟩
open Classical in
def qixO (tt : TT) (n : Fr) (dst : Option Nat) (t sz r : Nat) (v : Value) (es : List A) (x i : Operand) : SM Unit := do
 let tx ← opnd x
 let ti ← opnd i
 let vi ← val ti
 let e ← rdE r
 match vi with
 | .atom (.int _ j) => if tx = .als r [] e.er e.ec ∧ Qe n.pin r = some v ∧ e.t = .own (.opq (KT sz es).q) ∧ xq tt t = some sz ∧ 0 ≤ j ∧ j.toNat < es.length then wrT n dst (.d (.atom (z6x sz v j))) else zt
 | _ => zt
def ziH (tt : TT) (n : Fr) (dst : Option Nat) (t sz r : Nat) (v : Value) (es : List A) (x i : Operand) : HM Unit := ya (opnd x) >>= fun tx => ya (opnd i) >>= fun ti => KA ti >>= fun vi => ya (rdE r) >>= fun e =>
 match vi with
 | .atom (.int _ j) => Zq (tx = .als r [] e.er e.ec ∧ Qe n.pin r = some v ∧ e.t = .own (.opq (KT sz es).q) ∧ xq tt t = some sz ∧ 0 ≤ j ∧ j.toNat < es.length) (ya (wrT n dst (.d (.atom (z6x sz v j)))))
 | _ => zG
open Classical in
theorem zh4 (tt : TT) (n : Fr) (dst : Option Nat) (t sz r : Nat) (v : Value) (es : List A) (x i : Operand) : Snd (qixO tt n dst t sz r v es x i) (ziH tt n dst t sz r v es x i) := by
 refine zh (zl _) fun tx => zh (zl _) fun ti => zh (Yy _) fun vi => zh (zl _) fun e => ?_
 cases vi with
 | atom u =>
  cases u with
  | int k j => exact uL (zl _)
  | _ => exact zr _
 | _ => exact zr _
open Classical in
theorem Loc.qixO (tt : TT) (n : Fr) (dst : Option Nat) (t sz r : Nat) (v : Value) (es : List A) (x i : Operand) : Loc (qixO tt n dst t sz r v es x i) := by
 unfold Go.Own.qixO
 refine Loc.bind (Loc.opnd _) fun _ => Loc.bind (Loc.opnd _) fun _ => Loc.bind (Loc.val _) fun vi => Loc.bind (Loc.rdE _) fun _ => ?_
 split
 ·exact Loc.ite (Loc.wrT _ _ _) Loc.fail
 ·exact Loc.fail
open Classical in
theorem zei {P : Program} {tt : TT} (hT : w4 P tt) (h : Sim C S Fp [] st a w) {o : Oper} {t sz r : Nat} {v : Value} {es : List A} {x i : Operand} (ho : o.op = .indexAddr t x i) {u : Unit} {R : List Nat} {U : List (Nat × Ent)} (e0 : qixO tt C.n o.dst t sz r v es x i st = some (u, R, U)) : uQ P C o a w (ze U st) := by
 unfold qixO at e0
 obtain ⟨tx, R1, U1, R2, U2, h1, e1, rfl, rfl⟩ := bind_some e0
 obtain ⟨rfl, hx⟩ := zB h h1
 obtain ⟨ti, R3, U3, R4, U4, h3, e2, rfl, rfl⟩ := bind_some e1
 obtain ⟨rfl, hi⟩ := zB h h3
 obtain ⟨vi, R5, U5, R6, U6, h5, e3, rfl, rfl⟩ := bind_some e2
 obtain ⟨rfl, qi⟩ := qD h hi h5
 obtain ⟨en, R7, U7, R8, U8, h7, e4, rfl, rfl⟩ := bind_some e3
 obtain ⟨rfl, rfl, rfl⟩ := yh h7
 simp only [ze, List.nil_append] at e4 ⊢
 split at e4
 ·rename_i k j
  have hq := zgE e4
  clear e4
  obtain ⟨hc, e4⟩ := hq
  ·obtain ⟨rfl, c2, c3, c4, c5, c6⟩ := hc
   have hs := h.pin r v (qp c2)
   obtain ⟨F, t4, p, c, ev, t2, t3, t5⟩ := z7A h c3
   have hxv : a.eval x = .slice p es.length c := by rw [← ev]; exact z7H hx c3 rfl
   obtain ⟨e', he, hsz⟩ := wt hT c4 w
   obtain ⟨ei, _⟩ := zy.1 qi
   rcases t5 with ⟨rfl, _⟩ | ⟨b, off, arr, ty, l, rfl, k1, k2, k3, k4, rfl, k6⟩
   ·simp at c6
   ·have hrun := XN (P := P) (b := b) (o := off) (n := es.length) (c := c) (k := k) he hsz c5 c6
    obtain ⟨Fp', hs'⟩ := wx h e4 (x := .d (.atom (z6x sz v j))) (v := z6x sz v j) (zy.2 ⟨rfl, za3⟩)
    refine zq ?_ hs'
    have hvv : v = .slice (some ⟨b, off, none⟩) es.length c := by rw [← hs, ev]
    rw [hvv]
    simp [execOp, ho, ei, hxv, hrun, z6x, Addr.add_lit]
 ·exact (z6 e4).elim
open Classical in
def qldO (tt : TT) (n : Fr) (dst : Option Nat) (t sz r : Nat) (v : Value) (j : Int) (es : List A) (y : A) (x : Operand) : SM Unit := do
 let tx ← opnd x
 let e ← rdE r
 if tx = .d (.atom (z6x sz v j)) ∧ Qe n.pin r = some v ∧ e.t = .own (.opq (KT sz es).q) ∧ es[j.toNat]? = some y ∧ jX tt t y = true ∧ y.isD = true then wrT n dst (.d y) else zt
def ziG (tt : TT) (n : Fr) (dst : Option Nat) (t sz r : Nat) (v : Value) (j : Int) (es : List A) (y : A) (x : Operand) : HM Unit := ya (opnd x) >>= fun tx => ya (rdE r) >>= fun e =>
 Zq (tx = .d (.atom (z6x sz v j)) ∧ Qe n.pin r = some v ∧ e.t = .own (.opq (KT sz es).q) ∧ es[j.toNat]? = some y ∧ jX tt t y = true ∧ y.isD = true) (ya (wrT n dst (.d y)))
open Classical in
theorem zh3 (tt : TT) (n : Fr) (dst : Option Nat) (t sz r : Nat) (v : Value) (j : Int) (es : List A) (y : A) (x : Operand) : Snd (qldO tt n dst t sz r v j es y x) (ziG tt n dst t sz r v j es y x) :=
 zh (zl _) fun tx => zh (zl _) fun e => uL (zl _)
open Classical in
theorem Loc.qldO (tt : TT) (n : Fr) (dst : Option Nat) (t sz r : Nat) (v : Value) (j : Int) (es : List A) (y : A) (x : Operand) : Loc (qldO tt n dst t sz r v j es y x) := by
 unfold Go.Own.qldO
 exact Loc.bind (Loc.opnd _) fun _ => Loc.bind (Loc.rdE _) fun _ => Loc.ite (Loc.wrT _ _ _) Loc.fail
open Classical in
theorem zeh {P : Program} {tt : TT} (hT : w4 P tt) (h : Sim C S Fp [] st a w) {o : Oper} {t sz r : Nat} {v : Value} {j : Int} {es : List A} {y : A} {x : Operand} (ho : o.op = .load t x) {u : Unit} {R : List Nat} {U : List (Nat × Ent)} (e0 : qldO tt C.n o.dst t sz r v j es y x st = some (u, R, U)) : uQ P C o a w (ze U st) := by
 unfold qldO at e0
 obtain ⟨tx, R1, U1, R2, U2, h1, e1, rfl, rfl⟩ := bind_some e0
 obtain ⟨rfl, hx⟩ := zB h h1
 obtain ⟨en, R7, U7, R8, U8, h7, e4, rfl, rfl⟩ := bind_some e1
 obtain ⟨rfl, rfl, rfl⟩ := yh h7
 simp only [ze, List.nil_append] at e4 ⊢
 have hq := zgE e4
 clear e4
 obtain ⟨hc, e4⟩ := hq
 ·obtain ⟨rfl, c2, c3, c4, c5, c6⟩ := hc
  have hs := h.pin r v (qp c2)
  obtain ⟨F, t4, p, c, ev, t2, t3, t5⟩ := z7A h c3
  have hxv : a.eval x = z6x sz v j := (zy.1 hx).1
  have hlt := (List.getElem?_eq_some_iff.1 c4).1
  rcases t5 with ⟨rfl, _⟩ | ⟨b, off, arr, ty, l, rfl, k1, k2, k3, k4, rfl, k6⟩
  ·simp at hlt
  ·have hvv : v = .slice (some ⟨b, off, none⟩) es.length c := by rw [← hs, ev]
   obtain ⟨d1, ci, d2, hl, hd1, hr⟩ := XP k4 c4
   have hd : d1.length = j.toNat * sz := by
    rw [hd1, A.sizes_const (sz := sz) (fun z hz => t4 z (List.mem_of_mem_take hz)), List.length_take]
    congr 1
    omega
   have hsit : z8Y w.heap b (off + j.toNat * sz) ci := by
    intro i u hi
    have hi2 : l[d1.length + i]? = some u := by
     rw [hl, List.append_assoc, List.getElem?_append_right (by omega), Nat.add_sub_cancel_left, List.getElem?_append_left (List.getElem?_eq_some_iff.1 hi).1]
     exact hi
    rw [← k3, List.getElem?_take] at hi2
    split at hi2
    ·rw [List.getElem?_drop] at hi2
     simp only [y9, k1]
     rw [← hi2, Array.getElem?_toList, hd, Nat.add_assoc]
    ·cases hi2
   have hld := kp hT c5 (w := w) (b := b) (o := off + j.toNat * sz) hr.len hsit
   obtain ⟨Fp', hs'⟩ := wx h e4 (x := .d y) (v := zN y ci) (vT.repV ⟨ci, hr, rfl⟩)
   refine zq ?_ hs'
   have ex : a.eval x = .pointer (some ⟨b, off + j.toNat * sz, none⟩) := by
    rw [hxv, hvv]; simp [z6x, Addr.add_lit]
   simp [execOp, ho, ex, Instr.loadAt, Instr.sureAddr, hld]
theorem z15 {P : Program} {t ty e bty : TypeId} {i : TypeInfo} (ht : P.underlying t = some (.slice e)) (hi : P.info? e = some i) (w : World)
  (g off n c : Nat) (cur : Array Value) (hg : w.heap[g]? = some (.cells cur bty (0, 0)))
  (a : Addr) (m d : Nat) (news : List Value) (hl : news.length = m * i.size) (hnews : ∀ j u, news[j]? = some u → w.cell? (a.add j) = some u) (h1 : ∀ u ∈ news, u.oneCell' = true)
  (hroom : n + m ≤ c) (hfit : off + n * i.size + news.length ≤ cur.size) :
  (Builtin.append_ #[t, t] ty #[.slice (some ⟨g, off, none⟩) n c, .slice (some a) m d]).run P w = .ok (.slice (some ⟨g, off, none⟩) (n + m) c) (w.setRow g (XV cur (off + n * i.size) news)) := by
 have hf := run_firstCells_some (P := P) w i.size m a m d news hl hnews
 have hst := run_storeCells_at P g (off + n * i.size) bty news 0 cur w hg (by simpa using hfit) h1
 simp only [Nat.add_zero] at hst
 rw [ul hfit] at hst
 simp [Builtin.append_, run_underlying ht, Go.sizeOf, typeInfo, hi, Builtin.lenOf, hroom, hf, Addr.add_lit, hst]
theorem z6L {P : Program} {t ty e : TypeId} {f : TypeInfo} {zv : Value} (ht : P.underlying t = some (.slice e)) (hi : P.info? e = some f) (hz : f.zero = some zv) (hzs : zv.cells.size = f.size)
    {F : List Nat} (h : Sim C S Fp (F ++ []) st a w) {es ys : List A} {v : Value} (hc : ZG f.size es S w.heap v F) (hFn : F.Nodup)
    {p : Option Addr} {d : Nat} {news : List Value} (hr : yc S ys news) (hsz2 : ∀ x ∈ ys, x.size = f.size) (hsrc : (ys = [] ∧ news = []) ∨ ∃ ad, p = some ad ∧ ∀ j u, news[j]? = some u → w.cell? (ad.add j) = some u)
    (hlim : es.length + ys.length ≤ lim) (hb : f.bytes ≤ 4096) (hD : A.areD (es ++ ys) = true) :
    ∃ v' w', (Builtin.append_ #[t, t] ty #[v, .slice p ys.length d]).run P w = .ok v' w' ∧ ∃ F', Sim C S Fp (F' ++ []) st a w' ∧ F'.Nodup ∧ ZG f.size (es ++ ys) S w'.heap v' F' := by
  have hc0 := hc
  obtain ⟨t4, q, c, rfl, t2, t3, t5⟩ := hc
  have fin : ∀ {F' : List Nat} {v' : Value} {w' : World} {cs : List Value}, zH S w'.heap (.osl f.size false (es ++ ys)) cs F' → v' = zN (.osl f.size false (es ++ ys)) cs → ZG f.size (es ++ ys) S w'.heap v' F' := by
    intro F' v' w' cs k1 k2
    obtain ⟨u, rfl, k3⟩ := z7N hD k1
    rw [k2]; exact k3
  by_cases hy0 : ys = []
  · subst hy0
    simp only [yc] at hr
    subst hr
    exact ⟨_, w, Ye ht hi q p es.length c d t2 w, F, h, hFn, by simpa using hc0⟩
  · have hpos : 0 < ys.length := List.length_pos_iff.2 hy0
    rcases hsrc with ⟨hy, _⟩ | ⟨ad, rfl, hnews⟩
    · exact absurd hy hy0
    have hl2 : news.length = ys.length * f.size := by rw [hr.len, A.sizes_const hsz2]
    rcases t5 with ⟨rfl, rfl, rfl, rfl⟩ | ⟨b, off, arr, bty, l, rfl, k1, k2, k3, k4, rfl, k6⟩
    · obtain ⟨v', w', g1, F', g2, g3, cs, g4, g5⟩ := kD (ty := ty) ht hi hz hzs h (es := []) (olds := []) (by simp [zJ]) (by simp) (hr.concs w.heap) (by simp) hsz2 (.inl ⟨rfl, rfl, rfl⟩) hnews (by simpa using hpos) hlim hb hpos
      exact ⟨v', w', g1, F', g2, g3, fin g4 g5⟩
    · have hl1 : l.length = es.length * f.size := by rw [k4.len, A.sizes_const t4]
      by_cases hroom : es.length + ys.length ≤ c
      · have hm := Nat.mul_le_mul_right f.size hroom
        rw [Nat.add_mul] at hm
        have hfit : off + es.length * f.size + news.length ≤ arr.size := by omega
        have hrun := z15 (P := P) (ty := ty) ht hi w b off es.length c arr k1 ad ys.length d news hl2 hnews (fun u hu => hr.one u hu) hroom hfit
        let w' := w.setRow b (XV arr (off + es.length * f.size) news)
        have hheap : ∀ k, k ≠ b → w'.heap[k]? = w.heap[k]? := fun k hk => setRow_other w b k _ hk
        have hheapb : w'.heap[b]? = some (.cells (XV arr (off + es.length * f.size) news) bty (0, 0)) := setRow_heap w b arr _ bty (0, 0) k1
        have hbF : ∀ t', b ∉ Fp t' := fun t' => h.xd t' b (by simp)
        have hbase : C.M b := h.xb b (by simp)
        refine ⟨_, w', hrun, [b], ?_, by simp, ?_⟩
        · refine h.mem (h.below.trans ⟨rfl, rfl, rfl, Nat.le_refl _, by simp [w'], fun k hk => hheap k (fun e => hk (e ▸ hbase))⟩) (fun _ _ _ h => h) ?_ h.sbase (fun t' k hk => ⟨hheap k (by rintro rfl; exact hbF t' hk), (h.free t' k hk).2.1⟩) (by simp) (by simpa using h.xd) (by simpa using h.xb)
          intro b' o' v hs
          rw [xW (h := w.heap) (h' := w'.heap) (hheap b' (by rintro rfl; rw [k6] at hs; cases hs))]
          exact h.still b' o' v hs
        · refine ⟨?_, _, c, by rw [List.length_append], by rw [List.length_append]; exact hroom, t3, .inr ⟨b, off, XV arr (off + es.length * f.size) news, bty, l ++ news, rfl, hheapb, by simp [k2], ?_, k4.append hr, rfl, k6⟩⟩
          · intro x hx
            rcases List.mem_append.1 hx with h | h
            · exact t4 x h
            · exact hsz2 x h
          · apply List.ext_getElem?
            intro k
            rw [List.getElem?_take, List.getElem?_drop, Array.getElem?_toList, qq, List.length_append, Nat.add_mul]
            by_cases hk : k < es.length * f.size
            · rw [if_pos (by omega), if_neg (by omega), List.getElem?_append_left (by omega), ← k3, List.getElem?_take, if_pos hk, List.getElem?_drop, Array.getElem?_toList]
              cases arr[off + k]? <;> rfl
            · by_cases hk2 : k < es.length * f.size + ys.length * f.size
              · have ej : off + k - (off + es.length * f.size) = k - l.length := by omega
                rw [if_pos hk2, if_pos (by omega), List.getElem?_append_right (by omega), ej, Array.getElem?_eq_getElem (show off + k < arr.size by omega), List.getElem?_eq_getElem (show k - l.length < news.length by omega)]
                rfl
              · rw [if_neg hk2, List.getElem?_eq_none (by rw [List.length_append]; omega)]
      · have hold : ∀ j v, l[j]? = some v → w.cell? ((⟨b, off, none⟩ : Addr).add j) = some v := by
          intro j u hj
          rw [Addr.add_lit, W3]
          simp only [y9, k1]
          rw [← k3, List.getElem?_take] at hj
          split at hj
          · rw [List.getElem?_drop] at hj
            simpa using hj
          · cases hj
        have hsub : Sim C S Fp ([] ++ []) st a w := h.mem h.below (fun _ _ _ h => h) h.still h.sbase (fun t' k hk => ⟨rfl, (h.free t' k hk).2.1⟩) (by simp) (fun t' k hk => by simp at hk) (fun k hk => by simp at hk)
        obtain ⟨v', w', g1, F', g2, g3, cs, g4, g5⟩ := kD (ty := ty) ht hi hz hzs hsub (k4.concs w.heap) (by simp) (hr.concs w.heap) t4 hsz2 (.inr ⟨⟨b, off, none⟩, rfl, hold⟩) (d := d) (c := c) hnews (by omega) hlim hb hpos
        exact ⟨v', w', g1, F', g2, g3, fin g4 g5⟩
def zd5 (tt : TT) (t sz : Nat) : Bool := match tt t with
 | some ⟨.slice e, _, _, _, _⟩ => match tt e with
  | some i => i.size == sz && decide (i.bytes ≤ 4096) && decide (0 < i.size) && i.zero.isSome
  | none => false
 | _ => false
theorem areD_app {xs ys : List A} (h1 : A.areD xs = true) (h2 : A.areD ys = true) : A.areD (xs ++ ys) = true := by
 induction xs with
 | nil => exact h2
 | cons x xs ih =>
  simp only [A.areD, Bool.and_eq_true, List.cons_append] at h1 ⊢
  exact ⟨h1.1, ih h1.2⟩
open Classical in
def qapO (tt : TT) (n : Fr) (dst : Option Nat) (t sz : Nat) (es : List A) (s x : Operand) : SM Unit := do
 let ts ← opnd s
 let tx ← opnd x
 let y ← peek tx
 match y with
 | .osl s' _ ys => if s' = sz ∧ A.areD ys = true ∧ zd5 tt t sz = true then (do
   let z ← take ts
   if z = .opq (KT sz es).q ∧ es.length + ys.length ≤ lim ∧ A.areD es = true then wrT n dst (.own (.opq (KT sz (es ++ ys)).q)) else zt) else zt
 | _ => zt
def ziI (tt : TT) (n : Fr) (dst : Option Nat) (t sz : Nat) (es es' : List A) (s x : Operand) : HM Unit := ya (opnd s) >>= fun ts => ya (opnd x) >>= fun tx => z2i tx >>= fun y =>
 match y with
 | .osl s' _ ys => Zq (s' = sz ∧ A.areD ys = true ∧ zd5 tt t sz = true) (z4x ts >>= fun z => Zq (z = .opq (KT sz es).q ∧ es.length + ys.length ≤ lim ∧ A.areD es = true) (Zq (es ++ ys = es') (ya (wrT n dst (.own (.opq (KT sz es').q))))))
 | _ => zG
open Classical in
theorem zh5 (tt : TT) (n : Fr) (dst : Option Nat) (t sz : Nat) (es es' : List A) (s x : Operand) : Snd (qapO tt n dst t sz es s x) (ziI tt n dst t sz es es' s x) := by
 refine zh (zl _) fun ts => zh (zl _) fun tx => zh (Jg _) fun y => ?_
 cases y with
 | osl s' tg ys => exact uL (zh (z1l _) fun z => uL (Qq fun e => by rw [e]; exact zl _))
 | _ => exact zr _
open Classical in
theorem Loc.qapO (tt : TT) (n : Fr) (dst : Option Nat) (t sz : Nat) (es : List A) (s x : Operand) : Loc (qapO tt n dst t sz es s x) := by
 unfold Go.Own.qapO
 refine Loc.bind (Loc.opnd _) fun _ => Loc.bind (Loc.opnd _) fun _ => Loc.bind (Loc.peek _) fun y => ?_
 split
 ·exact Loc.ite (Loc.bind (Loc.take _) fun z => Loc.ite (Loc.wrT _ _ _) Loc.fail) Loc.fail
 ·exact Loc.fail
open Classical in
theorem zej {P : Program} {tt : TT} (hT : w4 P tt) (h : Sim C S Fp [] st a w) {o : Oper} {t sz : Nat} {es : List A} {s x : Operand} (ho : o.op = .call ⟨.builtin .append, ⟨[s, x]⟩, ⟨[t, t]⟩⟩) {u : Unit} {R : List Nat} {U : List (Nat × Ent)} (e0 : qapO tt C.n o.dst t sz es s x st = some (u, R, U)) : uQ P C o a w (ze U st) := by
 unfold qapO at e0
 obtain ⟨ts, R1, U1, R2, U2, h1, e1, rfl, rfl⟩ := bind_some e0
 obtain ⟨rfl, hs⟩ := zB h h1
 obtain ⟨tx, R3, U3, R4, U4, h3, e2, rfl, rfl⟩ := bind_some e1
 obtain ⟨rfl, hx⟩ := zB h h3
 obtain ⟨y, R5, U5, R6, U6, h5, e3, rfl, rfl⟩ := bind_some e2
 obtain ⟨rfl, q⟩ := WW h hx h5
 simp only [ze, List.nil_append] at e3 ⊢
 cases y with
 | osl s' tg ys =>
  have hq := zgE e3
  clear e3
  obtain ⟨⟨rfl, c2, c3⟩, e3⟩ := hq
  obtain ⟨z, R7, U7, R8, U8, h7, e4, rfl, rfl⟩ := bind_some e3
  obtain ⟨Fp', F, g1, g2⟩ := Qn h hs h7
  rw [zw]
  have hq := zgE e4
  clear e4
  obtain ⟨⟨rfl, d2, d3⟩, e4⟩ := hq
  unfold zd5 at c3
  cases ht : tt t with
  | none => simp only [ht] at c3; cases c3
  | some it =>
   obtain ⟨kd, a1, a2, a3, a4⟩ := it
   cases kd with
   | slice el =>
    simp only [ht] at c3
    have hel : P.underlying t = some (.slice el) := (hT _ _ ht).kind
    cases hi : tt el with
    | none => simp only [hi] at c3; cases c3
    | some i =>
     simp only [hi, Bool.and_eq_true, beq_iff_eq, decide_eq_true_eq] at c3
     obtain ⟨⟨⟨rfl, k2⟩, k3⟩, k4⟩ := c3
     obtain ⟨f, f1, f2, f3, f4⟩ := (hT _ _ hi).info
     obtain ⟨z0, hz0⟩ := Option.isSome_iff_exists.1 k4
     obtain ⟨zv, v1, v2, v3⟩ := f4 z0 hz0
     have hzs : zv.cells.size = f.size := by
      have := (v3 (fun _ _ => none) #[]).len
      rw [v2, ← f2] at this
      simpa using this
     obtain ⟨p, d, news, ev, r1, r2, r3⟩ := Uu h (.inr ⟨tg, rfl⟩) c2 q
     obtain ⟨m1, m2⟩ := zb4 g2
     rw [← f2] at m1 r2 e4
     obtain ⟨v, w', hrun, F', n1, n2, n3⟩ := z6L (ty := o.type) hel f1 v1 hzs g1 m1 m2 (p := p) (d := d) r1 r2 r3 d2 (by omega) (areD_app d3 c2)
     obtain ⟨Fp'', hs'⟩ := Xe n1 e4 (z69 n3) n2
     refine zq ?_ hs'
     simp [execOp, ho, resolve, invoke, builtin, ev, hrun, zN]
   | _ => simp only [ht] at c3; cases c3
 | _ => exact (z6 e3).elim
theorem drM {α : Type} (f : α → A) (l : List α) (k : Nat) : (l.map f).drop k = (l.drop k).map f := by rw [List.map_drop]
end
def xQs {P : Program} {tt : TT} (hT : w4 P tt) (d sz : Nat) (es es' : List A) : XH P :=
 xAt P (zgF d) (fun n o b => qslO tt n o.dst b.1 sz es b.2.1 b.2.2) (fun n o b => ziE tt n o.dst b.1 sz es es' b.2.1 b.2.2)
  (by
   intro C S Fp st a w o b hp h u R U e
   unfold zgF at hp
   split at hp
   ·rename_i ho; cases z4p hp; exact zef hT h ho e
   ·cases hp)
  (fun n o b => Loc.qslO _ _ _ _ _ _ _ _) (fun n o b => zh1 _ _ _ _ _ _ _ _ _)
open Classical in
def xQl {P : Program} {tt : TT} (hT : w4 P tt) (d t sz : Nat) (es : List A) (hty : qW tt t = true) : XH P :=
 xAt P (zgG d t) (fun n o x => zgD n o.dst sz es x) (fun n o x => ziF n o.dst sz es x)
  (by
   intro C S Fp st a w o x hp h u R U e
   unfold zgG at hp
   split at hp
   ·rename_i ho
    replace hp := z4p hp
    split at hp
    ·rename_i ht; subst ht; cases hp; exact zeg hT h hty ho e
    ·cases hp
   ·cases hp)
  (fun n o x => Loc.bind (Loc.opnd _) fun _ => Loc.bind (Loc.peek _) fun _ => Loc.ite (Loc.wrT _ _ _) Loc.fail) (fun n o x => zh2 _ _ _ _ _)
def xQi {P : Program} {tt : TT} (hT : w4 P tt) (d sz r : Nat) (v : Value) (es : List A) : XH P :=
 xAt P (zgH d) (fun n o b => qixO tt n o.dst b.1 sz r v es b.2.1 b.2.2) (fun n o b => ziH tt n o.dst b.1 sz r v es b.2.1 b.2.2)
  (by
   intro C S Fp st a w o b hp h u R U e
   unfold zgH at hp
   split at hp
   ·rename_i ho; cases z4p hp; exact zei hT h ho e
   ·cases hp)
  (fun n o b => Loc.qixO _ _ _ _ _ _ _ _ _ _) (fun n o b => zh4 _ _ _ _ _ _ _ _ _ _)
def ziR (d : Nat) (o : Oper) : Option (Nat × Operand) := match o.op with | .load t x => if o.dst = some d then some (t, x) else none | _ => none
def xQd {P : Program} {tt : TT} (hT : w4 P tt) (d sz r : Nat) (v : Value) (j : Int) (es : List A) (y : A) : XH P :=
 xAt P (ziR d) (fun n o b => qldO tt n o.dst b.1 sz r v j es y b.2) (fun n o b => ziG tt n o.dst b.1 sz r v j es y b.2)
  (by
   intro C S Fp st a w o b hp h u R U e
   unfold ziR at hp
   split at hp
   ·rename_i ho; cases z4p hp; exact zeh hT h ho e
   ·cases hp)
  (fun n o b => Loc.qldO _ _ _ _ _ _ _ _ _ _ _) (fun n o b => zh3 _ _ _ _ _ _ _ _ _ _ _)
def xQa {P : Program} {tt : TT} (hT : w4 P tt) (d sz : Nat) (es es' : List A) : XH P :=
 xAt P (zgI d) (fun n o b => qapO tt n o.dst b.1 sz es b.2.1 b.2.2) (fun n o b => ziI tt n o.dst b.1 sz es es' b.2.1 b.2.2)
  (by
   intro C S Fp st a w o b hp h u R U e
   unfold zgI at hp
   split at hp
   ·rename_i ho
    replace hp := z4p hp
    split at hp
    ·rename_i ht; subst ht; cases hp; exact zej hT h ho e
    ·cases hp
   ·cases hp)
  (fun n o b => Loc.qapO _ _ _ _ _ _ _ _) (fun n o b => zh5 _ _ _ _ _ _ _ _ _)
def zbU (i : TI) : TI := match i.zero with
 | some (.osl sz true []) => { i with zero := some (.sl sz true []) }
 | _ => i
def ttS (tt : TT) (e : Nat) : TT := fun t => if t = e then (tt t).map zbU else tt t
theorem z9B {P : Program} {t : Nat} {i : TI} (h : jU P t i) : jU P t (zbU i) := by
 unfold zbU
 split
 ·rename_i sz hz
  obtain ⟨f, f1, f2, f3, f4⟩ := h.info
  refine ⟨⟨f, f1, f2, f3, ?_⟩, h.kind, h.eqn⟩
  intro z hz'
  cases hz'
  obtain ⟨zv, v1, v2, v3⟩ := f4 _ hz
  refine ⟨zv, v1, by simpa [A.size] using v2, fun S hp => ?_⟩
  have q := v3 S hp
  simp only [zH] at q ⊢
  obtain ⟨p, c, e, h1, h2, h3, h4, h5⟩ := q
  rcases h5 with ⟨_, rfl, rfl, _⟩ | ⟨b, arr, ty, l, F', _, _, _, _, _, hF, _⟩
  ·refine ⟨?_, trivial⟩
   simp only [Rep]
   exact ⟨none, 0, e, by simp, by simp, by simp, .inl trivial⟩
  ·cases hF
 ·exact h
theorem zdv {P : Program} {tt : TT} (hT : w4 P tt) (e : Nat) : w4 P (ttS tt e) := by
 intro t i h
 unfold ttS at h
 split at h
 ·cases ht : tt t with
  | none => rw [ht] at h; cases h
  | some j =>
   rw [ht] at h
   cases h
   exact z9B (hT _ _ ht)
 ·exact hT _ _ h
def ziQ (d : Nat) (o : Oper) : Option (Nat × Operand × Operand) := match o.op with | .makeSlice t l c => if o.dst = some d then some (t, l, c) else none | _ => none
def xMs {P : Program} {tt : TT} (hT : w4 P tt) (d e : Nat) : XH P :=
 xAt P (ziQ d) (fun n o b => Y1 (ttS tt e) n o.dst b.1 b.2.1 b.2.2) (fun n o b => Qy (ttS tt e) n o.dst b.1 b.2.1 b.2.2)
  (by
   intro C S Fp st a w o b hp h u R U q
   unfold ziQ at hp
   split at hp
   ·rename_i ho; cases z4p hp; exact Jm (zdv hT e) h ho q
   ·cases hp)
  (fun n o b => by have q := Loc.stepO (ttS tt e) VH n ⟨o.dst, .makeSlice b.1 b.2.1 b.2.2, 0, default, default, none⟩; exact q) (fun n o b => KL _ _ _ _ _ _)
theorem zdb.mono {P : Program} {fv : Value} {vs : List Value} {w : World} {R R' : Value → World → Prop} (h : zdb P fv vs w R) (hr : ∀ v w', R v w' → R' v w') : zdb P fv vs w R' := by
 rcases h with ⟨k, caps, fn, h1, h2, h3, h4, h5⟩ | ⟨L, q, h1, h2, h3, h4⟩
 ·exact .inl ⟨k, caps, fn, h1, h2, h3, h4, Calls.mono h5 fun e w' ⟨v, e1, e2⟩ => ⟨v, e1, hr _ _ e2⟩⟩
 ·exact .inr ⟨L, q, h1, h2, h3, fun rd m => RoundIn.mono (h4 rd m) fun e w' ⟨v, e1, e2⟩ => ⟨v, e1, hr _ _ e2⟩⟩
def zhu (P : Program) (yv : Value) {σ β : Type} (Y : σ → Qh) (enc : β → List A) (y : σ → β → Option σ) : Prop :=
 ∀ s x s', y s x = some s' → vZ P (.atom yv) (enc x) [(yv, .opq (Y s).q)] (.tup []) [.opq (Y s').q]
def zho (k : Nat) (caps : List A) (ls : List (Value × A)) : Qh := {
 holds := fun S h u F => vT S (.fn k caps) u ∧ kb S h (ls.map (·.2)) (ls.map (·.1)) F
 one := by
  rintro S h u F ⟨⟨cs, q1, q2⟩, _⟩
  simp only [Rep] at q1
  obtain ⟨vs, _, _, rfl⟩ := q1
  rw [q2]; rfl
 frame := by
  intro S S' h h' v F hS hF q
  exact ⟨q.1.mono hS, kb.frame hS q.2 hF⟩
 own := by
  intro S h v F q
  exact kb.own q.2
 idx := 0 }
theorem z5W {S : zj} {h : Array Obj} {o : Qh} {u : Value} {F : List Nat} (hn : F.Nodup) (q : o.holds S h u F) : kb S h [.opq o.q] [u] F :=
 ⟨F, [], by simp, .inr ⟨[u], by simp only [zH]; exact ⟨u, rfl, q⟩, hn, rfl⟩, rfl⟩
theorem z8e {S : zj} {h : Array Obj} {o : Qh} {u : Value} {F : List Nat} (q : kb S h [.opq o.q] [u] F) : o.holds S h u F := by
 obtain ⟨F1, F2, e, q1, q2⟩ := q
 have e2 : F2 = [] := q2
 have e' : F = F1 := by rw [e, e2]; simp
 subst e'
 rcases q1 with ⟨q1, _⟩ | ⟨cs, q1, _, q3⟩
 ·simp only [w5, vT, Rep, false_and, exists_false] at q1
 ·simp only [zH] at q1
  obtain ⟨v, rfl, q1⟩ := q1
  rw [q3]; exact q1
theorem z4l {α β : Type} {R : α → β → Prop} : ∀ {l : List α} {x : α} {m : List β}, Zx R (l ++ [x]) m → ∃ m' y, m = m' ++ [y] ∧ Zx R l m' ∧ R x y
 | [], x, [y], q => ⟨[], y, rfl, trivial, q.1⟩
 | [], x, y :: z :: m, q => q.2.elim
 | [], x, [], q => q.elim
 | a :: l, x, b :: m, q => by
  obtain ⟨m', y, rfl, q1, q2⟩ := z4l q.2
  exact ⟨b :: m', y, rfl, ⟨q.1, q1⟩, q2⟩
 | _ :: _, _, [], q => q.elim
theorem z8d {P : Program} {f : A} {pre : List A} {σ β : Type} {enc : β → List A} {k : Nat} {caps : List A} {ls : σ → List (Value × A)} {F : (σ → β → Option σ) → σ → Option σ} {y : σ → β → Option σ}
  (hF : ∀ (yv : Value) (Y : σ → Qh), zhu P yv Y enc y → ∀ s s', F y s = some s' → vZ P f (pre ++ [.atom yv]) [(yv, .opq (Y s).q)] (.tup []) [.opq (Y s').q])
  (hc : ∀ s x s', y s x = some s' → vZ P (.fn k caps) (enc x) (ls s) (.tup []) ((ls s').map (·.2))) (hk : ∀ s s', (ls s).map (·.1) = (ls s').map (·.1)) {s s' : σ} (h : F y s = some s') :
  vZ P f (pre ++ [.fn k caps]) (ls s) (.tup []) ((ls s').map (·.2)) := by
 intro S w fv vs G hS hf ha hl hn
 obtain ⟨us, u, rfl, a1, a2⟩ := z4l ha
 have hu1 : u.oneCell' = true := by
  obtain ⟨cs, q1, q2⟩ := a2
  simp only [Rep] at q1
  obtain ⟨ws, _, _, rfl⟩ := q1
  rw [q2]; rfl
 have hu : vT S (.atom u) u := ⟨[u], by simp only [Rep]; exact ⟨trivial, hu1⟩, rfl⟩
 have hy : zhu P u (fun s => zho k caps (ls s)) enc y := by
  intro s x s' e S1 w1 fv1 vs1 G1 hS1 hf1 ha1 hl1 hn1
  have ef : fv1 = u := by
   obtain ⟨cs, q1, q2⟩ := hf1
   simp only [Rep] at q1
   obtain ⟨rfl, _⟩ := q1
   rw [q2]; rfl
  subst ef
  obtain ⟨g1, g2⟩ := z8e (o := zho k caps (ls s)) hl1
  refine zdb.mono (hc s x s' e S1 w1 fv1 vs1 G1 hS1 g1 ha1 g2 hn1) ?_
  rintro v w' ⟨S', F', G', k1, k2, k3, k4, k5, k6, k7, k8⟩
  refine ⟨S', F', G', k1, k2, k3, k4, k5, z5W (List.nodup_append.1 k7).1 ⟨g1.mono k2, ?_⟩, k7, k8⟩
  rw [hk s' s]; exact k6
 refine zdb.mono (hF u _ hy s s' h S w fv (us ++ [u]) G hS hf (Km a1 ⟨hu, trivial⟩) (z5W hn ⟨a2, hl⟩) hn) ?_
 rintro v w' ⟨S', F', G', k1, k2, k3, k4, k5, k6, k7, k8⟩
 have q := (z8e (o := zho k caps (ls s')) k6).2
 exact ⟨S', F', G', k1, k2, k3, k4, k5, by rw [hk s s']; exact q, k7, k8⟩
end Go.Own
end
