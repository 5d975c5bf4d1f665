/- -/
import Derived.Test.YtdnenbcldibnoaaPartC
import Derived.Shelf.SlSortCmp.NoneTotal
import Derived.Laws.BytesString
set_option linter.unusedVariables false
set_option linter.unusedSimpArgs false
namespace Go.Own
open Go.Proofs Go.Shelf
section
variable {α : Type}
def z9W (c : α → α → Int) (x : α) : List α → List α
 | [] => [x]
 | y :: l => if c y x < 0 then y :: z9W c x l else x :: y :: l
def Qc (c : α → α → Int) : List α → List α
 | [] => []
 | x :: l => z9W c x (Qc c l)
def SOk (c : α → α → Int) (l : List α) : Prop :=
 (∀ x ∈ l, ¬ c x x < 0) ∧ (∀ x ∈ l, ∀ y ∈ l, ∀ z ∈ l, c x y < 0 → c y z < 0 → c x z < 0) ∧ (∀ x ∈ l, ∀ y ∈ l, ¬ c x y < 0 → ¬ c y x < 0 → x = y)
instance [DecidableEq α] (c : α → α → Int) (l : List α) : Decidable (SOk c l) := by unfold SOk; infer_instance
def z58 [DecidableEq α] (cmp : α → α → Option Int) (l : List α) : Option (List α) :=
 gd (l.length ≤ 4294967296 ∧ ∀ x ∈ l, ∀ y ∈ l, (cmp x y).isSome = true) <| gd (SOk (fun x y => (cmp x y).getD 0) l) <| some (Qc (fun x y => (cmp x y).getD 0) l)
theorem SOk.ntr {c : α → α → Int} {l : List α} (h : SOk c l) : ∀ x ∈ l, ∀ y ∈ l, ∀ z ∈ l, ¬ c x y < 0 → ¬ c y z < 0 → ¬ c x z < 0 := by
 intro x hx y hy z hz h1 h2 h3
 by_cases h4 : c y x < 0
 ·exact h2 (h.2.1 y hy x hx z hz h4 h3)
 ·have := h.2.2 x hx y hy h1 h4
  subst this
  exact h2 h3
theorem K1 (c : α → α → Int) (x : α) : ∀ l, (z9W c x l).Perm (x :: l)
 | [] => .refl _
 | y :: l => by
  simp only [z9W]
  split
  ·exact ((K1 c x l).cons y).trans (.swap x y l)
  ·exact .refl _
theorem kJ (c : α → α → Int) : ∀ l, (Qc c l).Perm l
 | [] => .refl _
 | x :: l => (K1 c x _).trans ((kJ c l).cons x)
theorem K0 {c : α → α → Int} {L : List α} (h : SOk c L) {x : α} (hx : x ∈ L) : ∀ {l : List α}, (∀ y ∈ l, y ∈ L) → l.Pairwise (fun a b => ¬ c b a < 0) → (z9W c x l).Pairwise (fun a b => ¬ c b a < 0)
 | [], _, _ => by simp [z9W]
 | y :: l, hl, hp => by
  have hy := hl y (by simp)
  obtain ⟨p1, p2⟩ := List.pairwise_cons.1 hp
  simp only [z9W]
  split
  ·rename_i hc
   refine List.pairwise_cons.2 ⟨?_, K0 h hx (fun z hz => hl z (by simp [hz])) p2⟩
   intro z hz
   rcases List.mem_cons.1 ((K1 c x l).mem_iff.1 hz) with rfl | hz
   ·exact fun q => h.1 _ hx (h.2.1 _ hx _ hy _ hx q hc)
   ·exact p1 z hz
  ·rename_i hc
   refine List.pairwise_cons.2 ⟨?_, hp⟩
   intro z hz
   rcases List.mem_cons.1 hz with rfl | hz
   ·exact hc
   ·exact h.ntr z (hl z (by simp [hz])) y hy x hx (p1 z hz) hc
theorem Xr {c : α → α → Int} {L : List α} (h : SOk c L) : ∀ {l : List α}, (∀ y ∈ l, y ∈ L) → (Qc c l).Pairwise (fun a b => ¬ c b a < 0)
 | [], _ => .nil
 | x :: l, hl => K0 h (hl x (by simp)) (fun y hy => hl y (by simp [(kJ c l).mem_iff.1 hy])) (Xr h fun y hy => hl y (by simp [hy]))
theorem z1R {c : α → α → Int} {l l' : List α} (h : SOk c l) (hp : l'.Perm l) (hs : l'.Pairwise (fun a b => ¬ c b a < 0)) : l' = Qc c l := by
 refine List.Perm.eq_of_pairwise (le := fun a b => ¬ c b a < 0) ?_ hs (Xr h fun _ q => q) (hp.trans (kJ c l).symm)
 intro a b ha hb h1 h2
 exact h.2.2 a (hp.mem_iff.1 ha) b ((kJ c l).mem_iff.1 hb) h2 h1
theorem z4k [DecidableEq α] {cmp : α → α → Option Int} {l l' : List α} (h : z58 cmp l = some l') : l.length ≤ 4294967296 ∧ (∀ x ∈ l, ∀ y ∈ l, cmp x y = some ((cmp x y).getD 0)) ∧ SOk (fun x y => (cmp x y).getD 0) l ∧ l' = Qc (fun x y => (cmp x y).getD 0) l := by
 obtain ⟨h1, h⟩ := gdE h
 obtain ⟨h2, h⟩ := gdE h
 refine ⟨h1.1, fun x hx y hy => ?_, h2, (zb h).symm⟩
 have := h1.2 x hx y hy
 cases hc : cmp x y with
 | none => rw [hc] at this; cases this
 | some _ => rfl
end
theorem zbq {α : Type} [Inhabited α] (enc : α → List Value) (k : Nat) (hk : ∀ x, (enc x).length = k) : ∀ l : List α, ((List.range (l.length * k)).map fun t => (enc l[t / k]!)[t % k]!) = l.flatMap enc
 | [] => by simp
 | x :: l => by
  rcases Nat.eq_zero_or_pos k with rfl | h0
  ·simp only [Nat.mul_zero, List.range_zero, List.map_nil]
   symm
   rw [List.flatMap_eq_nil_iff]
   intro y _
   exact List.eq_nil_of_length_eq_zero (hk y)
  rw [List.length_cons, Nat.add_mul, Nat.one_mul, Nat.add_comm, List.range_add, List.map_append, List.map_map, List.flatMap_cons]
  congr 1
  ·apply List.ext_getElem?
   intro i
   rw [List.getElem?_map]
   by_cases hi : i < k
   ·rw [List.getElem?_range hi, Option.map_some, Nat.div_eq_of_lt hi, Nat.mod_eq_of_lt hi]
    have : i < (enc x).length := by rw [hk]; exact hi
    simp [this]
   ·rw [List.getElem?_eq_none (by simpa using hi), List.getElem?_eq_none (by rw [hk]; omega)]; rfl
  ·rw [← zbq enc k hk l]
   apply List.map_congr_left
   intro t _
   simp only [Function.comp]
   rw [Nat.add_div_left _ h0, Nat.add_mod_left]
   simp
theorem Q3 {α : Type} [Inhabited α] (enc : α → List Value) (k : Nat) (hk : ∀ x, (enc x).length = k) (d : Array α) : (Sort.flatK enc k d).toList = d.toList.flatMap enc := by
 rw [← zbq enc k hk d.toList]
 simp only [Sort.flatK, Array.toList_map, Array.toList_range, Array.length_toList]
 apply List.map_congr_left
 intro a _
 have : d.toList[a / k]! = d[a / k]! := by
  by_cases hlt : a / k < d.size
  ·rw [getElem!_pos d _ hlt, getElem!_pos d.toList _ (by simpa using hlt)]; simp
  ·rw [getElem!_neg d _ hlt, getElem!_neg d.toList _ (by simpa using hlt)]
 rw [this]
def zai (P : Program) (kf k : Nat) (ag : Bool) : Prop := ∃ ρ, SlLaysF0.n6 P ρ ∧ ρ.f 6 = kf ∧ (∀ w, (isAgg (ρ.t 24)).run P w = .ok ag w) ∧ (∀ w, (Go.sizeOf (ρ.t 24)).run P w = .ok k w) ∧ (ag = false → k = 1)
theorem KV {S : zj} {α : Type} {enc : α → A} {k : Nat} (hsz : ∀ x, (enc x).size = k) (L : List α) : ∀ {l : List α} {cs : List Value}, (∀ x ∈ l, x ∈ L) → yV S (l.map enc) cs →
  ∃ d : List {p : List Value × α // Rep S (enc p.2) p.1 ∧ p.2 ∈ L}, d.map (fun p => p.1.2) = l ∧ d.flatMap (fun p => p.1.1) = cs
 | [], cs, _, h => by
  simp only [List.map_nil, yV] at h
  exact ⟨[], rfl, by simp [h]⟩
 | x :: l, cs, hl, h => by
  simp only [List.map_cons, yV] at h
  obtain ⟨c1, c2, rfl, h1, h2⟩ := h
  obtain ⟨d, e1, e2⟩ := KV hsz L (fun y hy => hl y (by simp [hy])) h2
  exact ⟨⟨(c1, x), h1, hl x (by simp)⟩ :: d, by simp [e1], by simp [e2]⟩
theorem V8 {S : zj} {α : Type} {enc : α → A} {L : List α} : ∀ (d : List {p : List Value × α // Rep S (enc p.2) p.1 ∧ p.2 ∈ L}), yV S ((d.map fun p => p.1.2).map enc) (d.flatMap fun p => p.1.1)
 | [] => by simp [yV]
 | p :: d => by
  simp only [List.map_cons, List.flatMap_cons, yV]
  exact ⟨_, _, rfl, p.2.1, V8 d⟩
theorem z7d {P : Program} {tt : TT} {ρ : Ren} {kf k t : Nat} {ag : Bool} (hT : vL P tt) (L : SlLaysF0.n6 P ρ) (h6 : ρ.f 6 = kf) (h24 : ρ.t 24 = t) (hs : (tt t).map (fun i => (i.kind.isAgg, i.size)) = some (ag, k)) (h1 : ag = false → k = 1) : zai P kf k ag := by
 obtain ⟨i, hi, he⟩ := Option.map_eq_some_iff.1 hs
 simp only [Prod.mk.injEq] at he
 refine ⟨ρ, L, h6, fun w => ?_, fun w => ?_, h1⟩
 ·rw [h24, Xl (hT t i hi).kind w, he.1]
 ·rw [h24, vp hT hi w, he.2]
section
variable {α : Type} [Inhabited α] (enc : α → List Value) (k : Nat) (w : World) (b n : Nat) (d : Array α) (os : Array Obj)
theorem z3j {j : Nat} (hj : j < w.heap.size) (hb : j ≠ b) : (sortWorldK enc k w b 0 n d os).heap[j]? = w.heap[j]? := by
 show ((w.heap.modify b _) ++ os)[j]? = _
 rw [Array.getElem?_append_left (by simpa using hj), Array.getElem?_modify, if_neg (Ne.symm hb)]
theorem zcW {arr : Array Value} {ty : TypeId} {fr : Nat × Nat} (hb : w.heap[b]? = some (.cells arr ty fr)) : (sortWorldK enc k w b 0 n d os).heap[b]? = some (.cells (Sort.putCells id 0 (Sort.flatK enc k d) arr) ty fr) := by
 have hlt := (Array.getElem?_eq_some_iff.1 hb).1
 show ((w.heap.modify b _) ++ os)[b]? = _
 rw [Array.getElem?_append_left (by simpa using hlt), Array.getElem?_modify, if_pos rfl, hb]
 rfl
theorem z9g : (sortWorldK enc k w b 0 n d os).heap.size = w.heap.size + os.size := by
 show ((w.heap.modify b _) ++ os).size = _
 simp
end
theorem z0E {D arr : Array Value} (h : D.size ≤ arr.size) : (Sort.putCells id 0 D arr).toList.take D.size = D.toList := by
 apply List.ext_getElem?
 intro i
 rw [List.getElem?_take]
 by_cases hi : i < D.size
 ·rw [if_pos hi]
  have : i < arr.size := by omega
  simp [Sort.putCells, hi, this]
 ·rw [if_neg hi, List.getElem?_eq_none (by simpa using hi)]
theorem z0F (D arr : Array Value) : (Sort.putCells id 0 D arr).size = arr.size := by simp [Sort.putCells]
theorem z1y {S : zj} : ∀ {caps : List A} {vs : List Value}, yV S caps vs → (∀ c ∈ caps, c.size = 1 ∧ ∀ fs, c ≠ .agg fs) → kL (vD S) caps vs
 | [], vs, h, _ => by simp only [yV] at h; subst h; trivial
 | c :: caps, vs, h, hc => by
  simp only [yV] at h
  obtain ⟨c1, c2, rfl, h1, h2⟩ := h
  obtain ⟨s1, s2⟩ := hc c (by simp)
  have hl := h1.len
  rw [s1] at hl
  obtain ⟨u, rfl⟩ := List.length_eq_one_iff.1 hl
  refine ⟨⟨[u], h1, ?_⟩, z1y h2 fun x hx => hc x (by simp [hx])⟩
  cases c <;> first | rfl | exact absurd rfl (s2 _)
theorem Q1 {S : zj} {h : Array Obj} : ∀ {bs : List A} {vs : List Value}, kL (vD S) bs vs → ZH S h bs vs []
 | [], [], _ => rfl
 | _ :: _, _ :: _, q => ⟨[], [], rfl, .inl ⟨q.1.repV, rfl⟩, Q1 q.2⟩
 | [], _ :: _, q => q.elim
 | _ :: _, [], q => q.elim
theorem z5S {w w' : World} (h : Yn (fun k => w.heap.size ≤ k) w w') : ∃ q os', w' = Sort.grow (w.drewN q) os' := by
 refine ⟨w'.drawn - w.drawn, w'.heap.extract w.heap.size w'.heap.size, ?_⟩
 have h1 : w'.heap = w.heap ++ w'.heap.extract w.heap.size w'.heap.size := by
  apply Array.ext_getElem?
  intro i
  by_cases hi : i < w.heap.size
  ·rw [Array.getElem?_append_left hi]
   exact h.block i (by omega)
  ·rw [Array.getElem?_append_right (by omega), Array.getElem?_extract]
   by_cases h2 : i < w'.heap.size
   ·rw [if_pos (by omega)]
    congr 1; omega
   ·rw [if_neg (by omega), Array.getElem?_eq_none (by omega)]
 have h2 := h.drawn
 have h3 := h.os
 have h4 := h.tape
 have h5 := h.output
 cases w' with
 | mk heap tape drawn os output =>
  cases w with
  | mk heap0 tape0 drawn0 os0 output0 =>
   simp only at h1 h2 h3 h4 h5
   subst h3 h4 h5
   simp only [Sort.grow, World.drewN, World.mk.injEq, true_and, and_true]
   exact ⟨h1, by omega⟩
theorem z8m {α : Type} [Inhabited α] (enc : α → List Value) (e1 : α → Value) (he : ∀ x, enc x = [e1 x]) (w : World) (b m : Nat) (d : Array α) (os : Array Obj) : sortWorld e1 w b 0 m d os = sortWorldK enc 1 w b 0 m d os := by
 have hflat : Sort.flatK enc 1 d = d.map e1 := by
  apply Array.ext
  ·simp [Sort.flatK]
  ·intro i h1 h2
   have hi : i < d.size := by simpa using h2
   have := Sort.get_flatK enc 1 d i (by omega)
   rw [getElem!_pos _ i h1] at this
   rw [this, he]
   simp [Nat.mod_one, hi]
 unfold sortWorld sortWorldK
 congr 1
 unfold Sort.putRowK Sort.putRow
 congr 1
 rw [hflat]
 funext c
 unfold Sort.putCells
 congr 1
 funext k x
 simp only [Nat.zero_le, true_and, Nat.zero_add, Nat.sub_zero, Array.size_map, id]
 by_cases hk : k < d.size
 ·rw [if_pos hk, if_pos hk, getElem!_pos d k hk, getElem!_pos _ k (by simpa using hk)]; simp
 ·rw [if_neg hk, if_neg hk]
theorem z5W {α : Type} [Inhabited α] {enc : α → List Value} {e1 : α → Value} (he : ∀ x, enc x = [e1 x]) {w : World} {b : Nat} {d : Array α} (h : Sort.HoldsK enc 1 w b 0 d) : Sort.Holds e1 w b 0 d := by
 intro j hj
 have := h j (by simpa using hj)
 rw [Sort.get_flatK enc 1 d j (by omega), he] at this
 simpa [Nat.mod_one] using this
theorem z57 {P : Program} {kf k g : Nat} {ag : Bool} {α : Type} [DecidableEq α] {f : α → A} [hD : z4h f] {t : Bool} {v : Value} {caps : List A} {cmp : α → α → Option Int} {l l' : List α} (hT : zai P kf k ag) (hsz : ∀ x, (f x).size = k) (hag : ∀ x, (f x).isAgg = ag)
  (hc : ∀ x y c, cmp x y = some c → X9 P g (f x :: f y :: caps) (.atom (.int .i64 c))) (h : z58 cmp l = some l') : ZG P (.fn kf []) [.atom v, .fn g caps] [(v, .osl k t (l.map f))] (.tup []) [.osl k t (l'.map f)] := by
 obtain ⟨hlen0, hcmp, hO, rfl⟩ := z4k h
 obtain ⟨ρ, L, rfl, aE, zE, hk1⟩ := hT
 intro S w fv vs F hS hfv hvs hH hF
 obtain ⟨cs, c1, c2⟩ := hfv
 simp only [Rep] at c1
 obtain ⟨us, u1, _, rfl⟩ := c1
 have hu : us = [] := by
  cases us with
  | nil => rfl
  | cons _ _ => simp [yV] at u1
 subst hu
 rcases vs with _ | ⟨v1, _ | ⟨v2, _ | ⟨v3, vs⟩⟩⟩
 ·exact hvs.elim
 ·exact hvs.2.elim
 case cons.cons.cons => exact hvs.2.2.elim
 obtain ⟨hv1, hv2, _⟩ := hvs
 obtain ⟨rfl, _⟩ := ve.1 hv1
 obtain ⟨cs2, d1, d2⟩ := hv2
 simp only [Rep] at d1
 obtain ⟨cv, d3, d4, rfl⟩ := d1
 have hcv := z1y d3 d4
 obtain ⟨F1, F2, rfl, q1, q2⟩ := hH
 have hF2 : F2 = [] := q2
 subst hF2
 rw [List.nil_append] at hF ⊢
 have act : ∀ R : Ending → World → Prop, Calls P (ρ.f 6) #[v1, .func (.func g) #[] cv.toArray] w R → Calls P (ρ.f 6) ([v1, v2].toArray ++ #[]) w R := by
  intro R q
  rw [d2, Array.append_empty]
  exact q
 have fnOk : ∃ fn, P.funcs[ρ.f 6]? = some fn ∧ (fn.name == "runtime.NumGoroutine") = false ∧ fn.body.isNone = false := by
  obtain ⟨nm, hne, FG⟩ := L.f6
  exact ⟨_, FG, by simpa using hne, rfl⟩
 obtain ⟨fn, f1, f2, f3⟩ := fnOk
 refine .inl ⟨ρ.f 6, #[], fn, c2, f1, f2, f3, act _ ?_⟩
 rcases q1 with ⟨q1, _⟩ | ⟨cs, q1, q3, q4⟩
 ·simp only [we, vD, Rep, false_and, exists_false] at q1
 simp only [zN] at q1
 obtain ⟨p, c, rfl, t1, t2, t3, t4, t5⟩ := q1
 have ev : v1 = .slice p l.length c := by
  have q5 : v1 = zX (.osl k t (l.map f)) [.slice p (l.map f).length c] := q4
  rw [q5]; simp [zX]
 subst ev
 simp only [List.length_map] at t1 t2 t5
 by_cases hl : l = []
 ·subst hl
  refine (AnyF.slices_SortFunc_none { L with } p c _ w).mono ?_
  rintro e w' ⟨rfl, rfl⟩
  refine ⟨.tuple #[], rfl, S, [], F1, Yn.refl _ _, fun _ _ _ q => q, fun _ _ _ _ => rfl, hS, .inl ⟨?_, rfl⟩, ⟨F1, [], by simp, .inr ⟨[.slice p 0 c], ?_, q3, rfl⟩, rfl⟩, by simpa using hF, fun k hk => .inr (by simpa using hk)⟩
  ·simp only [we]; exact ⟨[], rfl, trivial⟩
  ·simp only [Qc, List.map_nil, zN]
   exact ⟨p, c, rfl, t1, t2, t3, by simp, by simpa using t5⟩
 have hpos : 0 < l.length := List.length_pos_iff.2 hl
 rcases t5 with ⟨e, _⟩ | ⟨b, arr, ty, cl, F', rfl, e1, e2, e3, e4, rfl, e5⟩
 ·exact absurd (by simpa using e) hl
 obtain ⟨hr, rfl⟩ := e4.areD (dM f l)
 obtain ⟨d, g1, g2⟩ := KV (S := S) hsz l (fun _ q => q) hr
 have hblk := (Array.getElem?_eq_some_iff.1 e1).1
 obtain ⟨x0, hx0⟩ : ∃ x, x ∈ d := by
  cases d with
  | nil => exact absurd g1.symm hl
  | cons x _ => exact ⟨x, by simp⟩
 letI : Inhabited {p : List Value × α // Rep S (f p.2) p.1 ∧ p.2 ∈ l} := ⟨x0⟩
 let enc : {p : List Value × α // Rep S (f p.2) p.1 ∧ p.2 ∈ l} → List Value := fun p => p.1.1
 let c0 : α → α → Int := fun x y => (cmp x y).getD 0
 have hk : ∀ x, (enc x).length = k := fun x => (x.2.1.len).trans (hsz _)
 have h1 : ∀ x, ∀ v ∈ enc x, v.oneCell' = true := fun x => x.2.1.one
 have hswo : Sort.SWO (ltOf fun x y : {p : List Value × α // Rep S (f p.2) p.1 ∧ p.2 ∈ l} => c0 x.1.2 y.1.2) := by
  refine ⟨fun x => ?_, fun x y z q1 q2 => ?_, fun x y z q1 q2 => ?_⟩
  ·simpa [ltOf] using hO.1 _ x.2.2
  ·simp only [ltOf, decide_eq_true_eq] at q1 q2 ⊢
   exact hO.2.1 _ x.2.2 _ y.2.2 _ z.2.2 q1 q2
  ·simp only [ltOf, decide_eq_false_iff_not] at q1 q2 ⊢
   exact hO.ntr _ x.2.2 _ y.2.2 _ z.2.2 q1 q2
 have hdl : d.length = l.length := by have := congrArg List.length g1; simpa using this
 have hD0 : (Sort.flatK enc k d.toArray).toList = cl := by rw [Q3 enc k hk]; exact g2
 have hszF : ∀ d' : Array {p : List Value × α // Rep S (f p.2) p.1 ∧ p.2 ∈ l}, d'.size = d.length → (Sort.flatK enc k d').size = l.length * k := fun d' q => by rw [Sort.size_flatK, q, hdl]
 have hle : l.length * k ≤ arr.size := Nat.le_trans (Nat.mul_le_mul_right _ t2) e2
 have hH2 : Sort.HoldsK enc k w b 0 d.toArray := by
  intro j hj
  have hj' : j < cl.length := by rw [← hD0]; simpa using hj
  have hget : (Sort.flatK enc k d.toArray)[j]! = cl[j] := by
   rw [getElem!_pos _ j hj]
   have : (Sort.flatK enc k d.toArray).toList[j]'(by simpa using hj) = cl[j] := by simp only [hD0]
   simpa using this
  have hcell : arr[j]? = some cl[j] := by
   obtain ⟨u, hu⟩ : ∃ u, u = cl[j] := ⟨_, rfl⟩
   have q : cl[j]? = some u := by rw [hu]; exact List.getElem?_eq_getElem hj'
   rw [← hu]
   clear hget hu
   subst e3
   rw [List.getElem?_take] at q
   split at q
   ·simpa using q
   ·cases q
  constructor
  ·simp only [World.cell?, e1, Option.isSome_none, Bool.false_eq_true, if_false, Nat.zero_add, id, hget]
   exact hcell
  ·simp [World.frozen?, e1]
 have hst : ∀ n (d' : Array {p : List Value × α // Rep S (f p.2) p.1 ∧ p.2 ∈ l}) os, wc S (sortWorldK enc k w b 0 n d' os) := by
  intro n d' os b' o' u hu
  have hne : b' ≠ b := by rintro rfl; rw [e5] at hu; cases hu
  have := hS b' o' u hu
  have hlt : b' < w.heap.size := by
   unfold yc at this
   cases hq : w.heap[b']? with
   | none => simp [hq] at this
   | some _ => exact (Array.getElem?_eq_some_iff.1 hq).1
  unfold yc at this ⊢
  rw [z3j enc k w b n d' os hlt hne]
  exact this
 have heg : Enters P g := by
  obtain ⟨⟨fn', p1, p2, p3⟩, _⟩ := hc x0.1.2 x0.1.2 _ (hcmp _ x0.2.2 _ x0.2.2)
  cases hb : fn'.body with
  | none => simp [hb] at p3
  | some body => exact enters_of p1 p2 hb
 have hcall0 : ∀ (m : Nat) (os : Array Obj) (dk : Array {p : List Value × α // Rep S (f p.2) p.1 ∧ p.2 ∈ l}) (x y : {p : List Value × α // Rep S (f p.2) p.1 ∧ p.2 ∈ l}),
   Calls P g (#[zX (f x.1.2) (enc x), zX (f y.1.2) (enc y)] ++ cv.toArray) (sortWorldK enc k w b 0 m dk os) fun e w' => e = .returned (.int .i64 (c0 x.1.2 y.1.2)) ∧ ∃ q os', w' = Sort.grow ((sortWorldK enc k w b 0 m dk os).drewN q) os' := by
  intro m os dk x y
  have hcall := (hc x.1.2 y.1.2 _ (hcmp _ x.2.2 _ y.2.2)).2 S (sortWorldK enc k w b 0 m dk os) (zX (f x.1.2) (enc x) :: zX (f y.1.2) (enc y) :: cv) [] (hst _ _ _)
   (Q1 ⟨⟨enc x, x.2.1, rfl⟩, ⟨enc y, y.2.1, rfl⟩, hcv⟩) List.nodup_nil
  have ea : (#[zX (f x.1.2) (enc x), zX (f y.1.2) (enc y)] ++ cv.toArray : Array Value) = (zX (f x.1.2) (enc x) :: zX (f y.1.2) (enc y) :: cv : List Value).toArray := by simp
  rw [ea]
  refine hcall.mono ?_
  rintro e w' ⟨v', S', F', rfl, b1, b2, b3, b4, b5, b6, b7⟩
  have hv : v' = .int .i64 (c0 x.1.2 y.1.2) := by
   rcases b5 with ⟨r, _⟩ | ⟨cs, r, _, r2⟩
   ·exact (zI.1 r).1
   ·simp only [zN, Rep] at r
    rw [r2, r.1.1]; rfl
  refine ⟨by rw [hv], z5S (b1.mono fun k hk => ?_)⟩
  simpa using hk
 have hsz62 : d.toArray.size < 4611686018427387904 := by
  simp only [List.size_toArray, hdl]
  omega
 have hcon : Calls P (ρ.f 6) #[.slice (some ⟨b, 0, none⟩) d.toArray.size c, .func (.func g) #[] cv.toArray] w fun e w' =>
   e = .returned (.tuple #[]) ∧ ∃ d' n os, Sort.PermIn 0 d.toArray.size d.toArray d' ∧ Sort.SortedIn (ltOf fun x y : {p : List Value × α // Rep S (f p.2) p.1 ∧ p.2 ∈ l} => c0 x.1.2 y.1.2) 0 d.toArray.size d' ∧ w' = sortWorldK enc k w b 0 n d' os := by
  cases ag with
  | true =>
   refine AnyQ.slices_SortFunc (P := P) (ρ := ρ) L k aE zE enc hk h1 (fun x y => c0 x.1.2 y.1.2) hswo g cv.toArray b 0 c d.toArray w heg ?_ hH2 hblk hsz62
   intro m os dk hs x y
   have q := hcall0 m os dk x y
   have hx : ∀ z : {p : List Value × α // Rep S (f p.2) p.1 ∧ p.2 ∈ l}, zX (f z.1.2) (enc z) = .agg (enc z).toArray := by
    intro z
    have := hag z.1.2
    cases hz : f z.1.2 <;> simp [hz, A.isAgg] at this
    rfl
   rw [hx, hx] at q
   exact q
  | false =>
   have hk1' := hk1 rfl
   subst hk1'
   let e1 : {p : List Value × α // Rep S (f p.2) p.1 ∧ p.2 ∈ l} → Value := fun x => (enc x).headD undef
   have he : ∀ x, enc x = [e1 x] := by
    intro x
    obtain ⟨u, hu⟩ := List.length_eq_one_iff.1 (hk x)
    show enc x = [(enc x).headD undef]
    rw [hu]; rfl
   have hx : ∀ z : {p : List Value × α // Rep S (f p.2) p.1 ∧ p.2 ∈ l}, zX (f z.1.2) (enc z) = e1 z := by
    intro z
    have := hag z.1.2
    cases hz : f z.1.2 <;> simp [hz, A.isAgg] at this <;> rfl
   refine (Any.slices_SortFunc (P := P) (ρ := ρ) { L with a24 := aE, z24 := zE } e1 (fun x => h1 x _ (by rw [he x]; simp)) (fun x y => c0 x.1.2 y.1.2) hswo g cv.toArray b 0 c d.toArray w heg ?_ (z5W he hH2) hblk hsz62).mono ?_
   ·intro m os dk hs x y
    have q := hcall0 m os dk x y
    rw [hx, hx] at q
    rw [z8m enc e1 he]
    exact q
   ·rintro e w' ⟨q1, d', n, os, q2, q3, q4⟩
    exact ⟨q1, d', n, os, q2, q3, by rw [q4, z8m enc e1 he]⟩
 have ea2 : (#[.slice (some ⟨b, 0, none⟩) l.length c, .func (.func g) #[] cv.toArray] : Array Value) = #[.slice (some ⟨b, 0, none⟩) d.toArray.size c, .func (.func g) #[] cv.toArray] := by simp only [List.size_toArray, hdl]
 rw [ea2]
 refine hcon.mono ?_
 rintro e w' ⟨rfl, d', n, os, hp, hs, rfl⟩
 have hds : d'.size = d.length := by simpa using hp.1
 have hperm : d'.toList.Perm d := by
  have := hp.2.2
  have e1 : d'.extract 0 d.toArray.size = d' := by rw [show d.toArray.size = d'.size by simp [hds]]; exact Array.extract_size
  rw [e1, Array.extract_size] at this
  simpa using this
 have hl' : d'.toList.map (fun p => p.1.2) = Qc c0 l := by
  refine z1R hO ?_ ?_
  ·exact (hperm.map _).trans (List.Perm.of_eq g1)
  ·rw [List.pairwise_map, List.pairwise_iff_getElem]
   intro i j hi hj hij
   have hi' : i < d'.size := by simpa using hi
   have hj' : j < d'.size := by simpa using hj
   have := hs i j (Nat.zero_le _) hij (by simpa [hds] using hj')
   rw [getElem!_pos d' j hj', getElem!_pos d' i hi'] at this
   simpa [ltOf] using this
 have hat := zcW enc k w b n d' os e1
 have hFs : (Sort.flatK enc k d').size = l.length * k := hszF d' hds
 have hlen : (Qc c0 l).length = l.length := (kJ c0 l).length_eq
 refine ⟨.tuple #[], rfl, S, [], [b], ⟨rfl, rfl, rfl, Nat.le_add_right _ _, by rw [z9g]; omega, ?_⟩, fun _ _ _ q => q, fun _ _ _ _ => rfl, hst _ _ _, .inl ⟨?_, rfl⟩, ⟨[b], [], rfl, .inr ⟨[.slice (some ⟨b, 0, none⟩) l.length c], ?_, by simp, rfl⟩, rfl⟩, by simp, by simp⟩
 ·intro j hj
  simp only [not_or, Nat.not_le, List.mem_cons, List.not_mem_nil, or_false] at hj
  exact z3j enc k w b n d' os hj.1 hj.2
 ·simp only [we]; exact ⟨[], rfl, trivial⟩
 ·simp only [zN, List.length_map]
  refine ⟨some ⟨b, 0, none⟩, c, by rw [hlen], by rw [hlen]; exact t1, by rw [hlen]; exact t2, t3, ?_, .inr ⟨b, _, ty, (Sort.flatK enc k d').toList, [], rfl, hat, by rw [z0F]; exact e2, ?_, ?_, rfl, e5⟩⟩
  ·intro x hx
   obtain ⟨y, _, rfl⟩ := List.mem_map.1 hx
   exact hsz y
  ·rw [hlen, ← hFs]
   exact z0E (by rw [hFs]; exact hle)
  ·have := (V8 d'.toList).concs (sortWorldK enc k w b 0 n d' os).heap
   rw [hl'] at this
   rw [Q3 enc k hk]
   exact this
section
variable {α : Type}
instance SzA.opS {β : Type} (s s' : Nat) (b b' : Bool) (f : α → A) (g : β → A) (l : List α) (l' : List β) : SzA (eOs s b f l) (eOs s' b' g l') := ⟨rfl⟩
end
abbrev HO := List H × List Ob
noncomputable def hoH (l : List HO) : List H := List.rec [] (fun x _ r => x.1 ++ r) l
noncomputable def hoO (l : List HO) : List Prop := List.rec [] (fun x _ r => x.2.map Ob.p ++ r) l
noncomputable def hoB (l : List HO) : List Ob := List.rec [] (fun x _ r => x.2 ++ r) l
theorem Vg (l : List HO) : hoO l = (hoB l).map Ob.p := by
 induction l with
 | nil => rfl
 | cons x l ih =>
  show x.2.map Ob.p ++ hoO l = (x.2 ++ hoB l).map Ob.p
  rw [List.map_append, ih]
def Hq {t b : Bool} (h : t = b) : HO := ([.b b], [ob h])
abbrev qT : HO := Hq (Eq.refl true)
abbrev qF : HO := Hq (Eq.refl false)
def Ha {x y : A} (h : x = y) : HO := ([.a y], [ob h])
def Hs {x : Option A} {y : A} (h : x = some y) : HO := ([.a y], [ob h])
def Hl {x y : List A} (h : x = y) : HO := ([.l y], [ob h])
def Hm {p : Prop} {x y : List A} (h : p ∧ x = y) : HO := ([.l y], [ob h])
def Hx (a : H) {p : Prop} (h : p) : HO := ([a], [ob h])
def Hn {p : Prop} (h : p) : HO := ([], [ob h])
def Hh (a : H) : HO := ([a], [])
def Hi {α : Type} (f : α → A) {l : List α} {i : Int} {u : α} (h : idx l i = some u) : HO := ([.a (f u)], [ob (i0 h), ob (iM f h)])
def Hc {c : Ctr} {k : Nat} {α ρ : Type} {enc : α → List A} {encR : ρ → A} {F : α → Option ρ} {gives : List Bool} {inj : ∀ x y, enc x = enc y → x = y} (h : c.Has (spF k enc encR F gives inj)) {x : α} {r : ρ} (hr : F x = some r) {as_ : List A} (ha : as_.map A.loose = enc x) : HO :=
 ([.g gives, .a (encR r)], [ob (Qd h), ob (Qe h hr ha)])
def Hg {c : Ctr} {k : Nat} {gives : List Bool} (h : c.lend k = none ∧ c.gives k = gives) : HO := ([.g gives], [ob h])
def Wx (l : List (Nat × T)) : List Nat := l.map (·.1)
section
variable {P : Program} {tt : TT} {ctr : Ctr} {n : Fr} {Q : Exit → St → Prop}
theorem yE6 (X : XH P) (hT : vL P tt) (hC : zM P ctr) (hm : P.follows .mixedOrders = true) {E : St → Prop} {r : A} {keep : Bool} {rs : List (Nat × Option Nat)} (hE : ∀ st x R U, z5s tt keep rs st = some (x, R, U) → LeV x r → E st) {c : Code} {fs : List Fm} {st : St} (L : List HO)
  (e : zao X tt ctr n keep rs 4000 c fs st (hoH L) = some (r, hoO L)) : AWP P n c st (Qf P n fs (z4I E)) :=
 z8P X hT hC hm hE 4000 (hoB L) (by rw [← Vg]; exact e) (LeV.refl _)
theorem zek (X : XH P) (hT : vL P tt) (hC : zM P ctr) (hm : P.follows .mixedOrders = true) {E : St → Prop} {r : A} {keep : Bool} {rs : List (Nat × Option Nat)} (hE : ∀ st x R U, z5s tt keep rs st = some (x, R, U) → LeV x r → E st) {c : Code} {fs : List Fm} {st : St} (L : List HO) (x : A) (hle : LeV x r)
  (e : zao X tt ctr n keep rs 4000 c fs st (hoH L) = some (x, hoO L)) : AWP P n c st (Qf P n fs (z4I E)) :=
 z8P X hT hC hm hE 4000 (hoB L) (by rw [← Vg]; exact e) hle
theorem yB6 (X : XH P) (hT : vL P tt) (hC : zM P ctr) (hm : P.follows .mixedOrders = true) {τ : Type} {J : St → Prop} {live : List Nat} {S : τ → List (Nat × T)} {Inv : τ → Prop} (hJ : ∀ st' l' z, Inv z → canon live st' = ofL l' → LeL l' (S z) → J st') (z : τ) (hz : Inv z) {c : Code} {fs : List Fm} {st : St} (L : List HO)
  (e : KT X tt ctr n live 4000 c fs st (hoH L) = some (.back J, ofL (S z), hoO L)) : AWP P n c st (Qf P n fs Q) :=
 z6o X hT hC hm live 4000 (hoH L) J (S z) (hoB L) (by rw [← Vg]; exact e) fun st0 h0 => hJ st0 _ z hz h0 (LeL.refl _)
theorem zel (X : XH P) (hT : vL P tt) (hC : zM P ctr) (hm : P.follows .mixedOrders = true) {τ : Type} {J : St → Prop} {live : List Nat} {S : τ → List (Nat × T)} {Inv : τ → Prop} (hJ : ∀ st' l' z, Inv z → canon live st' = ofL l' → LeL l' (S z) → J st') (z : τ) (hz : Inv z) {c : Code} {fs : List Fm} {st : St} (l : List (Nat × T)) (hl : LeL l (S z)) (L : List HO)
  (e : KT X tt ctr n live 4000 c fs st (hoH L) = some (.back J, ofL l, hoO L)) : AWP P n c st (Qf P n fs Q) :=
 z6o X hT hC hm live 4000 (hoH L) J l (hoB L) (by rw [← Vg]; exact e) fun st0 h0 => hJ st0 _ z hz h0 hl
theorem yA6 (X : XH P) (hT : vL P tt) (hC : zM P ctr) (hm : P.follows .mixedOrders = true) {c : Code} {fs : List Fm} {st : St} (bd : Code) (path : List Nat) (Js : List (St → Prop)) (l : List (Nat × T)) (L : List HO)
  (e : KT X tt ctr n (Wx l) 4000 c fs st (hoH L) = some (.at (sub path bd) (frs path Js bd []), ofL l, hoO L)) (h : AWP P n (sub path bd) (ofL l) (Qf P n (frs path Js bd []) Q)) : AWP P n c st (Qf P n fs Q) :=
 z89 X hT hC hm (Wx l) 4000 (hoH L) _ _ l (hoB L) (by rw [← Vg]; exact e) fun st0 h0 => z6n h0 h
theorem yL6 (X : XH P) (hT : vL P tt) (hC : zM P ctr) (hm : P.follows .mixedOrders = true) {c : Code} {fs : List Fm} {st : St} (bd : Code) (path : List Nat) (Js : List (St → Prop)) {σ τ : Type} (f : σ → Option (LR σ τ)) (S : σ → List (Nat × T)) (x0 : σ) {t : τ} (ht : loop f x0 = some t) (l : List (Nat × T)) (hl : LeL l (S x0)) (L : List HO)
  (hk : ∀ x, Wx (S x) = Wx l)
  (e : KT X tt ctr n (Wx l) 4000 c fs st (hoH L) = some (.at (sub path bd) (frs path Js bd []), ofL l, hoO L))
  (e2 : sub path bd = .loop (sub (path ++ [0]) bd))
  (round : ∀ x m lr, f x = some lr → zcS f m t lr → ∀ J : St → Prop, (∀ st' l' x', Uj f m x' = some t → canon (Wx l) st' = ofL l' → LeL l' (S x') → J st') → AWP P n (sub (path ++ [0]) bd) (ofL (S x)) (Qf P n (.pre J :: frs path Js bd []) Q)) : AWP P n c st (Qf P n fs Q) := by
 refine z89 X hT hC hm (Wx l) 4000 (hoH L) _ _ l (hoB L) (by rw [← Vg]; exact e) fun st0 h0 => ?_
 refine z87 (X := σ × Nat) e2 (Wx l) (fun x => Uj f x.2 x.1 = some t) (fun x => x.2) (fun x => S x.1) (x0, z4L) _ h0 hl ht ?_
 rintro ⟨x, k⟩ hx J hJ
 obtain ⟨m, lr, rfl, hf, hr⟩ := zd8 hx
 exact round x m lr hf hr J fun st' l' x' h1 h2 h3 => hJ st' l' (x', m) h1 (Nat.lt_succ_self m) h2 h3
theorem yJ6 (X : XH P) (hT : vL P tt) (hC : zM P ctr) (hm : P.follows .mixedOrders = true) {c : Code} {fs : List Fm} {st : St} (bd : Code) (path : List Nat) (Js : List (St → Prop)) {σ : Type} (live : List Nat) (Inv : σ → Prop) (S : σ → List (Nat × T)) (l : List (Nat × T)) (L : List HO)
  (e : KT X tt ctr n (Wx l) 4000 c fs st (hoH L) = some (.at (sub path bd) (frs path Js bd []), ofL l, hoO L))
  (e2 : sub path bd = .seq (sub (path ++ [2]) bd) (sub (path ++ [1]) bd))
  (h1 : ∀ z, Inv z → AWP P n (sub (path ++ [1]) bd) (ofL (S z)) (Qf P n (frs path Js bd []) Q))
  (h2 : ∀ J : St → Prop, (∀ st' l' z, Inv z → canon live st' = ofL l' → LeL l' (S z) → J st') → AWP P n (sub (path ++ [2]) bd) (ofL l) (Qf P n (.pre J :: frs path Js bd []) Q)) : AWP P n c st (Qf P n fs Q) := by
 refine z89 X hT hC hm (Wx l) 4000 (hoH L) _ _ l (hoB L) (by rw [← Vg]; exact e) fun st0 h0 => ?_
 exact z88 e2 live (Wx l) _ h0 Inv S h1 h2
theorem yF6 (X : XH P) (hT : vL P tt) (hC : zM P ctr) (hm : P.follows .mixedOrders = true) {c : Code} {fs : List Fm} {st : St} (ex : Exit) (l : List (Nat × T)) (L : List HO)
  (e : KT X tt ctr n (Wx l) 4000 c fs st (hoH L) = some (.fin ex, ofL l, hoO L)) (h : ∀ st0, canon (Wx l) st0 = ofL l → Q ex st0) : AWP P n c st (Qf P n fs Q) :=
 zbB X hT hC hm (Wx l) 4000 (hoH L) ex l (hoB L) (by rw [← Vg]; exact e) h
theorem zem (X : XH P) (hT : vL P tt) (hC : zM P ctr) (hm : P.follows .mixedOrders = true) {c : Code} {fs : List Fm} {st : St} (c' : Code) (fs' : List Fm) (l : List (Nat × T)) (L : List HO)
  (e : KT X tt ctr n (Wx l) 4000 c fs st (hoH L) = some (.at c' fs', ofL l, hoO L)) (h : ∀ st0, canon (Wx l) st0 = ofL l → AWP P n c' st0 (Qf P n fs' Q)) : AWP P n c st (Qf P n fs Q) :=
 z89 X hT hC hm (Wx l) 4000 (hoH L) _ _ l (hoB L) (by rw [← Vg]; exact e) h
theorem yO6 {k : Nat} {fn : Func} {r : A} {ls : List A} (hT : vL P tt) (keep : Bool) (rs : List (Nat × Option Nat)) (body : Code) (nt : Nat) (hf : P.funcs[k]? = some fn) (hb : fn.body = some body) (hn : nt = fn.ntmps) (hr : fn.results = (rs.map z1h).toArray) (hnm : (fn.name == "runtime.NumGoroutine") = false) (ha : Nat.ble ls.length nt = true)
  (h : ∀ E : St → Prop, (∀ st x R U, z5s tt keep rs st = some (x, R, U) → LeV x r → E st) → AWP P ⟨nt, []⟩ body (ofL (z6E 0 ls)) (Qf P ⟨nt, []⟩ [] (z4I E))) : X9 P k ls r := by
 subst hn
 exact z83 (tt := tt) (keep := keep) (rs := rs) (n := ⟨fn.ntmps, []⟩) (body := body) hT hf hnm hb rfl hr (Nat.le_of_ble_eq_true ha) h
end
section
variable {α β γ δ ε ζ η : Type} {f0 : α → A} {f1 : β → A} {f2 : γ → A} {f3 : δ → A} {f4 : ε → A} {f5 : ζ → A} {f6 : η → A}
theorem z1T [h0 : kc f0] (x y : α) (h : [f0 x] = [f0 y]) : x = y := by simp only [List.cons.injEq, and_true] at h; exact h0.inj _ _ h
theorem Wf [h0 : kc f0] [h1 : kc f1] (x y : α × β) (h : [f0 x.1, f1 x.2] = [f0 y.1, f1 y.2]) : x = y := by
 simp only [List.cons.injEq, and_true] at h
 exact Prod.ext (h0.inj _ _ h.1) (h1.inj _ _ h.2)
theorem z8J [h0 : kc f0] [h1 : kc f1] [h2 : kc f2] (x y : α × β × γ) (h : [f0 x.1, f1 x.2.1, f2 x.2.2] = [f0 y.1, f1 y.2.1, f2 y.2.2]) : x = y := by
 simp only [List.cons.injEq, and_true] at h
 exact Prod.ext (h0.inj _ _ h.1) (Prod.ext (h1.inj _ _ h.2.1) (h2.inj _ _ h.2.2))
theorem zed [h0 : kc f0] [h1 : kc f1] [h2 : kc f2] [h3 : kc f3] (x y : α × β × γ × δ) (h : [f0 x.1, f1 x.2.1, f2 x.2.2.1, f3 x.2.2.2] = [f0 y.1, f1 y.2.1, f2 y.2.2.1, f3 y.2.2.2]) : x = y := by
 simp only [List.cons.injEq, and_true] at h
 exact Prod.ext (h0.inj _ _ h.1) (Prod.ext (h1.inj _ _ h.2.1) (Prod.ext (h2.inj _ _ h.2.2.1) (h3.inj _ _ h.2.2.2)))
end
end Go.Own
