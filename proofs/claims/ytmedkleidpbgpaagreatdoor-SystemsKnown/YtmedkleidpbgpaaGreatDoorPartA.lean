/- -/
import Derived.WalkKit
import Derived.RangeFuncWrites
import Derived.RangeFuncCalls
import Derived.OrdersIn
import Derived.TacticsIn
set_option linter.unusedVariables false
set_option linter.unusedSimpArgs false
namespace Go.Own
inductive ZI where
 | deref
 | fld (i : Nat)
 | idx (i : Nat)
 deriving DecidableEq
abbrev zn := Nat → Nat → Option Value
structure Opq where
 holds : zn → Array Obj → Value → List Nat → Prop
 multi : Bool := false
 one : ∀ {S : zn} {h : Array Obj} {v : Value} {F : List Nat}, holds S h v F → v.oneCell' = true ∨ multi = true ∧ ∃ vs, v = .tuple vs
 frame : ∀ {S S' : zn} {h h' : Array Obj} {v : Value} {F : List Nat}, (∀ b o u, S b o = some u → S' b o = some u) → (∀ k ∈ F, h'[k]? = h[k]? ∧ ∀ o, S' k o = none) → holds S h v F → holds S' h' v F
 own : ∀ {S : zn} {h : Array Obj} {v : Value} {F : List Nat}, holds S h v F → ∀ k ∈ F, k < h.size ∧ ∀ o, S k o = none
 idx : Nat
structure z1t where
 holds : zn → Array Obj → Value → List Nat → Prop
 one : ∀ {S : zn} {h : Array Obj} {v : Value} {F : List Nat}, holds S h v F → v.oneCell' = true
 frame : ∀ {S S' : zn} {h h' : Array Obj} {v : Value} {F : List Nat}, (∀ b o u, S b o = some u → S' b o = some u) → (∀ k ∈ F, h'[k]? = h[k]? ∧ ∀ o, S' k o = none) → holds S h v F → holds S' h' v F
 own : ∀ {S : zn} {h : Array Obj} {v : Value} {F : List Nat}, holds S h v F → ∀ k ∈ F, k < h.size ∧ ∀ o, S k o = none
 idx : Nat
def z1t.q (o : z1t) : Opq := ⟨o.holds, false, fun h => .inl (o.one h), o.frame, o.own, o.idx⟩
def Opq.single (o : Opq) (h : o.multi = false) : z1t := ⟨o.holds, fun q => (o.one q).resolve_right (fun k => by rw [h] at k; simp at k), o.frame, o.own, o.idx⟩
structure Dpq where
 holds : zn → Value → Prop
 one : ∀ {S : zn} {v : Value}, holds S v → v.oneCell' = true
 mono : ∀ {S S' : zn} {v : Value}, (∀ b o u, S b o = some u → S' b o = some u) → holds S v → holds S' v
inductive A where
 | atom (v : Value)
 | fn (f : Nat) (caps : List A)
 | agg (fs : List A)
 | tup (fs : List A)
 | sl (sz : Nat) (t : Bool) (xs : List A)
 | sptr (x : A)
 | osl (sz : Nat) (t : Bool) (es : List A)
 | box (x : A)
 | dead (n : Nat)
 | opq (o : Opq)
 | dop (o : Dpq)
mutual
def A.size : A → Nat
 | .agg fs => A.sizes fs
 | .dead n => n
 | .tup _ => 0
 | _ => 1
def A.sizes : List A → Nat
 | [] => 0
 | a :: as_ => a.size + A.sizes as_
end
mutual
def A.isD : A → Bool
 | .agg fs => A.areD fs
 | .atom _ | .fn _ _ | .sl _ _ _ | .sptr _ | .dop _ => true
 | _ => false
def A.areD : List A → Bool
 | [] => true
 | a :: as_ => a.isD && A.areD as_
end
mutual
def A.plain : A → Bool
 | .agg fs => A.plains fs
 | .opq o => !o.multi
 | _ => true
def A.plains : List A → Bool
 | [] => true
 | a :: as_ => a.plain && A.plains as_
end
def z8S : Value → Bool
 | .agg _ => false
 | _ => true
variable {v : Value}
theorem WQ (h : v.oneCell' = true) : z8S v = true := by cases v <;> first | rfl | (simp [Value.oneCell'] at h)
mutual
def A.live : A → Bool
 | .agg fs => A.lives fs
 | .osl _ _ es => A.lives es
 | .box x => x.live
 | .dead _ => false
 | .opq _ => false
 | .tup _ => false
 | _ => true
def A.lives : List A → Bool
 | [] => true
 | a :: as_ => a.live && A.lives as_
end
mutual
def A.shut : A → A
 | .agg fs => .agg (A.shuts fs)
 | .osl sz t es => .sl sz t (A.shuts es)
 | .box x => .sptr x.shut
 | x => x
def A.shuts : List A → List A
 | [] => []
 | a :: as_ => a.shut :: A.shuts as_
end
mutual
def A.loose : A → A
 | .agg fs => .agg (A.looses fs)
 | .tup fs => .tup (A.looses fs)
 | .sl sz _ xs => .sl sz false (A.looses xs)
 | .osl sz _ es => .osl sz false (A.looses es)
 | .sptr x => .sptr x.loose
 | .box x => .box x.loose
 | .fn f caps => .fn f (A.looses caps)
 | .atom v => .atom v
 | .dead n => .dead n
 | .opq o => .opq o
 | .dop o => .dop o
def A.looses : List A → List A
 | [] => []
 | a :: as_ => a.loose :: A.looses as_
end
def yj (h : Array Obj) (b o : Nat) : Option Value :=
 match h[b]? with
 | some (.cells c _ _) => c[o]?
 | _ => none
def z2Q (S : zn) (b o : Nat) (l : List Value) : Prop := ∀ j v, l[j]? = some v → S b (o + j) = some v
mutual
def Rep (S : zn) : A → List Value → Prop
 | .atom v, cs => cs = [v] ∧ v.oneCell' = true
 | .fn f caps, cs => ∃ vs, yw S caps vs ∧ (∀ c ∈ caps, c.size = 1 ∧ ∀ fs, c ≠ .agg fs) ∧ cs = [.func (.func f) #[] vs.toArray]
 | .agg fs, cs => yw S fs cs
 | .sl sz t xs, cs => ∃ p c, cs = [.slice p xs.length c] ∧ (t = true → c = xs.length) ∧ xs.length ≤ c ∧ (∀ x ∈ xs, x.size = sz) ∧
   (xs = [] ∨ ∃ b o l, p = some ⟨b, o, none⟩ ∧ yw S xs l ∧ z2Q S b o l)
 | .sptr x, cs => ∃ b o l, cs = [.pointer (some ⟨b, o, none⟩)] ∧ Rep S x l ∧ z2Q S b o l
 | .dop q, cs => ∃ v, cs = [v] ∧ q.holds S v
 | _, _ => False
def yw (S : zn) : List A → List Value → Prop
 | [], cs => cs = []
 | a :: as_, cs => ∃ c1 c2, cs = c1 ++ c2 ∧ Rep S a c1 ∧ yw S as_ c2
end
mutual
def zH (S : zn) (h : Array Obj) : A → List Value → List Nat → Prop
  | .osl sz t es, cs, F => ∃ p c, cs = [.slice p es.length c] ∧ (t = true → c = es.length) ∧ es.length ≤ c ∧ c ≤ maxLen ∧ (∀ x ∈ es, x.size = sz) ∧
      ((es = [] ∧ c = 0 ∧ p = none ∧ F = []) ∨
       ∃ b arr ty l F', p = some ⟨b, 0, none⟩ ∧ h[b]? = some (.cells arr ty (0, 0)) ∧ c * sz ≤ arr.size ∧ arr.toList.take (es.length * sz) = l ∧ zL S h es l F' ∧ F = b :: F' ∧ ∀ o, S b o = none)
  | .box x, cs, F => ∃ b ty l F', cs = [.pointer (some ⟨b, 0, none⟩)] ∧ h[b]? = some (.cells l.toArray ty (0, 0)) ∧ zH S h x l F' ∧ F = b :: F' ∧ ∀ o, S b o = none
  | .agg fs, cs, F => zL S h fs cs F
  | .dead n, cs, F => cs.length = n ∧ (∀ u ∈ cs, u.oneCell' = true) ∧ F = []
  | .opq o, cs, F => ∃ v, cs = [v] ∧ o.holds S h v F
  | .atom v, cs, F => Rep S (.atom v) cs ∧ F = []
  | .fn f caps, cs, F => Rep S (.fn f caps) cs ∧ F = []
  | .sl sz t xs, cs, F => Rep S (.sl sz t xs) cs ∧ F = []
  | .sptr x, cs, F => Rep S (.sptr x) cs ∧ F = []
  | .dop q, cs, F => Rep S (.dop q) cs ∧ F = []
  | .tup _, _, _ => False
def zL (S : zn) (h : Array Obj) : List A → List Value → List Nat → Prop
 | [], cs, F => cs = [] ∧ F = []
 | a :: as_, cs, F => ∃ c1 c2 F1 F2, cs = c1 ++ c2 ∧ F = F1 ++ F2 ∧ zH S h a c1 F1 ∧ zL S h as_ c2 F2
end
variable {l : List Value}
theorem z2Q.mono {S S' : zn} (h : ∀ b o v, S b o = some v → S' b o = some v) {b o : Nat}  (hl : z2Q S b o l) : z2Q S' b o l :=
 fun j v hj => h _ _ _ (hl j v hj)
mutual
theorem Rep.mono {S S' : zn} (h : ∀ b o v, S b o = some v → S' b o = some v) : ∀ {a : A} {cs : List Value}, Rep S a cs → Rep S' a cs
 | .atom _, _, r => by simpa only [Rep] using r
 | .fn _ caps, _, r => by
  simp [Rep] at r ⊢
  have ⟨vs, h1, h2, h3⟩ := r
  exact ⟨vs, yw.mono h h1, h2, h3⟩
 | .agg fs, _, r => by simp [Rep] at r ⊢; exact yw.mono h r
 | .sl _ _ xs, _, r => by
  simp [Rep] at r ⊢
  have ⟨p, c, h1, h2, h3, h4, h5⟩ := r
  refine ⟨p, c, h1, h2, h3, h4, h5.imp id ?_⟩
  rintro ⟨b, o, l, e, g, k⟩
  exact ⟨b, o, l, e, yw.mono h g, k.mono h⟩
 | .sptr x, _, r => by
  simp [Rep] at r ⊢
  have ⟨b, o, l, e, g, k⟩ := r
  exact ⟨b, o, l, e, Rep.mono h g, k.mono h⟩
 | .dop q, _, r => by
  simp [Rep] at r ⊢
  have ⟨v, e, g⟩ := r
  exact ⟨v, e, q.mono h g⟩
 | .tup _, _, r => by simp [Rep] at r
 | .osl _ _ _, _, r => by simp [Rep] at r
 | .box _, _, r => by simp [Rep] at r
 | .dead _, _, r => by simp [Rep] at r
 | .opq _, _, r => by simp [Rep] at r
theorem yw.mono {S S' : zn} (h : ∀ b o v, S b o = some v → S' b o = some v) : ∀ {as_ : List A} {cs : List Value}, yw S as_ cs → yw S' as_ cs
 | [], _, r => by simpa only [yw] using r
 | a :: as_, _, r => by
  simp [yw] at r ⊢
  have ⟨c1, c2, e, r1, r2⟩ := r
  exact ⟨c1, c2, e, Rep.mono h r1, yw.mono h r2⟩
end
variable {S : zn}
mutual
theorem Rep.len : ∀ {a : A} {cs : List Value}, Rep S a cs → cs.length = a.size
 | .atom _, _, r => by simp only [Rep] at r; simp [r.1, A.size]
 | .fn _ caps, _, r => by
  simp only [Rep] at r
  have ⟨vs, h1, h2, h3⟩ := r
  simp [h3, A.size]
 | .agg fs, _, r => by simp only [Rep] at r; simp only [A.size]; exact yw.len r
 | .sl _ _ xs, _, r => by
  simp only [Rep] at r
  have ⟨p, c, h1, _⟩ := r
  simp [h1, A.size]
 | .sptr x, _, r => by
  simp only [Rep] at r
  have ⟨b, o, l, e, _⟩ := r
  simp [e, A.size]
 | .dop _, _, r => by
  simp only [Rep] at r
  obtain ⟨v, rfl, _⟩ := r
  rfl
 | .tup _, _, r => by simp only [Rep] at r
 | .osl _ _ _, _, r => by simp only [Rep] at r
 | .box _, _, r => by simp only [Rep] at r
 | .dead _, _, r => by simp only [Rep] at r
 | .opq _, _, r => by simp only [Rep] at r
theorem yw.len : ∀ {as_ : List A} {cs : List Value}, yw S as_ cs → cs.length = A.sizes as_
 | [], _, r => by simp only [yw] at r; simp [r, A.sizes]
 | a :: as_, _, r => by
  simp only [yw] at r
  have ⟨c1, c2, e, r1, r2⟩ := r
  simp [e, A.sizes, Rep.len r1, yw.len r2]
end
mutual
theorem Rep.one : ∀ {a : A} {cs : List Value}, Rep S a cs → ∀ u ∈ cs, u.oneCell' = true
 | .atom _, _, r => by simp only [Rep] at r; obtain ⟨rfl, h⟩ := r; simpa using h
 | .fn _ caps, _, r => by
  simp only [Rep] at r
  obtain ⟨vs, h1, h2, rfl⟩ := r
  simp [Value.oneCell']
 | .agg fs, _, r => by simp only [Rep] at r; exact yw.one r
 | .sl _ _ xs, _, r => by
  simp only [Rep] at r
  obtain ⟨p, c, rfl, _⟩ := r
  simp [Value.oneCell']
 | .sptr x, _, r => by
  simp only [Rep] at r
  obtain ⟨b, o, l, rfl, _⟩ := r
  simp [Value.oneCell']
 | .dop q, _, r => by
  simp only [Rep] at r
  obtain ⟨v, rfl, g⟩ := r
  intro u hu
  rw [List.mem_singleton.1 hu]
  exact q.one g
 | .tup _, _, r => by simp only [Rep] at r
 | .osl _ _ _, _, r => by simp only [Rep] at r
 | .box _, _, r => by simp only [Rep] at r
 | .dead _, _, r => by simp only [Rep] at r
 | .opq _, _, r => by simp only [Rep] at r
theorem yw.one : ∀ {as_ : List A} {cs : List Value}, yw S as_ cs → ∀ u ∈ cs, u.oneCell' = true
 | [], _, r => by simp only [yw] at r; simp [r]
 | a :: as_, _, r => by
  simp only [yw] at r
  obtain ⟨c1, c2, rfl, r1, r2⟩ := r
  intro u hu
  rcases List.mem_append.1 hu with h | h
  ·exact Rep.one r1 u h
  ·exact yw.one r2 u h
end
variable {h : Array Obj}
mutual
theorem zH.len : ∀ {a : A} {cs : List Value} {F : List Nat}, zH S h a cs F → cs.length = a.size
 | .osl _ _ _, _, _, r => by
  simp only [zH] at r
  have ⟨p, c, e, _⟩ := r
  simp [e, A.size]
 | .box _, _, _, r => by
  simp only [zH] at r
  have ⟨b, ty, l, F', e, _⟩ := r
  simp [e, A.size]
 | .agg fs, _, _, r => by simp only [zH] at r; simp only [A.size]; exact zL.len r
 | .dead _, _, _, r => by simp only [zH] at r; simp [r.1, A.size]
 | .opq _, _, _, r => by simp only [zH] at r; obtain ⟨v, rfl, _⟩ := r; rfl
 | .atom _, _, _, r => by simp only [zH] at r; exact r.1.len
 | .fn _ _, _, _, r => by simp only [zH] at r; exact r.1.len
 | .sl _ _ _, _, _, r => by simp only [zH] at r; exact r.1.len
 | .sptr _, _, _, r => by simp only [zH] at r; exact r.1.len
 | .dop _, _, _, r => by simp only [zH] at r; exact r.1.len
 | .tup _, _, _, r => by simp only [zH] at r
theorem zL.len : ∀ {as_ : List A} {cs : List Value} {F : List Nat}, zL S h as_ cs F → cs.length = A.sizes as_
 | [], _, _, r => by simp only [zL] at r; simp [r.1, A.sizes]
 | a :: as_, _, _, r => by
  simp only [zL] at r
  have ⟨c1, c2, F1, F2, e, _, r1, r2⟩ := r
  simp [e, A.sizes, zH.len r1, zL.len r2]
end
mutual
theorem Rep.plain : ∀ {a : A} {cs : List Value}, Rep S a cs → a.plain = true
 | .atom _, _, _ => rfl
 | .fn _ _, _, _ => rfl
 | .agg fs, _, r => by simp [Rep] at r; simp [A.plain]; exact yw.plain r
 | .sl _ _ _, _, _ => rfl
 | .sptr _, _, _ => rfl
 | .dop _, _, _ => rfl
 | .tup _, _, _ => rfl
 | .osl _ _ _, _, _ => rfl
 | .box _, _, _ => rfl
 | .dead _, _, _ => rfl
 | .opq _, _, r => by simp [Rep] at r
theorem yw.plain : ∀ {as_ : List A} {cs : List Value}, yw S as_ cs → A.plains as_ = true
 | [], _, _ => rfl
 | a :: as_, _, r => by
  simp [yw] at r
  have ⟨c1, c2, _, r1, r2⟩ := r
  simp [A.plains, Rep.plain r1, yw.plain r2, Bool.and_self]
end
mutual
theorem zH.one : ∀ {a : A} {cs : List Value} {F : List Nat}, zH S h a cs F → ∀ u ∈ cs, z8S u = true ∧ (a.plain = true → u.oneCell' = true)
 | .osl _ _ _, _, _, r => by
  simp only [zH] at r
  obtain ⟨p, c, rfl, _⟩ := r
  simp [Value.oneCell', z8S]
 | .box _, _, _, r => by
  simp only [zH] at r
  obtain ⟨b, ty, l, F', rfl, _⟩ := r
  simp [Value.oneCell', z8S]
 | .agg fs, _, _, r => by simp only [zH] at r; simp only [A.plain]; exact zL.one r
 | .dead _, _, _, r => by simp only [zH] at r; exact fun u hu => ⟨WQ (r.2.1 u hu), fun _ => r.2.1 u hu⟩
 | .opq o, _, _, r => by
  simp only [zH] at r
  obtain ⟨v, rfl, q⟩ := r
  intro u hu
  simp only [List.mem_cons, List.not_mem_nil, or_false] at hu
  subst hu
  rcases o.one q with g | ⟨g, vs, rfl⟩
  ·exact ⟨WQ g, fun _ => g⟩
  ·exact ⟨rfl, fun k => by simp [A.plain, g] at k⟩
 | .atom _, _, _, r => by simp only [zH] at r; exact fun u hu => ⟨WQ (r.1.one u hu), fun _ => r.1.one u hu⟩
 | .fn _ _, _, _, r => by simp only [zH] at r; exact fun u hu => ⟨WQ (r.1.one u hu), fun _ => r.1.one u hu⟩
 | .sl _ _ _, _, _, r => by simp only [zH] at r; exact fun u hu => ⟨WQ (r.1.one u hu), fun _ => r.1.one u hu⟩
 | .sptr _, _, _, r => by simp only [zH] at r; exact fun u hu => ⟨WQ (r.1.one u hu), fun _ => r.1.one u hu⟩
 | .dop _, _, _, r => by simp only [zH] at r; exact fun u hu => ⟨WQ (r.1.one u hu), fun _ => r.1.one u hu⟩
 | .tup _, _, _, r => by simp only [zH] at r
theorem zL.one : ∀ {as_ : List A} {cs : List Value} {F : List Nat}, zL S h as_ cs F → ∀ u ∈ cs, z8S u = true ∧ (A.plains as_ = true → u.oneCell' = true)
 | [], _, _, r => by simp only [zL] at r; simp [r.1]
 | a :: as_, _, _, r => by
  simp only [zL] at r
  obtain ⟨c1, c2, F1, F2, rfl, _, r1, r2⟩ := r
  intro u hu
  simp only [A.plains, Bool.and_eq_true]
  rcases List.mem_append.1 hu with h | h
  ·exact ⟨(zH.one r1 u h).1, fun k => (zH.one r1 u h).2 k.1⟩
  ·exact ⟨(zL.one r2 u h).1, fun k => (zL.one r2 u h).2 k.2⟩
end
variable {cs : List Value}{F : List Nat}
theorem zH.na {a : A}   (r : zH S h a cs F) : ∀ u ∈ cs, z8S u = true := fun u hu => (r.one u hu).1
theorem zH.one1 {a : A}   (r : zH S h a cs F) (hp : a.plain = true) : ∀ u ∈ cs, u.oneCell' = true := fun u hu => (r.one u hu).2 hp
mutual
theorem zH.frame {S S' : zn} {h h' : Array Obj} (hS : ∀ b o v, S b o = some v → S' b o = some v) : ∀ {a : A} {cs : List Value} {F : List Nat}, zH S h a cs F →
  (∀ k ∈ F, h'[k]? = h[k]? ∧ ∀ o, S' k o = none) → zH S' h' a cs F
 | .osl _ _ _, _, _, r, hF => by
  simp only [zH] at r ⊢
  have ⟨p, c, e, h1, h2, h3, h4, h5⟩ := r
  refine ⟨p, c, e, h1, h2, h3, h4, h5.imp id ?_⟩
  rintro ⟨b, arr, ty, l, F', e1, e2, e3, e4, e5, rfl, e7⟩
  exact ⟨b, arr, ty, l, F', e1, by rw [(hF b (by simp)).1]; exact e2, e3, e4, zL.frame hS e5 (fun k hk => hF k (by simp [hk])), rfl, (hF b (by simp)).2⟩
 | .box _, _, _, r, hF => by
  simp only [zH] at r ⊢
  obtain ⟨b, ty, l, F', e, e1, e2, rfl, e4⟩ := r
  exact ⟨b, ty, l, F', e, by rw [(hF b (by simp)).1]; exact e1, zH.frame hS e2 (fun k hk => hF k (by simp [hk])), rfl, (hF b (by simp)).2⟩
 | .agg fs, _, _, r, hF => by simp only [zH] at r ⊢; exact zL.frame hS r hF
 | .dead _, _, _, r, _ => by simpa only [zH] using r
 | .opq o, _, _, r, hF => by
  simp only [zH] at r ⊢
  have ⟨v, e, q⟩ := r
  exact ⟨v, e, o.frame hS hF q⟩
 | .atom _, _, _, r, _ => by simp only [zH] at r ⊢; exact ⟨r.1.mono hS, r.2⟩
 | .fn _ _, _, _, r, _ => by simp only [zH] at r ⊢; exact ⟨r.1.mono hS, r.2⟩
 | .sl _ _ _, _, _, r, _ => by simp only [zH] at r ⊢; exact ⟨r.1.mono hS, r.2⟩
 | .sptr _, _, _, r, _ => by simp only [zH] at r ⊢; exact ⟨r.1.mono hS, r.2⟩
 | .dop _, _, _, r, _ => by simp only [zH] at r ⊢; exact ⟨r.1.mono hS, r.2⟩
 | .tup _, _, _, r, _ => by simp only [zH] at r
theorem zL.frame {S S' : zn} {h h' : Array Obj} (hS : ∀ b o v, S b o = some v → S' b o = some v) : ∀ {as_ : List A} {cs : List Value} {F : List Nat}, zL S h as_ cs F →
  (∀ k ∈ F, h'[k]? = h[k]? ∧ ∀ o, S' k o = none) → zL S' h' as_ cs F
 | [], _, _, r, _ => by simpa only [zL] using r
 | a :: as_, _, _, r, hF => by
  simp only [zL] at r ⊢
  obtain ⟨c1, c2, F1, F2, rfl, rfl, r1, r2⟩ := r
  exact ⟨c1, c2, F1, F2, rfl, rfl, zH.frame hS r1 (fun k hk => hF k (by simp [hk])), zL.frame hS r2 (fun k hk => hF k (by simp [hk]))⟩
end
mutual
theorem zH.own : ∀ {a : A} {cs : List Value} {F : List Nat}, zH S h a cs F → ∀ k ∈ F, k < h.size ∧ (∀ o, S k o = none) ∧ True
 | .osl _ _ _, _, _, r => by
  simp only [zH] at r
  have ⟨p, c, e, h1, h2, h3, h4, h5⟩ := r
  rcases h5 with ⟨_, _, _, rfl⟩ | ⟨b, arr, ty, l, F', e1, e2, e3, e4, e5, rfl, e7⟩
  ·simp
  ·intro k hk
   rcases List.mem_cons.1 hk with rfl | hk
   ·exact ⟨(Array.getElem?_eq_some_iff.1 e2).1, e7, trivial⟩
   ·exact zL.own e5 k hk
 | .box _, _, _, r => by
  simp only [zH] at r
  obtain ⟨b, ty, l, F', e, e1, e2, rfl, e4⟩ := r
  intro k hk
  rcases List.mem_cons.1 hk with rfl | hk
  ·exact ⟨(Array.getElem?_eq_some_iff.1 e1).1, e4, trivial⟩
  ·exact zH.own e2 k hk
 | .agg fs, _, _, r => by simp only [zH] at r; exact zL.own r
 | .dead _, _, _, r => by simp only [zH] at r; simp [r.2.2]
 | .opq o, _, _, r => by
  simp only [zH] at r
  obtain ⟨v, rfl, q⟩ := r
  intro k hk
  exact ⟨(o.own q k hk).1, (o.own q k hk).2, trivial⟩
 | .atom _, _, _, r => by simp only [zH] at r; simp [r.2]
 | .fn _ _, _, _, r => by simp only [zH] at r; simp [r.2]
 | .sl _ _ _, _, _, r => by simp only [zH] at r; simp [r.2]
 | .sptr _, _, _, r => by simp only [zH] at r; simp [r.2]
 | .dop _, _, _, r => by simp only [zH] at r; simp [r.2]
 | .tup _, _, _, r => by simp only [zH] at r
theorem zL.own : ∀ {as_ : List A} {cs : List Value} {F : List Nat}, zL S h as_ cs F → ∀ k ∈ F, k < h.size ∧ (∀ o, S k o = none) ∧ True
 | [], _, _, r => by simp only [zL] at r; simp [r.2]
 | a :: as_, _, _, r => by
  simp only [zL] at r
  obtain ⟨c1, c2, F1, F2, rfl, rfl, r1, r2⟩ := r
  intro k hk
  rcases List.mem_append.1 hk with h | h
  ·exact zH.own r1 k h
  ·exact zL.own r2 k h
end
mutual
theorem zH.isD : ∀ {a : A} {cs : List Value} {F : List Nat}, a.isD = true → zH S h a cs F → Rep S a cs ∧ F = []
 | .agg fs, _, _, d, r => by
  simp only [A.isD] at d
  simp only [zH] at r
  simp only [Rep]
  exact zL.areD d r
 | .atom _, _, _, _, r => by simpa only [zH] using r
 | .fn _ _, _, _, _, r => by simpa only [zH] using r
 | .sl _ _ _, _, _, _, r => by simpa only [zH] using r
 | .sptr _, _, _, _, r => by simpa only [zH] using r
 | .dop _, _, _, _, r => by simpa only [zH] using r
 | .tup _, _, _, d, _ => by simp [A.isD] at d
 | .osl _ _ _, _, _, d, _ => by simp [A.isD] at d
 | .box _, _, _, d, _ => by simp [A.isD] at d
 | .dead _, _, _, d, _ => by simp [A.isD] at d
 | .opq _, _, _, d, _ => by simp [A.isD] at d
theorem zL.areD : ∀ {as_ : List A} {cs : List Value} {F : List Nat}, A.areD as_ = true → zL S h as_ cs F → yw S as_ cs ∧ F = []
 | [], _, _, _, r => by simpa only [zL, yw] using r
 | a :: as_, _, _, d, r => by
  simp only [A.areD, Bool.and_eq_true] at d
  simp only [zL] at r
  obtain ⟨c1, c2, F1, F2, rfl, rfl, r1, r2⟩ := r
  obtain ⟨q1, rfl⟩ := zH.isD d.1 r1
  obtain ⟨q2, rfl⟩ := zL.areD d.2 r2
  exact ⟨by simp only [yw]; exact ⟨c1, c2, rfl, q1, q2⟩, rfl⟩
end
mutual
theorem Rep.conc (h : Array Obj) : ∀ {a : A} {cs : List Value}, Rep S a cs → zH S h a cs []
 | .agg fs, _, r => by simp only [Rep] at r; simp only [zH]; exact yw.concs h r
 | .atom _, _, r => by simp only [zH]; exact ⟨r, trivial⟩
 | .fn _ _, _, r => by simp only [zH]; exact ⟨r, trivial⟩
 | .sl _ _ _, _, r => by simp only [zH]; exact ⟨r, trivial⟩
 | .sptr _, _, r => by simp only [zH]; exact ⟨r, trivial⟩
 | .dop _, _, r => by simp only [zH]; exact ⟨r, trivial⟩
 | .tup _, _, r => by simp only [Rep] at r
 | .osl _ _ _, _, r => by simp only [Rep] at r
 | .box _, _, r => by simp only [Rep] at r
 | .dead _, _, r => by simp only [Rep] at r
 | .opq _, _, r => by simp only [Rep] at r
theorem yw.concs (h : Array Obj) : ∀ {as_ : List A} {cs : List Value}, yw S as_ cs → zL S h as_ cs []
 | [], _, r => by simp only [yw] at r; simp only [zL]; exact ⟨r, trivial⟩
 | a :: as_, _, r => by
  simp only [yw] at r
  obtain ⟨c1, c2, rfl, r1, r2⟩ := r
  simp only [zL]
  exact ⟨c1, c2, [], [], rfl, rfl, Rep.conc h r1, yw.concs h r2⟩
end
theorem A.shuts_eq (as_ : List A) : A.shuts as_ = as_.map A.shut := by
 induction as_ with
 | nil => rfl
 | cons a as_ ih => simp [A.shuts, ih]
theorem A.sizes_eq (as_ : List A) : A.sizes as_ = (as_.map A.size).sum := by
 induction as_ with
 | nil => rfl
 | cons a as_ ih => simp [A.sizes, ih]
variable {sz : Nat}
theorem A.sizes_const {as_ : List A}  (h : ∀ x ∈ as_, x.size = sz) : A.sizes as_ = as_.length * sz := by
 induction as_ with
 | nil => simp [A.sizes]
 | cons a as_ ih => simp [A.sizes, h a (by simp), ih (fun x hx => h x (by simp [hx])), List.length_cons, Nat.add_mul, Nat.one_mul]; omega
mutual
theorem A.size_shut : ∀ (a : A), a.shut.size = a.size
 | .agg fs => by simp [A.shut, A.size]; exact A.sizes_shuts fs
 | .osl _ _ _ => rfl
 | .box _ => rfl
 | .atom _ => rfl
 | .fn _ _ => rfl
 | .sl _ _ _ => rfl
 | .sptr _ => rfl
 | .dop _ => rfl
 | .tup _ => rfl
 | .dead _ => rfl
 | .opq _ => rfl
theorem A.sizes_shuts : ∀ (as_ : List A), A.sizes (A.shuts as_) = A.sizes as_
 | [] => rfl
 | a :: as_ => by simp [A.shuts, A.sizes, A.size_shut a, A.sizes_shuts as_]
end
mutual
theorem zH.shut {S S' : zn}  (hS : ∀ b o v, S b o = some v → S' b o = some v) : ∀ {a : A} {cs : List Value} {F : List Nat}, zH S h a cs F → a.live = true →
  (∀ k ∈ F, ∀ o, S' k o = yj h k o) → Rep S' a.shut cs
 | .osl sz t es, _, _, r, l, hF => by
  simp only [zH] at r
  simp only [A.live] at l
  have ⟨p, c, e, h1, h2, h3, h4, h5⟩ := r
  simp only [A.shut, Rep]
  have hlen : (A.shuts es).length = es.length := by simp [A.shuts_eq]
  rw [hlen]
  refine ⟨p, c, e, h1, h2, ?_, ?_⟩
  ·intro x hx
   rw [A.shuts_eq] at hx
   obtain ⟨y, hy, rfl⟩ := List.mem_map.1 hx
   rw [A.size_shut]; exact h4 y hy
  ·rcases h5 with ⟨rfl, _⟩ | ⟨b, arr, ty, l', F', e1, e2, e3, e4, e5, rfl, e7⟩
   ·exact .inl rfl
   ·refine .inr ⟨b, 0, l', e1, zL.shut hS e5 l (fun k hk => hF k (by simp [hk])), ?_⟩
    intro j v hj
    rw [hF b (by simp), yj, e2]
    simp only [Nat.zero_add]
    rw [← e4, List.getElem?_take] at hj
    split at hj
    ·simpa using hj
    ·cases hj
 | .box x, _, _, r, l, hF => by
  simp only [zH] at r
  simp only [A.live] at l
  obtain ⟨b, ty, l', F', e, e1, e2, rfl, e4⟩ := r
  simp only [A.shut, Rep]
  refine ⟨b, 0, l', e, zH.shut hS e2 l (fun k hk => hF k (by simp [hk])), ?_⟩
  intro j v hj
  rw [hF b (by simp), yj, e1]
  simpa using hj
 | .agg fs, _, _, r, l, hF => by
  simp only [zH] at r
  simp only [A.live] at l
  simp only [A.shut, Rep]
  exact zL.shut hS r l hF
 | .dead _, _, _, _, l, _ => by simp [A.live] at l
 | .opq _, _, _, _, l, _ => by simp [A.live] at l
 | .atom _, _, _, r, _, _ => by simp only [zH] at r; exact r.1.mono hS
 | .fn _ _, _, _, r, _, _ => by simp only [zH] at r; exact r.1.mono hS
 | .sl _ _ _, _, _, r, _, _ => by simp only [zH] at r; exact r.1.mono hS
 | .sptr _, _, _, r, _, _ => by simp only [zH] at r; exact r.1.mono hS
 | .dop _, _, _, r, _, _ => by simp only [zH] at r; exact r.1.mono hS
 | .tup _, _, _, r, _, _ => by simp only [zH] at r
theorem zL.shut {S S' : zn}  (hS : ∀ b o v, S b o = some v → S' b o = some v) : ∀ {as_ : List A} {cs : List Value} {F : List Nat}, zL S h as_ cs F → A.lives as_ = true →
  (∀ k ∈ F, ∀ o, S' k o = yj h k o) → yw S' (A.shuts as_) cs
 | [], _, _, r, _, _ => by simp only [zL] at r; simp only [A.shuts, yw]; exact r.1
 | a :: as_, _, _, r, l, hF => by
  simp only [zL] at r
  simp only [A.lives, Bool.and_eq_true] at l
  obtain ⟨c1, c2, F1, F2, rfl, rfl, r1, r2⟩ := r
  simp only [A.shuts, yw]
  exact ⟨c1, c2, rfl, zH.shut hS r1 l.1 (fun k hk => hF k (by simp [hk])), zL.shut hS r2 l.2 (fun k hk => hF k (by simp [hk]))⟩
end
def erQ (g T : Nat) (b : Bool) : Dpq := {
 holds := fun S v => (b = true → S g 0 = some v ∧ ∃ a, v = .iface T (.pointer (some a))) ∧ (b = false → v = .nilIface)
 one := by
  rintro S v ⟨h1, h2⟩
  cases b with
  | true => obtain ⟨_, a, rfl⟩ := h1 rfl; rfl
  | false => rw [h2 rfl]; rfl
 mono := fun h k => ⟨fun e => ⟨h _ _ _ (k.1 e).1, (k.1 e).2⟩, k.2⟩ }
def eEr (g T : Nat) (b : Bool) : A := .dop (erQ g T b)
def z63 (g : Nat) : Option A := if g = 0 then some (eEr 0 175 true) else none
def wF : List ZI → A → Option A
 | [], x => some x
 | .deref :: p, .box x => wF p x
 | .fld i :: p, .agg fs => match fs[i]? with | some y => wF p y | none => none
 | .idx i :: p, .osl _ _ es => match es[i]? with | some y => wF p y | none => none
 | _, _ => none
def Ww : List ZI → A → A → A
 | [], _, z => z
 | .deref :: p, .box x, z => .box (Ww p x z)
 | .fld i :: p, .agg fs, z => .agg (match fs[i]? with | some y => fs.set i (Ww p y z) | none => fs)
 | .idx i :: p, .osl sz t es, z => .osl sz t (match es[i]? with | some y => es.set i (Ww p y z) | none => es)
 | _, x, _ => x
def Qo (h : Array Obj) : List ZI → A → Nat → Nat → Option (Nat × Nat)
 | [], _, b, o => some (b, o)
 | .fld i :: p, .agg fs, b, o => match fs[i]? with | some y => Qo h p y b (o + A.sizes (fs.take i)) | none => none
 | .deref :: p, .box x, b, o => match yj h b o with | some (.pointer (some a)) => Qo h p x a.block 0 | _ => none
 | .idx i :: p, .osl sz _ es, b, o => match es[i]?, yj h b o with | some y, some (.slice (some a) _ _) => Qo h p y a.block (i * sz) | _, _ => none
 | _, _, _, _ => none
def KT (arr : Array Value) (o : Nat) (l : List Value) : Prop := ∀ j v, l[j]? = some v → arr[o + j]? = some v
def WP (arr : Array Value) (o : Nat) (l : List Value) : Array Value := arr.mapIdx fun k v => (if o ≤ k then l[k - o]? else none).getD v
theorem jE (arr : Array Value) (o : Nat) (l : List Value) (k : Nat) : (WP arr o l)[k]? = arr[k]?.map fun v => (if o ≤ k then l[k - o]? else none).getD v := by
 simp [WP, Array.getElem?_mapIdx]
@[simp] theorem zbC (arr : Array Value) (o : Nat) (l : List Value) : (WP arr o l).size = arr.size := by simp [WP]
variable {arr : Array Value}
theorem Xz {o : Nat}  (hs : KT arr o l) : WP arr o l = arr := by
 apply Array.ext_getElem?
 intro k
 rw [jE]
 cases ha : arr[k]? with
 | none => rfl
 | some v =>
  simp [Option.map_some]
  by_cases hk : o ≤ k
  ·simp [hk]
   cases hl : l[k - o]? with
   | none => rfl
   | some u =>
    have := hs _ _ hl
    rw [show o + (k - o) = k from by omega, ha] at this
    simpa using this.symm
  ·simp [hk]
variable {c1 ci c2 : List Value}
theorem KT.mid {o : Nat}  (hs : KT arr o (c1 ++ ci ++ c2)) : KT arr (o + c1.length) ci := by
 intro j v hj
 have hlt := (List.getElem?_eq_some_iff.1 hj).1
 have := hs (c1.length + j) v (by rw [List.append_assoc, List.getElem?_append_right (by omega), Nat.add_sub_cancel_left, List.getElem?_append_left hlt]; exact hj)
 rwa [← Nat.add_assoc] at this
theorem Jx {o : Nat} {c1 ci ci' c2 : List Value} (hs : KT arr o (c1 ++ ci ++ c2)) (hl : ci'.length = ci.length) :
  WP arr o (c1 ++ ci' ++ c2) = WP arr (o + c1.length) ci' := by
 apply Array.ext_getElem?
 intro k
 rw [jE, jE]
 cases ha : arr[k]? with
 | none => rfl
 | some v =>
  simp only [Option.map_some, Option.some.injEq]
  by_cases h1 : o ≤ k
  ·simp only [h1, if_true]
   by_cases h2 : k - o < c1.length
   ·rw [if_neg (by omega), List.append_assoc, List.getElem?_append_left h2]
    have := hs (k - o) c1[k - o] (by rw [List.append_assoc, List.getElem?_append_left h2]; exact List.getElem?_eq_getElem h2)
    rw [show o + (k - o) = k from by omega, ha] at this
    rw [List.getElem?_eq_getElem h2]
    simpa using this.symm
   ·rw [if_pos (by omega), List.append_assoc, List.getElem?_append_right (by omega)]
    by_cases h3 : k - o - c1.length < ci'.length
    ·rw [List.getElem?_append_left h3, show k - (o + c1.length) = k - o - c1.length from by omega]
    ·rw [List.getElem?_append_right (by omega), List.getElem?_eq_none (l := ci') (i := k - (o + c1.length)) (by omega)]
     simp only [Option.getD_none]
     cases h4 : c2[k - o - c1.length - ci'.length]? with
     | none => rfl
     | some u =>
      have := hs (k - o) u (by rw [List.append_assoc, List.getElem?_append_right (by omega), List.getElem?_append_right (by omega), ← hl]; exact h4)
      rw [show o + (k - o) = k from by omega, ha] at this
      simpa using this.symm
  ·rw [if_neg h1, if_neg (by omega)]
theorem zL.split : ∀ {as_ : List A} {cs : List Value} {F : List Nat} {i : Nat} {x : A}, zL S h as_ cs F → as_[i]? = some x →
  ∃ c1 ci c2 F1 Fi F2, cs = c1 ++ ci ++ c2 ∧ F = F1 ++ Fi ++ F2 ∧ c1.length = A.sizes (as_.take i) ∧ zH S h x ci Fi ∧
   ∀ (S' : zn) (h' : Array Obj) (z : A) (ci' : List Value) (Fi' : List Nat), (∀ b o v, S b o = some v → S' b o = some v) → (∀ k, k ∈ F1 ∨ k ∈ F2 → h'[k]? = h[k]? ∧ ∀ o, S' k o = none) →
    zH S' h' z ci' Fi' → zL S' h' (as_.set i z) (c1 ++ ci' ++ c2) (F1 ++ Fi' ++ F2)
 | [], _, _, _, _, _, e => by simp at e
 | a :: as_, cs, F, 0, x, r, e => by
  simp at e
  subst e
  simp only [zL] at r
  obtain ⟨c1, c2, F1, F2, rfl, rfl, r1, r2⟩ := r
  refine ⟨[], c1, c2, [], F1, F2, rfl, rfl, rfl, r1, ?_⟩
  intro S' h' z ci' Fi' hS hk hz
  simp only [List.set_cons_zero, List.nil_append, zL]
  exact ⟨ci', c2, Fi', F2, rfl, rfl, hz, zL.frame hS r2 (fun k hk' => hk k (.inr hk'))⟩
 | a :: as_, cs, F, i + 1, x, r, e => by
  simp at e
  simp only [zL] at r
  obtain ⟨c1, c2, F1, F2, rfl, rfl, r1, r2⟩ := r
  obtain ⟨d1, di, d2, G1, Gi, G2, rfl, rfl, hl, hx, hup⟩ := zL.split r2 e
  refine ⟨c1 ++ d1, di, d2, F1 ++ G1, Gi, G2, by simp, by simp, by simp [A.sizes, hl, r1.len], hx, ?_⟩
  intro S' h' z ci' Fi' hS hk hz
  simp only [List.set_cons_succ, zL]
  refine ⟨c1, d1 ++ ci' ++ d2, F1, G1 ++ Fi' ++ G2, by simp, by simp, zH.frame hS r1 (fun k hk' => hk k (.inl (by simp [hk']))), hup S' h' z ci' Fi' hS (fun k hk' => hk k ?_) hz⟩
  rcases hk' with h | h
  ·exact .inl (by simp [h])
  ·exact .inr h
theorem z69 {S : zn} {h : Array Obj} : ∀ (p : List ZI) {x0 : A} {cs0 : List Value} {F0 : List Nat} {b0 o0 : Nat} {arr0 : Array Value} {ty0 : TypeId},
  zH S h x0 cs0 F0 → F0.Nodup → b0 ∉ F0 → h[b0]? = some (.cells arr0 ty0 (0, 0)) → KT arr0 o0 cs0 → ∀ {y : A}, wF p x0 = some y →
  ∃ b o arr ty csy Fy, Qo h p x0 b0 o0 = some (b, o) ∧ h[b]? = some (.cells arr ty (0, 0)) ∧ KT arr o csy ∧ zH S h y csy Fy ∧ b ∉ Fy ∧ (b = b0 ∨ b ∈ F0) ∧ (∀ k ∈ Fy, k ∈ F0) ∧ Fy.Nodup ∧
   ∀ (S' : zn) (h' : Array Obj) (z : A) (csz : List Value) (Fz : List Nat), (∀ b o v, S b o = some v → S' b o = some v) → csz.length = csy.length → zH S' h' z csz Fz → Fz.Nodup →
    (∀ k ∈ F0, k ∉ Fy → ∀ o, S' k o = none) → (∀ k, k = b0 ∨ k ∈ F0 → k ∉ Fy → k ≠ b → h'[k]? = h[k]?) → h'[b]? = some (.cells (WP arr o csz) ty (0, 0)) →
    (∀ k ∈ Fz, k ∈ F0 → k ∈ Fy) →
    ∃ cs0' F0', zH S' h' (Ww p x0 z) cs0' F0' ∧ cs0'.length = cs0.length ∧ F0'.Nodup ∧ (∀ k, k ∈ F0' ↔ (k ∈ F0 ∧ k ∉ Fy) ∨ k ∈ Fz) ∧ h'[b0]? = some (.cells (WP arr0 o0 cs0') ty0 (0, 0))
 | [], x0, cs0, F0, b0, o0, arr0, ty0, hx, hn, hb, hh, hs, y, e => by
  simp only [wF, Option.some.injEq] at e
  subst e
  refine ⟨b0, o0, arr0, ty0, cs0, F0, rfl, hh, hs, hx, hb, .inl rfl, fun _ h => h, hn, ?_⟩
  intro S' h' z csz Fz _ hl hz hnz _ _ hb' _
  exact ⟨csz, Fz, by simpa only [Ww] using hz, hl, hnz, fun k => ⟨fun h => .inr h, fun h => h.elim (fun h => absurd h.1 h.2) id⟩, hb'⟩
 | .fld i :: p, .agg fs, cs0, F0, b0, o0, arr0, ty0, hx, hn, hb, hh, hs, y, e => by
  simp only [wF] at e
  cases hf : fs[i]? with
  | none => simp [hf] at e
  | some x1 =>
   simp only [hf] at e
   simp only [zH] at hx
   obtain ⟨c1, ci, c2, F1, Fi, F2, rfl, rfl, hl1, hxi, hup⟩ := zL.split hx hf
   have hn' := hn
   rw [List.append_assoc, List.nodup_append] at hn'
   have ⟨n1, n2, n3⟩ := hn'
   rw [List.nodup_append] at n2
   have ⟨n4, n5, n6⟩ := n2
   have hbi : b0 ∉ Fi := fun h => hb (by simp [h])
   have ⟨b, o, arr, ty, csy, Fy, g1, g2, g3, g4, g5, g6, g7, g8, g9⟩ := z69 p hxi n4 hbi hh hs.mid e
   refine ⟨b, o, arr, ty, csy, Fy, ?_, g2, g3, g4, g5, g6.imp id (fun h => by simp [h]), fun k hk => by simp [g7 k hk], g8, ?_⟩
   ·simp only [Qo, hf]; rw [← hl1]; exact g1
   ·intro S' h' z csz Fz hS hl hz hnz hfree hh' hb' hsep
    have hsub : ∀ k ∈ Fi, k ∈ F1 ++ Fi ++ F2 := fun k hk => by simp [hk]
    have ⟨ci', Fi', q1, q2, q3, q4, q5⟩ := g9 S' h' z csz Fz hS hl hz hnz (fun k hk => hfree k (hsub k hk)) (fun k hk => hh' k (hk.imp id (hsub k))) hb' (fun k hk hk' => hsep k hk (hsub k hk'))
    have hoth : ∀ k, k ∈ F1 ∨ k ∈ F2 → k ∉ Fy ∧ k ≠ b ∧ k ∈ F1 ++ Fi ++ F2 := by
     intro k hk
     have hki : k ∉ Fi := by
      rcases hk with hk | hk
      ·exact fun h => n3 k hk k (by simp [h]) rfl
      ·exact fun h => n6 k h k hk rfl
     refine ⟨fun h => hki (g7 k h), ?_, by rcases hk with hk | hk <;> simp [hk]⟩
     rintro rfl
     rcases g6 with rfl | g6
     ·exact hb (by rcases hk with hk | hk <;> simp [hk])
     ·exact hki g6
    refine ⟨c1 ++ ci' ++ c2, F1 ++ Fi' ++ F2, ?_, by simp [q2], ?_, ?_, ?_⟩
    ·simp only [Ww, hf, zH]
     exact hup S' h' _ ci' Fi' hS (fun k hk => ⟨hh' k (.inr (hoth k hk).2.2) (hoth k hk).1 (hoth k hk).2.1, hfree k (hoth k hk).2.2 (hoth k hk).1⟩) q1
    ·rw [List.append_assoc, List.nodup_append]
     refine ⟨n1, ?_, ?_⟩
     ·rw [List.nodup_append]
      refine ⟨q3, n5, ?_⟩
      rintro a ha b' hb'' rfl
      rcases (q4 a).1 ha with h | h
      ·exact n6 a h.1 a hb'' rfl
      ·exact (hoth a (.inr hb'')).1 (hsep a h (hoth a (.inr hb'')).2.2)
     ·rintro a ha b' hb'' rfl
      rcases List.mem_append.1 hb'' with h | h
      ·rcases (q4 a).1 h with h | h
       ·exact n3 a ha a (by simp [h.1]) rfl
       ·exact (hoth a (.inl ha)).1 (hsep a h (hoth a (.inl ha)).2.2)
      ·exact n3 a ha a (by simp [h]) rfl
    ·intro k
     simp only [List.mem_append, q4 k]
     constructor
     ·rintro ((h | h) | h)
      ·exact .inl ⟨.inl (.inl h), (hoth k (.inl h)).1⟩
      ·rcases h with h | h
       ·exact .inl ⟨.inl (.inr h.1), h.2⟩
       ·exact .inr h
      ·exact .inl ⟨.inr h, (hoth k (.inr h)).1⟩
     ·rintro (⟨(h | h) | h, h'⟩ | h)
      ·exact .inl (.inl h)
      ·exact .inl (.inr (.inl ⟨h, h'⟩))
      ·exact .inr h
      ·exact .inl (.inr (.inr h))
    ·rw [Jx hs q2]
     exact q5
 | .deref :: p, .box x, cs0, F0, b0, o0, arr0, ty0, hx, hn, hb, hh, hs, y, e => by
  simp only [wF] at e
  simp only [zH] at hx
  obtain ⟨b1, ty1, l, F', rfl, e1, e2, rfl, e4⟩ := hx
  have hn' := List.nodup_cons.1 hn
  have hsl : KT l.toArray 0 l := fun j v hj => by simpa using hj
  have ⟨b, o, arr, ty, csy, Fy, g1, g2, g3, g4, g5, g6, g7, g8, g9⟩ := z69 p e2 hn'.2 hn'.1 e1 hsl e
  have hcell : yj h b0 o0 = some (.pointer (some ⟨b1, 0, none⟩)) := by
   have := hs 0 _ rfl
   simpa [yj, hh] using this
  have hb1 : b ∈ b1 :: F' := by rcases g6 with rfl | g6 <;> simp [*]
  refine ⟨b, o, arr, ty, csy, Fy, by simp only [Qo, hcell]; exact g1, g2, g3, g4, g5, .inr hb1, fun k hk => by simp [g7 k hk], g8, ?_⟩
  intro S' h' z csz Fz hS hl hz hnz hfree hh' hb' hsep
  have ⟨cs', F0', q1, q2, q3, q4, q5⟩ := g9 S' h' z csz Fz hS hl hz hnz (fun k hk => hfree k (by simp [hk])) (fun k hk => hh' k (.inr (by simpa using hk))) hb' (fun k hk hk' => hsep k hk (by simp [hk']))
  have hb1y : b1 ∉ Fy := fun h => hn'.1 (g7 _ h)
  have hov : WP l.toArray 0 cs' = cs'.toArray := by
   apply Array.ext_getElem?
   intro k
   rw [jE]
   simp only [Nat.zero_le, if_true, Nat.sub_zero, List.getElem?_toArray]
   by_cases hk : k < l.length
   ·rw [List.getElem?_eq_getElem hk, List.getElem?_eq_getElem (by omega)]; simp
   ·rw [List.getElem?_eq_none (by omega), List.getElem?_eq_none (by omega)]; rfl
  refine ⟨[.pointer (some ⟨b1, 0, none⟩)], b1 :: F0', ?_, rfl, ?_, ?_, ?_⟩
  ·simp only [Ww, zH]
   exact ⟨b1, ty1, cs', F0', rfl, by rw [q5, hov], q1, rfl, hfree b1 (by simp) hb1y⟩
  ·refine List.nodup_cons.2 ⟨fun h => ?_, q3⟩
   rcases (q4 b1).1 h with h | h
   ·exact hn'.1 h.1
   ·exact hb1y (hsep b1 h (by simp))
  ·intro k
   simp only [List.mem_cons, q4 k]
   constructor
   ·rintro (rfl | h | h)
    ·exact .inl ⟨.inl rfl, hb1y⟩
    ·exact .inl ⟨.inr h.1, h.2⟩
    ·exact .inr h
   ·rintro (⟨rfl | h, h'⟩ | h)
    ·exact .inl rfl
    ·exact .inr (.inl ⟨h, h'⟩)
    ·exact .inr (.inr h)
  ·rw [Xz hs, hh' b0 (.inl rfl) (fun h => hb (by simp [g7 _ h])) (fun h => hb (h ▸ hb1)), hh]
 | .idx i :: p, .osl sz t es, cs0, F0, b0, o0, arr0, ty0, hx, hn, hb, hh, hs, y, e => by
  simp only [wF] at e
  cases hf : es[i]? with
  | none => simp [hf] at e
  | some x1 =>
   simp only [hf] at e
   simp only [zH] at hx
   obtain ⟨pp, c, rfl, t1, t2, t3, t4, t5⟩ := hx
   rcases t5 with ⟨rfl, _⟩ | ⟨b1, arr1, ty1, l, F', rfl, e1, e2, e3, e4, rfl, e6⟩
   ·simp at hf
   have hn' := List.nodup_cons.1 hn
   obtain ⟨c1, ci, c2, F1, Fi, F2, hl0, rfl, hl1, hxi, hup⟩ := zL.split e4 hf
   have hsl : KT arr1 0 l := by
    intro j v hj
    rw [← e3, List.getElem?_take] at hj
    split at hj
    ·simpa using hj
    ·cases hj
   have hit : c1.length = i * sz := by
    rw [hl1, A.sizes_const (sz := sz) (fun x hx => t4 x (List.mem_of_mem_take hx)), List.length_take]
    have := (List.getElem?_eq_some_iff.1 hf).1
    rw [Nat.min_eq_left (by omega)]
   have hn2 := hn'.2
   rw [List.append_assoc, List.nodup_append] at hn2
   have ⟨n1, n2, n3⟩ := hn2
   rw [List.nodup_append] at n2
   have ⟨n4, n5, n6⟩ := n2
   have hbi : b1 ∉ Fi := fun h => hn'.1 (by simp [h])
   have hsm : KT arr1 (i * sz) ci := by
    have := (hl0 ▸ hsl : KT arr1 0 (c1 ++ ci ++ c2)).mid
    rwa [Nat.zero_add, hit] at this
   have ⟨b, o, arr, ty, csy, Fy, g1, g2, g3, g4, g5, g6, g7, g8, g9⟩ := z69 p hxi n4 hbi e1 hsm e
   have hcell : yj h b0 o0 = some (.slice (some ⟨b1, 0, none⟩) es.length c) := by
    have := hs 0 _ rfl
    simpa [yj, hh] using this
   have hb1 : b ∈ b1 :: (F1 ++ Fi ++ F2) := by rcases g6 with rfl | g6 <;> simp [*]
   refine ⟨b, o, arr, ty, csy, Fy, by simp only [Qo, hf, hcell]; exact g1, g2, g3, g4, g5, .inr hb1, fun k hk => by simp [g7 k hk], g8, ?_⟩
   intro S' h' z csz Fz hS hl hz hnz hfree hh' hb' hsep
   have hsub : ∀ k ∈ Fi, k ∈ b1 :: (F1 ++ Fi ++ F2) := fun k hk => by simp [hk]
   have hsub1 : ∀ k, k = b1 ∨ k ∈ Fi → k ∈ b1 :: (F1 ++ Fi ++ F2) := fun k hk => by rcases hk with rfl | hk <;> simp [*]
   have ⟨ci', Fi', q1, q2, q3, q4, q5⟩ := g9 S' h' z csz Fz hS hl hz hnz (fun k hk => hfree k (hsub k hk)) (fun k hk => hh' k (.inr (hsub1 k hk))) hb' (fun k hk hk' => hsep k hk (hsub k hk'))
   have hoth : ∀ k, k ∈ F1 ∨ k ∈ F2 → k ∉ Fy ∧ k ≠ b ∧ k ∈ b1 :: (F1 ++ Fi ++ F2) := by
    intro k hk
    have hki : k ∉ Fi := by
     rcases hk with hk | hk
     ·exact fun h => n3 k hk k (by simp [h]) rfl
     ·exact fun h => n6 k h k hk rfl
    refine ⟨fun h => hki (g7 k h), ?_, by rcases hk with hk | hk <;> simp [hk]⟩
    rintro rfl
    rcases g6 with rfl | g6
    ·exact hn'.1 (by rcases hk with hk | hk <;> simp [hk])
    ·exact hki g6
   have hb1y : b1 ∉ Fy := fun h => hbi (g7 _ h)
   have hes : (es.set i (Ww p x1 z)).length = es.length := by simp
   have hsz1 : (Ww p x1 z).size = sz := by rw [← q1.len, q2, hxi.len]; exact t4 x1 (List.mem_of_getElem? hf)
   have hlen : l.length = es.length * sz := by rw [e4.len, A.sizes_const t4]
   refine ⟨[.slice (some ⟨b1, 0, none⟩) es.length c], b1 :: (F1 ++ Fi' ++ F2), ?_, rfl, ?_, ?_, ?_⟩
   ·simp only [Ww, hf, zH, hes]
    refine ⟨_, c, rfl, t1, t2, t3, ?_, .inr ⟨b1, WP arr1 (i * sz) ci', ty1, c1 ++ ci' ++ c2, F1 ++ Fi' ++ F2, rfl, q5, by simp [e2], ?_, ?_, rfl, hfree b1 (by simp) hb1y⟩⟩
    ·intro x hx
     rcases List.mem_or_eq_of_mem_set hx with h | rfl
     ·exact t4 x h
     ·exact hsz1
    ·have hov : WP arr1 0 (c1 ++ ci' ++ c2) = WP arr1 (i * sz) ci' := by
      have := Jx (arr := arr1) (o := 0) (c1 := c1) (ci := ci) (ci' := ci') (c2 := c2) (hl0 ▸ hsl) q2
      rwa [Nat.zero_add, hit] at this
     rw [← hov]
     have hle : es.length * sz ≤ arr1.size := Nat.le_trans (Nat.mul_le_mul_right _ t2) e2
     apply List.ext_getElem?
     intro k
     rw [List.getElem?_take]
     have hll : (c1 ++ ci' ++ c2).length = es.length * sz := by rw [← hlen, hl0]; simp [q2]
     split
     ·rename_i hk
      have hk2 : k < (c1 ++ ci' ++ c2).length := by omega
      rw [Array.getElem?_toList, jE, Array.getElem?_eq_getElem (by omega : k < arr1.size), if_pos (Nat.zero_le _), Nat.sub_zero, List.getElem?_eq_getElem hk2]
      simp
     ·rw [List.getElem?_eq_none (by omega)]
    ·exact hup S' h' _ ci' Fi' hS (fun k hk => ⟨hh' k (.inr (hoth k hk).2.2) (hoth k hk).1 (hoth k hk).2.1, hfree k (hoth k hk).2.2 (hoth k hk).1⟩) q1
   ·refine List.nodup_cons.2 ⟨?_, ?_⟩
    ·intro h
     simp only [List.mem_append] at h
     rcases h with (h | h) | h
     ·exact hn'.1 (by simp [h])
     ·rcases (q4 b1).1 h with h | h
      ·exact hbi h.1
      ·exact hb1y (hsep b1 h (by simp))
     ·exact hn'.1 (by simp [h])
    ·rw [List.append_assoc, List.nodup_append]
     refine ⟨n1, ?_, ?_⟩
     ·rw [List.nodup_append]
      refine ⟨q3, n5, ?_⟩
      rintro a ha b' hb'' rfl
      rcases (q4 a).1 ha with h | h
      ·exact n6 a h.1 a hb'' rfl
      ·exact (hoth a (.inr hb'')).1 (hsep a h (hoth a (.inr hb'')).2.2)
     ·rintro a ha b' hb'' rfl
      rcases List.mem_append.1 hb'' with h | h
      ·rcases (q4 a).1 h with h | h
       ·exact n3 a ha a (by simp [h.1]) rfl
       ·exact (hoth a (.inl ha)).1 (hsep a h (hoth a (.inl ha)).2.2)
      ·exact n3 a ha a (by simp [h]) rfl
   ·intro k
    simp only [List.mem_cons, List.mem_append, q4 k]
    constructor
    ·rintro (rfl | (h | h) | h)
     ·exact .inl ⟨.inl rfl, hb1y⟩
     ·exact .inl ⟨.inr (.inl (.inl h)), (hoth k (.inl h)).1⟩
     ·rcases h with h | h
      ·exact .inl ⟨.inr (.inl (.inr h.1)), h.2⟩
      ·exact .inr h
     ·exact .inl ⟨.inr (.inr h), (hoth k (.inr h)).1⟩
    ·rintro (⟨rfl | (h | h) | h, h'⟩ | h)
     ·exact .inl rfl
     ·exact .inr (.inl (.inl h))
     ·exact .inr (.inl (.inr (.inl ⟨h, h'⟩)))
     ·exact .inr (.inr h)
     ·exact .inr (.inl (.inr (.inr h)))
   ·rw [Xz hs, hh' b0 (.inl rfl) (fun h => hb (by simp [g7 _ h])) (fun h => hb (h ▸ hb1)), hh]
 | .deref :: _, .atom _, _, _, _, _, _, _, _, _, _, _, _, _, e => by simp [wF] at e
 | .deref :: _, .fn _ _, _, _, _, _, _, _, _, _, _, _, _, _, e => by simp [wF] at e
 | .deref :: _, .agg _, _, _, _, _, _, _, _, _, _, _, _, _, e => by simp [wF] at e
 | .deref :: _, .tup _, _, _, _, _, _, _, _, _, _, _, _, _, e => by simp [wF] at e
 | .deref :: _, .sl _ _ _, _, _, _, _, _, _, _, _, _, _, _, _, e => by simp [wF] at e
 | .deref :: _, .sptr _, _, _, _, _, _, _, _, _, _, _, _, _, e => by simp [wF] at e
 | .deref :: _, .dop _, _, _, _, _, _, _, _, _, _, _, _, _, e => by simp [wF] at e
 | .deref :: _, .osl _ _ _, _, _, _, _, _, _, _, _, _, _, _, _, e => by simp [wF] at e
 | .deref :: _, .dead _, _, _, _, _, _, _, _, _, _, _, _, _, e => by simp [wF] at e
 | .deref :: _, .opq _, _, _, _, _, _, _, _, _, _, _, _, _, e => by simp [wF] at e
 | .fld _ :: _, .atom _, _, _, _, _, _, _, _, _, _, _, _, _, e => by simp [wF] at e
 | .fld _ :: _, .fn _ _, _, _, _, _, _, _, _, _, _, _, _, _, e => by simp [wF] at e
 | .fld _ :: _, .tup _, _, _, _, _, _, _, _, _, _, _, _, _, e => by simp [wF] at e
 | .fld _ :: _, .sl _ _ _, _, _, _, _, _, _, _, _, _, _, _, _, e => by simp [wF] at e
 | .fld _ :: _, .sptr _, _, _, _, _, _, _, _, _, _, _, _, _, e => by simp [wF] at e
 | .fld _ :: _, .dop _, _, _, _, _, _, _, _, _, _, _, _, _, e => by simp [wF] at e
 | .fld _ :: _, .osl _ _ _, _, _, _, _, _, _, _, _, _, _, _, _, e => by simp [wF] at e
 | .fld _ :: _, .box _, _, _, _, _, _, _, _, _, _, _, _, _, e => by simp [wF] at e
 | .fld _ :: _, .dead _, _, _, _, _, _, _, _, _, _, _, _, _, e => by simp [wF] at e
 | .fld _ :: _, .opq _, _, _, _, _, _, _, _, _, _, _, _, _, e => by simp [wF] at e
 | .idx _ :: _, .atom _, _, _, _, _, _, _, _, _, _, _, _, _, e => by simp [wF] at e
 | .idx _ :: _, .fn _ _, _, _, _, _, _, _, _, _, _, _, _, _, e => by simp [wF] at e
 | .idx _ :: _, .agg _, _, _, _, _, _, _, _, _, _, _, _, _, e => by simp [wF] at e
 | .idx _ :: _, .tup _, _, _, _, _, _, _, _, _, _, _, _, _, e => by simp [wF] at e
 | .idx _ :: _, .sl _ _ _, _, _, _, _, _, _, _, _, _, _, _, _, e => by simp [wF] at e
 | .idx _ :: _, .sptr _, _, _, _, _, _, _, _, _, _, _, _, _, e => by simp [wF] at e
 | .idx _ :: _, .dop _, _, _, _, _, _, _, _, _, _, _, _, _, e => by simp [wF] at e
 | .idx _ :: _, .box _, _, _, _, _, _, _, _, _, _, _, _, _, e => by simp [wF] at e
 | .idx _ :: _, .dead _, _, _, _, _, _, _, _, _, _, _, _, _, e => by simp [wF] at e
 | .idx _ :: _, .opq _, _, _, _, _, _, _, _, _, _, _, _, _, e => by simp [wF] at e
def yc : A → List Value → Value
 | .agg _, cs => .agg cs.toArray
 | _, cs => cs.headD undef
def wu (h : Array Obj) : List ZI → A → Value → Option (Nat × Nat)
 | .deref :: p, .box x, .pointer (some a) => Qo h p x a.block 0
 | .idx i :: p, .osl sz _ es, .slice (some a) _ _ => match es[i]? with | some y => Qo h p y a.block (i * sz) | none => none
 | _, _, _ => none
theorem Yk {S : zn} {h : Array Obj} : ∀ (p : List ZI) {x0 : A} {cs0 : List Value} {F0 : List Nat},
  zH S h x0 cs0 F0 → F0.Nodup → ∀ {y : A}, p ≠ [] → (∀ i q, p ≠ .fld i :: q) → wF p x0 = some y →
  ∃ b o arr ty csy Fy, wu h p x0 (yc x0 cs0) = some (b, o) ∧ h[b]? = some (.cells arr ty (0, 0)) ∧ KT arr o csy ∧ zH S h y csy Fy ∧ b ∉ Fy ∧ b ∈ F0 ∧ (∀ k ∈ Fy, k ∈ F0) ∧ Fy.Nodup ∧
   ∀ (S' : zn) (h' : Array Obj) (z : A) (csz : List Value) (Fz : List Nat), (∀ b o v, S b o = some v → S' b o = some v) → csz.length = csy.length → zH S' h' z csz Fz → Fz.Nodup →
    (∀ k ∈ F0, k ∉ Fy → ∀ o, S' k o = none) → (∀ k, k ∈ F0 → k ∉ Fy → k ≠ b → h'[k]? = h[k]?) → h'[b]? = some (.cells (WP arr o csz) ty (0, 0)) →
    (∀ k ∈ Fz, k ∈ F0 → k ∈ Fy) →
    ∃ F0', zH S' h' (Ww p x0 z) cs0 F0' ∧ F0'.Nodup ∧ (∀ k, k ∈ F0' ↔ (k ∈ F0 ∧ k ∉ Fy) ∨ k ∈ Fz)
 | [], _, _, _, _, _, _, np, _, _ => absurd rfl np
 | .fld i :: q, _, _, _, _, _, _, _, nf, _ => absurd rfl (nf i q)
 | .deref :: p, .box x, cs0, F0, hx, hn, y, _, _, e => by
  simp only [wF] at e
  simp only [zH] at hx
  obtain ⟨b1, ty1, l, F', rfl, e1, e2, rfl, e4⟩ := hx
  have hn' := List.nodup_cons.1 hn
  have hsl : KT l.toArray 0 l := fun j v hj => by simpa using hj
  have ⟨b, o, arr, ty, csy, Fy, g1, g2, g3, g4, g5, g6, g7, g8, g9⟩ := z69 p e2 hn'.2 hn'.1 e1 hsl e
  have hb1 : b ∈ b1 :: F' := by rcases g6 with rfl | g6 <;> simp [*]
  refine ⟨b, o, arr, ty, csy, Fy, by simp only [yc, List.headD_cons, wu]; exact g1, g2, g3, g4, g5, hb1, fun k hk => by simp [g7 k hk], g8, ?_⟩
  intro S' h' z csz Fz hS hl hz hnz hfree hh' hb' hsep
  have ⟨cs', F0', q1, q2, q3, q4, q5⟩ := g9 S' h' z csz Fz hS hl hz hnz (fun k hk => hfree k (by simp [hk])) (fun k hk => hh' k (by simpa using hk)) hb' (fun k hk hk' => hsep k hk (by simp [hk']))
  have hb1y : b1 ∉ Fy := fun h => hn'.1 (g7 _ h)
  have hov : WP l.toArray 0 cs' = cs'.toArray := by
   apply Array.ext_getElem?
   intro k
   rw [jE]
   simp only [Nat.zero_le, if_true, Nat.sub_zero, List.getElem?_toArray]
   by_cases hk : k < l.length
   ·rw [List.getElem?_eq_getElem hk, List.getElem?_eq_getElem (by omega)]; simp
   ·rw [List.getElem?_eq_none (by omega), List.getElem?_eq_none (by omega)]; rfl
  refine ⟨b1 :: F0', ?_, ?_, ?_⟩
  ·simp only [Ww, zH]
   exact ⟨b1, ty1, cs', F0', rfl, by rw [q5, hov], q1, rfl, hfree b1 (by simp) hb1y⟩
  ·refine List.nodup_cons.2 ⟨fun h => ?_, q3⟩
   rcases (q4 b1).1 h with h | h
   ·exact hn'.1 h.1
   ·exact hb1y (hsep b1 h (by simp))
  ·intro k
   simp only [List.mem_cons, q4 k]
   constructor
   ·rintro (rfl | h | h)
    ·exact .inl ⟨.inl rfl, hb1y⟩
    ·exact .inl ⟨.inr h.1, h.2⟩
    ·exact .inr h
   ·rintro (⟨rfl | h, h'⟩ | h)
    ·exact .inl rfl
    ·exact .inr (.inl ⟨h, h'⟩)
    ·exact .inr (.inr h)
 | .idx i :: p, .osl sz t es, cs0, F0, hx, hn, y, _, _, e => by
  simp only [wF] at e
  cases hf : es[i]? with
  | none => simp [hf] at e
  | some x1 =>
   simp only [hf] at e
   simp only [zH] at hx
   obtain ⟨pp, c, rfl, t1, t2, t3, t4, t5⟩ := hx
   rcases t5 with ⟨rfl, _⟩ | ⟨b1, arr1, ty1, l, F', rfl, e1, e2, e3, e4, rfl, e6⟩
   ·simp at hf
   have hn' := List.nodup_cons.1 hn
   obtain ⟨c1, ci, c2, F1, Fi, F2, hl0, rfl, hl1, hxi, hup⟩ := zL.split e4 hf
   have hsl : KT arr1 0 l := by
    intro j v hj
    rw [← e3, List.getElem?_take] at hj
    split at hj
    ·simpa using hj
    ·cases hj
   have hit : c1.length = i * sz := by
    rw [hl1, A.sizes_const (sz := sz) (fun x hx => t4 x (List.mem_of_mem_take hx)), List.length_take]
    have := (List.getElem?_eq_some_iff.1 hf).1
    rw [Nat.min_eq_left (by omega)]
   have hn2 := hn'.2
   rw [List.append_assoc, List.nodup_append] at hn2
   have ⟨n1, n2, n3⟩ := hn2
   rw [List.nodup_append] at n2
   have ⟨n4, n5, n6⟩ := n2
   have hbi : b1 ∉ Fi := fun h => hn'.1 (by simp [h])
   have hsm : KT arr1 (i * sz) ci := by
    have := (hl0 ▸ hsl : KT arr1 0 (c1 ++ ci ++ c2)).mid
    rwa [Nat.zero_add, hit] at this
   have ⟨b, o, arr, ty, csy, Fy, g1, g2, g3, g4, g5, g6, g7, g8, g9⟩ := z69 p hxi n4 hbi e1 hsm e
   have hb1 : b ∈ b1 :: (F1 ++ Fi ++ F2) := by rcases g6 with rfl | g6 <;> simp [*]
   refine ⟨b, o, arr, ty, csy, Fy, by simp only [yc, List.headD_cons, wu, hf]; exact g1, g2, g3, g4, g5, hb1, fun k hk => by simp [g7 k hk], g8, ?_⟩
   intro S' h' z csz Fz hS hl hz hnz hfree hh' hb' hsep
   have hsub : ∀ k ∈ Fi, k ∈ b1 :: (F1 ++ Fi ++ F2) := fun k hk => by simp [hk]
   have hsub1 : ∀ k, k = b1 ∨ k ∈ Fi → k ∈ b1 :: (F1 ++ Fi ++ F2) := fun k hk => by rcases hk with rfl | hk <;> simp [*]
   have ⟨ci', Fi', q1, q2, q3, q4, q5⟩ := g9 S' h' z csz Fz hS hl hz hnz (fun k hk => hfree k (hsub k hk)) (fun k hk => hh' k (hsub1 k hk)) hb' (fun k hk hk' => hsep k hk (hsub k hk'))
   have hoth : ∀ k, k ∈ F1 ∨ k ∈ F2 → k ∉ Fy ∧ k ≠ b ∧ k ∈ b1 :: (F1 ++ Fi ++ F2) := by
    intro k hk
    have hki : k ∉ Fi := by
     rcases hk with hk | hk
     ·exact fun h => n3 k hk k (by simp [h]) rfl
     ·exact fun h => n6 k h k hk rfl
    refine ⟨fun h => hki (g7 k h), ?_, by rcases hk with hk | hk <;> simp [hk]⟩
    rintro rfl
    rcases g6 with rfl | g6
    ·exact hn'.1 (by rcases hk with hk | hk <;> simp [hk])
    ·exact hki g6
   have hb1y : b1 ∉ Fy := fun h => hbi (g7 _ h)
   have hes : (es.set i (Ww p x1 z)).length = es.length := by simp
   have hsz1 : (Ww p x1 z).size = sz := by rw [← q1.len, q2, hxi.len]; exact t4 x1 (List.mem_of_getElem? hf)
   have hlen : l.length = es.length * sz := by rw [e4.len, A.sizes_const t4]
   refine ⟨b1 :: (F1 ++ Fi' ++ F2), ?_, ?_, ?_⟩
   ·simp only [Ww, hf, zH, hes]
    refine ⟨_, c, rfl, t1, t2, t3, ?_, .inr ⟨b1, WP arr1 (i * sz) ci', ty1, c1 ++ ci' ++ c2, F1 ++ Fi' ++ F2, rfl, q5, by simp [e2], ?_, ?_, rfl, hfree b1 (by simp) hb1y⟩⟩
    ·intro x hx
     rcases List.mem_or_eq_of_mem_set hx with h | rfl
     ·exact t4 x h
     ·exact hsz1
    ·have hov : WP arr1 0 (c1 ++ ci' ++ c2) = WP arr1 (i * sz) ci' := by
      have := Jx (arr := arr1) (o := 0) (c1 := c1) (ci := ci) (ci' := ci') (c2 := c2) (hl0 ▸ hsl) q2
      rwa [Nat.zero_add, hit] at this
     rw [← hov]
     have hle : es.length * sz ≤ arr1.size := Nat.le_trans (Nat.mul_le_mul_right _ t2) e2
     apply List.ext_getElem?
     intro k
     rw [List.getElem?_take]
     have hll : (c1 ++ ci' ++ c2).length = es.length * sz := by rw [← hlen, hl0]; simp [q2]
     split
     ·rename_i hk
      have hk2 : k < (c1 ++ ci' ++ c2).length := by omega
      rw [Array.getElem?_toList, jE, Array.getElem?_eq_getElem (by omega : k < arr1.size), if_pos (Nat.zero_le _), Nat.sub_zero, List.getElem?_eq_getElem hk2]
      simp
     ·rw [List.getElem?_eq_none (by omega)]
    ·exact hup S' h' _ ci' Fi' hS (fun k hk => ⟨hh' k (hoth k hk).2.2 (hoth k hk).1 (hoth k hk).2.1, hfree k (hoth k hk).2.2 (hoth k hk).1⟩) q1
   ·refine List.nodup_cons.2 ⟨?_, ?_⟩
    ·intro h
     simp only [List.mem_append] at h
     rcases h with (h | h) | h
     ·exact hn'.1 (by simp [h])
     ·rcases (q4 b1).1 h with h | h
      ·exact hbi h.1
      ·exact hb1y (hsep b1 h (by simp))
     ·exact hn'.1 (by simp [h])
    ·rw [List.append_assoc, List.nodup_append]
     refine ⟨n1, ?_, ?_⟩
     ·rw [List.nodup_append]
      refine ⟨q3, n5, ?_⟩
      rintro a ha b' hb'' rfl
      rcases (q4 a).1 ha with h | h
      ·exact n6 a h.1 a hb'' rfl
      ·exact (hoth a (.inr hb'')).1 (hsep a h (hoth a (.inr hb'')).2.2)
     ·rintro a ha b' hb'' rfl
      rcases List.mem_append.1 hb'' with h | h
      ·rcases (q4 a).1 h with h | h
       ·exact n3 a ha a (by simp [h.1]) rfl
       ·exact (hoth a (.inl ha)).1 (hsep a h (hoth a (.inl ha)).2.2)
      ·exact n3 a ha a (by simp [h]) rfl
   ·intro k
    simp only [List.mem_cons, List.mem_append, q4 k]
    constructor
    ·rintro (rfl | (h | h) | h)
     ·exact .inl ⟨.inl rfl, hb1y⟩
     ·exact .inl ⟨.inr (.inl (.inl h)), (hoth k (.inl h)).1⟩
     ·rcases h with h | h
      ·exact .inl ⟨.inr (.inl (.inr h.1)), h.2⟩
      ·exact .inr h
     ·exact .inl ⟨.inr (.inr h), (hoth k (.inr h)).1⟩
    ·rintro (⟨rfl | (h | h) | h, h'⟩ | h)
     ·exact .inl rfl
     ·exact .inr (.inl (.inl h))
     ·exact .inr (.inl (.inr (.inl ⟨h, h'⟩)))
     ·exact .inr (.inr h)
     ·exact .inr (.inl (.inr (.inr h)))
 | .deref :: _, .atom _, _, _, _, _, _, _, _, e => by simp [wF] at e
 | .deref :: _, .fn _ _, _, _, _, _, _, _, _, e => by simp [wF] at e
 | .deref :: _, .agg _, _, _, _, _, _, _, _, e => by simp [wF] at e
 | .deref :: _, .tup _, _, _, _, _, _, _, _, e => by simp [wF] at e
 | .deref :: _, .sl _ _ _, _, _, _, _, _, _, _, e => by simp [wF] at e
 | .deref :: _, .sptr _, _, _, _, _, _, _, _, e => by simp [wF] at e
 | .deref :: _, .dop _, _, _, _, _, _, _, _, e => by simp [wF] at e
 | .deref :: _, .osl _ _ _, _, _, _, _, _, _, _, e => by simp [wF] at e
 | .deref :: _, .dead _, _, _, _, _, _, _, _, e => by simp [wF] at e
 | .deref :: _, .opq _, _, _, _, _, _, _, _, e => by simp [wF] at e
 | .idx _ :: _, .atom _, _, _, _, _, _, _, _, e => by simp [wF] at e
 | .idx _ :: _, .fn _ _, _, _, _, _, _, _, _, e => by simp [wF] at e
 | .idx _ :: _, .agg _, _, _, _, _, _, _, _, e => by simp [wF] at e
 | .idx _ :: _, .tup _, _, _, _, _, _, _, _, e => by simp [wF] at e
 | .idx _ :: _, .sl _ _ _, _, _, _, _, _, _, _, e => by simp [wF] at e
 | .idx _ :: _, .sptr _, _, _, _, _, _, _, _, e => by simp [wF] at e
 | .idx _ :: _, .dop _, _, _, _, _, _, _, _, e => by simp [wF] at e
 | .idx _ :: _, .box _, _, _, _, _, _, _, _, e => by simp [wF] at e
 | .idx _ :: _, .dead _, _, _, _, _, _, _, _, e => by simp [wF] at e
 | .idx _ :: _, .opq _, _, _, _, _, _, _, _, e => by simp [wF] at e
theorem wv {h h' : Array Obj} {b o : Nat} (e : h'[b]? = h[b]?) : yj h' b o = yj h b o := by simp [yj, e]
theorem XD {h h' : Array Obj} : ∀ (p : List ZI) {x : A} {cs : List Value} {F : List Nat} {b o : Nat}, zH S h x cs F → (∀ j v, cs[j]? = some v → yj h b (o + j) = some v ∧ yj h' b (o + j) = some v) →
  (∀ k ∈ F, h'[k]? = h[k]?) → Qo h' p x b o = Qo h p x b o
 | [], _, _, _, _, _, _, _, _ => rfl
 | .fld i :: p, .agg fs, cs, F, b, o, hx, hc, hF => by
  simp only [Qo]
  cases hf : fs[i]? with
  | none => rfl
  | some y =>
   simp only [zH] at hx
   obtain ⟨c1, ci, c2, F1, Fi, F2, rfl, rfl, hl1, hxi, _⟩ := zL.split hx hf
   dsimp only
   rw [← hl1]
   refine XD p hxi (fun j v hj => ?_) (fun k hk => hF k (by simp [hk]))
   have hlt := (List.getElem?_eq_some_iff.1 hj).1
   rw [Nat.add_assoc]
   exact hc (c1.length + j) v (by rw [List.append_assoc, List.getElem?_append_right (by omega), Nat.add_sub_cancel_left, List.getElem?_append_left hlt]; exact hj)
 | .deref :: p, .box x, cs, F, b, o, hx, hc, hF => by
  simp only [zH] at hx
  obtain ⟨b1, ty1, l, F', rfl, e1, e2, rfl, e4⟩ := hx
  have h0 := hc 0 _ rfl
  simp only [Nat.add_zero] at h0
  simp only [Qo, h0.1, h0.2]
  refine XD p e2 (fun j v hj => ?_) (fun k hk => hF k (by simp [hk]))
  rw [wv (h := h) (h' := h') (hF b1 (by simp))]
  simp [yj, e1, hj]
 | .idx i :: p, .osl sz t es, cs, F, b, o, hx, hc, hF => by
  simp only [Qo]
  cases hf : es[i]? with
  | none => rfl
  | some y =>
   simp only [zH] at hx
   obtain ⟨pp, c, rfl, t1, t2, t3, t4, t5⟩ := hx
   rcases t5 with ⟨rfl, _⟩ | ⟨b1, arr1, ty1, l, F', rfl, e1, e2, e3, e4, rfl, e6⟩
   ·simp at hf
   have h0 := hc 0 _ rfl
   simp only [Nat.add_zero] at h0
   simp only [h0.1, h0.2]
   obtain ⟨c1, ci, c2, F1, Fi, F2, rfl, rfl, hl1, hxi, _⟩ := zL.split e4 hf
   have hit : c1.length = i * sz := by
    rw [hl1, A.sizes_const (sz := sz) (fun x hx => t4 x (List.mem_of_mem_take hx)), List.length_take]
    have := (List.getElem?_eq_some_iff.1 hf).1
    rw [Nat.min_eq_left (by omega)]
   refine XD p hxi (fun j v hj => ?_) (fun k hk => hF k (by simp [hk]))
   rw [wv (h := h) (h' := h') (hF b1 (by simp))]
   have hlt := (List.getElem?_eq_some_iff.1 hj).1
   have : (c1 ++ ci ++ c2)[i * sz + j]? = some v := by
    rw [← hit, List.append_assoc, List.getElem?_append_right (by omega), Nat.add_sub_cancel_left, List.getElem?_append_left hlt]; exact hj
   rw [← e3, List.getElem?_take] at this
   split at this
   ·simp only [yj, e1]; simpa using this
   ·cases this
 | .deref :: _, .atom _, _, _, _, _, _, _, _ => rfl
 | .deref :: _, .fn _ _, _, _, _, _, _, _, _ => rfl
 | .deref :: _, .agg _, _, _, _, _, _, _, _ => rfl
 | .deref :: _, .tup _, _, _, _, _, _, _, _ => rfl
 | .deref :: _, .sl _ _ _, _, _, _, _, _, _, _ => rfl
 | .deref :: _, .sptr _, _, _, _, _, _, _, _ => rfl
 | .deref :: _, .dop _, _, _, _, _, _, _, _ => rfl
 | .deref :: _, .osl _ _ _, _, _, _, _, _, _, _ => rfl
 | .deref :: _, .dead _, _, _, _, _, _, _, _ => rfl
 | .deref :: _, .opq _, _, _, _, _, _, _, _ => rfl
 | .fld _ :: _, .atom _, _, _, _, _, _, _, _ => rfl
 | .fld _ :: _, .fn _ _, _, _, _, _, _, _, _ => rfl
 | .fld _ :: _, .tup _, _, _, _, _, _, _, _ => rfl
 | .fld _ :: _, .sl _ _ _, _, _, _, _, _, _, _ => rfl
 | .fld _ :: _, .sptr _, _, _, _, _, _, _, _ => rfl
 | .fld _ :: _, .dop _, _, _, _, _, _, _, _ => rfl
 | .fld _ :: _, .osl _ _ _, _, _, _, _, _, _, _ => rfl
 | .fld _ :: _, .box _, _, _, _, _, _, _, _ => rfl
 | .fld _ :: _, .dead _, _, _, _, _, _, _, _ => rfl
 | .fld _ :: _, .opq _, _, _, _, _, _, _, _ => rfl
 | .idx _ :: _, .atom _, _, _, _, _, _, _, _ => rfl
 | .idx _ :: _, .fn _ _, _, _, _, _, _, _, _ => rfl
 | .idx _ :: _, .agg _, _, _, _, _, _, _, _ => rfl
 | .idx _ :: _, .tup _, _, _, _, _, _, _, _ => rfl
 | .idx _ :: _, .sl _ _ _, _, _, _, _, _, _, _ => rfl
 | .idx _ :: _, .sptr _, _, _, _, _, _, _, _ => rfl
 | .idx _ :: _, .dop _, _, _, _, _, _, _, _ => rfl
 | .idx _ :: _, .box _, _, _, _, _, _, _, _ => rfl
 | .idx _ :: _, .dead _, _, _, _, _, _, _, _ => rfl
 | .idx _ :: _, .opq _, _, _, _, _, _, _, _ => rfl
theorem Uy {h h' : Array Obj} (p : List ZI) {x : A}   (hx : zH S h x cs F) (hF : ∀ k ∈ F, h'[k]? = h[k]?) : wu h' p x (yc x cs) = wu h p x (yc x cs) := by
 match p, x, hx with
 | [], x, _ => cases x <;> simp [wu]
 | .fld _ :: _, x, _ => cases x <;> simp [wu]
 | .deref :: p, .box x, hx =>
  simp only [zH] at hx
  obtain ⟨b1, ty1, l, F', rfl, e1, e2, rfl, e4⟩ := hx
  simp only [yc, List.headD_cons, wu]
  refine XD p e2 (fun j v hj => ?_) (fun k hk => hF k (by simp [hk]))
  rw [wv (h := h) (h' := h') (hF b1 (by simp))]
  simp [yj, e1, hj]
 | .idx i :: p, .osl sz t es, hx =>
  simp only [zH] at hx
  obtain ⟨pp, c, rfl, t1, t2, t3, t4, t5⟩ := hx
  rcases t5 with ⟨rfl, _, rfl, _⟩ | ⟨b1, arr1, ty1, l, F', rfl, e1, e2, e3, e4, rfl, e6⟩
  ·simp [yc, wu]
  simp only [yc, List.headD_cons, wu]
  cases hf : es[i]? with
  | none => rfl
  | some y =>
   obtain ⟨c1, ci, c2, F1, Fi, F2, rfl, rfl, hl1, hxi, _⟩ := zL.split e4 hf
   have hit : c1.length = i * sz := by
    rw [hl1, A.sizes_const (sz := sz) (fun x hx => t4 x (List.mem_of_mem_take hx)), List.length_take]
    have := (List.getElem?_eq_some_iff.1 hf).1
    rw [Nat.min_eq_left (by omega)]
   refine XD p hxi (fun j v hj => ?_) (fun k hk => hF k (by simp [hk]))
   rw [wv (h := h) (h' := h') (hF b1 (by simp))]
   have hlt := (List.getElem?_eq_some_iff.1 hj).1
   have : (c1 ++ ci ++ c2)[i * sz + j]? = some v := by
    rw [← hit, List.append_assoc, List.getElem?_append_right (by omega), Nat.add_sub_cancel_left, List.getElem?_append_left hlt]; exact hj
   rw [← e3, List.getElem?_take] at this
   split at this
   ·simp only [yj, e1]; simpa using this
   ·cases this
 | .deref :: _, .atom _, _ => rfl
 | .deref :: _, .fn _ _, _ => rfl
 | .deref :: _, .agg _, _ => rfl
 | .deref :: _, .tup _, _ => rfl
 | .deref :: _, .sl _ _ _, _ => rfl
 | .deref :: _, .sptr _, _ => rfl
 | .deref :: _, .dop _, _ => rfl
 | .deref :: _, .osl _ _ _, _ => rfl
 | .deref :: _, .dead _, _ => rfl
 | .deref :: _, .opq _, _ => rfl
 | .idx _ :: _, .atom _, _ => rfl
 | .idx _ :: _, .fn _ _, _ => rfl
 | .idx _ :: _, .agg _, _ => rfl
 | .idx _ :: _, .tup _, _ => rfl
 | .idx _ :: _, .sl _ _ _, _ => rfl
 | .idx _ :: _, .sptr _, _ => rfl
 | .idx _ :: _, .dop _, _ => rfl
 | .idx _ :: _, .box _, _ => rfl
 | .idx _ :: _, .dead _, _ => rfl
 | .idx _ :: _, .opq _, _ => rfl
inductive T where
 | gone
 | d (a : A)
 | own (a : A)
 | als (r : Nat) (p : List ZI) (er ec : Nat)
 | ptr (r : Nat) (p : List ZI) (er ec : Nat)
structure Ent where
 t : T
 er : Nat
 ec : Nat
abbrev St := Nat → Ent
def upd (st : St) (k : Nat) (e : Ent) : St := fun t => if t = k then e else st t
theorem YI (st : St) (k : Nat) (e : Ent) : upd st k e k = e := by simp [upd]
theorem Ur (st : St) {k t : Nat} (e : Ent) (h : t ≠ k) : upd st k e t = st t := by simp [upd, h]
def zl : List (Nat × Ent) → St → St
 | [], st => st
 | u :: us, st => zl us (upd st u.1 u.2)
def SM (α : Type) := St → Option (α × List Nat × List (Nat × Ent))
variable {α β : Type}
def SM.bind (m : SM α) (f : α → SM β) : SM β := fun st =>
 match m st with
 | none => none
 | some (a, R, U) =>
  match f a (zl U st) with
  | none => none
  | some (b, R', U') => some (b, R ++ R', U ++ U')
def SM.pure {α : Type} (a : α) : SM α := fun _ => some (a, [], [])
instance : Monad SM := { pure := SM.pure, bind := SM.bind }
def zt {α : Type} : SM α := fun _ => none
def rdE (k : Nat) : SM Ent := fun st => some (st k, [k], [])
def wrE (k : Nat) (e : Ent) : SM Unit := fun _ => some ((), [], [(k, e)])
def ofO {α : Type} (x : Option α) : SM α := fun _ => match x with | some a => some (a, [], []) | none => none
def ZW (R : α → β → Prop) : List α → List β → Prop
 | [], [] => True
 | a :: as_, b :: bs => R a b ∧ ZW R as_ bs
 | _, _ => False
def u6 (S : zn) (a : A) (v : Value) : Prop := ∃ cs, Rep S a cs ∧ v = yc a cs
def we (S : zn) : A → Value → Prop
 | .tup fs, v => ∃ vs, v = .tuple vs.toArray ∧ ZW (u6 S) fs vs
 | a, v => u6 S a v
theorem ZW.mono {R R' : α → β → Prop} (h : ∀ a b, R a b → R' a b) : ∀ {as_ : List α} {bs : List β}, ZW R as_ bs → ZW R' as_ bs
 | [], [], _ => trivial
 | _ :: _, _ :: _, r => ⟨h _ _ r.1, ZW.mono h r.2⟩
 | [], _ :: _, r => r.elim
 | _ :: _, [], r => r.elim
theorem u6.mono {S S' : zn} (h : ∀ b o v, S b o = some v → S' b o = some v) {a : A}  (r : u6 S a v) : u6 S' a v :=
 let ⟨cs, r1, r2⟩ := r; ⟨cs, r1.mono h, r2⟩
theorem we.mono {S S' : zn} (h : ∀ b o v, S b o = some v → S' b o = some v) {a : A}  (r : we S a v) : we S' a v := by
 cases a <;> simp [we] at r ⊢ <;> first | exact r.mono h | (have ⟨vs, e, r⟩ := r; exact ⟨vs, e, r.mono fun _ _ q => q.mono h⟩)
theorem u6.repV {a : A}  (r : u6 S a v) : we S a v := by
 cases a <;> simp [we] <;> first | exact r | (have ⟨cs, h, _⟩ := r; simp [Rep] at h)
theorem we.rep1 {a : A}  (h : a.isD = true) (r : we S a v) : u6 S a v := by
 cases a <;> simp [we] at r <;> first | exact r | simp [A.isD] at h
def Vn : List ZI → Bool
 | .deref :: _ | .idx _ :: _ => true
 | _ => false
def z8z (h : Array Obj) (b o : Nat) (cs : List Value) : Prop := ∀ j u, cs[j]? = some u → yj h b (o + j) = some u
def Xt (h : Array Obj) (st : St) (tv : Nat → Value) (r : Nat) (p : List ZI) (er ec : Nat) (v : Value) : Prop :=
 er ≤ (st r).er ∧ ec ≤ (st r).ec ∧
 match (st r).t with
 | .own x => (st r).er = er → (p = [] ∨ (st r).ec = ec) → (p = [] ∧ v = tv r) ∨ (Vn p = true ∧ ∃ y b o cs, wF p x = some y ∧ wu h p x (tv r) = some (b, o) ∧ cs.length = y.size ∧ z8z h b o cs ∧ v = yc y cs)
 | .d _ => (st r).er = er → p = [] → v = tv r
 | _ => True
def ZV (h : Array Obj) (st : St) (tv : Nat → Value) (r : Nat) (p : List ZI) (er ec : Nat) (v : Value) : Prop :=
 er ≤ (st r).er ∧ ec ≤ (st r).ec ∧
 match (st r).t with
 | .own x => (st r).er = er → (st r).ec = ec → Vn p = true ∧ ∃ y b o, wF p x = some y ∧ wu h p x (tv r) = some (b, o) ∧ v = .pointer (some ⟨b, o, none⟩)
 | _ => True
def xV (S : zn) (h : Array Obj) (st : St) (tv : Nat → Value) (F : List Nat) (e : Ent) (v : Value) : Prop :=
 match e.t with
 | .gone => F = []
 | .d a => we S a v ∧ F = []
 | .own a => ∃ cs, zH S h a cs F ∧ F.Nodup ∧ v = yc a cs
 | .als r p er ec => F = [] ∧ Xt h st tv r p er ec v
 | .ptr r p er ec => F = [] ∧ ZV h st tv r p er ec v
def pinned : List (Nat × Value) → Nat → Bool
 | [], _ => false
 | p :: ps, k => p.1 == k || pinned ps k
theorem Qk : ∀ {ps : List (Nat × Value)} {k : Nat} {v : Value}, (k, v) ∈ ps → pinned ps k = true
 | p :: ps, k, v, h => by
  simp [pinned, Bool.or_eq_true, beq_iff_eq]
  rcases List.mem_cons.1 h with rfl | h
  ·exact .inl rfl
  ·exact .inr (Qk h)
structure Fr where
 size : Nat
 pin : List (Nat × Value)
def Fr.ok (n : Fr) (k : Nat) : Bool := decide (k < n.size) && !pinned n.pin k
variable {k : Nat}{n : Fr}
theorem Fr.lt (h : n.ok k = true) : k < n.size := by simp [Fr.ok] at h; exact h.1
theorem Fr.free (h : n.ok k = true) : pinned n.pin k = false := by simp [Fr.ok] at h; exact h.2
def zaK (D : Nat) : Deferred := { target := .collected D, args := #[] }
structure Ctx where
 n : Fr
 df : List Nat
 w0 : World
 S0 : zn
 M : Nat → Prop
structure Xr (M : Nat → Prop) (w w' : World) : Prop where
 os : w'.os = w.os
 tape : w'.tape = w.tape
 output : w'.output = w.output
 drawn : w.drawn ≤ w'.drawn
 size : w.heap.size ≤ w'.heap.size
 block : ∀ k, ¬ M k → w'.heap[k]? = w.heap[k]?
theorem Xr.refl (M : Nat → Prop) (w : World) : Xr M w w := ⟨rfl, rfl, rfl, Nat.le_refl _, Nat.le_refl _, fun _ _ => rfl⟩
variable {M : Nat → Prop}
theorem Xr.trans {a b c : World} (h : Xr M a b) (k : Xr M b c) : Xr M a c :=
 ⟨k.os.trans h.os, k.tape.trans h.tape, k.output.trans h.output, Nat.le_trans h.drawn k.drawn, Nat.le_trans h.size k.size, fun i hi => (k.block i hi).trans (h.block i hi)⟩
theorem Xr.mono {M M' : Nat → Prop} {w w' : World} (h : Xr M w w') (hM : ∀ k, M k → M' k) : Xr M' w w' := ⟨h.os, h.tape, h.output, h.drawn, h.size, fun k hk => h.block k fun q => hk (hM k q)⟩
theorem Xr.drew {a w : World} (h : Xr M a w) : Xr M a w.drew := ⟨h.os, h.tape, h.output, Nat.le_succ_of_le h.drawn, h.size, h.block⟩
theorem Xr.alloc {a w : World} (h : Xr M a w) (hM : M w.heap.size) (o : Obj) : Xr M a (w.alloc o) :=
 h.trans ⟨rfl, rfl, rfl, Nat.le_refl _, by simp, fun k hk => by
  show (w.heap.push o)[k]? = _
  rw [Array.getElem?_push, if_neg (by rintro rfl; exact hk hM)]⟩
def Act.tv (a : Act) (t : Nat) : Value := a.tmps.getD t undef
def Gok (S : zn) : Prop := ∀ g x, z63 g = some x → ∃ l, Rep S x l ∧ z2Q S g 0 l
theorem Gok.mono {S S' : zn} (h : ∀ b o v, S b o = some v → S' b o = some v) (k : Gok S) : Gok S' := fun g x e => let ⟨l, r, q⟩ := k g x e; ⟨l, r.mono h, q.mono h⟩
def Gbk (S : zn) (w : World) : Prop := ∀ g x, z63 g = some x → (∃ c ty fr, w.heap[g]? = some (.cells c ty fr) ∧ c.size = x.size) ∧ ∃ v, S g 0 = some v
theorem Gbk.of {S S' : zn} {w w' : World} (h : Gbk S w) (hS : ∀ b o v, S b o = some v → S' b o = some v) (hb : ∀ g x, z63 g = some x → w'.heap[g]? = w.heap[g]?) : Gbk S' w' := fun g x e => by
 have ⟨⟨c, ty, fr, h1, h2⟩, v, h3⟩ := h g x e
 exact ⟨⟨c, ty, fr, (hb g x e).trans h1, h2⟩, v, hS _ _ _ h3⟩
variable {w : World}
theorem Gbk.ne (h : Gbk S w) {b : Nat} (hb : S b 0 = none) : ∀ x, z63 b ≠ some x := fun x e => by
 have ⟨_, v, h3⟩ := h b x e
 rw [hb] at h3
 cases h3
theorem Gbk.lt (h : Gbk S w) {g : Nat} {x : A} (e : z63 g = some x) : g < w.heap.size := by
 have ⟨⟨c, ty, fr, h1, _⟩, _⟩ := h g x e
 exact (Array.getElem?_eq_some_iff.1 h1).1
structure zdl (M : Nat → Prop) (w : World) : Prop where
 new : ∀ k, w.heap.size ≤ k → M k
 far : ∀ g x, z63 g = some x → ¬ M g
instance {M : Nat → Prop} {w : World} : CoeFun (zdl M w) fun _ => ∀ k, w.heap.size ≤ k → M k := ⟨zdl.new⟩
structure wN (S : zn) (w : World) : Prop where
 cell : ∀ b o v, S b o = some v → yj w.heap b o = some v
 gok : Gok S
 blk : Gbk S w
instance {S : zn} {w : World} : CoeFun (wN S w) fun _ => ∀ b o v, S b o = some v → yj w.heap b o = some v := ⟨wN.cell⟩
structure Sim (C : Ctx) (S : zn) (Fp : Nat → List Nat) (X : List Nat) (st : St) (a : Act) (w : World) : Prop where
 size : a.tmps.size = C.n.size
 pin : ∀ i v, (i, v) ∈ C.n.pin → Act.tv a i = v
 defers : a.defers = C.df.map zaK
 below : Xr C.M C.w0 w
 mine : zdl C.M C.w0
 still : wN S w
 sinc : ∀ b o v, C.S0 b o = some v → S b o = some v
 sbase : ∀ b o, ¬ C.M b → S b o = C.S0 b o
 ent : ∀ t, xV S w.heap st (Act.tv a) (Fp t) (st t) (Act.tv a t)
 disj : ∀ t u k, k ∈ Fp t → k ∈ Fp u → t = u
 base : ∀ t k, k ∈ Fp t → C.M k
 xn : X.Nodup
 xd : ∀ t k, k ∈ X → k ∉ Fp t
 xb : ∀ k, k ∈ X → C.M k
def Qc (Fp : Nat → List Nat) (k : Nat) (F : List Nat) : Nat → List Nat := fun t => if t = k then F else Fp t
variable {st : St}{p : List ZI}{er ec : Nat}{r : Nat}
theorem Xt.frame {h h' : Array Obj}  {tv : Nat → Value}  {p : List ZI} {er ec : Nat} {v : Value}  (hr : xV S h st tv F (st r) (tv r)) (hF : ∀ k ∈ F, h'[k]? = h[k]?)
  (q : Xt h st tv r p er ec v) : Xt h' st tv r p er ec v := by
 have ⟨q1, q2, q3⟩ := q
 refine ⟨q1, q2, ?_⟩
 unfold xV at hr
 cases ht : (st r).t with
 | own x =>
  simp only [ht] at q3 hr ⊢
  intro e1 e2
  rcases q3 e1 e2 with q | ⟨q4, y, b, o, cs, g1, g2, g3, g4, g5⟩
  ·exact .inl q
  ·refine .inr ⟨q4, y, b, o, cs, g1, ?_, g3, ?_, g5⟩
   ·have ⟨cs', c1, c2, c3⟩ := hr
    rw [c3] at g2 ⊢
    rw [Uy p c1 hF]; exact g2
   ·have ⟨cs', c1, c2, c3⟩ := hr
    have ⟨b', o', arr, ty, csy, Fy, f1, f2, f3, f4, f5, f6, _⟩ := Yk p c1 c2 (by rintro rfl; simp [Vn] at q4) (by rintro i q rfl; simp [Vn] at q4) g1
    rw [c3, f1] at g2
    cases g2
    intro j u hj
    rw [wv (hF _ f6)]
    exact g4 j u hj
 | d x => simpa only [ht] using q3
 | _ => trivial
theorem ZV.frame {h h' : Array Obj}  {tv : Nat → Value}  {p : List ZI} {er ec : Nat} {v : Value}  (hr : xV S h st tv F (st r) (tv r)) (hF : ∀ k ∈ F, h'[k]? = h[k]?)
  (q : ZV h st tv r p er ec v) : ZV h' st tv r p er ec v := by
 have ⟨q1, q2, q3⟩ := q
 refine ⟨q1, q2, ?_⟩
 unfold xV at hr
 cases ht : (st r).t with
 | own x =>
  simp only [ht] at q3 hr ⊢
  intro e1 e2
  have ⟨q4, y, b, o, g1, g2, g3⟩ := q3 e1 e2
  refine ⟨q4, y, b, o, g1, ?_, g3⟩
  have ⟨cs', c1, c2, c3⟩ := hr
  rw [c3] at g2 ⊢
  rw [Uy p c1 hF]; exact g2
 | _ => trivial
variable {Fp : Nat → List Nat}{C : Ctx}{a : Act}
theorem Sim.mem {S S' : zn}  {X X' : List Nat}   {w w' : World} (h : Sim C S Fp X st a w) (hb : Xr C.M C.w0 w') (hS : ∀ b o v, S b o = some v → S' b o = some v)
  (hst : ∀ b o v, S' b o = some v → yj w'.heap b o = some v) (hsb : ∀ b o, ¬ C.M b → S' b o = C.S0 b o) (hF : ∀ t k, k ∈ Fp t → w'.heap[k]? = w.heap[k]? ∧ ∀ o, S' k o = none)
  (xn : X'.Nodup) (xd : ∀ t k, k ∈ X' → k ∉ Fp t) (xb : ∀ k, k ∈ X' → C.M k) : Sim C S' Fp X' st a w' := {
 size := h.size
 pin := h.pin
 defers := h.defers
 below := hb
 mine := h.mine
 still := ⟨hst, Gok.mono hS h.still.gok, h.still.blk.of hS fun g x e => (hb.block g (h.mine.far g x e)).trans (h.below.block g (h.mine.far g x e)).symm⟩
 sinc := fun b o v q => hS _ _ _ (h.sinc _ _ _ q)
 sbase := hsb
 ent := fun t => by
  have q := h.ent t
  unfold xV at q ⊢
  cases ht : (st t).t with
  | gone => simpa only [ht] using q
  | d x => simp [ht] at q ⊢; exact ⟨q.1.mono hS, q.2⟩
  | own x => simp [ht] at q ⊢; have ⟨cs, q1, q2, q3⟩ := q; exact ⟨cs, q1.frame hS (fun k hk => hF t k hk), q2, q3⟩
  | als r p er ec => simp [ht] at q ⊢; exact ⟨q.1, q.2.frame (h.ent r) (fun k hk => (hF r k hk).1)⟩
  | ptr r p er ec => simp [ht] at q ⊢; exact ⟨q.1, q.2.frame (h.ent r) (fun k hk => (hF r k hk).1)⟩
 disj := h.disj
 base := h.base
 xn := xn
 xd := xd
 xb := xb }
theorem Sim.change {S S' : zn}  {X X' : List Nat}   {w w' : World} (h : Sim C S Fp X st a w) (r : Nat) (T' : T) (er' ec' : Nat) (F' : List Nat)
  (hb : Xr C.M C.w0 w') (hS : ∀ b o v, S b o = some v → S' b o = some v)
  (hst : ∀ b o v, S' b o = some v → yj w'.heap b o = some v) (hsb : ∀ b o, ¬ C.M b → S' b o = C.S0 b o) (hF : ∀ t k, t ≠ r → k ∈ Fp t → w'.heap[k]? = w.heap[k]? ∧ ∀ o, S' k o = none)
  (hT : match T' with
   | .gone => F' = []
   | .d x => we S' x (Act.tv a r) ∧ F' = []
   | .own x => (∃ cs, zH S' w'.heap x cs F' ∧ F'.Nodup ∧ Act.tv a r = yc x cs) ∧ ∃ y, (st r).t = .own y
   | _ => False)
  (ht0 : (∃ y, (st r).t = .own y) ∨ ∃ y, (st r).t = .d y)
  (her : (st r).er ≤ er') (hec : (st r).ec < ec')
  (fd : ∀ t k, t ≠ r → k ∈ F' → k ∉ Fp t) (fb : ∀ k, k ∈ F' → C.M k)
  (xn : X'.Nodup) (xd : ∀ t k, t ≠ r → k ∈ X' → k ∉ Fp t) (xf : ∀ k, k ∈ X' → k ∉ F') (xb : ∀ k, k ∈ X' → C.M k) :
  Sim C S' (Qc Fp r F') X' (upd st r ⟨T', er', ec'⟩) a w' := {
 size := h.size
 pin := h.pin
 defers := h.defers
 below := hb
 mine := h.mine
 still := ⟨hst, Gok.mono hS h.still.gok, h.still.blk.of hS fun g x e => (hb.block g (h.mine.far g x e)).trans (h.below.block g (h.mine.far g x e)).symm⟩
 sinc := fun b o v q => hS _ _ _ (h.sinc _ _ _ q)
 sbase := hsb
 ent := fun t => by
  by_cases htr : t = r
  ·subst htr
   rw [YI]
   simp [Qc, xV]
   cases T' with
   | gone => exact hT
   | d x => exact hT
   | own x => exact hT.1
   | _ => exact hT.elim
  ·rw [Ur _ _ htr]
   simp [Qc, htr]
   have q := h.ent t
   unfold xV at q ⊢
   cases ht : (st t).t with
   | gone => simpa only [ht] using q
   | d x => simp [ht] at q ⊢; exact ⟨q.1.mono hS, q.2⟩
   | own x => simp [ht] at q ⊢; have ⟨cs, q1, q2, q3⟩ := q; exact ⟨cs, q1.frame hS (fun k hk => hF t k htr hk), q2, q3⟩
   | als u p er ec =>
    simp [ht] at q ⊢
    refine ⟨q.1, ?_⟩
    by_cases hu : u = r
    ·subst hu
     have ⟨q1, q2, q3⟩ := q.2
     unfold Xt
     rw [YI]
     refine ⟨Nat.le_trans q1 her, Nat.le_trans q2 (Nat.le_of_lt hec), ?_⟩
     cases T' with
     | d x =>
      dsimp only
      intro e1 e2
      rcases ht0 with ⟨y, hy⟩ | ⟨y, hy⟩
      ·simp [hy] at q3
       rcases q3 (by omega) (.inl e2) with q | q
       ·exact q.2
       ·simp [e2, Vn] at q
      ·simp [hy] at q3
       exact q3 (by omega) e2
     | own x =>
      dsimp only
      intro e1 e2
      have ⟨_, y, hy⟩ := hT
      simp [hy] at q3
      have hp : p = [] := e2.resolve_right (by omega)
      rcases q3 (by omega) (.inl hp) with q | q
      ·exact .inl q
      ·simp [hp, Vn] at q
     | _ => trivial
    ·have := Xt.frame (h' := w'.heap) (h.ent u) (fun k hk => (hF u k hu hk).1) q.2
     unfold Xt at this ⊢
     rw [Ur _ _ hu]
     exact this
   | ptr u p er ec =>
    simp [ht] at q ⊢
    refine ⟨q.1, ?_⟩
    by_cases hu : u = r
    ·subst hu
     have ⟨q1, q2, q3⟩ := q.2
     unfold ZV
     rw [YI]
     refine ⟨Nat.le_trans q1 her, Nat.le_trans q2 (Nat.le_of_lt hec), ?_⟩
     cases T' with
     | own x =>
      dsimp only
      intro e1 e2
      omega
     | _ => trivial
    ·have := ZV.frame (h' := w'.heap) (h.ent u) (fun k hk => (hF u k hu hk).1) q.2
     unfold ZV at this ⊢
     rw [Ur _ _ hu]
     exact this
 disj := fun t u k ht hu => by
  simp [Qc] at ht hu
  split at ht <;> split at hu
  ·simp_all
  ·exact absurd hu (fd u k ‹_› ht)
  ·exact absurd ht (fd t k ‹_› hu)
  ·exact h.disj t u k ht hu
 base := fun t k ht => by
  simp [Qc] at ht
  split at ht
  ·exact fb k ht
  ·exact h.base t k ht
 xn := xn
 xd := fun t k hk => by
  simp [Qc]
  split
  ·exact xf k hk
  ·exact xd t k ‹_› hk
 xb := xb }
theorem Act.tv_put (a : Act) (k : Nat) (v : Value) (hk : k < a.tmps.size) (t : Nat) : Act.tv (a.put (some k) v) t = if t = k then v else Act.tv a t := by
 simp [Act.tv, Go.Act.put, Array.getD_eq_getD_getElem?, Array.getElem?_setIfInBounds]
 by_cases h : t = k
 ·subst h; simp [hk]
 ·simp [h, Ne.symm h]
variable {e : Ent}
theorem Xt.put {h : Array Obj}  {tv tv' : Nat → Value}   (her : (st k).er < e.er) (hec : (st k).ec < e.ec) (htv : ∀ t, t ≠ k → tv' t = tv t) {r : Nat} {p : List ZI} {er ec : Nat} {v : Value}
  (q : Xt h st tv r p er ec v) : Xt h (upd st k e) tv' r p er ec v := by
 unfold Xt at q ⊢
 have ⟨q1, q2, q3⟩ := q
 by_cases hr : r = k
 ·subst hr
  rw [YI]
  refine ⟨by omega, by omega, ?_⟩
  cases e.t with
  | gone => trivial
  | als _ _ _ _ => trivial
  | ptr _ _ _ _ => trivial
  | _ => dsimp only; intro e1; omega
 ·rw [Ur _ _ hr, htv r hr]
  exact ⟨q1, q2, q3⟩
theorem ZV.put {h : Array Obj}  {tv tv' : Nat → Value}   (her : (st k).er < e.er) (hec : (st k).ec < e.ec) (htv : ∀ t, t ≠ k → tv' t = tv t) {r : Nat} {p : List ZI} {er ec : Nat} {v : Value}
  (q : ZV h st tv r p er ec v) : ZV h (upd st k e) tv' r p er ec v := by
 unfold ZV at q ⊢
 have ⟨q1, q2, q3⟩ := q
 by_cases hr : r = k
 ·subst hr
  rw [YI]
  refine ⟨by omega, by omega, ?_⟩
  cases e.t with
  | own x => dsimp only; intro e1; omega
  | _ => trivial
 ·rw [Ur _ _ hr, htv r hr]
  exact ⟨q1, q2, q3⟩
theorem Sim.put {X X' : List Nat}    (h : Sim C S Fp X st a w)  (hk : C.n.ok k = true) (T' : T) (F : List Nat) (v : Value)
  (hT : xV S w.heap (upd st k ⟨T', (st k).er + 1, (st k).ec + 1⟩) (fun t => if t = k then v else Act.tv a t) F ⟨T', (st k).er + 1, (st k).ec + 1⟩ v)
  (fd : ∀ t m, t ≠ k → m ∈ F → m ∉ Fp t) (fb : ∀ m, m ∈ F → C.M m)
  (xn : X'.Nodup) (xd : ∀ t m, t ≠ k → m ∈ X' → m ∉ Fp t) (xf : ∀ m, m ∈ X' → m ∉ F) (xb : ∀ m, m ∈ X' → C.M m) :
  Sim C S (Qc Fp k F) X' (upd st k ⟨T', (st k).er + 1, (st k).ec + 1⟩) (a.put (some k) v) w := by
 have hk' : k < a.tmps.size := h.size ▸ Fr.lt hk
 have htv : Act.tv (a.put (some k) v) = fun t => if t = k then v else Act.tv a t := funext (Act.tv_put a k v hk')
 exact {
  size := by simp [Go.Act.put, h.size]
  pin := fun i u hi => by
   rw [htv]
   have hne : i ≠ k := by
    rintro rfl
    have h1 := Qk hi
    rw [Fr.free hk] at h1
    cases h1
   simp [if_neg hne]
   exact h.pin i u hi
  defers := h.defers
  below := h.below
  mine := h.mine
  still := h.still
  sinc := h.sinc
  sbase := h.sbase
  ent := fun t => by
   rw [htv]
   by_cases ht : t = k
   ·subst ht
    rw [YI]
    simpa only [Qc, if_true] using hT
   ·rw [Ur _ _ ht]
    simp [Qc, ht]
    have q := h.ent t
    unfold xV at q ⊢
    cases htt : (st t).t with
    | gone => simpa only [htt] using q
    | d x => simpa only [htt] using q
    | own x => simpa only [htt] using q
    | _ => simp [htt] at q ⊢; exact ⟨q.1, q.2.put (Nat.lt_succ_self _) (Nat.lt_succ_self _) (fun t ht => by simp [ht])⟩
  disj := fun t u m ht hu => by
   simp [Qc] at ht hu
   split at ht <;> split at hu
   ·simp_all
   ·exact absurd hu (fd u m ‹_› ht)
   ·exact absurd ht (fd t m ‹_› hu)
   ·exact h.disj t u m ht hu
  base := fun t m ht => by
   simp [Qc] at ht
   split at ht
   ·exact fb m ht
   ·exact h.base t m ht
  xn := xn
  xd := fun t m hm => by
   simp [Qc]
   split
   ·exact xf m hm
   ·exact xd t m ‹_› hm
  xb := xb }
inductive TK where
 | int (k : IntKind)
 | bool
 | str
 | slice (e : Nat)
 | ptr (e : Nat)
 | struct (fs : List (Nat × Nat))
 | array (n e : Nat)
 | other
structure TI where
 kind : TK
 size : Nat
 bytes : Nat
 zero : Option A
 eqn : Bool
abbrev TT := Nat → Option TI
structure Ctr where
 run : Nat → List A → Option A
 gives : Nat → List Bool
 raw : Nat → Bool := fun _ => false
 ext : Fr → Oper → Option (SM Unit) := fun _ _ => none
@[reducible] def Ctr.withE (c : Ctr) (e : Fr → Oper → Option (SM Unit)) : Ctr := { c with ext := e }
def Ctr.norm (ctr : Ctr) (k : Nat) (l : List A) : List A := if ctr.raw k = true then l else l.map A.loose
def opnd : Operand → SM T
 | .tmp t => do
  let e ← rdE t
  match e.t with
  | .own _ => pure (.als t [] e.er e.ec)
  | .gone => zt
  | T => pure T
 | .const v => if v.oneCell' = true then pure (.d (.atom v)) else zt
 | .func f => pure (.d (.fn f []))
 | .global g => match z63 g with | some x => pure (.d (.sptr x)) | none => zt
def look (r : Nat) (p : List ZI) (er ec : Nat) : SM A := do
 let e ← rdE r
 match e.t with
 | .own x => if e.er = er ∧ (p = [] ∨ e.ec = ec) then ofO (wF p x) else zt
 | .d x => if e.er = er ∧ p = [] then pure x else zt
 | _ => zt
def lookP (r : Nat) (p : List ZI) (er ec : Nat) : SM A := do
 let e ← rdE r
 match e.t with
 | .own x => if e.er = er ∧ e.ec = ec then ofO (wF p x) else zt
 | _ => zt
def val : T → SM A
 | .d a => pure a
 | .als r p er ec => do
  let y ← look r p er ec
  if y.isD = true then pure y else zt
 | _ => zt
def Wn (tt : TT) (t : Nat) : A → A
 | .atom (.slice none 0 0) =>
  match tt t with
  | some ⟨.slice e, _, _, _, _⟩ =>
   match tt e with
   | some i => .osl i.size true []
   | none => .atom (.slice none 0 0)
  | _ => .atom (.slice none 0 0)
 | a => a
def take : T → SM A
 | .d a => pure a
 | .als r p er ec => do
  let y ← look r p er ec
  if y.isD = true then pure y else if y.plain = true then do
   let e ← rdE r
   match e.t with
   | .own x =>
    if p = [] then do
     wrE r ⟨.gone, e.er + 1, e.ec + 1⟩
     pure y
    else do
     wrE r ⟨.own (Ww p x (.dead y.size)), e.er, e.ec + 1⟩
     pure y
   | _ => zt
  else zt
 | _ => zt
def takeC (tt : TT) (t : Nat) (x : T) : SM A := do
 let y ← take x
 pure (Wn tt t y)
def mkT : A → T
 | .tup fs => .d (.tup fs)
 | a => if a.isD = true then .d a else .own a
def wrT (n : Fr) (dst : Option Nat) (x : T) : SM Unit :=
 match dst with
 | none => pure ()
 | some k => if n.ok k = true then do
   let e ← rdE k
   wrE k ⟨x, e.er + 1, e.ec + 1⟩
  else zt
def z7V (op : BinOp) (k : IntKind) (a b : Int) : Option A :=
 match op with
 | .add => some (.atom (.int k (k.wrap (a + b))))
 | .sub => some (.atom (.int k (k.wrap (a - b))))
 | .mul => some (.atom (.int k (k.wrap (a * b))))
 | .quo => if b = 0 then none else some (.atom (.int k (k.wrap (a.tdiv b))))
 | .rem => if b = 0 then none else some (.atom (.int k (a.tmod b)))
 | .eql => some (.atom (.bool (a == b)))
 | .neq => some (.atom (.bool (a != b)))
 | .lss => some (.atom (.bool (decide (a < b))))
 | .leq => some (.atom (.bool (decide (a ≤ b))))
 | .gtr => some (.atom (.bool (decide (a > b))))
 | .geq => some (.atom (.bool (decide (a ≥ b))))
 | _ => none
def vY : List A → List A → Option Bool
 | [], [] => some true
 | .atom (.int k a) :: as_, .atom (.int k' b) :: bs => if k = k' then (vY as_ bs).map fun r => (a == b) && r else none
 | _, _ => none
def z92 (tt : TT) (op : BinOp) (xt : Nat) : A → A → Option A
 | .atom (.int k a), .atom (.int k' b) => if k = k' then z7V op k a b else none
 | .atom (.bool a), .atom (.bool b) =>
  match tt xt with
  | some ⟨.bool, _, _, _, _⟩ =>
   match op with
   | .eql => some (.atom (.bool (a == b)))
   | .neq => some (.atom (.bool (!(a == b))))
   | _ => none
  | _ => none
 | .agg as_, .agg bs =>
  match tt xt with
  | some i => if i.eqn = true ∧ as_.length = i.size ∧ bs.length = i.size then
    match op with
    | .eql => (vY as_ bs).map fun r => .atom (.bool r)
    | .neq => (vY as_ bs).map fun r => .atom (.bool (!r))
    | _ => none
   else none
  | none => none
 | _, _ => none
def unA (op : UnOp) : A → Option A
 | .atom (.bool b) => match op with | .not => some (.atom (.bool (!b))) | _ => none
 | .atom (.int k a) => match op with | .neg => some (.atom (.int k (k.wrap (0 - a)))) | _ => none
 | _ => none
def ptrOf : T → SM (A ⊕ (Nat × List ZI × Nat × Nat))
 | .d (.sptr y) => pure (.inl y)
 | .ptr r p er ec => pure (.inr (r, p, er, ec))
 | .als r p er ec => do
  let e ← rdE r
  let y ← look r p er ec
  match y with
  | .box _ => pure (.inr (r, p ++ [.deref], e.er, e.ec))
  | .sptr z => pure (.inl z)
  | _ => zt
 | _ => zt
def A.isAgg : A → Bool
 | .agg _ => true
 | _ => false
def TK.isAgg : TK → Bool
 | .struct _ | .array _ _ => true
 | _ => false
def Zn (tt : TT) (t : Nat) (y : A) : Bool :=
 match tt t with
 | some i => i.kind.isAgg == y.isAgg && i.size == y.size && (i.kind.isAgg || i.size == 1)
 | none => false
def loadA (tt : TT) (n : Fr) (dst : Option Nat) (t : Nat) (x : T) : SM Unit := do
 let q ← ptrOf x
 match q with
 | .inl y => if Zn tt t y = true ∧ y.isD = true then wrT n dst (.d y) else zt
 | .inr (r, p, er, ec) => do
  let y ← lookP r p er ec
  if Zn tt t y = true then
   (if y.isD = true then wrT n dst (.d y) else wrT n dst (.als r p er ec))
  else zt
def storeA (tt : TT) (t : Nat) (x v : T) : SM Unit := do
 let q ← ptrOf x
 match q with
 | .inl _ => zt
 | .inr (r, p, er, ec) => do
  let y ← takeC tt t v
  let e ← rdE r
  match e.t with
  | .own x0 =>
   if e.er = er ∧ e.ec = ec then
    match wF p x0 with
    | some y0 => if y.size = y0.size ∧ Zn tt t y = true then wrE r ⟨.own (Ww p x0 y), e.er, e.ec + 1⟩ else zt
    | none => zt
   else zt
  | _ => zt
def Qr (tt : TT) (t i : Nat) (fs : List A) : Bool :=
 match tt t with
 | some ⟨.struct offs, _, _, _, _⟩ =>
  match offs[i]? with
  | some (off, sz) => off == A.sizes (fs.take i) && sz != 0
  | none => false
 | _ => false
def fieldAddrA (tt : TT) (n : Fr) (dst : Option Nat) (t i : Nat) (x : T) : SM Unit := do
 let q ← ptrOf x
 match q with
 | .inl (.agg fs) =>
  match fs[i]? with
  | some y => if Qr tt t i fs = true then wrT n dst (.d (.sptr y)) else zt
  | none => zt
 | .inl _ => zt
 | .inr (r, p, er, ec) => do
  let y ← lookP r p er ec
  match y with
  | .agg fs => if Qr tt t i fs = true ∧ i < fs.length then wrT n dst (.ptr r (p ++ [.fld i]) er ec) else zt
  | _ => zt
def w9 (tt : TT) (t : Nat) : Option Nat :=
 match tt t with
 | some ⟨.slice e, _, _, _, _⟩ => (tt e).map (·.size)
 | _ => none
def indexAddrA (tt : TT) (n : Fr) (dst : Option Nat) (t : Nat) (x : T) (i : A) : SM Unit :=
 match i with
 | .atom (.int _ j) =>
  match x with
  | .d (.sl sz _ xs) =>
   if w9 tt t = some sz ∧ 0 ≤ j then
    match xs[j.toNat]? with
    | some y => wrT n dst (.d (.sptr y))
    | none => zt
   else zt
  | .als r p er ec => do
   let e ← rdE r
   let y ← look r p er ec
   match y with
   | .osl sz _ es => if w9 tt t = some sz ∧ 0 ≤ j ∧ j.toNat < es.length then wrT n dst (.ptr r (p ++ [.idx j.toNat]) e.er e.ec) else zt
   | .sl sz _ xs =>
    if w9 tt t = some sz ∧ 0 ≤ j then
     match xs[j.toNat]? with
     | some y => wrT n dst (.d (.sptr y))
     | none => zt
    else zt
   | _ => zt
  | _ => zt
 | _ => zt
def lenOf : A → Option Nat
 | .sl _ _ xs => some xs.length
 | .osl _ _ es => some es.length
 | .atom (.slice none 0 0) => some 0
 | _ => none
def z8i : A → Option Nat
 | .sl _ true xs => some xs.length
 | .osl _ true es => some es.length
 | .atom (.slice none 0 0) => some 0
 | _ => none
def Zh (tt : TT) (t : Nat) : Bool :=
 match tt t with
 | some ⟨.slice _, _, _, _, _⟩ => true
 | _ => false
def peek : T → SM A
 | .d a => pure a
 | .als r p er ec => look r p er ec
 | _ => zt
def lim : Nat := 4294967296
def appendA (tt : TT) (n : Fr) (dst : Option Nat) (t : Nat) (s x : T) : SM Unit :=
 match tt t with
 | some ⟨.slice e, _, _, _, _⟩ =>
  match tt e with
  | some i => do
   let y ← peek x
   match y with
   | .sl sz _ ys | .osl sz _ ys =>
    if sz = i.size ∧ A.areD ys = true ∧ i.bytes ≤ 4096 ∧ 0 < i.size ∧ i.zero.isSome = true then
     let z ← takeC tt t s
     match z with
     | .osl sz' tg es => if sz' = i.size ∧ es.length + ys.length ≤ lim then wrT n dst (.own (.osl sz' false (es ++ ys))) else zt
     | .sl sz' tg es => if sz' = i.size ∧ es.length + ys.length ≤ lim ∧ tg = true ∧ ys ≠ [] ∧ A.areD es = true then wrT n dst (.own (.osl sz' false (es ++ ys))) else zt
     | _ => zt
    else zt
   | _ => zt
  | none => zt
 | _ => zt
def appendOwnA (tt : TT) (n : Fr) (dst : Option Nat) (t : Nat) (s x : Operand) : SM Unit :=
 match tt t with
 | some ⟨.slice e, _, _, _, _⟩ =>
  match tt e with
  | some i =>
   if i.bytes ≤ 4096 ∧ 0 < i.size ∧ i.zero.isSome = true then do
    let tx ← opnd x
    let y ← take tx
    let ts ← opnd s
    let z ← takeC tt t ts
    match y, z with
    | .osl sz _ ys, .osl sz' tg es => if sz = i.size ∧ sz' = i.size ∧ A.plains ys = true ∧ es.length + ys.length ≤ lim then wrT n dst (.own (.osl sz' false (es ++ ys))) else zt
    | _, _ => zt
   else zt
  | none => zt
 | _ => zt
mutual
def A.flat : A → Bool
 | .atom (.slice _ _ _) => false
 | .atom _ => true
 | .agg fs | .tup fs => A.flats fs
 | _ => false
def A.flats : List A → Bool
 | [] => true
 | a :: as_ => a.flat && A.flats as_
end
def shutT (tt : TT) (t : Nat) : T → SM A
 | .d (.tup _) => zt
 | .d a => pure (Wn tt t a).shut
 | .als r p er ec => do
  let y ← look r p er ec
  if y.isD = true then pure y else
   if y.live = true then do
    let e ← rdE r
    match e.t with
    | .own x =>
     if p = [] then do
      wrE r ⟨.d y.shut, e.er, e.ec + 1⟩
      pure y.shut
     else do
      wrE r ⟨.own (Ww p x y.shut), e.er, e.ec + 1⟩
      pure y.shut
    | _ => zt
   else zt
 | _ => zt
def shutArgs (tt : TT) : List (Operand × Nat) → SM (List A)
 | [] => pure []
 | (x, t) :: as_ => do
  let y ← opnd x
  let a ← shutT tt t y
  let bs ← shutArgs tt as_
  pure (a :: bs)
def ghost {α : Type} (m : SM α) : SM α := fun st => match m st with | some (a, R, _) => some (a, R, []) | none => none
def passArgs (tt : TT) : List (Bool × Operand × Nat) → SM (List A)
 | [] => pure []
 | (g, x, t) :: as_ => do
  let y ← opnd x
  let a ← (if g = true then takeC tt t y else shutT tt t y)
  let bs ← passArgs tt as_
  pure (a :: bs)
def z6N (y : A) : Bool := match y with | .osl _ _ _ => true | .box _ => true | .opq o => !o.multi | _ => false
def callA (tt : TT) (ctr : Ctr) (n : Fr) (dst : Option Nat) (f : A) (as_ : List (Operand × Nat)) : SM Unit :=
 match f with
 | .fn k caps =>
  if (ctr.gives k).isEmpty = true then do
   let xs ← ghost (shutArgs tt as_)
   match ctr.run k (ctr.norm k (xs ++ caps)) with
   | some r =>
    if r.flat = true then wrT n dst (.d r)
    else do
     let _ ← shutArgs tt as_
     wrT n dst (mkT r)
   | none => zt
  else if (ctr.gives k).length = as_.length then do
   let xs ← passArgs tt ((ctr.gives k).zip as_)
   match ctr.run k (ctr.norm k (xs ++ caps)) with
   | some r => wrT n dst (mkT r)
   | none => zt
  else zt
 | _ => zt
def takes : List (Operand × Nat) → TT → SM (List A)
 | [], _ => pure []
 | (x, t) :: ps, tt => do
  let y ← opnd x
  let a ← takeC tt t y
  let bs ← takes ps tt
  pure (a :: bs)
def Qe : List A → List (Nat × A) → List A
 | fs, [] => fs
 | fs, (i, a) :: ps => Qe (fs.set i a) ps
theorem zz (us vs : List (Nat × Ent)) (st : St) : zl (us ++ vs) st = zl vs (zl us st) := by
 induction us generalizing st with
 | nil => rfl
 | cons u us ih => simp [zl, ih]
variable {U : List (Nat × Ent)}{R : List Nat}
theorem bind_some {m : SM α} {f : α → SM β}  {b : β}   (h : (m >>= f) st = some (b, R, U)) :
  ∃ a R1 U1 R2 U2, m st = some (a, R1, U1) ∧ f a (zl U1 st) = some (b, R2, U2) ∧ R = R1 ++ R2 ∧ U = U1 ++ U2 := by
 change SM.bind m f st = _ at h
 unfold SM.bind at h
 split at h
 ·cases h
 ·rename_i a R1 U1 h1
  split at h
  ·cases h
  ·rename_i b' R2 U2 h2
   cases h
   exact ⟨a, R1, U1, R2, U2, h1, h2, rfl, rfl⟩
theorem wT {α : Type} {a b : α}    (h : (pure a : SM α) st = some (b, R, U)) : b = a ∧ R = [] ∧ U = [] := by
 change SM.pure a st = _ at h
 simp only [SM.pure, Option.some.injEq, Prod.mk.injEq] at h
 exact ⟨h.1.symm, h.2.1.symm, h.2.2.symm⟩
theorem qJ (h : rdE k st = some (e, R, U)) : e = st k ∧ R = [k] ∧ U = [] := by
 simp only [rdE, Option.some.injEq, Prod.mk.injEq] at h
 exact ⟨h.1.symm, h.2.1.symm, h.2.2.symm⟩
variable {u : Unit}
theorem z6V (h : wrE k e st = some (u, R, U)) : R = [] ∧ U = [(k, e)] := by
 simp only [wrE, Option.some.injEq, Prod.mk.injEq] at h
 exact ⟨h.2.1.symm, h.2.2.symm⟩
theorem W1 {α : Type} {x : Option α} {a : α}    (h : ofO x st = some (a, R, U)) : x = some a ∧ R = [] ∧ U = [] := by
 unfold ofO at h
 split at h
 ·simp only [Option.some.injEq, Prod.mk.injEq] at h
  exact ⟨by simp [*], h.2.1.symm, h.2.2.symm⟩
 ·cases h
theorem w7 {α : Type} {a : α}    (h : (zt : SM α) st = some (a, R, U)) : False := by
 simp [zt] at h
theorem bR {m : SM α} {f : α → SM β} {P : α → Prop}  {b : β}   (hm : ∀ {a R U}, m st = some (a, R, U) → U = [] ∧ P a) (h : (m >>= f) st = some (b, R, U)) : ∃ a R2, P a ∧ f a st = some (b, R2, U) := by
 obtain ⟨a, _, _, R2, _, h1, h2, rfl, rfl⟩ := bind_some h
 obtain ⟨rfl, p⟩ := hm h1
 exact ⟨a, R2, p, h2⟩
theorem bD {β : Type}  {f : Ent → SM β}  {b : β}   (h : (rdE k >>= f) st = some (b, R, U)) : ∃ R2, f (st k) st = some (b, R2, U) := by
 obtain ⟨_, R2, rfl, h⟩ := bR (fun h => (qJ h).elim fun h1 h2 => ⟨h2.2, h1⟩) h
 exact ⟨R2, h⟩
theorem bO {x : Option α} {f : α → SM β}  {b : β}   (h : (ofO x >>= f) st = some (b, R, U)) : ∃ a R2, x = some a ∧ f a st = some (b, R2, U) := bR (fun h => (W1 h).elim fun h1 h2 => ⟨h2.2, h1⟩) h
variable {X : List Nat}
theorem Sim.free (h : Sim C S Fp X st a w) (t k : Nat) (hk : k ∈ Fp t) :
  k < w.heap.size ∧ (∀ o, S k o = none) ∧ True := by
 have q := h.ent t
 unfold xV at q
 cases htt : (st t).t with
 | own z => simp [htt] at q; have ⟨cs, g1, _⟩ := q; exact g1.own k hk
 | gone => simp [htt] at q; simp [q] at hk
 | d z => simp [htt] at q; simp [q.2] at hk
 | _ => simp [htt] at q; simp [q.1] at hk
def TOk (S : zn) (h : Array Obj) (st : St) (tv : Nat → Value) (x : T) (v : Value) : Prop :=
 match x with
 | .d y => we S y v
 | .als r p er ec => Xt h st tv r p er ec v
 | .ptr r p er ec => ZV h st tv r p er ec v
 | _ => False
theorem uE {v u : Value} : u6 S (.atom v) u ↔ u = v ∧ v.oneCell' = true := by
 constructor
 ·rintro ⟨cs, h, rfl⟩
  simp [Rep] at h
  obtain ⟨rfl, h⟩ := h
  exact ⟨rfl, h⟩
 ·rintro ⟨rfl, h⟩
  exact ⟨[u], by simp [Rep, h], rfl⟩
theorem zw {v u : Value} : we S (.atom v) u ↔ u = v ∧ v.oneCell' = true := by
 simp [we]; exact uE
variable {x : Operand}
theorem zD (h : Sim C S Fp X st a w)  {y : T}   (e : opnd x st = some (y, R, U)) :
  U = [] ∧ TOk S w.heap st (Act.tv a) y (a.eval x) := by
 cases x with
 | tmp t =>
  simp only [opnd] at e
  obtain ⟨en, R1, U1, R2, U2, h1, h2, rfl, rfl⟩ := bind_some e
  obtain ⟨rfl, rfl, rfl⟩ := qJ h1
  simp only [zl] at h2
  have q := h.ent t
  unfold xV at q
  cases ht : (st t).t with
  | gone => simp only [ht] at h2; cases h2
  | d z =>
   simp only [ht] at h2 q
   cases h2
   exact ⟨rfl, q.1⟩
  | own z =>
   simp only [ht] at h2 q
   cases h2
   refine ⟨rfl, Nat.le_refl _, Nat.le_refl _, ?_⟩
   simp only [ht]
   exact fun _ _ => .inl ⟨trivial, rfl⟩
  | als r p er ec =>
   simp only [ht] at h2 q
   cases h2
   exact ⟨rfl, q.2⟩
  | ptr r p er ec =>
   simp only [ht] at h2 q
   cases h2
   exact ⟨rfl, q.2⟩
 | const v =>
  simp only [opnd] at e
  split at e
  ·cases e
   exact ⟨rfl, zw.2 ⟨rfl, ‹_›⟩⟩
  ·cases e
 | func f =>
  simp only [opnd] at e
  cases e
  refine ⟨rfl, ?_⟩
  simp only [TOk, we]
  exact ⟨[.func (.func f) #[] #[]], by simp [Rep, yw], rfl⟩
 | global g =>
  simp only [opnd] at e
  cases hg : z63 g with
  | none => simp only [hg] at e; cases e
  | some z =>
   simp only [hg] at e
   cases e
   have ⟨l, r1, r2⟩ := h.still.gok g z hg
   refine ⟨rfl, ?_⟩
   simp only [TOk, we]
   exact ⟨[.pointer (some ⟨g, 0, none⟩)], by simp only [Rep]; exact ⟨g, 0, l, rfl, r1, r2⟩, rfl⟩
variable {y : A}
theorem z2j (e : look r p er ec st = some (y, R, U)) :
  U = [] ∧ ((∃ x, (st r).t = .own x ∧ (st r).er = er ∧ (p = [] ∨ (st r).ec = ec) ∧ wF p x = some y) ∨ ((st r).t = .d y ∧ (st r).er = er ∧ p = [])) := by
 simp [look] at e
 obtain ⟨en, R1, U1, R2, U2, h1, h2, rfl, rfl⟩ := bind_some e
 obtain ⟨rfl, rfl, rfl⟩ := qJ h1
 simp [zl] at h2
 cases ht : (st r).t with
 | own x =>
  simp [ht] at h2
  split at h2
  ·rename_i hc
   obtain ⟨g, rfl, rfl⟩ := W1 h2
   exact ⟨rfl, .inl ⟨x, rfl, hc.1, hc.2, g⟩⟩
  ·cases h2
 | d x =>
  simp [ht] at h2
  split at h2
  ·rename_i hc
   cases h2
   exact ⟨rfl, .inr ⟨rfl, hc.1, hc.2⟩⟩
  ·cases h2
 | _ => simp [ht] at h2; cases h2
variable {ty : TypeId}
theorem Xw {cs cs' : List Value}  {b o : Nat}   (hy : zH S h y cs F) (hb : h[b]? = some (.cells arr ty (0, 0))) (hs : KT arr o cs) (hl : cs'.length = y.size) (hs' : z8z h b o cs') : cs' = cs := by
 apply List.ext_getElem?
 intro j
 by_cases hj : j < y.size
 ·have h1 := hs' j cs'[j] (List.getElem?_eq_getElem (by omega))
  have hlen := hy.len
  have h2 := hs j cs[j] (List.getElem?_eq_getElem (by omega))
  simp [yj, hb] at h1
  rw [h2] at h1
  rw [List.getElem?_eq_getElem (by omega), List.getElem?_eq_getElem (by omega)]
  exact h1.symm
 ·have hlen := hy.len
  rw [List.getElem?_eq_none (by omega), List.getElem?_eq_none (by omega)]
theorem VM (h : Sim C S Fp X st a w)     (ha : Xt w.heap st (Act.tv a) r p er ec v)
    {y : A} {R : List Nat} {U : List (Nat × Ent)} (e : look r p er ec st = some (y, R, U)) :
    U = [] ∧ ((∃ x cs F, (st r).t = .own x ∧ (st r).er = er ∧ (p = [] ∨ (st r).ec = ec) ∧ wF p x = some y ∧ zH S w.heap y cs F ∧ v = yc y cs ∧ (∀ k ∈ F, k ∈ Fp r) ∧ F.Nodup) ∨ ((st r).t = .d y ∧ (st r).er = er ∧ p = [] ∧ v = Act.tv a r ∧ we S y v)) := by
  obtain ⟨rfl, q⟩ := z2j e
  refine ⟨rfl, ?_⟩
  have hr := h.ent r
  unfold xV at hr
  have ⟨_, _, a3⟩ := ha
  rcases q with ⟨x, ht, e1, e2, e3⟩ | ⟨ht, e1, e2⟩
  · left
    simp only [ht] at hr a3
    have ⟨cs, c1, c2, c3⟩ := hr
    rcases a3 e1 e2 with ⟨rfl, rfl⟩ | ⟨o1, y', b, o, cs', g1, g2, g3, g4, g5⟩
    · simp only [wF, Option.some.injEq] at e3
      subst e3
      exact ⟨x, cs, Fp r, ht, e1, e2, rfl, c1, c3, fun _ h => h, c2⟩
    · rw [e3] at g1
      cases g1
      have ⟨b', o', arr, ty, csy, Fy, f1, f2, f3, f4, f5, f6, f7, f8, _⟩ := Yk p c1 c2 (by rintro rfl; simp [Vn] at o1) (by rintro i q rfl; simp [Vn] at o1) e3
      rw [c3, f1] at g2
      cases g2
      have := Xw f4 f2 f3 g3 g4
      subst this
      exact ⟨x, cs', Fy, ht, e1, e2, e3, f4, g5, f7, f8⟩
  · right
    simp only [ht] at hr a3
    subst e2
    have := a3 e1 rfl
    subst this
    exact ⟨ht, e1, rfl, rfl, hr.1⟩
theorem vO (h : Sim C S Fp X st a w) {x : T}  (hx : TOk S w.heap st (Act.tv a) x v)    (e : val x st = some (y, R, U)) :
  U = [] ∧ we S y v := by
 cases x with
 | d z => simp [val] at e; cases e; exact ⟨rfl, hx⟩
 | als r p er ec =>
  simp [val] at e
  have ⟨z, _, q, h2⟩ := bR (VM h hx) e
  split at h2
  ·rename_i hd
   cases h2
   refine ⟨rfl, ?_⟩
   rcases q with ⟨x, cs, F, _, _, _, _, q5, q6, _⟩ | ⟨_, _, _, _, q5⟩
   ·exact u6.repV ⟨cs, (q5.isD hd).1, q6⟩
   ·exact q5
  ·cases h2
 | _ => simp [val] at e; cases e
theorem we.conc (h : Array Obj) (hr : we S y v) (hy : ∀ fs, y ≠ .tup fs) : ∃ cs, zH S h y cs [] ∧ v = yc y cs := by
 have : u6 S y v := by
  cases y <;> simp [we] at hr <;> first | exact hr | exact absurd rfl (hy _)
 have ⟨cs, h1, h2⟩ := this
 exact ⟨cs, h1.conc h, h2⟩
theorem z0N (h : Sim C S Fp X st a w) {x : T}  (hx : TOk S w.heap st (Act.tv a) x v)    (e : take x st = some (y, R, U)) :
  ∃ Fp' F, Sim C S Fp' (F ++ X) (zl U st) a w ∧ ((we S y v ∧ F = []) ∨ ∃ cs, zH S w.heap y cs F ∧ F.Nodup ∧ v = yc y cs) := by
 cases x with
 | d z => simp only [take] at e; cases e; exact ⟨Fp, [], h, .inl ⟨hx, rfl⟩⟩
 | als r p er ec =>
  simp only [take] at e
  obtain ⟨z, R1, U1, R2, U2, h1, h2, rfl, rfl⟩ := bind_some e
  obtain ⟨rfl, q⟩ := VM h hx h1
  simp only [zl] at h2
  simp only [List.nil_append]
  by_cases hd : z.isD = true
  ·rw [if_pos hd] at h2
   cases h2
   refine ⟨Fp, [], h, .inl ⟨?_, rfl⟩⟩
   rcases q with ⟨x, cs, F, _, _, _, _, q5, q6, _⟩ | ⟨_, _, _, _, q5⟩
   ·exact u6.repV ⟨cs, (q5.isD hd).1, q6⟩
   ·exact q5
  ·rw [if_neg hd] at h2
   by_cases hpl : z.plain = true
   case neg => rw [if_neg hpl] at h2; cases h2
   rw [if_pos hpl] at h2
   obtain ⟨en, R3, U3, R4, U4, h3, h4, rfl, rfl⟩ := bind_some h2
   obtain ⟨rfl, rfl, rfl⟩ := qJ h3
   simp only [zl] at h4
   rcases q with ⟨x, cs, F, q1, q2, q3, q4, q5, q6, q7, q8⟩ | ⟨q1, _⟩
   ·simp only [q1] at h4
    have hr := h.ent r
    unfold xV at hr
    simp only [q1] at hr
    by_cases hp : p = []
    ·rw [if_pos hp] at h4
     obtain ⟨u5, R5, U5, R6, U6, h5, h6, rfl, rfl⟩ := bind_some h4
     cases h5
     cases h6
     subst hp
     simp only [wF, Option.some.injEq] at q4
     subst q4
     have ⟨cs', c1, c2, c3⟩ := hr
     have hv : v = Act.tv a r := by
      have := hx.2.2
      simp only [q1] at this
      rcases this q2 (.inl trivial) with ⟨_, hv⟩ | ⟨ho, _⟩
      ·exact hv
      ·simp [Vn] at ho
     refine ⟨Qc Fp r [], Fp r, ?_, .inr ⟨cs', c1, c2, by rw [hv, c3]⟩⟩
     simp only [List.nil_append, List.append_nil, zl]
     refine h.change r .gone _ _ [] h.below (fun _ _ _ h => h) h.still.cell h.sbase (fun t k _ hk => ⟨rfl, (h.free t k hk).2.1⟩) rfl (.inl ⟨x, q1⟩) (Nat.le_succ _) (Nat.lt_succ_self _) (by simp) (by simp) ?_ ?_ (by simp) ?_
     ·rw [List.nodup_append]
      refine ⟨c2, h.xn, ?_⟩
      rintro m hm m' hm' rfl
      exact h.xd r m hm' hm
     ·intro t k ht hk
      rcases List.mem_append.1 hk with hk | hk
      ·exact fun hk' => ht (h.disj t r k hk' hk)
      ·exact h.xd t k hk
     ·intro k hk
      rcases List.mem_append.1 hk with hk | hk
      ·exact h.base r k hk
      ·exact h.xb k hk
    ·rw [if_neg hp] at h4
     obtain ⟨u5, R5, U5, R6, U6, h5, h6, rfl, rfl⟩ := bind_some h4
     cases h5
     cases h6
     have ⟨cs', c1, c2, c3⟩ := hr
     have ho : Vn p = true := by
      have := hx.2.2
      simp only [q1] at this
      rcases this q2 q3 with ⟨hp', _⟩ | ⟨ho, _⟩
      ·exact absurd hp' hp
      ·exact ho
     have hx3 := hx.2.2
     simp only [q1] at hx3
     rcases hx3 q2 q3 with ⟨hp', _⟩ | ⟨_, y', b, o, csa, g1, g2, g3, g4, g5⟩
     ·exact absurd hp' hp
     rw [q4] at g1
     cases g1
     have ⟨b', o', arr, ty, csy, Fy, f1, f2, f3, f4, f5, f6, f7, f8, f9⟩ := Yk p c1 c2 hp (by rintro i q rfl; simp [Vn] at ho) q4
     rw [c3, f1] at g2
     cases g2
     have hcs := Xw f4 f2 f3 g3 g4
     subst hcs
     have ⟨F0', d1, d2, d3⟩ := f9 S w.heap (.dead y.size) csa [] (fun _ _ _ h => h) rfl (by simp only [zH]; exact ⟨f4.len, f4.one1 hpl, trivial⟩) (by simp) (fun k hk _ => (c1.own k hk).2.1) (fun _ _ _ _ => rfl) (by rw [Xz f3]; exact f2) (by simp)
     have hval : yc (Ww p x (.dead y.size)) cs' = yc x cs' := by
      cases p with
      | nil => exact absurd rfl hp
      | cons s p' =>
       cases s with
       | fld _ => simp [Vn] at ho
       | _ => cases x <;> simp [Ww, yc]
     refine ⟨Qc Fp r F0', Fy, ?_, .inr ⟨csa, f4, f8, g5⟩⟩
     simp only [List.nil_append, List.append_nil, zl]
     refine h.change r (.own (Ww p x (.dead y.size))) _ _ F0' h.below (fun _ _ _ h => h) h.still.cell h.sbase (fun t k _ hk => ⟨rfl, (h.free t k hk).2.1⟩) ⟨⟨cs', d1, d2, by rw [hval]; exact c3⟩, x, q1⟩ (.inl ⟨x, q1⟩) (Nat.le_refl _) (Nat.lt_succ_self _) ?_ ?_ ?_ ?_ ?_ ?_
     ·intro t k ht hk hk'
      rcases (d3 k).1 hk with hk | hk
      ·exact ht (h.disj t r k hk' hk.1)
      ·simp at hk
     ·intro k hk
      rcases (d3 k).1 hk with hk | hk
      ·exact h.base r k hk.1
      ·simp at hk
     ·rw [List.nodup_append]
      refine ⟨f8, h.xn, ?_⟩
      rintro m hm m' hm' rfl
      exact h.xd r m hm' (f7 m hm)
     ·intro t k ht hk
      rcases List.mem_append.1 hk with hk | hk
      ·exact fun hk' => ht (h.disj t r k hk' (f7 k hk))
      ·exact h.xd t k hk
     ·intro k hk hk'
      rcases (d3 k).1 hk' with hk' | hk'
      ·rcases List.mem_append.1 hk with hk | hk
       ·exact hk'.2 hk
       ·exact h.xd r k hk hk'.1
      ·simp at hk'
     ·intro k hk
      rcases List.mem_append.1 hk with hk | hk
      ·exact h.base r k (f7 k hk)
      ·exact h.xb k hk
   ·simp only [q1] at h4; cases h4
 | _ => simp only [take] at e; cases e
def Has (S : zn) (h : Array Obj) (y : A) (v : Value) (F : List Nat) : Prop := (we S y v ∧ F = []) ∨ ∃ cs, zH S h y cs F ∧ F.Nodup ∧ v = yc y cs
mutual
theorem Rep.isD : ∀ {a : A} {cs : List Value}, Rep S a cs → a.isD = true
 | .agg fs, _, r => by simp [Rep] at r; simp [A.isD]; exact yw.areD r
 | .atom _, _, _ => rfl
 | .fn _ _, _, _ => rfl
 | .sl _ _ _, _, _ => rfl
 | .sptr _, _, _ => rfl
 | .dop _, _, _ => rfl
 | .tup _, _, r => by simp [Rep] at r
 | .osl _ _ _, _, r => by simp [Rep] at r
 | .box _, _, r => by simp [Rep] at r
 | .dead _, _, r => by simp [Rep] at r
 | .opq _, _, r => by simp [Rep] at r
theorem yw.areD : ∀ {as_ : List A} {cs : List Value}, yw S as_ cs → A.areD as_ = true
 | [], _, _ => rfl
 | a :: as_, _, r => by
  simp [yw] at r
  have ⟨c1, c2, _, r1, r2⟩ := r
  simp [A.areD, Rep.isD r1, yw.areD r2, Bool.and_self]
end
def KP (P : Program) (t : Nat) : TK → Prop
 | .int k => P.underlying t = some (.int k)
 | .bool => P.underlying t = some .bool
 | .str => P.underlying t = some .string
 | .slice e => P.underlying t = some (.slice e)
 | .ptr e => P.underlying t = some (.pointer e)
 | .struct fs => ∃ fields, P.underlying t = some (.struct fields) ∧ fields.toList.map (fun f => (f.offset, P.cellsOf f.type)) = fs ∧ ∀ f ∈ fields.toList, ∃ i, P.info? f.type = some i
 | .array n e => P.underlying t = some (.array n e)
 | .other => ∃ d, P.underlying t = some d ∧ (match d with | .struct _ | .array _ _ => false | _ => true) = true
def xF : List Value → List Value → Option Bool
 | [], [] => some true
 | .int k a :: as_, .int k' b :: bs => if k = k' then (xF as_ bs).map fun r => (a == b) && r else none
 | _, _ => none
structure z6S (P : Program) (t n : Nat) : Prop where
 guard : P.eqGuardType P.depth t = false
 run : ∀ (vs us : List Value) (r : Bool) (w : World), vs.length = n → us.length = n → xF vs us = some r → (Op.equal t (.agg vs.toArray) (.agg us.toArray)).run P w = .ok r w
def zca (z : A) (v : Value) (n : Nat) : Prop := z.size = n ∧ ∀ S h, zH S h z v.cells.toList []
structure ZJ (P : Program) (t : Nat) (i : TI) : Prop where
 info : ∃ f, P.info? t = some f ∧ f.size = i.size ∧ f.bytes = i.bytes ∧ ∀ z, i.zero = some z → ∃ v, f.zero = some v ∧ zca z v i.size
 kind : KP P t i.kind
 eqn : i.eqn = true → z6S P t i.size
def wG (P : Program) (tt : TT) : Prop := ∀ t i, tt t = some i → ZJ P t i
def fen (r : Option Nat) : Fence := { Fence.wide with round := r }
variable {P : Program}
theorem UC {f : FuncId} {vs : Array Value}  {R : Ending → World → Prop} (h : Calls P f vs w R) (r : Option Nat) (m : Nat) : CallsIn (fen r) m P f vs w R := by
 have h0 : CallsIn Fence.wide m P f vs w R := callsIn_wide.2 h
 cases r with
 | none => exact h0
 | some l => exact h0.inRound l
def qE (P : Program) (C : Ctx) (o : Oper) (a : Act) (w : World) (st' : St) : Prop :=
 ∀ (r : Option Nat) (m : Nat) (K : Act → World → Prop) (Q : Exit → Act → World → Prop), (∀ S Fp a' w', Sim C S Fp [] st' a' w' → K a' w') → o.wpIn (fen r) m P a w K Q
variable {o : Oper}
theorem Xx {ρ : Operand → Value} {w w' : World} {x : Next} (h : (execOp ρ o).run P w = .ok x w') (hx : ∀ d, x ≠ .defer d) (r : Option Nat) : (o.semAt r ρ).run P w = .ok x w' := by
 rw [Oper.semAt_eq r ρ o ?_]
 ·exact h
 ·intro c hc
  simp [execOp, hc] at h
  cases hr : (resolve ρ c o.type).run P w with
  | ok d w2 =>
   simp [hr, Result.andThen_ok, Result.ok.injEq] at h
   exact hx _ h.1.symm
  | halt e w2 => simp [hr] at h
theorem zr {w w' : World} {st' : St}    (h : (execOp a.eval o).run P w = .ok (.value v) w') (hs : Sim C S Fp [] st' (a.put o.dst v) w') : qE P C o a w st' := by
 intro r m K Q hK
 refine ⟨fun _ _ => trivial, ?_⟩
 rw [Xx h (by simp)]
 exact hK _ _ _ _ hs
theorem Ks {w w' : World} {st' : St}   (h : (execOp a.eval o).run P w = .ok .skip w') (hd : o.dst = none) (hs : Sim C S Fp [] st' a w') : qE P C o a w st' := by
 intro r m K Q hK
 refine ⟨fun _ _ => trivial, ?_⟩
 rw [Xx h (by simp), Oper.uponIn_skip, hd]
 exact hK _ _ _ _ hs
theorem z0F {dst : Option Nat} {x : T}     (e : wrT n dst x st = some (u, R, U)) :
  (dst = none ∧ U = []) ∨ ∃ k, dst = some k ∧ n.ok k = true ∧ U = [(k, ⟨x, (st k).er + 1, (st k).ec + 1⟩)] := by
 unfold wrT at e
 cases dst with
 | none => obtain ⟨_, _, rfl⟩ := wT e; exact .inl ⟨rfl, rfl⟩
 | some k =>
  right
  simp only at e
  split at e
  ·rename_i hk
   have ⟨_, h4⟩ := bD e
   cases h4
   exact ⟨k, rfl, hk, by simp⟩
  ·cases e
variable {tt : TT}{t : Nat}{fs : List A}{xt : Nat}{op : BinOp}
section
variable {C : Ctx} {S : zn} {Fp : Nat → List Nat} {X : List Nat} {st : St} {a : Act} {w : World}
theorem Sim.dropX (h : Sim C S Fp X st a w) : Sim C S Fp [] st a w :=
 h.mem h.below (fun _ _ _ h => h) h.still.cell h.sbase (fun t k hk => ⟨rfl, (h.free t k hk).2.1⟩) (by simp) (by simp) (by simp)
theorem wJ (h : Sim C S Fp X st a w) {dst : Option Nat} {x : T}    (e : wrT C.n dst x st = some (u, R, U))  (hx : TOk S w.heap st (Act.tv a) x v) :
  ∃ Fp', Sim C S Fp' [] (zl U st) (a.put dst v) w := by
 rcases z0F e with ⟨rfl, rfl⟩ | ⟨k, rfl, hk, rfl⟩
 ·exact ⟨Fp, h.dropX⟩
 ·refine ⟨_, h.put hk x [] v ?_ (by simp) (by simp) (by simp) (by simp) (by simp) (by simp)⟩
  unfold xV
  cases x with
  | gone => exact hx.elim
  | own _ => exact hx.elim
  | d y => exact ⟨hx, rfl⟩
  | als r p er ec => exact ⟨rfl, Xt.put (Nat.lt_succ_self _) (Nat.lt_succ_self _) (fun t ht => by simp [ht]) hx⟩
  | ptr r p er ec => exact ⟨rfl, ZV.put (Nat.lt_succ_self _) (Nat.lt_succ_self _) (fun t ht => by simp [ht]) hx⟩
theorem Xv (h : Sim C S Fp (F ++ X) st a w) {dst : Option Nat}     (e : wrT C.n dst (.own y) st = some (u, R, U))  (hc : zH S w.heap y cs F) (hn : F.Nodup) :
  ∃ Fp', Sim C S Fp' [] (zl U st) (a.put dst (yc y cs)) w := by
 rcases z0F e with ⟨rfl, rfl⟩ | ⟨k, rfl, hk, rfl⟩
 ·exact ⟨Fp, h.dropX⟩
 ·exact ⟨_, h.put hk (.own y) F _ ⟨cs, hc, hn, rfl⟩ (fun t m _ hm => h.xd t m (by simp [hm])) (fun m hm => h.xb m (by simp [hm])) (by simp) (by simp) (by simp) (by simp)⟩
theorem Has.mkT (q : Has S h y v F) : (mkT y = .d y ∧ we S y v ∧ F = []) ∨ (mkT y = .own y ∧ ∃ cs, zH S h y cs F ∧ F.Nodup ∧ v = yc y cs) := by
 rcases q with ⟨q, rfl⟩ | ⟨cs, q1, q2, q3⟩
 ·left
  refine ⟨?_, q, rfl⟩
  unfold Go.Own.mkT
  cases y <;> try rfl
  all_goals
   simp [we] at q
   have ⟨cs, q, _⟩ := q
   simp [q.isD]
 ·by_cases hd : y.isD = true
  ·left
   obtain ⟨q4, rfl⟩ := q1.isD hd
   refine ⟨?_, u6.repV ⟨cs, q4, q3⟩, rfl⟩
   unfold Go.Own.mkT
   cases y <;> simp_all
  ·right
   refine ⟨?_, cs, q1, q2, q3⟩
   unfold Go.Own.mkT
   cases y <;> first | (simp [zH] at q1; done) | simp_all
theorem z0a (h : Sim C S Fp (F ++ X) st a w) {dst : Option Nat}     (e : wrT C.n dst (mkT y) st = some (u, R, U))  (hc : Has S w.heap y v F) :
  ∃ Fp', Sim C S Fp' [] (zl U st) (a.put dst v) w := by
 rcases hc.mkT with ⟨e1, q, rfl⟩ | ⟨e1, cs, q1, q2, rfl⟩
 ·rw [e1] at e
  exact wJ h e q
 ·rw [e1] at e
  exact Xv h e q1 q2
theorem z5K (q : Has S h y v F) : Has S h (Wn tt t y) v F := by
 unfold Wn
 split
 ·split
  ·split
   ·rename_i i _
    right
    have hv : v = .slice none 0 0 ∧ F = [] := by
     rcases q with ⟨q, rfl⟩ | ⟨cs, q1, _, q3⟩
     ·exact ⟨(zw.1 q).1, rfl⟩
     ·simp only [zH, Rep] at q1
      obtain ⟨⟨rfl, _⟩, rfl⟩ := q1
      exact ⟨q3, rfl⟩
    obtain ⟨rfl, rfl⟩ := hv
    refine ⟨[.slice none 0 0], ?_, by simp, rfl⟩
    simp only [zH]
    exact ⟨none, 0, rfl, (fun _ => rfl), Nat.le_refl _, Nat.zero_le _, by simp, .inl (by simp)⟩
   ·exact q
  ·exact q
 ·exact q
theorem XM (h : Sim C S Fp X st a w)   {x : T}  (hx : TOk S w.heap st (Act.tv a) x v)    (e : takeC tt t x st = some (y, R, U)) :
  ∃ Fp' F, Sim C S Fp' (F ++ X) (zl U st) a w ∧ Has S w.heap y v F := by
 unfold takeC at e
 obtain ⟨z, R1, U1, R2, U2, h1, h2, rfl, rfl⟩ := bind_some e
 cases h2
 have ⟨Fp', F, g1, g2⟩ := z0N h hx h1
 exact ⟨Fp', F, by simpa using g1, z5K g2⟩
theorem we.plain (h : we S y v) : y.plain = true := by
 by_cases ht : ∃ fs, y = .tup fs
 ·obtain ⟨fs, rfl⟩ := ht; rfl
 ·have q1 : u6 S y v := by cases y <;> simp [we] at h <;> first | exact h | exact absurd ⟨_, rfl⟩ ht
  have ⟨cs, c1, _⟩ := q1
  exact c1.plain
theorem z2r : ∀ {y : A}, y.isD = true → y.plain = true
 | .agg fs, h => by simp [A.isD] at h; simp [A.plain]; exact areD_plains h
 | .opq _, h => by simp [A.isD] at h
 | .atom _, _ => rfl
 | .fn _ _, _ => rfl
 | .sl _ _ _, _ => rfl
 | .sptr _, _ => rfl
 | .dop _, _ => rfl
 | .tup _, _ => rfl
 | .osl _ _ _, _ => rfl
 | .box _, _ => rfl
 | .dead _, _ => rfl
where areD_plains : ∀ {ys : List A}, A.areD ys = true → A.plains ys = true
 | [], _ => rfl
 | y :: ys, h => by
  simp [A.areD, Bool.and_eq_true] at h
  simp [A.plains, z2r h.1, areD_plains h.2, Bool.and_self]
theorem z4s {x : T}  (hx : TOk S w.heap st (Act.tv a) x v)    (e : take x st = some (y, R, U)) : y.plain = true := by
 cases x with
 | d z => simp [take] at e; cases e; exact we.plain hx
 | als r p er ec =>
  simp [take] at e
  obtain ⟨z, R1, U1, R2, U2, h1, h2, rfl, rfl⟩ := bind_some e
  by_cases hd : z.isD = true
  ·rw [if_pos hd] at h2
   cases h2
   exact z2r hd
  ·rw [if_neg hd] at h2
   by_cases hpl : z.plain = true
   case neg => rw [if_neg hpl] at h2; cases h2
   rw [if_pos hpl] at h2
   obtain ⟨en, R3, U3, R4, U4, h3, h4, rfl, rfl⟩ := bind_some h2
   cases ht : en.t with
   | own x =>
    simp [ht] at h4
    by_cases hp : p = []
    ·rw [if_pos hp] at h4
     obtain ⟨u5, R5, U5, R6, U6, h5, h6, rfl, rfl⟩ := bind_some h4
     cases h6
     exact hpl
    ·rw [if_neg hp] at h4
     obtain ⟨u5, R5, U5, R6, U6, h5, h6, rfl, rfl⟩ := bind_some h4
     cases h6
     exact hpl
   | _ => simp [ht] at h4; cases h4
 | own z => exact hx.elim
 | gone => exact hx.elim
 | ptr r p er ec => simp [take] at e; cases e
theorem z2f (h : y.plain = true) : (Wn tt t y).plain = true := by
 unfold Wn
 split
 ·split
  ·split <;> rfl
  ·rfl
 ·exact h
theorem z2W {x : T}  (hx : TOk S w.heap st (Act.tv a) x v)    (e : takeC tt t x st = some (y, R, U)) : y.plain = true := by
 unfold takeC at e
 obtain ⟨z, R1, U1, R2, U2, h1, h2, rfl, rfl⟩ := bind_some e
 cases h2
 exact z2f (z4s hx h1)
def zac (n : Fr) (dst : Option Nat) (x : Operand) : SM Unit := do
 let t ← opnd x
 wrT n dst t
theorem zab (h : Sim C S Fp [] st a w)   (ho : o.op = .move x)    (e : zac C.n o.dst x st = some (u, R, U)) : qE P C o a w (zl U st) := by
 unfold zac at e
 have ⟨y, _, hx, h2⟩ := bR (zD h) e
 have ⟨Fp', hs⟩ := wJ h h2 hx
 exact zr (v := a.eval x) (by simp [execOp, ho]) hs
def z1n (tt : TT) (n : Fr) (dst : Option Nat) (t : Nat) (x : Operand) : SM Unit := do
 let y ← opnd x
 match y with
 | .ptr r p er ec => wrT n dst (.ptr r p er ec)
 | y => do
  let z ← takeC tt t y
  wrT n dst (mkT z)
theorem z6y (h : Sim C S Fp [] st a w)    (ho : o.op = .assign x)    (e : z1n tt C.n o.dst o.type x st = some (u, R, U)) : qE P C o a w (zl U st) := by
 unfold z1n at e
 have ⟨y, _, hx, h2⟩ := bR (zD h) e
 have gen : ∀ (R2 : List Nat) (U2 : List (Nat × Ent)), (do let z ← takeC tt o.type y; wrT C.n o.dst (mkT z) : SM Unit) st = some (u, R2, U2) → qE P C o a w (zl U2 st) := by
  intro R2 U2 h2
  obtain ⟨z, R3, U3, R4, U4, h3, h4, rfl, rfl⟩ := bind_some h2
  have ⟨Fp', F, g1, g2⟩ := XM h hx h3
  have ⟨Fp'', hs⟩ := z0a g1 h4 g2
  rw [zz]
  exact zr (v := a.eval x) (by simp [execOp, ho]) hs
 cases y with
 | ptr r p er ec =>
  have ⟨Fp', hs⟩ := wJ h h2 hx
  exact zr (v := a.eval x) (by simp [execOp, ho]) hs
 | gone => exact hx.elim
 | own _ => exact hx.elim
 | _ => exact gen _ _ h2
def z6u (tt : TT) (n : Fr) (dst : Option Nat) (op : BinOp) (xt : Nat) (x y : Operand) : SM Unit := do
 let tx ← opnd x
 let vx ← val tx
 let ty ← opnd y
 let vy ← val ty
 let r ← ofO (z92 tt op xt vx vy)
 wrT n dst (.d r)
theorem z0Z (h : we S (.agg fs) v) : ∃ cs, v = .agg cs.toArray ∧ yw S fs cs := by
 simp [we] at h
 have ⟨cs, h1, h2⟩ := h
 simp [Rep] at h1
 exact ⟨cs, h2, h1⟩
theorem YM : ∀ {as_ bs : List A} {r : Bool} {cs ds : List Value}, vY as_ bs = some r → yw S as_ cs → yw S bs ds → xF cs ds = some r
 | [], [], r, cs, ds, h, h1, h2 => by simp only [yw] at h1 h2; subst h1; subst h2; simpa [vY, xF] using h
 | .atom (.int k a) :: as_, .atom (.int k' b) :: bs, r, cs, ds, h, h1, h2 => by
  simp only [yw] at h1 h2
  obtain ⟨c1, c2, rfl, q1, q2⟩ := h1
  obtain ⟨d1, d2, rfl, p1, p2⟩ := h2
  simp only [Rep] at q1 p1
  obtain ⟨rfl, _⟩ := q1
  obtain ⟨rfl, _⟩ := p1
  simp only [vY] at h
  split at h
  ·rename_i hk
   subst hk
   cases he : vY as_ bs with
   | none => simp [he] at h
   | some r' =>
    simp only [he, Option.map_some, Option.some.injEq] at h
    simp [xF, YM he q2 p2, h]
  ·cases h
 | [], _ :: _, _, _, _, h, _, _ => by simp [vY] at h
 | _ :: _, [], _, _, _, h, _, _ => by unfold vY at h; split at h <;> simp_all
 | a :: as_, b :: bs, r, cs, ds, h, h1, h2 => by
  unfold vY at h
  split at h
  ·simp_all
  ·rename_i k x xs k' y ys e1 e2
   simp only [List.cons.injEq] at e1 e2
   obtain ⟨rfl, rfl⟩ := e1
   obtain ⟨rfl, rfl⟩ := e2
   simp only [yw] at h1 h2
   obtain ⟨c1, c2, rfl, q1, q2⟩ := h1
   obtain ⟨d1, d2, rfl, p1, p2⟩ := h2
   simp only [Rep] at q1 p1
   obtain ⟨rfl, _⟩ := q1
   obtain ⟨rfl, _⟩ := p1
   split at h
   ·rename_i hk
    subst hk
    cases he : vY as_ bs with
    | none => simp [he] at h
    | some r' =>
     simp only [he, Option.map_some, Option.some.injEq] at h
     simp [xF, YM he q2 p2, h]
   ·cases h
  ·cases h
theorem z5d {P : Program}  {k : IntKind} {x y : Int} {r : A} (e : z7V op k x y = some r) (xt : Nat) (p q : Operand) (w : World) :
    ∃ v, we S r v ∧ (do eqGuard op xt p q (.int k x) (.int k y); Go.binOp op xt (.int k x) (.int k y)).run P w = .ok v w := by
  cases op <;> simp only [z7V] at e
  all_goals first
    | (cases e
       refine ⟨_, zw.2 ⟨rfl, rfl⟩, ?_⟩
       simp [eqGuard, Go.binOp, Op.intArith, Op.intCmp]; done)
    | (split at e
       · cases e
       · rename_i h0
         cases e
         refine ⟨_, zw.2 ⟨rfl, rfl⟩, ?_⟩
         simp [eqGuard, Go.binOp, Op.intDiv, h0])
    | (cases e; done)
theorem Vy (hb : P.underlying xt = some .bool) (x y : Bool) (w : World) : (Op.equal xt (.bool x) (.bool y)).run P w = .ok (x == y) w := by
 have : ∀ d, (Op.equalIn (d + 1) xt (.bool x) (.bool y)).run P w = .ok (x == y) w := by
  intro d
  simp [Op.equalIn, run_underlying hb]
 exact this 9999
theorem QT (hb : P.underlying xt = some .bool) (x y : Bool) (p q : Operand) (w : World) :
  (do eqGuard .eql xt p q (.bool x) (.bool y); Go.binOp .eql xt (.bool x) (.bool y)).run P w = .ok (.bool (x == y)) w ∧
  (do eqGuard .neq xt p q (.bool x) (.bool y); Go.binOp .neq xt (.bool x) (.bool y)).run P w = .ok (.bool (!(x == y))) w := by
 constructor
 ·show (do (pure () : Sem Unit); (do pure (Value.bool (← Op.equal xt (.bool x) (.bool y))))).run P w = _
  simp [Result.andThen_ok, Vy hb]
 ·show (do (pure () : Sem Unit); (do pure (Value.bool (!(← Op.equal xt (.bool x) (.bool y)))))).run P w = _
  simp [Result.andThen_ok, Vy hb]
theorem JX {x y : Array Value} {r : Bool}  (hg : P.eqGuardType P.depth xt = false) (hr : (Op.equal xt (.agg x) (.agg y)).run P w = .ok r w) (p q : Operand) :
  (do eqGuard .eql xt p q (.agg x) (.agg y); Go.binOp .eql xt (.agg x) (.agg y)).run P w = .ok (.bool r) w ∧
  (do eqGuard .neq xt p q (.agg x) (.agg y); Go.binOp .neq xt (.agg x) (.agg y)).run P w = .ok (.bool (!r)) w := by
 have h1 : (eqGuard .eql xt p q (.agg x) (.agg y)).run P w = .ok () w := by
  show (do if !(← program).eqGuardType (← program).depth xt then pure () else _ : Sem Unit).run P w = _
  simp [program, Sem.run, hg]
 have h2 : (eqGuard .neq xt p q (.agg x) (.agg y)).run P w = .ok () w := by
  show (do if !(← program).eqGuardType (← program).depth xt then pure () else _ : Sem Unit).run P w = _
  simp [program, Sem.run, hg]
 constructor
 ·show (do eqGuard .eql xt p q (.agg x) (.agg y); (do pure (Value.bool (← Op.equal xt (.agg x) (.agg y))))).run P w = _
  simp [Sem.run_bind, Result.andThen_ok, h1, hr]
 ·show (do eqGuard .neq xt p q (.agg x) (.agg y); (do pure (Value.bool (!(← Op.equal xt (.agg x) (.agg y)))))).run P w = _
  simp [Sem.run_bind, Result.andThen_ok, h2, hr]
theorem z6v {P : Program}  (hT : wG P tt) {S : zn}   {x y : Operand} {vx vy r : A} {ux uy : Value} (qx : we S vx ux) (qy : we S vy uy) (hr : z92 tt op xt vx vy = some r) (w : World) :
  ∃ v, we S r v ∧ (do eqGuard op xt x y ux uy; Go.binOp op xt ux uy).run P w = .ok v w := by
 have fin : ∀ v, we S r v → (do eqGuard op xt x y ux uy; Go.binOp op xt ux uy).run P w = .ok v w → ∃ v, we S r v ∧ (do eqGuard op xt x y ux uy; Go.binOp op xt ux uy).run P w = .ok v w := fun v h1 h2 => ⟨v, h1, h2⟩
 unfold z92 at hr
 split at hr
 ·
  have ⟨ex, _⟩ := zw.1 qx
  have ⟨ey, _⟩ := zw.1 qy
  split at hr
  ·rename_i hk
   subst hk
   have ⟨v, hv, hrun⟩ := z5d (S := S) (P := P) hr xt x y w
   exact fin v hv (by rw [ex, ey]; exact hrun)
  ·cases hr
 ·
  have ⟨ex, _⟩ := zw.1 qx
  have ⟨ey, _⟩ := zw.1 qy
  split at hr
  ·rename_i htt
   have hb : P.underlying xt = some .bool := (hT _ _ htt).kind
   split at hr
   ·cases hr
    refine fin _ (zw.2 ⟨rfl, rfl⟩) ?_
    rw [ex, ey]
    exact (QT hb _ _ x y w).1
   ·cases hr
    refine fin _ (zw.2 ⟨rfl, rfl⟩) ?_
    rw [ex, ey]
    exact (QT hb _ _ x y w).2
   ·cases hr
  ·cases hr
 ·
  have ⟨cs, ex, rx⟩ := z0Z qx
  have ⟨ds, ey, ry⟩ := z0Z qy
  split at hr
  ·rename_i i htt
   split at hr
   ·rename_i hc
    have ⟨c1, c2, c3⟩ := hc
    have heq := (hT _ _ htt).eqn c1
    have len : ∀ {as_ bs : List A} {r : Bool} {cs : List Value}, vY as_ bs = some r → yw S as_ cs → cs.length = as_.length := by
     intro as_
     induction as_ with
     | nil => intro bs r cs _ q; simp [yw] at q; simp [q]
     | cons a as_ ih =>
      intro bs r cs he q
      cases bs with
      | nil => unfold vY at he; split at he <;> simp_all
      | cons b bs =>
       unfold vY at he
       split at he
       ·simp_all
       ·rename_i k x xs k' y ys e1 e2
        simp [List.cons.injEq] at e1 e2
        obtain ⟨rfl, rfl⟩ := e1
        obtain ⟨rfl, rfl⟩ := e2
        simp [yw] at q
        obtain ⟨d1, d2, rfl, p1, p2⟩ := q
        simp [Rep] at p1
        obtain ⟨rfl, _⟩ := p1
        split at he
        ·cases he' : vY as_ bs with
         | none => simp [he'] at he
         | some r' => simp [ih he' p2]
        ·cases he
       ·cases he
    have len' : ∀ {as_ bs : List A} {r : Bool} {cs ds : List Value}, vY as_ bs = some r → yw S as_ cs → yw S bs ds → bs.length = as_.length ∧ ds.length = bs.length := by
     intro as_
     induction as_ with
     | nil => intro bs r cs ds he q q'; cases bs with | nil => simp [yw] at q'; simp [q'] | cons b bs => simp [vY] at he
     | cons a as_ ih =>
      intro bs r cs ds he q q'
      cases bs with
      | nil => unfold vY at he; split at he <;> simp_all
      | cons b bs =>
       unfold vY at he
       split at he
       ·simp_all
       ·rename_i k x xs k' y ys e1 e2
        simp [List.cons.injEq] at e1 e2
        obtain ⟨rfl, rfl⟩ := e1
        obtain ⟨rfl, rfl⟩ := e2
        simp [yw] at q q'
        obtain ⟨d1, d2, rfl, p1, p2⟩ := q
        obtain ⟨d3, d4, rfl, p3, p4⟩ := q'
        simp [Rep] at p3
        obtain ⟨rfl, _⟩ := p3
        split at he
        ·cases he' : vY as_ bs with
         | none => simp [he'] at he
         | some r' => have := ih he' p2 p4; simp [this]
        ·cases he
       ·cases he
    split at hr
    ·obtain ⟨b, he, rfl⟩ := Option.map_eq_some_iff.1 hr
     ·refine fin _ (zw.2 ⟨rfl, rfl⟩) ?_
      rw [ex, ey]
      have := heq.run cs ds b w (by rw [len he rx, c2]) (by rw [(len' he rx ry).2, c3]) (YM he rx ry)
      exact (JX heq.guard this x y).1
    ·obtain ⟨b, he, rfl⟩ := Option.map_eq_some_iff.1 hr
     ·refine fin _ (zw.2 ⟨rfl, rfl⟩) ?_
      rw [ex, ey]
      have := heq.run cs ds b w (by rw [len he rx, c2]) (by rw [(len' he rx ry).2, c3]) (YM he rx ry)
      exact (JX heq.guard this x y).2
    ·cases hr
   ·cases hr
  ·cases hr
 ·cases hr
theorem z8o (hT : wG P tt) (h : Sim C S Fp [] st a w)   {xt yt : Nat} {x y : Operand} (ho : o.op = .binOp op xt x y yt) {u : Unit} {R : List Nat} {U : List (Nat × Ent)}
  (e : z6u tt C.n o.dst op xt x y st = some (u, R, U)) : qE P C o a w (zl U st) := by
 unfold z6u at e
 obtain ⟨tx, R1, U1, R2, U2, h1, e1, rfl, rfl⟩ := bind_some e
 obtain ⟨rfl, hx⟩ := zD h h1
 obtain ⟨vx, R3, U3, R4, U4, h3, e2, rfl, rfl⟩ := bind_some e1
 obtain ⟨rfl, qx⟩ := vO h hx h3
 obtain ⟨ty, R5, U5, R6, U6, h5, e3, rfl, rfl⟩ := bind_some e2
 obtain ⟨rfl, hy⟩ := zD h h5
 obtain ⟨vy, R7, U7, R8, U8, h7, e4, rfl, rfl⟩ := bind_some e3
 obtain ⟨rfl, qy⟩ := vO h hy h7
 obtain ⟨r, R9, U9, R10, U10, h9, e5, rfl, rfl⟩ := bind_some e4
 obtain ⟨hr, rfl, rfl⟩ := W1 h9
 simp only [zl, List.nil_append] at e5 ⊢
 have fin : ∀ v, we S r v → (do eqGuard op xt x y (a.eval x) (a.eval y); Go.binOp op xt (a.eval x) (a.eval y)).run P w = .ok v w → qE P C o a w (zl U10 st) := by
  intro v hv hrun
  have ⟨Fp', hs⟩ := wJ h e5 (x := .d r) hv
  refine zr (v := v) ?_ hs
  simp only [execOp, ho, Sem.run_bind, Sem.run_pure] at hrun ⊢
  rw [hrun]
  rfl
 have ⟨v, hv, hrun⟩ := z6v (x := x) (y := y) hT qx qy hr w
 exact fin v hv hrun
end
theorem Zc : ∀ (p q : List ZI) (x : A), wF (p ++ q) x = (wF p x).bind (wF q)
 | [], q, x => by simp [wF]
 | s :: p, q, x => by
  cases s <;> cases x <;> simp [List.cons_append, wF, Option.bind_none]
  ·exact Zc p q _
  ·split <;> simp [Zc p q]
  ·split <;> simp [Zc p q]
theorem Yj (h : Array Obj) : ∀ (p q : List ZI) (x : A) (b o : Nat) {b' o' : Nat} {y : A}, Qo h p x b o = some (b', o') → wF p x = some y → Qo h (p ++ q) x b o = Qo h q y b' o'
 | [], q, x, b, o, b', o', y, h1, h2 => by
  simp [Qo, Option.some.injEq, Prod.mk.injEq] at h1
  simp [wF, Option.some.injEq] at h2
  obtain ⟨rfl, rfl⟩ := h1
  subst h2
  rfl
 | s :: p, q, x, b, o, b', o', y, h1, h2 => by
  cases s <;> cases x <;> simp [List.cons_append, Qo, wF] at h1 h2 ⊢ <;> first | (cases h2; done) | skip
  ·split at h1
   ·exact Yj h p q _ _ _ h1 h2
   ·cases h1
  ·split at h1
   ·rename_i hf
    simp [hf] at h2 ⊢
    exact Yj h p q _ _ _ h1 h2
   ·cases h1
  ·rename_i i sz tg es
   cases hf : es[i]? with
   | none => simp [hf] at h2
   | some z =>
    simp [hf] at h1 h2 ⊢
    cases hc : yj h b o with
    | none => simp [hc] at h1
    | some u =>
     simp [hc] at h1 ⊢
     cases u <;> first | (simp at h1; done) | skip
     rename_i a _ _
     cases a with
     | none => simp at h1
     | some a => exact Yj h p q _ _ _ h1 h2
theorem X4 (h : Array Obj) (p q : List ZI) (x : A) (v : Value) {b' o' : Nat}  (h1 : wu h p x v = some (b', o')) (h2 : wF p x = some y) : wu h (p ++ q) x v = Qo h q y b' o' := by
 cases p with
 | nil => cases x <;> simp [wu] at h1
 | cons s p =>
  cases s <;> cases x <;> cases v <;> first | (simp [wu] at h1; done) | skip
  ·rename_i a
   cases a with
   | none => simp [wu] at h1
   | some a =>
    simp [List.cons_append, wu, wF] at h1 h2 ⊢
    exact Yj h p q _ _ _ h1 h2
  ·rename_i a _ _
   cases a with
   | none => simp [wu] at h1
   | some a =>
    simp [List.cons_append, wu, wF] at h1 h2 ⊢
    split at h1
    ·rename_i hf
     simp [hf] at h2 ⊢
     exact Yj h p q _ _ _ h1 h2
    ·cases h1
theorem VK {p q : List ZI} (h : Vn p = true) : Vn (p ++ q) = true := by
 cases p with
 | nil => simp [Vn] at h
 | cons s p => cases s <;> simp_all [Vn]
theorem Wd (w : World) (b o : Nat) : w.cell? ⟨b, o, none⟩ = yj w.heap b o := by
 simp [World.cell?, yj]
 split <;> simp_all
theorem WM {k : TK} (h : KP P t k) (w : World) : (Go.isAgg t).run P w = .ok k.isAgg w := by
 cases k with
 | struct fs => have ⟨f, h, _⟩ := h; simp [Go.isAgg, run_underlying h, TK.isAgg]
 | other =>
  have ⟨d, h, hd⟩ := h
  cases d <;> first | (simp at hd; done) | simp [Go.isAgg, run_underlying h, TK.isAgg]
 | _ => simp [KP] at h; simp [Go.isAgg, run_underlying h, TK.isAgg]
theorem vV (hT : wG P tt)  {i : TI} (h : tt t = some i) (w : World) : (Go.sizeOf t).run P w = .ok i.size w := by
 have ⟨f, h1, h2, _⟩ := (hT t i h).info
 simp [Go.sizeOf, typeInfo, h1, h2]
theorem Zb {P : Program}  (hT : wG P tt)   (hf : Zn tt t y = true)  {b o : Nat}  (hl : cs.length = y.size) (hs : z8z w.heap b o cs) :
  (loadVar t ⟨b, o, none⟩).run P w = .ok (yc y cs) w := by
 unfold Zn at hf
 split at hf
 ·rename_i i hi
  simp only [Bool.and_eq_true, beq_iff_eq, Bool.or_eq_true] at hf
  have ⟨⟨h1, h2⟩, h3⟩ := hf
  have hk := WM (hT t i hi).kind w
  unfold loadVar
  simp only [Sem.run_bind, hk, Result.andThen_ok, Sem.run_ite]
  by_cases ha : i.kind.isAgg = true
  ·rw [if_pos ha]
   have hc := run_loadCells_list (P := P) w ⟨b, o, none⟩ cs (fun j v hj => by rw [Addr.add_lit, Wd]; exact hs j v hj)
   rw [h1] at ha
   cases y <;> simp [A.isAgg] at ha
   simp only [vV hT hi, Result.andThen_ok, h2, ← hl, hc, Sem.run_pure, yc]
  ·rw [if_neg ha]
   have h4 : i.size = 1 := by simpa [ha] using h3
   have hlen : cs.length = 1 := by omega
   obtain ⟨c, rfl⟩ := List.length_eq_one_iff.1 hlen
   have := hs 0 c rfl
   simp only [Nat.add_zero] at this
   rw [run_load, Wd, this]
   rw [h1] at ha
   cases y <;> simp_all [A.isAgg, yc]
 ·cases hf
variable {es : List A}
section
variable {C : Ctx} {S : zn} {Fp : Nat → List Nat} {X : List Nat} {st : St} {a : Act} {w : World}
def z9c (n : Fr) (dst : Option Nat) (op : UnOp) (x : Operand) : SM Unit := do
 let t ← opnd x
 let y ← val t
 let r ← ofO (unA op y)
 wrT n dst (.d r)
theorem z9b (h : Sim C S Fp [] st a w)  {op : UnOp}  {x : Operand} (ho : o.op = .unOp op xt x)    (e : z9c C.n o.dst op x st = some (u, R, U)) : qE P C o a w (zl U st) := by
 unfold z9c at e
 have ⟨t, _, hx, e1⟩ := bR (zD h) e
 have ⟨y, _, qx, e2⟩ := bR (vO h hx) e1
 have ⟨r, _, hr, e5⟩ := bO e2
 unfold unA at hr
 split at hr
 ·have ⟨ex, _⟩ := zw.1 qx
  split at hr
  ·cases hr
   have ⟨Fp', hs⟩ := wJ h e5 (x := .d _) (zw.2 ⟨rfl, rfl⟩)
   exact zr (by simp [execOp, ho, ex, Op.unary]) hs
  ·cases hr
 ·have ⟨ex, _⟩ := zw.1 qx
  split at hr
  ·cases hr
   have ⟨Fp', hs⟩ := wJ h e5 (x := .d _) (zw.2 ⟨rfl, rfl⟩)
   exact zr (by simp [execOp, ho, ex, Op.unary, Op.intArith]) hs
  ·cases hr
 ·cases hr
def z87 (tt : TT) (n : Fr) (dst : Option Nat) (s t : Nat) (x : Operand) : SM Unit := do
 let y ← opnd x
 let v ← val y
 match v with
 | .atom (.int _ m) =>
  match tt s with
  | some _ =>
   match tt t with
   | some ⟨.int k, _, _, _, _⟩ => wrT n dst (.d (.atom (.int k (k.wrap m))))
   | _ => zt
  | none => zt
 | _ => zt
theorem z5V {k : TK} (h : KP P t k) : ∃ d, P.underlying t = some d := by
 cases k <;> simp [KP] at h <;> first | exact ⟨_, h⟩ | (have ⟨_, h, _⟩ := h; exact ⟨_, h⟩)
theorem zar (hT : wG P tt) (h : Sim C S Fp [] st a w)  {s t : Nat} {x : Operand} (ho : o.op = .convert s t x)    (e : z87 tt C.n o.dst s t x st = some (u, R, U)) : qE P C o a w (zl U st) := by
 unfold z87 at e
 have ⟨y, _, hx, e1⟩ := bR (zD h) e
 have ⟨v, _, qx, e2⟩ := bR (vO h hx) e1
 split at e2
 ·have ⟨ex, _⟩ := zw.1 qx
  cases hs : tt s with
  | none => simp [hs] at e2; cases e2
  | some i =>
   simp [hs] at e2
   have ⟨d, hd⟩ := z5V (hT _ _ hs).kind
   cases ht : tt t with
   | none => simp [ht] at e2; cases e2
   | some j =>
    have ⟨kd, sz, by', z, eq⟩ := j
    cases kd with
    | int k =>
     simp [ht] at e2
     have hk : P.underlying t = some (.int k) := (hT _ _ ht).kind
     have ⟨Fp', hs⟩ := wJ h e2 (x := .d _) (zw.2 ⟨rfl, rfl⟩)
     exact zr (by simp [execOp, ho, ex, convert, run_underlying hd, run_underlying hk, Conv.intToInt]) hs
    | _ => simp [ht] at e2; cases e2
 ·cases e2
def z5z (n : Fr) (dst : Option Nat) (c x y : Operand) : SM Unit := do
 let tc ← opnd c
 let vc ← val tc
 match vc with
 | .atom (.bool true) => do
  let t ← opnd x
  wrT n dst t
 | .atom (.bool false) => do
  let t ← opnd y
  wrT n dst t
 | _ => zt
theorem za8 (h : Sim C S Fp [] st a w)  {c x y : Operand} (ho : o.op = .pick c x y)    (e : z5z C.n o.dst c x y st = some (u, R, U)) : qE P C o a w (zl U st) := by
 unfold z5z at e
 have ⟨tc, _, hx, e1⟩ := bR (zD h) e
 have ⟨vc, _, qx, e2⟩ := bR (vO h hx) e1
 split at e2
 ·have ⟨ex, _⟩ := zw.1 qx
  have ⟨t, _, hx, e6⟩ := bR (zD h) e2
  have ⟨Fp', hs⟩ := wJ h e6 hx
  exact zr (by simp [execOp, ho, ex, asBool]) hs
 ·have ⟨ex, _⟩ := zw.1 qx
  have ⟨t, _, hx, e6⟩ := bR (zD h) e2
  have ⟨Fp', hs⟩ := wJ h e6 hx
  exact zr (by simp [execOp, ho, ex, asBool]) hs
 ·cases e2
def JD (n : Fr) (dst : Option Nat) (x : Operand) (i : Nat) : SM Unit := do
 let t ← opnd x
 match t with
 | .d (.tup fs) => match fs[i]? with | some y => wrT n dst (.d y) | none => zt
 | _ => zt
theorem ZW.get {R : α → β → Prop} : ∀ {as_ : List α} {bs : List β} {i : Nat} {x : α}, ZW R as_ bs → as_[i]? = some x → ∃ y, bs[i]? = some y ∧ R x y
 | [], _, i, x, _, e => by simp at e
 | a :: as_, [], i, x, r, _ => r.elim
 | a :: as_, b :: bs, 0, x, r, e => by simp at e; subst e; exact ⟨b, rfl, r.1⟩
 | a :: as_, b :: bs, i + 1, x, r, e => by simp at e; have ⟨y, h1, h2⟩ := r.2.get e; exact ⟨y, by simpa using h1, h2⟩
theorem z4E (h : Sim C S Fp [] st a w)  {x : Operand} {i : Nat} (ho : o.op = .extract x i)    (e : JD C.n o.dst x i st = some (u, R, U)) : qE P C o a w (zl U st) := by
 unfold JD at e
 have ⟨t, _, hx, e1⟩ := bR (zD h) e
 split at e1
 ·rename_i fs
  cases hy : fs[i]? with
  | none => simp [hy] at e1; cases e1
  | some y =>
   simp [hy] at e1
   simp [TOk, we] at hx
   have ⟨vs, ev, r⟩ := hx
   have ⟨v, hv, rv⟩ := r.get hy
   have ⟨Fp', hs⟩ := wJ h e1 (x := .d y) rv.repV
   exact zr (v := v) (by simp [execOp, ho, ev, Instr.extract, hv]) hs
 ·cases e1
theorem z6E (h : Sim C S Fp X st a w)     (ha : Xt w.heap st (Act.tv a) r p er ec v) {x y : A} (hr : (st r).t = .own x) (e1 : (st r).er = er) (e2 : p = [] ∨ (st r).ec = ec) (hg : wF p x = some (.box y)) :
  ZV w.heap st (Act.tv a) r (p ++ [.deref]) (st r).er (st r).ec v := by
 refine ⟨Nat.le_refl _, Nat.le_refl _, ?_⟩
 simp only [hr]
 intro _ _
 have hq := h.ent r
 unfold xV at hq
 simp only [hr] at hq
 have ⟨cs, c1, c2, c3⟩ := hq
 have a3 := ha.2.2
 simp only [hr] at a3
 rcases a3 e1 e2 with ⟨rfl, rfl⟩ | ⟨o1, y', b, o, cs', g1, g2, g3, g4, g5⟩
 ·simp only [wF, Option.some.injEq] at hg
  subst hg
  simp only [zH] at c1
  obtain ⟨b, ty, l, F', rfl, k1, k2, k3, k4⟩ := c1
  refine ⟨rfl, y, b, 0, rfl, ?_, by rw [c3]; rfl⟩
  rw [c3]
  rfl
 ·rw [hg] at g1
  cases g1
  have ⟨b', o', arr, ty, csy, Fy, f1, f2, f3, f4, f5, f6, f7, f8, _⟩ := Yk p c1 c2 (by rintro rfl; simp [Vn] at o1) (by rintro i q rfl; simp [Vn] at o1) hg
  rw [c3, f1] at g2
  cases g2
  have hcs := Xw f4 f2 f3 g3 g4
  subst hcs
  simp only [zH] at f4
  obtain ⟨b1, ty1, l, F', rfl, k1, k2, k3, k4⟩ := f4
  refine ⟨VK o1, y, b1, 0, by simp [Zc, hg, wF], ?_, g5⟩
  have hc := g4 0 _ rfl
  simp only [Nat.add_zero] at hc
  rw [c3, X4 w.heap p _ x _ f1 hg]
  simp only [Qo, hc]
theorem z3u (h : Sim C S Fp X st a w)     (ha : Xt w.heap st (Act.tv a) r p er ec v) {x : A}  {t : Bool}  (hr : (st r).t = .own x) (e1 : (st r).er = er) (e2 : p = [] ∨ (st r).ec = ec) (hg : wF p x = some (.osl sz t es)) {i : Nat} (hi : i < es.length) :
  ∃ b c, v = .slice (some ⟨b, 0, none⟩) es.length c ∧ ZV w.heap st (Act.tv a) r (p ++ [.idx i]) (st r).er (st r).ec (.pointer (some ⟨b, i * sz, none⟩)) := by
 have hq := h.ent r
 unfold xV at hq
 simp only [hr] at hq
 have ⟨cs, c1, c2, c3⟩ := hq
 have a3 := ha.2.2
 simp only [hr] at a3
 have hei : es[i]? = some es[i] := List.getElem?_eq_getElem hi
 rcases a3 e1 e2 with ⟨rfl, rfl⟩ | ⟨o1, y', b, o, cs', g1, g2, g3, g4, g5⟩
 ·simp only [wF, Option.some.injEq] at hg
  subst hg
  simp only [zH] at c1
  obtain ⟨pp, c, rfl, t1, t2, t3, t4, t5⟩ := c1
  rcases t5 with ⟨rfl, _⟩ | ⟨b1, arr1, ty1, l, F', rfl, k1, k2, k3, k4, _, k6⟩
  ·simp at hi
  refine ⟨b1, c, by rw [c3]; rfl, Nat.le_refl _, Nat.le_refl _, ?_⟩
  simp only [hr]
  intro _ _
  refine ⟨rfl, es[i], b1, i * sz, by simp [wF, hei], ?_, rfl⟩
  rw [c3]
  simp [yc, wu, hei, Qo]
 ·rw [hg] at g1
  cases g1
  have ⟨b', o', arr, ty, csy, Fy, f1, f2, f3, f4, f5, f6, f7, f8, _⟩ := Yk p c1 c2 (by rintro rfl; simp [Vn] at o1) (by rintro i q rfl; simp [Vn] at o1) hg
  rw [c3, f1] at g2
  cases g2
  have hcs := Xw f4 f2 f3 g3 g4
  subst hcs
  simp only [zH] at f4
  obtain ⟨pp, c, rfl, t1, t2, t3, t4, t5⟩ := f4
  rcases t5 with ⟨rfl, _⟩ | ⟨b1, arr1, ty1, l, F', rfl, k1, k2, k3, k4, _, k6⟩
  ·simp at hi
  refine ⟨b1, c, g5, Nat.le_refl _, Nat.le_refl _, ?_⟩
  simp only [hr]
  intro _ _
  refine ⟨VK o1, es[i], b1, i * sz, by simp [Zc, hg, wF, hei], ?_, rfl⟩
  have hc := g4 0 _ rfl
  simp only [Nat.add_zero] at hc
  rw [c3, X4 w.heap p _ x _ f1 hg]
  simp only [Qo, hc, hei]
theorem z5w (hp : ZV w.heap st (Act.tv a) r p er ec v) {x : A}  (hr : (st r).t = .own x) (e1 : (st r).er = er) (e2 : (st r).ec = ec) (hg : wF p x = some (.agg fs)) {i : Nat} (hi : i < fs.length) :
  ∃ b o, v = .pointer (some ⟨b, o, none⟩) ∧ ZV w.heap st (Act.tv a) r (p ++ [.fld i]) (st r).er (st r).ec (.pointer (some ⟨b, o + A.sizes (fs.take i), none⟩)) := by
 have a3 := hp.2.2
 simp only [hr] at a3
 have ⟨o1, y', b, o, g1, g2, g3⟩ := a3 e1 e2
 rw [hg] at g1
 cases g1
 have hei : fs[i]? = some fs[i] := List.getElem?_eq_getElem hi
 refine ⟨b, o, g3, Nat.le_refl _, Nat.le_refl _, ?_⟩
 simp only [hr]
 intro _ _
 refine ⟨VK o1, fs[i], b, o + A.sizes (fs.take i), by simp [Zc, hg, wF, hei], ?_, rfl⟩
 rw [X4 w.heap p _ x _ g2 hg]
 simp only [Qo, hei]
theorem Vb (h : Sim C S Fp X st a w) {x : T}  (hx : TOk S w.heap st (Act.tv a) x v) {q : A ⊕ (Nat × List ZI × Nat × Nat)}   (e : ptrOf x st = some (q, R, U)) :
  U = [] ∧ match q with
   | .inl y => ∃ b o l, v = .pointer (some ⟨b, o, none⟩) ∧ Rep S y l ∧ z2Q S b o l
   | .inr (r, p, er, ec) => ZV w.heap st (Act.tv a) r p er ec v := by
 unfold ptrOf at e
 split at e
 ·cases e
  refine ⟨rfl, ?_⟩
  simp only [TOk, we] at hx
  have ⟨cs, h1, h2⟩ := hx
  simp only [Rep] at h1
  obtain ⟨b, o, l, rfl, h3, h4⟩ := h1
  exact ⟨b, o, l, h2, h3, h4⟩
 ·cases e
  exact ⟨rfl, hx⟩
 ·rename_i r p er ec
  have ⟨_, e1⟩ := bD e
  have ⟨y, _, q, e2⟩ := bR (VM h hx) e1
  split at e2
  ·rename_i z
   cases e2
   refine ⟨rfl, ?_⟩
   rcases q with ⟨x, cs, F, q1, q2, q3, q4, q5, q6, _⟩ | ⟨q1, q2, q3, q4, q5⟩
   ·exact z6E h hx q1 q2 q3 q4
   ·simp only [we] at q5
    have ⟨cs, q5, _⟩ := q5
    simp [Rep] at q5
  ·rename_i z
   cases e2
   refine ⟨rfl, ?_⟩
   have hv : ∃ cs, Rep S (.sptr z) cs ∧ v = yc (.sptr z) cs := by
    rcases q with ⟨x, cs, F, q1, q2, q3, q4, q5, q6, _⟩ | ⟨q1, q2, q3, q4, q5⟩
    ·exact ⟨cs, (q5.isD rfl).1, q6⟩
    ·exact q5
   have ⟨cs, h1, h2⟩ := hv
   simp only [Rep] at h1
   obtain ⟨b, o, l, rfl, h3, h4⟩ := h1
   exact ⟨b, o, l, h2, h3, h4⟩
  ·cases e2
 ·cases e
theorem K5 (h : Sim C S Fp X st a w)     (hp : ZV w.heap st (Act.tv a) r p er ec v) {x : A} (hr : (st r).t = .own x) (e1 : (st r).er = er) (e2 : (st r).ec = ec)  (hg : wF p x = some y) :
  ∃ b o arr ty csy Fy cs, v = .pointer (some ⟨b, o, none⟩) ∧ Vn p = true ∧ w.heap[b]? = some (.cells arr ty (0, 0)) ∧ KT arr o csy ∧ zH S w.heap y csy Fy ∧ b ∉ Fy ∧ b ∈ Fp r ∧ (∀ k ∈ Fy, k ∈ Fp r) ∧ Fy.Nodup ∧ zH S w.heap x cs (Fp r) ∧ Act.tv a r = yc x cs ∧
   wu w.heap p x (Act.tv a r) = some (b, o) ∧
   ∀ (S' : zn) (h' : Array Obj) (z : A) (csz : List Value) (Fz : List Nat), (∀ b o v, S b o = some v → S' b o = some v) → csz.length = csy.length → zH S' h' z csz Fz → Fz.Nodup →
    (∀ k ∈ Fp r, k ∉ Fy → ∀ o, S' k o = none) → (∀ k, k ∈ Fp r → k ∉ Fy → k ≠ b → h'[k]? = w.heap[k]?) → h'[b]? = some (.cells (WP arr o csz) ty (0, 0)) →
    (∀ k ∈ Fz, k ∈ Fp r → k ∈ Fy) →
    ∃ F0', zH S' h' (Ww p x z) cs F0' ∧ F0'.Nodup ∧ (∀ k, k ∈ F0' ↔ (k ∈ Fp r ∧ k ∉ Fy) ∨ k ∈ Fz) := by
 have a3 := hp.2.2
 simp only [hr] at a3
 have ⟨o1, y', b, o, g1, g2, g3⟩ := a3 e1 e2
 have hq := h.ent r
 unfold xV at hq
 simp only [hr] at hq
 have ⟨cs, c1, c2, c3⟩ := hq
 have ⟨b', o', arr, ty, csy, Fy, f1, f2, f3, f4, f5, f6, f7, f8, f9⟩ := Yk p c1 c2 (by rintro rfl; simp [Vn] at o1) (by rintro i q rfl; simp [Vn] at o1) hg
 have g2' := g2
 rw [c3, f1] at g2
 simp only [Option.some.injEq, Prod.mk.injEq] at g2
 obtain ⟨rfl, rfl⟩ := g2
 exact ⟨b', o', arr, ty, csy, Fy, cs, g3, o1, f2, f3, f4, f5, f6, f7, f8, c1, c3, g2', f9⟩
theorem z0S {b o : Nat}    (hb : h[b]? = some (.cells arr ty (0, 0))) (hs : KT arr o cs) : z8z h b o cs := by
 intro j u hj
 simp [yj, hb]
 exact hs j u hj
theorem Ve (e : lookP r p er ec st = some (y, R, U)) :
  U = [] ∧ ∃ x, (st r).t = .own x ∧ (st r).er = er ∧ (st r).ec = ec ∧ wF p x = some y := by
 simp [lookP] at e
 obtain ⟨en, R1, U1, R2, U2, h1, h2, rfl, rfl⟩ := bind_some e
 obtain ⟨rfl, rfl, rfl⟩ := qJ h1
 simp [zl] at h2
 cases ht : (st r).t with
 | own x =>
  simp [ht] at h2
  split at h2
  ·rename_i hc
   obtain ⟨g, rfl, rfl⟩ := W1 h2
   exact ⟨rfl, x, rfl, hc.1, hc.2, g⟩
  ·cases h2
 | _ => simp [ht] at h2; cases h2
def zae (tt : TT) (n : Fr) (dst : Option Nat) (t : Nat) (x : Operand) : SM Unit := do
 let y ← opnd x
 loadA tt n dst t y
theorem zad (hT : wG P tt) (h : Sim C S Fp [] st a w) {o : Oper}  {x : Operand} (ho : o.op = .load t x)    (e : zae tt C.n o.dst t x st = some (u, R, U)) : qE P C o a w (zl U st) := by
 unfold zae loadA at e
 obtain ⟨y, R1, U1, R2, U2, h1, e1, rfl, rfl⟩ := bind_some e
 obtain ⟨rfl, hx⟩ := zD h h1
 obtain ⟨q, R3, U3, R4, U4, h3, e2, rfl, rfl⟩ := bind_some e1
 obtain ⟨rfl, hq⟩ := Vb h hx h3
 simp only [zl, List.nil_append] at e2 ⊢
 have fin : ∀ (b' o' : Nat) (z : A) (v : Value), a.eval x = .pointer (some ⟨b', o', none⟩) → (loadVar t ⟨b', o', none⟩).run P w = .ok v w → (execOp a.eval o).run P w = .ok (.value v) w := by
  intro b' o' z v ev hrun
  simp [execOp, ho, ev, Instr.loadAt, Instr.sureAddr, hrun]
 split at e2
 ·rename_i z
  split at e2
  ·rename_i hf
   have ⟨b, o', l, ev, r1, r2⟩ := hq
   have hld := Zb hT hf.1 (w := w) (b := b) (o := o') r1.len (fun j u hj => h.still _ _ _ (r2 j u hj))
   have ⟨Fp', hs⟩ := wJ h e2 (x := .d z) (v := yc z l) (u6.repV ⟨l, r1, rfl⟩)
   exact zr (fin b o' z _ ev hld) hs
  ·cases e2
 ·rename_i r p er ec
  obtain ⟨z, R7, U7, R8, U8, h7, e4, rfl, rfl⟩ := bind_some e2
  obtain ⟨rfl, x0, k1, k2, k3, k4⟩ := Ve h7
  simp only [zl, List.nil_append] at e4 ⊢
  split at e4
  ·rename_i hf
   have ⟨b, o', arr, ty, csy, Fy, cs, ev, o1, f2, f3, f4, f5, f6, f7, f8, f9, f10, f11, _⟩ := K5 h hq k1 k2 k3 k4
   have hld := Zb hT hf (w := w) (b := b) (o := o') f4.len (z0S f2 f3)
   split at e4
   ·rename_i hd
    have ⟨Fp', hs⟩ := wJ h e4 (x := .d z) (v := yc z csy) (u6.repV ⟨csy, (f4.isD hd).1, rfl⟩)
    exact zr (fin b o' z _ ev hld) hs
   ·have ⟨Fp', hs⟩ := wJ h e4 (x := .als r p er ec) (v := yc z csy) ⟨by omega, by omega, by
     simp only [k1]
     exact fun _ _ => .inr ⟨o1, z, b, o', csy, k4, f11, f4.len, z0S f2 f3, rfl⟩⟩
    exact zr (fin b o' z _ ev hld) hs
  ·cases e4
end
theorem Ym (h1 : ∀ u ∈ cs, z8S u = true) (h2 : y.isAgg = true ∨ cs.length = 1) : (yc y cs).cells = cs.toArray := by
 cases y <;> simp only [yc, A.isAgg] at h2 ⊢ <;> first | rfl | skip
 all_goals
  obtain ⟨c, rfl⟩ := List.length_eq_one_iff.1 (h2.resolve_left (by simp))
  have := h1 c (by simp)
  cases c <;> first | rfl | (simp [z8S] at this)
theorem Has.cells (q : Has S h y v F) (hy : ∀ fs, y ≠ .tup fs) : ∃ cs, zH S h y cs F ∧ F.Nodup ∧ v = yc y cs := by
 rcases q with ⟨q, rfl⟩ | q
 ·have ⟨cs, h1, h2⟩ := q.conc h hy
  exact ⟨cs, h1, by simp, h2⟩
 ·exact q
theorem jD {o : Nat}  (h : o + cs.length ≤ arr.size) : (arr.toList.take o ++ cs ++ arr.toList.drop (o + cs.length)).toArray = WP arr o cs := by
 apply Array.ext_getElem?
 intro k
 rw [jE, List.getElem?_toArray]
 by_cases h1 : k < o
 ·rw [List.append_assoc, List.getElem?_append_left (by simp; omega), List.getElem?_take, if_pos h1, if_neg (by omega)]
  rw [Array.getElem?_toList]
  cases arr[k]? <;> rfl
 ·by_cases h2 : k < o + cs.length
  ·rw [List.append_assoc, List.getElem?_append_right (by simp; omega), if_pos (by omega)]
   have : (arr.toList.take o).length = o := by simp; omega
   rw [this, List.getElem?_append_left (by omega), List.getElem?_eq_getElem (by omega), Array.getElem?_eq_getElem (by omega)]
   simp
  ·rw [List.getElem?_append_right (by simp; omega), if_pos (by omega)]
   have : (arr.toList.take o ++ cs).length = o + cs.length := by simp; omega
   rw [this, List.getElem?_drop, List.getElem?_eq_none (l := cs) (by omega), show o + cs.length + (k - (o + cs.length)) = k from by omega, Array.getElem?_toList]
   cases arr[k]? <;> simp
variable {j : Int}
section
variable {C : Ctx} {S : zn} {Fp : Nat → List Nat} {X : List Nat} {st : St} {a : Act} {w : World}
theorem hao (w : World) (o : Obj) (k : Nat) (h : k < w.heap.size) : (w.alloc o).heap[k]? = w.heap[k]? := Go.RowKit.Below.heap_alloc w o k h
theorem Sim.still_lt (h : Sim C S Fp X st a w) {b o : Nat}  (hs : S b o = some v) : b < w.heap.size := by
 have := h.still b o v hs
 unfold yj at this
 split at this
 ·rename_i hb
  exact (Array.getElem?_eq_some_iff.1 hb).1
 ·cases this
theorem Sim.free_new (h : Sim C S Fp X st a w) {b : Nat} (hb : w.heap.size ≤ b) (o : Nat) : S b o = none := by
 cases hs : S b o with
 | none => rfl
 | some v => have := h.still_lt hs; omega
theorem Sim.base_le (h : Sim C S Fp X st a w) : C.w0.heap.size ≤ w.heap.size := h.below.size
theorem Sim.alloc (h : Sim C S Fp X st a w) (hX : ∀ k ∈ X, k < w.heap.size) (o : Obj) : Sim C S Fp (w.heap.size :: X) st a (w.alloc o) := by
 refine h.mem (h.below.alloc (h.mine _ h.base_le) o) (fun _ _ _ h => h) ?_ h.sbase (fun t k hk => ⟨hao w o k (h.free t k hk).1, (h.free t k hk).2.1⟩) ?_ ?_ ?_
 ·intro b o' v hs
  rw [wv (h := w.heap) (h' := (w.alloc o).heap) (hao w o b (h.still_lt hs))]
  exact h.still b o' v hs
 ·exact List.nodup_cons.2 ⟨fun hm => Nat.lt_irrefl _ (hX _ hm), h.xn⟩
 ·intro t k hk
  rcases List.mem_cons.1 hk with rfl | hk
  ·exact fun hk => Nat.lt_irrefl _ (h.free t _ hk).1
  ·exact h.xd t k hk
 ·intro k hk
  rcases List.mem_cons.1 hk with rfl | hk
  ·exact h.mine _ h.base_le
  ·exact h.xb k hk
theorem Sim.drew (h : Sim C S Fp X st a w) : Sim C S Fp X st a w.drew :=
 h.mem h.below.drew (fun _ _ _ h => h) h.still.cell h.sbase (fun t k hk => ⟨rfl, (h.free t k hk).2.1⟩) h.xn h.xd h.xb
theorem z3r (h : Sim C S Fp (F ++ []) st a w)   (hc : zH S w.heap y cs F) (hn : F.Nodup) (ty : TypeId) :
  Sim C S Fp ((w.heap.size :: F) ++ []) st a (w.alloc (.cells cs.toArray ty)) ∧ zH S (w.alloc (.cells cs.toArray ty)).heap (.box y) [.pointer (some ⟨w.heap.size, 0, none⟩)] (w.heap.size :: F) ∧ (w.heap.size :: F).Nodup := by
 have hlt : ∀ k ∈ F, k < w.heap.size := fun k hk => (hc.own k hk).1
 refine ⟨by simpa using h.alloc (by simpa using hlt) _, ?_, List.nodup_cons.2 ⟨fun hm => Nat.lt_irrefl _ (hlt _ hm), hn⟩⟩
 simp only [zH]
 refine ⟨w.heap.size, ty, cs, F, rfl, heap_alloc_new w _, hc.frame (fun _ _ _ h => h) (fun k hk => ⟨hao w _ k (hlt k hk), (hc.own k hk).2.1⟩), rfl, fun o => h.free_new (Nat.le_refl _) o⟩
def zcq (tt : TT) (n : Fr) (dst : Option Nat) (t : Nat) (x : Operand) : SM Unit := do
 let y ← opnd x
 let z ← takeC tt t y
 match z with
 | .tup _ => zt
 | z => if z.isAgg = true ∨ z.size = 1 then wrT n dst (.own (.box z)) else zt
theorem zc2 (h : Sim C S Fp [] st a w)    (ho : o.op = .box t x)    (e : zcq tt C.n o.dst t x st = some (u, R, U)) : qE P C o a w (zl U st) := by
 unfold zcq at e
 have ⟨y, _, hx, e1⟩ := bR (zD h) e
 obtain ⟨z, R3, U3, R4, U4, h3, e2, rfl, rfl⟩ := bind_some e1
 have ⟨Fp', F, g1, g2⟩ := XM h hx h3
 rw [zz]
 by_cases hz : ∃ fs, z = .tup fs
 ·obtain ⟨fs, rfl⟩ := hz
  cases e2
 ·have hz' : ∀ fs, z ≠ .tup fs := fun fs he => hz ⟨fs, he⟩
  have e3 : (if z.isAgg = true ∨ z.size = 1 then wrT C.n o.dst (.own (.box z)) else zt : SM Unit) (zl U3 st) = some (u, R4, U4) := by
   cases z <;> first | exact e2 | exact absurd rfl (hz' _)
  split at e3
  ·rename_i hs1
   have ⟨cs, c1, c2, c3⟩ := g2.cells hz'
   have ⟨k1, k2, k3⟩ := z3r g1 c1 c2 t
   have ⟨Fp'', hs⟩ := Xv k1 e3 k2 k3
   refine zr (v := .pointer (some ⟨w.heap.size, 0, none⟩)) ?_ hs
   have hcl := Ym (y := z) c1.na (hs1.imp id (fun h => by rw [c1.len]; exact h))
   simp [execOp, ho, Instr.box, newVar, newRow, c3, hcl]
  ·cases e3
def z6F (tt : TT) (n : Fr) (dst : Option Nat) (t : Nat) : SM Unit := do
 let i ← ofO (tt t)
 let z ← ofO i.zero
 wrT n dst (.own (.box z))
theorem z8w (hT : wG P tt) (h : Sim C S Fp [] st a w)   (ho : o.op = .alloc t)    (e : z6F tt C.n o.dst t st = some (u, R, U)) : qE P C o a w (zl U st) := by
 unfold z6F at e
 obtain ⟨i, _, hi, e1⟩ := bO e
 obtain ⟨z, _, hz, e2⟩ := bO e1
 obtain ⟨f, f1, f2, f3, f4⟩ := (hT t i hi).info
 obtain ⟨v, v1, v2, v3⟩ := f4 z hz
 obtain ⟨k1, k2, k3⟩ := z3r (F := []) (by simpa using h) (v3 S w.heap) (by simp) t
 obtain ⟨Fp'', hs⟩ := Xv k1 e2 k2 k3
 refine zr (v := .pointer (some ⟨w.heap.size, 0, none⟩)) ?_ hs
 simp [execOp, ho, Instr.alloc, newVar, newRow, zeroValue, typeInfo, f1, v1]
theorem JW (hT : wG P tt) {t i : Nat}  (hf : Qr tt t i fs = true) (b o : Nat) (w : World) :
  (Instr.fieldAt t (.pointer (some ⟨b, o, none⟩)) i).run P w = .ok (.pointer (some ⟨b, o + A.sizes (fs.take i), none⟩)) w := by
 unfold Qr at hf
 split at hf
 ·rename_i offs sz by' z eq ht
  split at hf
  ·rename_i off sz' ho
   simp [Bool.and_eq_true, beq_iff_eq, bne_iff_ne, ne_eq] at hf
   have ⟨fields, g1, g2, g3⟩ := (hT _ _ ht).kind
   rw [← g2, List.getElem?_map] at ho
   cases hfi : fields.toList[i]? with
   | none => simp [hfi] at ho
   | some f =>
    simp [hfi, Option.map_some, Option.some.injEq, Prod.mk.injEq] at ho
    obtain ⟨rfl, rfl⟩ := ho
    have ⟨inf, hinf⟩ := g3 f (List.mem_of_getElem? hfi)
    have hfi' : fields[i]? = some f := by simpa using hfi
    have hsz : inf.size ≠ 0 := by simpa [Program.cellsOf, hinf] using hf.2
    simp [Instr.fieldAt, run_underlying g1, hfi', Instr.sureAddr, fieldPlace, Go.sizeOf, typeInfo, hinf, hsz, Addr.add_lit, hf.1]
  ·cases hf
 ·cases hf
def Qs (tt : TT) (n : Fr) (dst : Option Nat) (t i : Nat) (x : Operand) : SM Unit := do
 let y ← opnd x
 fieldAddrA tt n dst t i y
theorem XX : ∀ {as_ : List A} {cs : List Value} {i : Nat} {x : A}, yw S as_ cs → as_[i]? = some x → ∃ c1 ci c2, cs = c1 ++ ci ++ c2 ∧ c1.length = A.sizes (as_.take i) ∧ Rep S x ci
 | [], _, _, _, _, e => by simp at e
 | a :: as_, cs, 0, x, r, e => by
  simp at e; subst e
  simp [yw] at r
  obtain ⟨c1, c2, rfl, r1, r2⟩ := r
  exact ⟨[], c1, c2, rfl, rfl, r1⟩
 | a :: as_, cs, i + 1, x, r, e => by
  simp at e
  simp [yw] at r
  obtain ⟨c1, c2, rfl, r1, r2⟩ := r
  obtain ⟨d1, di, d2, rfl, hl, hx⟩ := XX r2 e
  exact ⟨c1 ++ d1, di, d2, by simp, by simp [A.sizes, hl, r1.len], hx⟩
theorem z2Q.mid {b o : Nat}  (h : z2Q S b o (c1 ++ ci ++ c2)) : z2Q S b (o + c1.length) ci := by
 intro j v hj
 have hlt := (List.getElem?_eq_some_iff.1 hj).1
 have := h (c1.length + j) v (by rw [List.append_assoc, List.getElem?_append_right (by omega), Nat.add_sub_cancel_left, List.getElem?_append_left hlt]; exact hj)
 rwa [← Nat.add_assoc] at this
theorem K3 {b o : Nat}  (h1 : Rep S y l) (h2 : z2Q S b o l) : we S (.sptr y) (.pointer (some ⟨b, o, none⟩)) := by
 simp only [we]
 exact ⟨[.pointer (some ⟨b, o, none⟩)], by simp only [Rep]; exact ⟨b, o, l, rfl, h1, h2⟩, rfl⟩
theorem z2F (hT : wG P tt) (h : Sim C S Fp [] st a w)  {t i : Nat} {x : Operand} (ho : o.op = .fieldAddr t x i)    (e : Qs tt C.n o.dst t i x st = some (u, R, U)) : qE P C o a w (zl U st) := by
 unfold Qs fieldAddrA at e
 obtain ⟨y, R1, U1, R2, U2, h1, e1, rfl, rfl⟩ := bind_some e
 obtain ⟨rfl, hx⟩ := zD h h1
 obtain ⟨q, R3, U3, R4, U4, h3, e2, rfl, rfl⟩ := bind_some e1
 obtain ⟨rfl, hq⟩ := Vb h hx h3
 simp [zl, List.nil_append] at e2 ⊢
 cases q with
 | inl y =>
  cases y <;> try cases e2
  rename_i fs
  simp only at e2
  cases hy : fs[i]? with
  | none => simp [hy] at e2; cases e2
  | some y =>
   simp [hy] at e2
   split at e2
   ·rename_i hf
    have ⟨b, o', l, ev, r1, r2⟩ := hq
    simp [Rep] at r1
    obtain ⟨c1, ci, c2, rfl, hl, hr⟩ := XX r1 hy
    have ⟨Fp', hs⟩ := wJ h e2 (x := .d (.sptr y)) (K3 hr r2.mid)
    refine zr ?_ hs
    rw [hl]
    simp [execOp, ho, ev, JW hT hf]
   ·cases e2
 | inr q =>
  have ⟨r, p, er, ec⟩ := q
  obtain ⟨z, R7, U7, R8, U8, h7, e4, rfl, rfl⟩ := bind_some e2
  obtain ⟨rfl, x0, k1, k2, k3, k4⟩ := Ve h7
  simp [zl, List.nil_append] at e4 ⊢
  cases z <;> try cases e4
  rename_i fs
  simp only at e4
  split at e4
  ·rename_i hf
   have ⟨b, o', ev, hp⟩ := z5w hq k1 k2 k3 k4 hf.2
   rw [k2, k3] at hp
   have hp' : TOk S w.heap st (Act.tv a) (T.ptr r (p ++ [ZI.fld i]) er ec) (.pointer (some ⟨b, o' + A.sizes (fs.take i), none⟩)) := hp
   have ⟨Fp', hs⟩ := wJ h e4 hp'
   refine zr ?_ hs
   simp [execOp, ho, ev, JW hT hf.1]
  ·cases e4
theorem vq (hT : wG P tt) {t sz : Nat} (h : w9 tt t = some sz) (w : World) : ∃ e, P.underlying t = some (.slice e) ∧ (Go.sizeOf e).run P w = .ok sz w := by
 unfold w9 at h
 split at h
 ·rename_i e s b z q ht
  obtain ⟨i, hi, rfl⟩ := Option.map_eq_some_iff.1 h
  exact ⟨e, (hT _ _ ht).kind, vV hT hi w⟩
 ·cases h
theorem XV {t e sz : Nat}  (h1 : P.underlying t = some (.slice e)) (h2 : (Go.sizeOf e).run P w = .ok sz w) {b o n c : Nat} {k : IntKind}  (h0 : 0 ≤ j) (hj : j.toNat < n) :
  (Instr.indexAt t (.slice (some ⟨b, o, none⟩) n c) (.int k j)).run P w = .ok (.pointer (some ⟨b, o + j.toNat * sz, none⟩)) w := by
 have : j < (n : Int) := by omega
 simp [Instr.indexAt, asIntOf, run_underlying h1, h0, this, h2, Addr.add_lit]
def z8u (tt : TT) (t : Nat) : Option (Nat × Nat) :=
 match tt t with
 | some ⟨.array n e, _, _, _, _⟩ => (tt e).map fun i => (n, i.size)
 | _ => none
def Yy (tt : TT) (t : Nat) (fs : List A) (j : Int) : Bool :=
 match z8u tt t with
 | some (n, sz) => fs.length == n && decide (0 ≤ j) && fs.all fun x => x.size == sz
 | none => false
def indexArrA (tt : TT) (n : Fr) (dst : Option Nat) (t : Nat) (x : T) (i : A) : SM Unit :=
 match i with
 | .atom (.int _ j) => do
  let q ← ptrOf x
  match q with
  | .inl (.agg fs) =>
   match fs[j.toNat]? with
   | some y => if Yy tt t fs j = true then wrT n dst (.d (.sptr y)) else zt
   | none => zt
  | .inl _ => zt
  | .inr (r, p, er, ec) => do
   let y ← lookP r p er ec
   match y with
   | .agg fs => if Yy tt t fs j = true ∧ j.toNat < fs.length then wrT n dst (.ptr r (p ++ [.fld j.toNat]) er ec) else zt
   | _ => zt
 | _ => zt
theorem QS (hT : wG P tt)    (hf : Yy tt t fs j = true) (hj : j.toNat < fs.length) (k : IntKind) (b o : Nat) (w : World) :
  (Instr.indexAt t (.pointer (some ⟨b, o, none⟩)) (.int k j)).run P w = .ok (.pointer (some ⟨b, o + A.sizes (fs.take j.toNat), none⟩)) w := by
 unfold Yy at hf
 split at hf
 ·rename_i n sz ha
  unfold z8u at ha
  split at ha
  ·rename_i n' e s' b' z' q' ht
   have ⟨i, hi, he⟩ := Option.map_eq_some_iff.1 ha
   simp [Prod.mk.injEq] at he
   obtain ⟨rfl, rfl⟩ := he
   simp [Bool.and_eq_true, beq_iff_eq, decide_eq_true_eq, List.all_eq_true] at hf
   have ⟨⟨h1, h0⟩, h2⟩ := hf
   have hu := (hT _ _ ht).kind
   have hsz := vV hT hi w
   have hlt : j < (n' : Int) := by omega
   have hs : A.sizes (fs.take j.toNat) = j.toNat * i.size := by
    rw [A.sizes_const (sz := i.size) (fun x hx => h2 x (List.mem_of_mem_take hx)), List.length_take, Nat.min_eq_left (by omega)]
   rw [hs]
   simp [KP] at hu
   simp [Instr.indexAt, asIntOf, run_underlying hu, h0, hlt, hsz, Instr.sureAddr, Addr.add_lit]
  ·cases ha
 ·cases hf
def Qq (tt : TT) (n : Fr) (dst : Option Nat) (t : Nat) (x i : Operand) : SM Unit := do
 let y ← opnd x
 let ti ← opnd i
 let vi ← val ti
 if (z8u tt t).isSome = true then indexArrA tt n dst t y vi else indexAddrA tt n dst t y vi
theorem z0R (hT : wG P tt) {t sz : Nat} {tg : Bool} {xs : List A}  (hr : we S (.sl sz tg xs) v) (hs : w9 tt t = some sz) {k : IntKind}  (h0 : 0 ≤ j)  (hy : xs[j.toNat]? = some y) (w : World) :
  ∃ u, we S (.sptr y) u ∧ (Instr.indexAt t v (.int k j)).run P w = .ok u w := by
 simp only [we] at hr
 obtain ⟨cs, r1, rfl⟩ := hr
 simp only [Rep] at r1
 obtain ⟨p, c, rfl, _, _, h4, h5⟩ := r1
 rcases h5 with rfl | ⟨b, o, l, rfl, r2, r3⟩
 ·simp at hy
 have ⟨e, he, hsz⟩ := vq hT hs w
 obtain ⟨c1, ci, c2, rfl, hl, hx⟩ := XX r2 hy
 have hlt := (List.getElem?_eq_some_iff.1 hy).1
 have hc1 : c1.length = j.toNat * sz := by
  rw [hl, A.sizes_const (sz := sz) (fun x hx => h4 x (List.mem_of_mem_take hx)), List.length_take, Nat.min_eq_left (by omega)]
 refine ⟨_, K3 hx r3.mid, ?_⟩
 rw [hc1]
 exact XV he hsz h0 hlt
theorem Kn (hT : wG P tt) (h : Sim C S Fp [] st a w)   {x i : Operand} (ho : o.op = .indexAddr t x i) {y : T} (hx : TOk S w.heap st (Act.tv a) y (a.eval x)) {vi : A} (qi : we S vi (a.eval i))
    {u : Unit} {R : List Nat} {U : List (Nat × Ent)} (e : indexArrA tt C.n o.dst t y vi st = some (u, R, U)) : qE P C o a w (zl U st) := by
  unfold indexArrA at e
  cases vi with
  | atom vv =>
    cases vv with
    | int k j =>
      simp only at e
      have ⟨ei, _⟩ := zw.1 qi
      obtain ⟨q, R3, U3, R4, U4, h3, e2, rfl, rfl⟩ := bind_some e
      obtain ⟨rfl, hq⟩ := Vb h hx h3
      simp [zl, List.nil_append] at e2 ⊢
      cases q with
      | inl y =>
        cases y <;> try cases e2
        rename_i fs
        simp only at e2
        cases hy : fs[j.toNat]? with
        | none => simp [hy] at e2; cases e2
        | some y =>
          simp [hy] at e2
          split at e2
          · rename_i hf
            have ⟨b, o', l, ev, r1, r2⟩ := hq
            simp [Rep] at r1
            obtain ⟨c1, ci, c2, rfl, hl, hr⟩ := XX r1 hy
            have ⟨Fp', hs⟩ := wJ h e2 (x := .d (.sptr y)) (K3 hr r2.mid)
            refine zr ?_ hs
            rw [hl]
            simp [execOp, ho, ev, ei, QS hT hf (List.getElem?_eq_some_iff.1 hy).1]
          · cases e2
      | inr q =>
        have ⟨r, p, er, ec⟩ := q
        obtain ⟨z, R7, U7, R8, U8, h7, e4, rfl, rfl⟩ := bind_some e2
        obtain ⟨rfl, x0, k1, k2, k3, k4⟩ := Ve h7
        simp [zl, List.nil_append] at e4 ⊢
        cases z <;> try cases e4
        rename_i fs
        simp only at e4
        split at e4
        · rename_i hf
          have ⟨b, o', ev, hp⟩ := z5w hq k1 k2 k3 k4 hf.2
          rw [k2, k3] at hp
          have hp' : TOk S w.heap st (Act.tv a) (T.ptr r (p ++ [ZI.fld j.toNat]) er ec) (.pointer (some ⟨b, o' + A.sizes (fs.take j.toNat), none⟩)) := hp
          have ⟨Fp', hs⟩ := wJ h e4 hp'
          refine zr ?_ hs
          simp [execOp, ho, ev, ei, QS hT hf.1 hf.2]
        · cases e4
    | _ => cases e
  | _ => cases e
theorem z2s (hT : wG P tt) (h : Sim C S Fp [] st a w)   {x i : Operand} (ho : o.op = .indexAddr t x i)    (e : Qq tt C.n o.dst t x i st = some (u, R, U)) : qE P C o a w (zl U st) := by
 unfold Qq at e
 have ⟨y, _, hx, e1⟩ := bR (zD h) e
 have ⟨ti, _, hi, e2⟩ := bR (zD h) e1
 have ⟨vi, _, qi, e3⟩ := bR (vO h hi) e2
 split at e3
 ·exact Kn hT h ho hx qi e3
 unfold indexAddrA at e3
 cases vi with
 | atom vv =>
  cases vv with
  | int k j =>
   simp only at e3
   have ⟨ei, _⟩ := zw.1 qi
   cases y with
   | d z =>
    cases z with
    | sl sz tg xs =>
     simp only at e3
     split at e3
     ·rename_i hc
      cases hy : xs[j.toNat]? with
      | none => simp [hy] at e3; cases e3
      | some y =>
       simp [hy] at e3
       have ⟨v, rv, hrun⟩ := z0R hT hx hc.1 (k := k) hc.2 hy w
       have ⟨Fp', hs⟩ := wJ h e3 (x := .d (.sptr y)) rv
       exact zr (by simp [execOp, ho, ei, hrun]) hs
     ·cases e3
    | _ => cases e3
   | als r p er ec =>
    have ⟨_, e4⟩ := bD e3
    have ⟨z, _, q, e5⟩ := bR (VM h hx) e4
    cases z with
    | osl sz tg es =>
     simp only at e5
     split at e5
     ·rename_i hc
      rcases q with ⟨x0, cs, F, q1, q2, q3, q4, q5, q6, _⟩ | ⟨q1, q2, q3, q4, q5⟩
      ·have ⟨b, c, ev, hp⟩ := z3u h hx q1 q2 q3 q4 hc.2.2
       have ⟨e', he, hsz⟩ := vq hT hc.1 w
       have hp' : TOk S w.heap st (Act.tv a) (T.ptr r (p ++ [ZI.idx j.toNat]) (st r).er (st r).ec) (.pointer (some ⟨b, j.toNat * sz, none⟩)) := hp
       have ⟨Fp', hs⟩ := wJ h e5 hp'
       refine zr ?_ hs
       simp [execOp, ho, ei, ev, XV he hsz hc.2.1 hc.2.2]
      ·simp [we] at q5
       have ⟨cs, q5, _⟩ := q5
       simp [Rep] at q5
     ·cases e5
    | sl sz tg xs =>
     simp only at e5
     have hv : we S (.sl sz tg xs) (a.eval x) := by
      rcases q with ⟨x0, cs, F, q1, q2, q3, q4, q5, q6, _⟩ | ⟨q1, q2, q3, q4, q5⟩
      ·exact u6.repV ⟨cs, (q5.isD rfl).1, q6⟩
      ·exact q5
     split at e5
     ·rename_i hc
      cases hy : xs[j.toNat]? with
      | none => simp [hy] at e5; cases e5
      | some y =>
       simp [hy] at e5
       have ⟨v, rv, hrun⟩ := z0R hT hv hc.1 (k := k) hc.2 hy w
       have ⟨Fp', hs⟩ := wJ h e5 (x := .d (.sptr y)) rv
       exact zr (by simp [execOp, ho, ei, hrun]) hs
     ·cases e5
    | _ => cases e5
   | _ => cases e3
  | _ => cases e3
 | _ => cases e3
theorem z7d {x : T}     (e : take x st = some (y, R, U)) : U = [] ∨ ∃ r e', U = [(r, e')] ∧ (st r).ec < e'.ec := by
 cases x with
 | d z => simp [take] at e; obtain ⟨_, _, rfl⟩ := wT e; exact .inl rfl
 | als r p er ec =>
  simp [take] at e
  have ⟨z, _, _, h2⟩ := bR (z2j) e
  split at h2
  ·obtain ⟨_, _, rfl⟩ := wT h2; exact .inl rfl
  ·by_cases hpl : z.plain = true
   case neg => rw [if_neg hpl] at h2; cases h2
   rw [if_pos hpl] at h2
   have ⟨_, h4⟩ := bD h2
   cases ht : (st r).t with
   | own x =>
    simp [ht] at h4
    split at h4
    ·obtain ⟨u5, R5, U5, R6, U6, h5, h6, rfl, rfl⟩ := bind_some h4
     cases h5
     obtain ⟨_, _, rfl⟩ := wT h6
     exact .inr ⟨r, _, rfl, Nat.lt_succ_self _⟩
    ·obtain ⟨u5, R5, U5, R6, U6, h5, h6, rfl, rfl⟩ := bind_some h4
     cases h5
     obtain ⟨_, _, rfl⟩ := wT h6
     exact .inr ⟨r, _, rfl, Nat.lt_succ_self _⟩
   | _ => simp [ht] at h4; cases h4
 | _ => simp [take] at e; cases e
theorem z4T {x : T}     (e : takeC tt t x st = some (y, R, U)) : U = [] ∨ ∃ r e', U = [(r, e')] ∧ (st r).ec < e'.ec := by
 unfold takeC at e
 obtain ⟨z, R1, U1, R2, U2, h1, h2, rfl, rfl⟩ := bind_some e
 obtain ⟨_, _, rfl⟩ := wT h2
 simpa using z7d h1
def z4U (tt : TT) (dst : Option Nat) (t : Nat) (x v : Operand) : SM Unit := do
 if dst = none then
  let y ← opnd x
  let z ← opnd v
  storeA tt t y z
 else zt
theorem z1b (h : Zn tt t y = true) : y.isAgg = true ∨ y.size = 1 := by
 unfold Zn at h
 split at h
 ·simp [Bool.and_eq_true, beq_iff_eq, Bool.or_eq_true] at h
  rcases h.2 with h2 | h2
  ·exact .inl (by rw [← h.1.1]; exact h2)
  ·exact .inr (by rw [← h.1.2]; exact h2)
 ·cases h
theorem z1V (hT : wG P tt)  {y : A} (hf : Zn tt t y = true) {w : World} {b o : Nat} {arr : Array Value} {ty : TypeId}  (hl : cs.length = y.size) (h1 : ∀ u ∈ cs, u.oneCell' = true)
  (hb : w.heap[b]? = some (.cells arr ty (0, 0))) (hfit : o + cs.length ≤ arr.size) :
  (storeVar t ⟨b, o, none⟩ (yc y cs)).run P w = .ok () (w.setRow b (WP arr o cs)) := by
 have hcl := Ym (y := y) (fun u hu => WQ (h1 u hu)) ((z1b hf).imp id (fun h => by rw [hl]; exact h))
 unfold Zn at hf
 split at hf
 ·rename_i i hi
  simp only [Bool.and_eq_true, beq_iff_eq, Bool.or_eq_true] at hf
  have hst := run_storeCells_at P b o ty cs 0 arr w hb (by simpa using hfit) h1
  simp only [Nat.add_zero] at hst
  rw [jD hfit] at hst
  unfold storeVar
  simp only [Sem.run_bind, hcl, List.size_toArray, vV hT hi, Result.andThen_ok]
  simp [hf.1.2, hl, hst]
 ·cases hf
theorem KT.le {o : Nat}  (h : KT arr o l) (hl : 0 < l.length) : o + l.length ≤ arr.size := by
 have := h (l.length - 1) _ (List.getElem?_eq_getElem (by omega))
 have := (Array.getElem?_eq_some_iff.1 this).1
 omega
theorem z0c (h : Vn p = true) (x z : A) (cs : List Value) : yc (Ww p x z) cs = yc x cs := by
 cases p with
 | nil => simp [Vn] at h
 | cons s p' =>
  cases s with
  | fld _ => simp [Vn] at h
  | _ => cases x <;> simp [Ww, yc]
theorem z7g (hT : wG P tt) (h : Sim C S Fp [] st a w)   {x v : Operand} (ho : o.op = .store t x v)    (e : z4U tt o.dst t x v st = some (u, R, U)) : qE P C o a w (zl U st) := by
 unfold z4U at e
 split at e
 ·rename_i hd
  obtain ⟨y, R1, U1, R2, U2, h1, e1, rfl, rfl⟩ := bind_some e
  obtain ⟨rfl, hx⟩ := zD h h1
  obtain ⟨z, R3, U3, R4, U4, h3, e2, rfl, rfl⟩ := bind_some e1
  obtain ⟨rfl, hz⟩ := zD h h3
  simp [zl, List.nil_append] at e2 ⊢
  unfold storeA at e2
  obtain ⟨q, R5, U5, R6, U6, h5, e3, rfl, rfl⟩ := bind_some e2
  obtain ⟨rfl, hq⟩ := Vb h hx h5
  simp [zl, List.nil_append] at e3 ⊢
  cases q with
  | inl _ => cases e3
  | inr q =>
   have ⟨r, p, er, ec⟩ := q
   obtain ⟨s, R7, U7, R8, U8, h7, e4, rfl, rfl⟩ := bind_some e3
   have ⟨Fp', F, g1, g2⟩ := XM h hz h7
   obtain ⟨en, R9, U9, R10, U10, h9, e5, rfl, rfl⟩ := bind_some e4
   obtain ⟨rfl, rfl, rfl⟩ := qJ h9
   simp [zl, List.nil_append] at e5 ⊢
   rw [zz]
   have hsame : zl U7 st r = st r := by
    rcases z4T h7 with rfl | ⟨r', e', rfl, hlt⟩
    ·rfl
    ·by_cases hr : r = r'
     ·subst hr
      exfalso
      simp [zl, YI] at e5
      have hec := hq.2.1
      cases ht : e'.t with
      | own x0 =>
       simp [ht] at e5
       split at e5
       ·omega
       ·cases e5
      | _ => simp [ht] at e5; cases e5
     ·simp [zl, Ur _ _ hr]
   have hq' : ZV w.heap (zl U7 st) (Act.tv a) r p er ec (a.eval x) := by
    have hq1 : ZV w.heap st (Act.tv a) r p er ec (a.eval x) := hq
    unfold ZV at hq1 ⊢
    rw [hsame]
    exact hq1
   cases ht : (zl U7 st r).t with
   | own x0 =>
    simp [ht] at e5
    split at e5
    ·rename_i hc
     cases hg : wF p x0 with
     | none => simp [hg] at e5; cases e5
     | some y0 =>
      simp [hg] at e5
      split at e5
      ·rename_i hc2
       cases e5
       have ⟨b, o', arr, ty, csy, Fy, cs, ev, o1, f2, f3, f4, f5, f6, f7, f8, f9, f10, f11, f12⟩ := K5 g1 hq' ht hc.1 hc.2 hg
       have hst : ∀ fs, s ≠ .tup fs := by
        rintro fs rfl
        rcases z1b hc2.2 with h | h
        ·simp [A.isAgg] at h
        ·simp [A.size] at h
       have ⟨csz, c1, c2, c3⟩ := g2.cells hst
       have hlen : csz.length = csy.length := by rw [c1.len, f4.len, hc2.1]
       have hFd : ∀ k ∈ F, ∀ t, k ∉ Fp' t := fun k hk t => g1.xd t k (by simp [hk])
       have hbF : b ∉ F := fun hb => hFd b hb r f6
       let w' := w.setRow b (WP arr o' csz)
       have hheap : ∀ k, k ≠ b → w'.heap[k]? = w.heap[k]? := fun k hk => setRow_other w b k _ hk
       have hheapb : w'.heap[b]? = some (.cells (WP arr o' csz) ty (0, 0)) := setRow_heap w b arr _ ty (0, 0) f2
       have hbase : C.M b := g1.base r b f6
       have hSb : ∀ o, S b o = none := (g1.free r b f6).2.1
       have ⟨F0', d1, d2, d3⟩ := f12 S w'.heap s csz F (fun _ _ _ h => h) hlen (c1.frame (fun _ _ _ h => h) (fun k hk => ⟨hheap k (fun e => hbF (e ▸ hk)), (c1.own k hk).2.1⟩)) c2 (fun k hk _ => (g1.free r k hk).2.1) (fun k _ _ hk => hheap k hk) hheapb (fun k hk hk' => absurd hk' (hFd k hk r))
       refine Ks (w' := w') ?_ hd (S := S) (Fp := Qc Fp' r F0') ?_
       ·have hrun : (storeVar t ⟨b, o', none⟩ (yc s csz)).run P w = .ok () w' := by
         by_cases hz0 : csz.length = 0
         ·
          have hnil : csz = [] := List.eq_nil_of_length_eq_zero hz0
          subst hnil
          have hov : w' = w := by
           show w.setRow b (WP arr o' []) = w
           rw [Xz (by intro j v hj; simp at hj)]
           exact setRow_self w b arr ty (0, 0) f2
          rw [hov]
          have hsz : s.size = 0 := by rw [← c1.len]; rfl
          have hag := (z1b hc2.2).resolve_right (by omega)
          have hcl := Ym (y := s) c1.na (.inl hag)
          have hf := hc2.2
          unfold Zn at hf
          split at hf
          ·rename_i i hi
           simp [Bool.and_eq_true, beq_iff_eq, Bool.or_eq_true] at hf
           unfold storeVar
           simp [Sem.run_bind, hcl, List.size_toArray, vV hT hi, Result.andThen_ok]
           simp [hf.1.2, hsz, storeCells]
          ·cases hf
         ·exact z1V hT hc2.2 c1.len (c1.one1 (z2W hz h7)) f2 (by rw [hlen]; exact f3.le (by omega))
        simp [execOp, ho, ev, c3, Instr.storeAt, Instr.sureAddr, hrun]
       ·simp [zl]
        refine g1.change r (.own (Ww p x0 s)) _ _ F0' ?_ (fun _ _ _ h => h) ?_ g1.sbase ?_ ⟨⟨cs, d1, d2, by rw [z0c o1]; exact f10⟩, x0, ht⟩ (.inl ⟨x0, ht⟩) (Nat.le_refl _) (Nat.lt_succ_self _) ?_ ?_ (by simp) (by simp) (by simp) (by simp)
        ·exact g1.below.trans ⟨rfl, rfl, rfl, Nat.le_refl _, by simp [w'], fun k hk => hheap k (fun e => hk (e ▸ hbase))⟩
        ·intro b' o'' v hs
         rw [wv (h := w.heap) (h' := w'.heap) (hheap b' (by rintro rfl; rw [hSb] at hs; cases hs))]
         exact g1.still b' o'' v hs
        ·intro t' k htr hk
         exact ⟨hheap k (by rintro rfl; exact htr (g1.disj t' r k hk f6)), (g1.free t' k hk).2.1⟩
        ·intro t' k htr hk hk'
         rcases (d3 k).1 hk with h | h
         ·exact htr (g1.disj t' r k hk' h.1)
         ·exact hFd k h t' hk'
        ·intro k hk
         rcases (d3 k).1 hk with h | h
         ·exact g1.base r k h.1
         ·exact g1.xb k (by simp [h])
      ·cases e5
    ·cases e5
   | _ => simp [ht] at e5; cases e5
 ·cases e
end
variable {f : TypeInfo}{zv : Value}{i : TypeInfo}{as_ bs : List A}{z : A}
section
variable {C : Ctx} {S : zn} {Fp : Nat → List Nat} {X : List Nat} {st : St} {a : Act} {w : World}
theorem Ql (h : Sim C S Fp X st a w) {x : T}  (hx : TOk S w.heap st (Act.tv a) x v)    (e : peek x st = some (y, R, U)) :
  U = [] ∧ (we S y v ∨ ∃ cs F, zH S w.heap y cs F ∧ v = yc y cs) := by
 cases x with
 | d z => simp [peek] at e; cases e; exact ⟨rfl, .inl hx⟩
 | als r p er ec =>
  simp [peek] at e
  obtain ⟨rfl, q⟩ := VM h hx e
  refine ⟨rfl, ?_⟩
  rcases q with ⟨x, cs, F, _, _, _, _, q5, q6, _⟩ | ⟨_, _, _, _, q5⟩
  ·exact .inr ⟨cs, F, q5, q6⟩
  ·exact .inl q5
 | _ => simp [peek] at e; cases e
def zcT (tt : TT) (n : Fr) (dst : Option Nat) (t : Nat) (x : Operand) : SM Unit := do
 let y ← opnd x
 let z ← peek y
 let m ← ofO (lenOf z)
 if Zh tt t = true then wrT n dst (.d (.atom (.int .i64 m))) else zt
def zdb (tt : TT) (n : Fr) (dst : Option Nat) (t : Nat) (x : Operand) : SM Unit := do
 let y ← opnd x
 let z ← peek y
 let m ← ofO (z8i z)
 if Zh tt t = true then wrT n dst (.d (.atom (.int .i64 m))) else zt
theorem z7R {m : Nat} (hm : lenOf z = some m)  (q : we S z v ∨ ∃ cs F, zH S w.heap z cs F ∧ v = yc z cs) : ∃ p c, v = .slice p m c := by
 unfold lenOf at hm
 split at hm
 ·cases hm
  rename_i sz tg xs
  have : ∃ cs, Rep S (.sl sz tg xs) cs ∧ v = yc (.sl sz tg xs) cs := by
   rcases q with q | ⟨cs, F, q1, q2⟩
   ·exact q
   ·exact ⟨cs, (q1.isD rfl).1, q2⟩
  obtain ⟨cs, r1, rfl⟩ := this
  simp [Rep] at r1
  obtain ⟨p, c, rfl, _⟩ := r1
  exact ⟨p, c, rfl⟩
 ·cases hm
  rcases q with ⟨cs, q, _⟩ | ⟨cs, F, q1, rfl⟩
  ·simp [Rep] at q
  ·simp [zH] at q1
   obtain ⟨p, c, rfl, _⟩ := q1
   exact ⟨p, c, rfl⟩
 ·cases hm
  rcases q with q | ⟨cs, F, q1, q2⟩
  ·exact ⟨none, 0, (zw.1 q).1⟩
  ·exact ⟨none, 0, (uE.1 ⟨cs, (q1.isD rfl).1, q2⟩).1⟩
 ·cases hm
theorem z8h {m : Nat} (hm : z8i z = some m)  (q : we S z v ∨ ∃ cs F, zH S w.heap z cs F ∧ v = yc z cs) : ∃ p c, v = .slice p c m := by
 unfold z8i at hm
 split at hm
 ·cases hm
  rename_i sz xs
  have : ∃ cs, Rep S (.sl sz true xs) cs ∧ v = yc (.sl sz true xs) cs := by
   rcases q with q | ⟨cs, F, q1, q2⟩
   ·exact q
   ·exact ⟨cs, (q1.isD rfl).1, q2⟩
  obtain ⟨cs, r1, rfl⟩ := this
  simp only [Rep] at r1
  obtain ⟨p, c, rfl, hc, _⟩ := r1
  exact ⟨p, _, by rw [hc trivial]; rfl⟩
 ·cases hm
  rcases q with ⟨cs, q, _⟩ | ⟨cs, F, q1, rfl⟩
  ·simp [Rep] at q
  ·simp only [zH] at q1
   obtain ⟨p, c, rfl, hc, _⟩ := q1
   exact ⟨p, _, by rw [hc trivial]; rfl⟩
 ·cases hm
  rcases q with q | ⟨cs, F, q1, q2⟩
  ·exact ⟨none, 0, (zw.1 q).1⟩
  ·exact ⟨none, 0, (uE.1 ⟨cs, (q1.isD rfl).1, q2⟩).1⟩
 ·cases hm
theorem W9 (hT : wG P tt)  (h : Zh tt t = true) : ∃ e, P.underlying t = some (.slice e) := by
 unfold Zh at h
 split at h
 ·rename_i e _ _ _ _ ht
  exact ⟨e, (hT _ _ ht).kind⟩
 ·cases h
theorem zbL (hT : wG P tt) (h : Sim C S Fp [] st a w)  {t : Nat} {x : Operand} (ho : o.op = .call { callee := .builtin .len, args := #[x], argTypes := #[t] })    (e : zcT tt C.n o.dst t x st = some (u, R, U)) : qE P C o a w (zl U st) := by
 unfold zcT at e
 have ⟨y, _, hx, e1⟩ := bR (zD h) e
 have ⟨z, _, q, e2⟩ := bR (Ql h hx) e1
 have ⟨m, _, hm, e3⟩ := bO e2
 split at e3
 ·rename_i ht
  have ⟨el, hel⟩ := W9 hT ht
  have ⟨p, c, ev⟩ := z7R hm q
  have ⟨Fp', hs⟩ := wJ h e3 (x := .d (.atom (.int .i64 m))) (zw.2 ⟨rfl, rfl⟩)
  exact zr (by simp [execOp, ho, resolve, invoke, builtin, Builtin.len_, run_underlying hel, ev, goInt]) hs
 ·cases e3
theorem zbZ (hT : wG P tt) (h : Sim C S Fp [] st a w)  {t : Nat} {x : Operand} (ho : o.op = .call { callee := .builtin .cap, args := #[x], argTypes := #[t] })    (e : zdb tt C.n o.dst t x st = some (u, R, U)) : qE P C o a w (zl U st) := by
 unfold zdb at e
 have ⟨y, _, hx, e1⟩ := bR (zD h) e
 have ⟨z, _, q, e2⟩ := bR (Ql h hx) e1
 have ⟨m, _, hm, e3⟩ := bO e2
 split at e3
 ·rename_i ht
  have ⟨el, hel⟩ := W9 hT ht
  have ⟨p, c, ev⟩ := z8h hm q
  have ⟨Fp', hs⟩ := wJ h e3 (x := .d (.atom (.int .i64 m))) (zw.2 ⟨rfl, rfl⟩)
  exact zr (by simp [execOp, ho, resolve, invoke, builtin, Builtin.cap_, run_underlying hel, ev, goInt]) hs
 ·cases e3
def nilCheckO (n : Fr) (dst : Option Nat) (x : Operand) : SM Unit := do
 let y ← opnd x
 match y with
 | .d (.fn f cs) => wrT n dst (.d (.fn f cs))
 | y => do
  let q ← ptrOf y
  match q with
  | .inl _ => wrT n dst y
  | .inr (r, p, er, ec) => do
   let _ ← lookP r p er ec
   wrT n dst y
theorem z5x (hp : ZV w.heap st (Act.tv a) r p er ec v) {x : A} (hr : (st r).t = .own x) (e1 : (st r).er = er) (e2 : (st r).ec = ec) : ∃ b o, v = .pointer (some ⟨b, o, none⟩) := by
 have := hp.2.2
 simp only [hr] at this
 have ⟨_, y, b, o, _, _, g3⟩ := this e1 e2
 exact ⟨b, o, g3⟩
theorem z3b (h : Sim C S Fp [] st a w)   (ho : o.op = .nilCheck x)    (e : nilCheckO C.n o.dst x st = some (u, R, U)) : qE P C o a w (zl U st) := by
 unfold nilCheckO at e
 obtain ⟨y, R1, U1, R2, U2, h1, e1, rfl, rfl⟩ := bind_some e
 obtain ⟨rfl, hx⟩ := zD h h1
 simp [zl, List.nil_append] at e1 ⊢
 have ptr : ∀ {b o' : Nat} {U : List (Nat × Ent)} {R : List Nat}, a.eval x = .pointer (some ⟨b, o', none⟩) → wrT C.n o.dst y st = some (u, R, U) → qE P C o a w (zl U st) := by
  intro b o' U R ev hw
  have ⟨Fp', hs⟩ := wJ h hw hx
  exact zr (v := a.eval x) (by simp [execOp, ho, ev]) hs
 have gen : ∀ {U : List (Nat × Ent)} {R : List Nat}, (do
   let q ← ptrOf y
   match q with
   | .inl _ => wrT C.n o.dst y
   | .inr (r, p, er, ec) => do
    let _ ← lookP r p er ec
    wrT C.n o.dst y : SM Unit) st = some (u, R, U) → qE P C o a w (zl U st) := by
  intro U R e2
  obtain ⟨q, R3, U3, R4, U4, h3, e3, rfl, rfl⟩ := bind_some e2
  obtain ⟨rfl, hq⟩ := Vb h hx h3
  simp [zl, List.nil_append] at e3 ⊢
  cases q with
  | inl z =>
   have ⟨b, o', l, ev, _⟩ := hq
   exact ptr ev e3
  | inr t =>
   have ⟨r, p, er, ec⟩ := t
   obtain ⟨z, R5, U5, R6, U6, h5, e5, rfl, rfl⟩ := bind_some e3
   unfold lookP at h5
   obtain ⟨en, R7, U7, R8, U8, h7, e7, rfl, rfl⟩ := bind_some h5
   obtain ⟨rfl, rfl, rfl⟩ := qJ h7
   simp [zl] at e7
   cases ht : (st r).t with
   | own x0 =>
    simp [ht] at e7
    split at e7
    ·rename_i hc
     obtain ⟨_, rfl, rfl⟩ := W1 e7
     have ⟨b, o', ev⟩ := z5x hq ht hc.1 hc.2
     simp [zl, List.nil_append, List.append_nil] at e5 ⊢
     exact ptr ev e5
    ·cases e7
   | _ => simp [ht] at e7; cases e7
 cases y with
 | d z =>
  cases z with
  | fn f cs =>
   have ⟨Fp', hs⟩ := wJ h e1 hx
   have hv : ∃ vs, a.eval x = .func (.func f) #[] vs := by
    have hx' : we S (.fn f cs) (a.eval x) := hx
    simp [we] at hx'
    have ⟨c, q1, q2⟩ := hx'
    simp [Rep] at q1
    obtain ⟨vs, _, _, rfl⟩ := q1
    exact ⟨vs.toArray, q2⟩
   have ⟨vs, hv⟩ := hv
   exact zr (v := a.eval x) (by simp [execOp, ho, hv]) hs
  | _ => exact gen e1
 | _ => exact gen e1
theorem z1a {α : Type} (l : List α) : ∀ (n k : Nat), (List.replicate n l).flatten[k]? = if k < n * l.length then l[k % l.length]? else none
 | 0, k => by simp
 | n + 1, k => by
  rw [List.replicate_succ, List.flatten_cons]
  by_cases hk : k < l.length
  ·rw [List.getElem?_append_left hk, if_pos (by rw [Nat.add_mul]; omega), Nat.mod_eq_of_lt hk]
  ·rw [List.getElem?_append_right (by omega), z1a l n]
   have hm : (k - l.length) % l.length = k % l.length := (Nat.mod_eq_sub_mod (by omega)).symm
   rw [hm]
   by_cases h2 : k - l.length < n * l.length
   ·rw [if_pos h2, if_pos (by rw [Nat.add_mul]; omega)]
   ·rw [if_neg h2, if_neg (by rw [Nat.add_mul]; omega)]
theorem Vz (z : Array Value) (l c : Nat) (h : l ≤ c) : (madeCells z (c * z.size)).toList.take (l * z.size) = (List.replicate l z.toList).flatten := by
 apply List.ext_getElem?
 intro k
 rw [z1a, List.getElem?_take, Array.length_toList]
 have hle : l * z.size ≤ c * z.size := Nat.mul_le_mul_right _ h
 split
 ·rename_i hk
  have hz : 0 < z.size := by
   rcases Nat.eq_zero_or_pos z.size with h0 | h0
   ·rw [h0] at hk; simp at hk
   ·exact h0
  have hmod : k % z.size < z.size := Nat.mod_lt _ hz
  simp [madeCells, Array.toList_map, Array.toList_range, List.getElem?_map, Array.getElem?_toList]
  rw [List.getElem?_eq_getElem (by simp; omega)]
  simp [List.getElem_range, Option.map_some]
  rw [Array.getElem?_eq_getElem hmod, getElem!_pos z _ hmod]
 ·rfl
theorem Yl (hz : zH S h z cs []) : ∀ n, zL S h (List.replicate n z) (List.replicate n cs).flatten []
 | 0 => by simp [zL]
 | n + 1 => by
  simp only [List.replicate_succ, List.flatten_cons, zL]
  exact ⟨cs, _, [], [], rfl, rfl, hz, Yl hz n⟩
theorem z37 (h : Sim C S Fp (F ++ []) st a w)  {arr : Array Value}  (hc : zL S w.heap es l F) (hn : F.Nodup) (ty : TypeId) {sz c : Nat} {t : Bool} (ht : t = true → c = es.length) (hlc : es.length ≤ c) (hm : c ≤ maxLen)
  (hsz : ∀ x ∈ es, x.size = sz) (hs0 : arr.size = c * sz) (htk : arr.toList.take (es.length * sz) = l) (w' : World) (hw : w' = w.alloc (.cells arr ty)) :
  Sim C S Fp ((w.heap.size :: F) ++ []) st a w' ∧ zH S w'.heap (.osl sz t es) [.slice (some ⟨w.heap.size, 0, none⟩) es.length c] (w.heap.size :: F) ∧ (w.heap.size :: F).Nodup := by
 subst hw
 have hlt : ∀ k ∈ F, k < w.heap.size := fun k hk => (hc.own k hk).1
 refine ⟨by simpa using h.alloc (by simpa using hlt) _, ?_, List.nodup_cons.2 ⟨fun hm => Nat.lt_irrefl _ (hlt _ hm), hn⟩⟩
 simp only [zH]
 exact ⟨_, c, rfl, ht, hlc, hm, hsz, .inr ⟨w.heap.size, arr, ty, l, F, rfl, heap_alloc_new w _, Nat.le_of_eq hs0.symm, htk, hc.frame (fun _ _ _ h => h) (fun k hk => ⟨hao w _ k (hlt k hk), (hc.own k hk).2.1⟩), rfl, fun o => h.free_new (Nat.le_refl _) o⟩⟩
def XC (tt : TT) (n : Fr) (dst : Option Nat) (t : Nat) (l c : Operand) : SM Unit := do
 let tl ← opnd l
 let vl ← val tl
 let tc ← opnd c
 let vc ← val tc
 match vl, vc with
 | .atom (.int _ x), .atom (.int _ y) =>
  match tt t with
  | some ⟨.slice e, _, _, _, _⟩ =>
   match tt e with
   | some i =>
    match i.zero with
    | some z => if 0 ≤ x ∧ x ≤ y ∧ y ≤ lim ∧ i.bytes ≤ 4096 then wrT n dst (.own (.osl i.size (decide (x = y)) (List.replicate x.toNat z))) else zt
    | none => zt
   | none => zt
  | _ => zt
 | _, _ => zt
theorem z2i {P : Program}  (hT : wG P tt) (h : Sim C S Fp [] st a w)  {t : Nat} {l c : Operand} (ho : o.op = .makeSlice t l c)    (e : XC tt C.n o.dst t l c st = some (u, R, U)) : qE P C o a w (zl U st) := by
 unfold XC at e
 obtain ⟨tl, _, hl, e1⟩ := bR (zD h) e
 obtain ⟨vl, _, ql, e2⟩ := bR (vO h hl) e1
 obtain ⟨tc, _, hc, e3⟩ := bR (zD h) e2
 obtain ⟨vc, _, qc, e4⟩ := bR (vO h hc) e3
 split at e4
 ·rename_i k1 x k2 y
  obtain ⟨ex, _⟩ := zw.1 ql
  obtain ⟨ey, _⟩ := zw.1 qc
  cases ht : tt t with
  | none => simp [ht] at e4; cases e4
  | some it =>
   obtain ⟨kd, a1, a2, a3, a4⟩ := it
   cases kd with
   | slice el =>
    simp [ht] at e4
    have hel : P.underlying t = some (.slice el) := (hT _ _ ht).kind
    cases hi : tt el with
    | none => simp [hi] at e4; cases e4
    | some i =>
     simp [hi] at e4
     cases hz : i.zero with
     | none => simp [hz] at e4; cases e4
     | some z =>
      simp [hz] at e4
      split at e4
      ·rename_i hcond
       obtain ⟨c1, c2, c3, c4⟩ := hcond
       obtain ⟨f, f1, f2, f3, f4⟩ := (hT _ _ hi).info
       obtain ⟨zv, v1, v2, v3⟩ := f4 z hz
       have hlim : y ≤ 4294967296 := by simpa [lim] using c3
       have hbytes : (f.bytes : Int) * y ≤ 281474976710656 := by
        rw [f3]
        have h1 : (i.bytes : Int) ≤ 4096 := by omega
        have h2 : (i.bytes : Int) * y ≤ 4096 * 4294967296 := Int.mul_le_mul h1 hlim (by omega) (by omega)
        omega
       have hrun := run_make (P := P) w t el f zv hel f1 v1 k1 k2 x y c1 c2 hbytes (by omega)
       have hzs : zv.cells.size = i.size := by
        have := (v3 (fun _ _ => none) #[]).len
        rw [v2] at this
        simpa using this
       rw [f2, ← hzs] at hrun
       have hxy : x.toNat ≤ y.toNat := by omega
       obtain ⟨k1', k2', k3'⟩ := z37 (F := []) (es := List.replicate x.toNat z) (arr := madeCells zv.cells (y.toNat * zv.cells.size)) (l := (List.replicate x.toNat zv.cells.toList).flatten) (by simpa using h)
        (Yl (v3 S w.heap) _) (by simp) el (sz := i.size) (c := y.toNat) (t := decide (x = y)) (by intro hd; simp [decide_eq_true_eq] at hd; simp [hd]) (by simpa using hxy) (by unfold maxLen; omega)
        (by intro q hq; rw [List.eq_of_mem_replicate hq]; exact v2) (by rw [size_madeCells, hzs]) (by rw [List.length_replicate, ← hzs]; exact Vz _ _ _ hxy) _ rfl
       obtain ⟨Fp'', hs⟩ := Xv k1' e4 k2' k3'
       refine zr ?_ hs
       simp [execOp, ho, ex, ey, hrun, Result.andThen_ok]
       simp [yc]
      ·cases e4
   | _ => simp [ht] at e4; cases e4
 ·cases e4
theorem JY {t ty e : TypeId}  (ht : P.underlying t = some (.slice e)) (hi : P.info? e = some i) (p q : Option Addr) (n c m : Nat) (hn : n ≤ c) (w : World) :
  (Builtin.append_ #[t, t] ty #[.slice p n c, .slice q 0 m]).run P w = .ok (.slice p n c) w := by
 cases p <;> cases q <;> simp [Builtin.append_, run_underlying ht, Go.sizeOf, typeInfo, hi, Builtin.lenOf, hn, Builtin.firstCells, loadCells, loadCellsFrom, storeCells]
theorem Jg {P : Program} {t ty e bty : TypeId}  (ht : P.underlying t = some (.slice e)) (hi : P.info? e = some i) (w : World)
  (g n c : Nat) (cur : Array Value) (hg : w.heap[g]? = some (.cells cur bty (0, 0)))
  (a : Addr) (m d : Nat) (news : List Value) (hl : news.length = m * i.size) (hnews : ∀ j u, news[j]? = some u → w.cell? (a.add j) = some u) (h1 : ∀ u ∈ news, u.oneCell' = true)
  (hroom : n + m ≤ c) (hfit : n * i.size + news.length ≤ cur.size) :
  (Builtin.append_ #[t, t] ty #[.slice (some ⟨g, 0, none⟩) n c, .slice (some a) m d]).run P w = .ok (.slice (some ⟨g, 0, none⟩) (n + m) c) (w.setRow g (WP cur (n * i.size) news)) := by
 have hf := run_firstCells_some (P := P) w i.size m a m d news hl hnews
 have hst := run_storeCells_at P g (n * i.size) bty news 0 cur w hg (by simpa using hfit) h1
 simp only [Nat.add_zero] at hst
 rw [jD hfit] at hst
 simp [Builtin.append_, run_underlying ht, Go.sizeOf, typeInfo, hi, Builtin.lenOf, hroom, hf, Addr.add_lit, hst]
theorem yw.append {c1 c2 : List Value} (h1 : yw S as_ c1) (h2 : yw S bs c2) : yw S (as_ ++ bs) (c1 ++ c2) := by
 induction as_ generalizing c1 with
 | nil => simp [yw] at h1; subst h1; simpa using h2
 | cons a as_ ih =>
  simp [yw] at h1
  obtain ⟨d1, d2, rfl, r1, r2⟩ := h1
  simp [List.cons_append, yw]
  exact ⟨d1, d2 ++ c2, by simp, r1, ih r2⟩
theorem zL.append {c1 c2 : List Value} {F1 F2 : List Nat} (h1 : zL S h as_ c1 F1) (h2 : zL S h bs c2 F2) : zL S h (as_ ++ bs) (c1 ++ c2) (F1 ++ F2) := by
 induction as_ generalizing c1 F1 with
 | nil => simp only [zL] at h1; obtain ⟨rfl, rfl⟩ := h1; simpa using h2
 | cons a as_ ih =>
  simp only [zL] at h1
  obtain ⟨d1, d2, G1, G2, rfl, rfl, r1, r2⟩ := h1
  simp only [List.cons_append, zL]
  exact ⟨d1, d2 ++ c2, G1, G2 ++ F2, by simp, by simp, r1, ih r2⟩
theorem VZ {P : Program} {t ty e : TypeId}   (ht : P.underlying t = some (.slice e)) (hi : P.info? e = some f) (hz : f.zero = some zv) (hzs : zv.cells.size = f.size)
    {F G : List Nat} (h : Sim C S Fp (F ++ G) st a w) {es ys : List A} {olds news : List Value} (hes : zL S w.heap es olds F) (hFn : (F ++ G).Nodup) (hys : zL S w.heap ys news G) (hsz1 : ∀ x ∈ es, x.size = f.size) (hsz2 : ∀ x ∈ ys, x.size = f.size)
    {p : Option Addr} {c : Nat} (hp : (p = none ∧ es = [] ∧ c = 0) ∨ ∃ b, p = some b ∧ ∀ j v, olds[j]? = some v → w.cell? (b.add j) = some v)
    {ad : Addr} {d : Nat} (hnews : ∀ j v, news[j]? = some v → w.cell? (ad.add j) = some v) (hg : c < es.length + ys.length) (hlim : es.length + ys.length ≤ lim) (hb : f.bytes ≤ 4096) (hy0 : 0 < ys.length) :
    ∃ v w', (Builtin.append_ #[t, t] ty #[.slice p es.length c, .slice (some ad) ys.length d]).run P w = .ok v w' ∧ ∃ F', Sim C S Fp (F' ++ []) st a w' ∧ F'.Nodup ∧ ∃ cs, zH S w'.heap (.osl f.size false (es ++ ys)) cs F' ∧ v = yc (.osl f.size false (es ++ ys)) cs := by
  have hl1 : olds.length = es.length * f.size := by rw [hes.len, A.sizes_const hsz1]
  have hl2 : news.length = ys.length * f.size := by rw [hys.len, A.sizes_const hsz2]
  have hlim' : es.length + ys.length ≤ 4294967296 := hlim
  have hbytes : (es.length + ys.length) * f.bytes ≤ 140737488355328 := by
    have : (es.length + ys.length) * f.bytes ≤ 4294967296 * 4096 := Nat.mul_le_mul hlim' hb
    omega
  have new : ∀ cap, es.length + ys.length ≤ cap → cap ≤ maxLen →
      Sim C S Fp ((w.heap.size :: (F ++ G)) ++ []) st a (w.drew.alloc (.cells (olds.toArray ++ news.toArray ++ Builtin.zeroCells zv.cells (cap - (es.length + ys.length))) e)) ∧
      zH S (w.drew.alloc (.cells (olds.toArray ++ news.toArray ++ Builtin.zeroCells zv.cells (cap - (es.length + ys.length))) e)).heap (.osl f.size false (es ++ ys)) [.slice (some ⟨w.heap.size, 0, none⟩) (es ++ ys).length cap] (w.heap.size :: (F ++ G)) ∧ (w.heap.size :: (F ++ G)).Nodup := by
    intro cap hc1 hc2
    have := z37 (w := w.drew) (F := F ++ G) (by rw [List.append_nil]; exact h.drew) (es := es ++ ys) (l := olds ++ news) (arr := olds.toArray ++ news.toArray ++ Builtin.zeroCells zv.cells (cap - (es.length + ys.length))) (hes.append hys) hFn e (sz := f.size) (c := cap) (t := false) (by simp) (by simpa using hc1) hc2
      (by intro x hx; rcases List.mem_append.1 hx with h | h; exact hsz1 x h; exact hsz2 x h)
      (by simp only [Array.size_append, List.size_toArray, size_zeroCells, hzs, hl1, hl2, ← Nat.add_mul]; congr 1; omega)
      (by
        simp only [Array.toList_append, List.length_append]
        rw [show (es.length + ys.length) * f.size = (olds ++ news).length from by rw [List.length_append, hl1, hl2, Nat.add_mul]]
        exact List.take_left) _ rfl
    exact this
  rcases hp with ⟨rfl, rfl, rfl⟩ | ⟨b, rfl, hb⟩
  · simp only [zL] at hes
    obtain ⟨rfl, rfl⟩ := hes
    have hr := run_append_nil (P := P) w t ty e f zv ht hi hz ad ys.length d news hl2 hnews (by simpa using hg) (by simp at hlim'; omega) (by simp only [List.length_nil, Nat.zero_add] at hbytes; omega)
    have hge := grownCap_ge w ys.length 0 e
    have ⟨q1, q2, q3⟩ := new (grownCap w ys.length 0 e) (by simpa using hge) (grownCap_le_maxLen w _ 0 e (by unfold maxLen; simp at hlim'; omega))
    simp only [List.nil_append, List.length_nil, Nat.zero_add, Array.empty_append] at q1 q2 q3 hr ⊢
    exact ⟨_, _, hr, _, q1, q3, _, q2, rfl⟩
  · have hr := run_append_grow (P := P) w t ty e f zv ht hi hz b es.length c olds hl1 hb ad ys.length d news hl2 hnews hg (by omega) (growslice_fits hg hbytes)
    have hge := grownCap_ge w (es.length + ys.length) c e
    have ⟨q1, q2, q3⟩ := new (grownCap w (es.length + ys.length) c e) hge (grownCap_le_maxLen w _ c e (by unfold maxLen; omega))
    refine ⟨_, _, hr, _, q1, q3, _, q2, ?_⟩
    simp [yc]
theorem z1Y {b o : Nat}  (h : Sim C S Fp X st a w) (hl : z2Q S b o l) : ∀ j v, l[j]? = some v → w.cell? ((⟨b, o, none⟩ : Addr).add j) = some v := by
 intro j v hj
 rw [Addr.add_lit, Wd]
 exact h.still _ _ _ (hl j v hj)
theorem z1K (h : Sim C S Fp X st a w)   {ys : List A} (hy : (∃ t, y = .sl sz t ys) ∨ ∃ t, y = .osl sz t ys) (hD : A.areD ys = true)  (q : we S y v ∨ ∃ cs F, zH S w.heap y cs F ∧ v = yc y cs) :
  ∃ p d news, v = .slice p ys.length d ∧ yw S ys news ∧ (∀ x ∈ ys, x.size = sz) ∧ ((ys = [] ∧ news = []) ∨ ∃ ad, p = some ad ∧ ∀ j u, news[j]? = some u → w.cell? (ad.add j) = some u) := by
 rcases hy with ⟨t, rfl⟩ | ⟨t, rfl⟩
 ·have : ∃ cs, Rep S (.sl sz t ys) cs ∧ v = yc (.sl sz t ys) cs := by
   rcases q with q | ⟨cs, F, q1, q2⟩
   ·exact q
   ·exact ⟨cs, (q1.isD rfl).1, q2⟩
  obtain ⟨cs, r1, rfl⟩ := this
  simp only [Rep] at r1
  obtain ⟨p, c, rfl, _, _, h4, h5⟩ := r1
  rcases h5 with rfl | ⟨b, o, l, rfl, r2, r3⟩
  ·exact ⟨p, c, [], rfl, by simp [yw], by simp, .inl ⟨rfl, rfl⟩⟩
  ·exact ⟨_, c, l, rfl, r2, h4, .inr ⟨_, rfl, z1Y h r3⟩⟩
 ·rcases q with ⟨cs, q, _⟩ | ⟨cs, F, q1, rfl⟩
  ·simp [Rep] at q
  ·simp only [zH] at q1
   obtain ⟨p, c, rfl, _, _, _, h4, h5⟩ := q1
   rcases h5 with ⟨rfl, _, rfl, _⟩ | ⟨b, arr, ty, l, F', rfl, k1, k2, k3, k4, _, _⟩
   ·exact ⟨none, c, [], rfl, by simp [yw], by simp, .inl ⟨rfl, rfl⟩⟩
   ·refine ⟨_, c, l, rfl, (k4.areD hD).1, h4, .inr ⟨_, rfl, ?_⟩⟩
    intro j u hj
    rw [Addr.add_lit, Wd]
    simp only [yj, k1]
    rw [← k3, List.getElem?_take] at hj
    split at hj
    ·simpa using hj
    ·cases hj
theorem z0B {P : Program} {t ty e : TypeId}   (ht : P.underlying t = some (.slice e)) (hi : P.info? e = some f) (hz : f.zero = some zv) (hzs : zv.cells.size = f.size)
    {F G : List Nat} (h : Sim C S Fp (F ++ G) st a w) {tg : Bool} {es ys : List A} {cs : List Value} (hc : zH S w.heap (.osl f.size tg es) cs F) (hFn : (F ++ G).Nodup)
    {p : Option Addr} {d : Nat} {news : List Value} (hr : zL S w.heap ys news G) (hsz2 : ∀ x ∈ ys, x.size = f.size) (hsrc : (ys = [] ∧ news = []) ∨ ∃ ad, p = some ad ∧ ∀ j u, news[j]? = some u → w.cell? (ad.add j) = some u)
    (hlim : es.length + ys.length ≤ lim) (hb : f.bytes ≤ 4096) (hpl : A.plains ys = true) :
    ∃ v w', (Builtin.append_ #[t, t] ty #[yc (.osl f.size tg es) cs, .slice p ys.length d]).run P w = .ok v w' ∧ ∃ F', Sim C S Fp (F' ++ []) st a w' ∧ F'.Nodup ∧ ∃ cs', zH S w'.heap (.osl f.size false (es ++ ys)) cs' F' ∧ v = yc (.osl f.size false (es ++ ys)) cs' := by
  have hc0 := hc
  simp only [zH] at hc
  obtain ⟨q, c, rfl, t1, t2, t3, t4, t5⟩ := hc
  by_cases hy0 : ys = []
  · subst hy0
    simp only [zL] at hr
    obtain ⟨rfl, rfl⟩ := hr
    refine ⟨_, w, JY ht hi q p es.length c d t2 w, F, h, by simpa using hFn, [.slice q es.length c], ?_, ?_⟩
    · simp only [zH] at hc0 ⊢
      have ⟨q', c', h1, _, h3⟩ := hc0
      exact ⟨q', c', by simpa using h1, by simp, by simpa using h3⟩
    · simp [yc]
  · have hpos : 0 < ys.length := List.length_pos_iff.2 hy0
    rcases hsrc with ⟨hy, _⟩ | ⟨ad, rfl, hnews⟩
    · exact absurd hy hy0
    have hl2 : news.length = ys.length * f.size := by rw [hr.len, A.sizes_const hsz2]
    have hysc := hr
    rcases t5 with ⟨rfl, rfl, rfl, rfl⟩ | ⟨b, arr, bty, l, F', rfl, k1, k2, k3, k4, rfl, k6⟩
    · exact VZ ht hi hz hzs h (es := []) (olds := []) (by simp [zL]) hFn hysc (by simp) hsz2 (.inl ⟨rfl, rfl, rfl⟩) hnews (by simpa using hpos) hlim hb hpos
    · have hl1 : l.length = es.length * f.size := by rw [k4.len, A.sizes_const t4]
      have hF' := List.nodup_cons.1 (show (b :: (F' ++ G)).Nodup from hFn)
      by_cases hroom : es.length + ys.length ≤ c
      · have hfit : es.length * f.size + news.length ≤ arr.size := Nat.le_trans (by rw [hl2, ← Nat.add_mul]; exact Nat.mul_le_mul_right _ hroom) k2
        have hrun := Jg (P := P) (ty := ty) ht hi w b es.length c arr k1 ad ys.length d news hl2 hnews (fun u hu => (hr.one u hu).2 hpl) hroom hfit
        let w' := w.setRow b (WP arr (es.length * f.size) news)
        have hheap : ∀ k, k ≠ b → w'.heap[k]? = w.heap[k]? := fun k hk => setRow_other w b k _ hk
        have hheapb : w'.heap[b]? = some (.cells (WP arr (es.length * f.size) news) bty (0, 0)) := setRow_heap w b arr _ bty (0, 0) k1
        have hbF : ∀ t', b ∉ Fp t' := fun t' => h.xd t' b (by simp)
        have hbase : C.M b := h.xb b (by simp)
        refine ⟨_, w', hrun, b :: (F' ++ G), ?_, hFn, [.slice (some ⟨b, 0, none⟩) (es.length + ys.length) c], ?_, rfl⟩
        · refine h.mem (h.below.trans ⟨rfl, rfl, rfl, Nat.le_refl _, by simp [w'], fun k hk => hheap k (fun e => hk (e ▸ hbase))⟩) (fun _ _ _ h => h) ?_ h.sbase (fun t' k hk => ⟨hheap k (by rintro rfl; exact hbF t' hk), (h.free t' k hk).2.1⟩) (by simpa using hFn) (by simpa using h.xd) (by simpa using h.xb)
          intro b' o' v hs
          rw [wv (h := w.heap) (h' := w'.heap) (hheap b' (by rintro rfl; rw [k6] at hs; cases hs))]
          exact h.still b' o' v hs
        · simp only [zH, List.length_append]
          refine ⟨_, c, rfl, by simp, hroom, t3, ?_, .inr ⟨b, WP arr (es.length * f.size) news, bty, l ++ news, F' ++ G, rfl, hheapb, by simp [k2], ?_, ?_, rfl, k6⟩⟩
          · intro x hx
            rcases List.mem_append.1 hx with h | h
            · exact t4 x h
            · exact hsz2 x h
          · apply List.ext_getElem?
            intro k
            have hle : es.length * f.size ≤ arr.size := by omega
            rw [List.getElem?_take, Array.getElem?_toList, jE, Nat.add_mul]
            by_cases hk : k < es.length * f.size
            · rw [if_pos (by omega), if_neg (by omega), List.getElem?_append_left (by omega), ← k3, List.getElem?_take, if_pos hk, Array.getElem?_toList]
              cases arr[k]? <;> rfl
            · by_cases hk2 : k < es.length * f.size + ys.length * f.size
              · rw [if_pos hk2, if_pos (by omega), List.getElem?_append_right (by omega), hl1, Array.getElem?_eq_getElem (by omega), List.getElem?_eq_getElem (by omega)]
                rfl
              · rw [if_neg hk2, List.getElem?_eq_none (by rw [List.length_append]; omega)]
          · exact zL.append (k4.frame (S' := S) (h' := w'.heap) (fun _ _ _ h => h) (fun k hk => ⟨hheap k (by rintro rfl; exact hF'.1 (by simp [hk])), (k4.own k hk).2.1⟩))
              (hr.frame (S' := S) (h' := w'.heap) (fun _ _ _ h => h) (fun k hk => ⟨hheap k (by rintro rfl; exact hF'.1 (by simp [hk])), (hr.own k hk).2.1⟩))
      · have hold : ∀ j v, l[j]? = some v → w.cell? ((⟨b, 0, none⟩ : Addr).add j) = some v := by
          intro j u hj
          rw [Addr.add_lit, Wd]
          simp only [yj, k1]
          rw [← k3, List.getElem?_take] at hj
          split at hj
          · simpa using hj
          · cases hj
        have hsub : Sim C S Fp (F' ++ G) st a w := h.mem h.below (fun _ _ _ h => h) h.still.cell h.sbase (fun t' k hk => ⟨rfl, (h.free t' k hk).2.1⟩) hF'.2 (fun t' k hk => h.xd t' k (by simp at hk ⊢; exact .inr hk)) (fun k hk => h.xb k (by simp at hk ⊢; exact .inr hk))
        exact VZ ht hi hz hzs hsub k4 hF'.2 hysc t4 hsz2 (.inr ⟨_, rfl, hold⟩) hnews (by omega) hlim hb hpos
def z1r (tt : TT) (n : Fr) (dst : Option Nat) (t : Nat) (s x : Operand) : SM Unit := do
 let ts ← opnd s
 let tx ← opnd x
 let y ← peek tx
 match y with
 | .osl _ _ ys => if A.areD ys = true then appendA tt n dst t ts tx else appendOwnA tt n dst t s x
 | _ => appendA tt n dst t ts tx
theorem z0C (hT : wG P tt) (h : Sim C S Fp [] st a w)  {t : Nat} {s x : Operand} (ho : o.op = .call { callee := .builtin .append, args := #[s, x], argTypes := #[t, t] }) {ts tx : T} (hs : TOk S w.heap st (Act.tv a) ts (a.eval s)) (hx : TOk S w.heap st (Act.tv a) tx (a.eval x))
    {u : Unit} {R : List Nat} {U : List (Nat × Ent)} (e : appendA tt C.n o.dst t ts tx st = some (u, R, U)) : qE P C o a w (zl U st) := by
  unfold appendA at e
  cases ht : tt t with
  | none => simp only [ht] at e; cases e
  | some it =>
    have ⟨kd, a1, a2, a3, a4⟩ := it
    cases kd with
    | slice el =>
      simp only [ht] at e
      have hel : P.underlying t = some (.slice el) := (hT _ _ ht).kind
      cases hi : tt el with
      | none => simp only [hi] at e; cases e
      | some i =>
        simp only [hi] at e
        have ⟨f, f1, f2, f3, f4⟩ := (hT _ _ hi).info
        obtain ⟨y, R1, U1, R2, U2, h1, e1, rfl, rfl⟩ := bind_some e
        obtain ⟨rfl, q⟩ := Ql h hx h1
        simp only [zl, List.nil_append] at e1 ⊢
        have main : ∀ (sz : Nat) (ys : List A), ((∃ tg, y = .sl sz tg ys) ∨ ∃ tg, y = .osl sz tg ys) →
            (if sz = i.size ∧ A.areD ys = true ∧ i.bytes ≤ 4096 ∧ 0 < i.size ∧ i.zero.isSome = true then (do
              let z ← takeC tt t ts
              match z with
              | .osl sz' tg es => if sz' = i.size ∧ es.length + ys.length ≤ lim then wrT C.n o.dst (.own (.osl sz' false (es ++ ys))) else zt
              | .sl sz' tg es => if sz' = i.size ∧ es.length + ys.length ≤ lim ∧ tg = true ∧ ys ≠ [] ∧ A.areD es = true then wrT C.n o.dst (.own (.osl sz' false (es ++ ys))) else zt
              | _ => zt : SM Unit) else zt) st = some (u, R2, U2) → qE P C o a w (zl U2 st) := by
          intro sz ys hy e2
          split at e2
          · rename_i hcond
            obtain ⟨rfl, c2, c3, c4, c5⟩ := hcond
            have ⟨z0, hz0⟩ := Option.isSome_iff_exists.1 c5
            have ⟨zv, v1, v2, v3⟩ := f4 z0 hz0
            have hzs : zv.cells.size = f.size := by
              have := (v3 (fun _ _ => none) #[]).len
              rw [v2, ← f2] at this
              simpa using this
            have ⟨p, d, news, ev, r1, r2, r3⟩ := z1K h hy c2 q
            obtain ⟨z, R3, U3, R4, U4, h3, e4, rfl, rfl⟩ := bind_some e2
            have ⟨Fp', F, g1, g2⟩ := XM h hs h3
            rw [zz]
            have fin : ∀ v w', (Builtin.append_ #[t, t] o.type #[a.eval s, a.eval x]).run P w = .ok v w' → (execOp a.eval o).run P w = .ok (.value v) w' := by
              intro v w' hrun
              simp [execOp, ho, resolve, invoke, builtin, hrun]
            cases z with
            | osl sz' tg es =>
              simp only at e4
              split at e4
              · rename_i hc
                obtain ⟨rfl, hlim⟩ := hc
                have ⟨cs, k1, k2, k3⟩ := g2.cells (by simp)
                rw [← f2] at k1 k3 r2 e4
                obtain ⟨v, w', hrun, F', m1, m2, cs', m3, rfl⟩ := z0B (ty := o.type) hel f1 v1 hzs g1 k1 (by simpa using k2) (p := p) (d := d) (r1.concs w.heap) r2 r3 hlim (by omega) r1.plain
                have ⟨Fp'', hs'⟩ := Xv m1 e4 m3 m2
                exact zr (fin _ _ (by rw [k3, ev]; exact hrun)) hs'
              · cases e4
            | sl sz' tg es =>
              simp only at e4
              split at e4
              · rename_i hc
                obtain ⟨rfl, hlim, rfl, hne, hD⟩ := hc
                have hrep : ∃ cs, Rep S (.sl i.size true es) cs ∧ a.eval s = yc (.sl i.size true es) cs ∧ F = [] := by
                  rcases g2 with ⟨q, rfl⟩ | ⟨cs, q1, q2, q3⟩
                  · simp only [we] at q
                    have ⟨cs, q1, q2⟩ := q
                    exact ⟨cs, q1, q2, rfl⟩
                  · exact ⟨cs, (q1.isD rfl).1, q3, (q1.isD rfl).2⟩
                obtain ⟨cs, q1, q2, rfl⟩ := hrep
                simp only [Rep] at q1
                obtain ⟨pp, c, rfl, t1, t2, t3, t4⟩ := q1
                have hcl := t1 trivial
                subst hcl
                have hpos : 0 < ys.length := List.length_pos_iff.2 hne
                rcases r3 with ⟨hy, _⟩ | ⟨ad, rfl, hnews⟩
                · exact absurd hy hne
                rw [← f2] at t3 r2 e4
                have hold : ∃ olds, yw S es olds ∧ ((pp = none ∧ es = [] ∧ es.length = 0) ∨ ∃ b, pp = some b ∧ ∀ j v, olds[j]? = some v → w.cell? (b.add j) = some v) := by
                  rcases t4 with rfl | ⟨b, o', l, rfl, k1, k2⟩
                  · cases pp with
                    | none => exact ⟨[], by simp [yw], .inl ⟨rfl, rfl, rfl⟩⟩
                    | some b => exact ⟨[], by simp [yw], .inr ⟨b, rfl, by simp⟩⟩
                  · exact ⟨l, k1, .inr ⟨_, rfl, z1Y h k2⟩⟩
                have ⟨olds, n1, n2⟩ := hold
                obtain ⟨v, w', hrun, F', m1, m2, cs', m3, rfl⟩ := VZ (ty := o.type) hel f1 v1 hzs g1 (n1.concs w.heap) (by simp) (r1.concs w.heap) t3 r2 n2 (d := d) hnews (by omega) hlim (by omega) hpos
                have ⟨Fp'', hs'⟩ := Xv m1 e4 m3 m2
                exact zr (fin _ _ (by rw [q2, ev]; exact hrun)) hs'
              · cases e4
            | _ => cases e4
          · cases e2
        cases y with
        | sl sz tg ys => exact main sz ys (.inl ⟨tg, rfl⟩) e1
        | osl sz tg ys => exact main sz ys (.inr ⟨tg, rfl⟩) e1
        | _ => cases e1
    | _ => simp only [ht] at e; cases e
theorem z1q (hT : wG P tt) (h : Sim C S Fp [] st a w)  {t : Nat} {s x : Operand} (ho : o.op = .call { callee := .builtin .append, args := #[s, x], argTypes := #[t, t] })
    {u : Unit} {R : List Nat} {U : List (Nat × Ent)} (e : appendOwnA tt C.n o.dst t s x st = some (u, R, U)) : qE P C o a w (zl U st) := by
  unfold appendOwnA at e
  cases ht : tt t with
  | none => simp only [ht] at e; cases e
  | some it =>
    have ⟨kd, a1, a2, a3, a4⟩ := it
    cases kd with
    | slice el =>
      simp only [ht] at e
      have hel : P.underlying t = some (.slice el) := (hT _ _ ht).kind
      cases hi : tt el with
      | none => simp only [hi] at e; cases e
      | some i =>
        simp only [hi] at e
        have ⟨f, f1, f2, f3, f4⟩ := (hT _ _ hi).info
        split at e
        · rename_i hcond
          have ⟨c3, c4, c5⟩ := hcond
          have ⟨z0, hz0⟩ := Option.isSome_iff_exists.1 c5
          have ⟨zv, v1, v2, v3⟩ := f4 z0 hz0
          have hzs : zv.cells.size = f.size := by
            have := (v3 (fun _ _ => none) #[]).len
            rw [v2, ← f2] at this
            simpa using this
          have ⟨tx, _, hx, e1⟩ := bR (zD h) e
          obtain ⟨y, R3, U3, R4, U4, h3, e2, rfl, rfl⟩ := bind_some e1
          have ⟨Fp1, G, g1, g2⟩ := z0N h hx h3
          have ⟨ts, _, hs, e3⟩ := bR (zD g1) e2
          obtain ⟨z, R7, U7, R8, U8, h7, e4, rfl, rfl⟩ := bind_some e3
          have ⟨Fp2, F, k1, k2⟩ := XM g1 hs h7
          rw [zz, zz]
          have fin : ∀ v w', (Builtin.append_ #[t, t] o.type #[a.eval s, a.eval x]).run P w = .ok v w' → (execOp a.eval o).run P w = .ok (.value v) w' := by
            intro v w' hrun
            simp [execOp, ho, resolve, invoke, builtin, hrun]
          cases y with
          | osl sz tgy ys =>
            cases z with
            | osl sz' tg es =>
              simp only at e4
              split at e4
              · rename_i hc
                obtain ⟨rfl, rfl, hpl, hlim⟩ := hc
                have ⟨cs, m1, m2, m3⟩ := k2.cells (by simp)
                have ⟨ds, n1, n2, n3⟩ := Has.cells g2 (by simp)
                rw [← f2] at m1 m3 e4 n1
                simp only [zH] at n1
                obtain ⟨p, d, rfl, _, _, _, t4, t5⟩ := n1
                have hxn := k1.xn
                rw [List.append_nil] at hxn
                have fin2 : ∀ (G' : List Nat) (news : List Value), zL S w.heap ys news G' → (∀ k ∈ G', k ∈ G) → G'.Nodup → ((ys = [] ∧ news = []) ∨ ∃ ad, p = some ad ∧ ∀ j u, news[j]? = some u → w.cell? (ad.add j) = some u) → qE P C o a w (zl U8 (zl U7 (zl U3 st))) := by
                  intro G' news q1 q2 q3 q4
                  have hsub : Sim C S Fp2 (F ++ G') (zl U7 (zl U3 st)) a w := k1.mem k1.below (fun _ _ _ h => h) k1.still.cell k1.sbase (fun t' k hk => ⟨rfl, (k1.free t' k hk).2.1⟩)
                    (by
                      rw [List.nodup_append] at hxn ⊢
                      exact ⟨hxn.1, q3, fun k hk k' hk' => hxn.2.2 k hk k' (q2 k' hk')⟩)
                    (fun t' k hk => k1.xd t' k (by simp at hk ⊢; exact hk.imp id (q2 k))) (fun k hk => k1.xb k (by simp at hk ⊢; exact hk.imp id (q2 k)))
                  obtain ⟨v, w', hrun, F', r1, r2, cs', r3, rfl⟩ := z0B (ty := o.type) hel f1 v1 hzs hsub m1 hsub.xn (p := p) (d := d) q1 t4 q4 hlim (by omega) hpl
                  have ⟨Fp'', hs'⟩ := Xv r1 e4 r3 r2
                  exact zr (fin _ _ (by rw [m3, n3]; exact hrun)) hs'
                rcases t5 with ⟨rfl, rfl, rfl, rfl⟩ | ⟨b, arr, bty, l, G', rfl, q1, q2, q3, q4, rfl, q6⟩
                · exact fin2 [] [] (by simp [zL]) (by simp) (by simp) (.inl ⟨rfl, rfl⟩)
                · refine fin2 G' l q4 (fun k hk => by simp [hk]) (List.nodup_cons.1 n2).2 (.inr ⟨_, rfl, ?_⟩)
                  intro j u hj
                  rw [Addr.add_lit, Wd]
                  simp only [yj, q1]
                  rw [← q3, List.getElem?_take] at hj
                  split at hj
                  · simpa using hj
                  · cases hj
              · cases e4
            | _ => cases e4
          | _ => cases z <;> cases e4
        · cases e
    | _ => simp only [ht] at e; cases e
theorem z6C (hT : wG P tt) (h : Sim C S Fp [] st a w)  {t : Nat} {s x : Operand} (ho : o.op = .call { callee := .builtin .append, args := #[s, x], argTypes := #[t, t] })
    {u : Unit} {R : List Nat} {U : List (Nat × Ent)} (e : z1r tt C.n o.dst t s x st = some (u, R, U)) : qE P C o a w (zl U st) := by
  unfold z1r at e
  have ⟨ts, _, hs, e1⟩ := bR (zD h) e
  have ⟨tx, _, hx, e2⟩ := bR (zD h) e1
  have ⟨y, _, _, e3⟩ := bR (Ql h hx) e2
  cases y with
  | osl sz tg ys =>
    simp only at e3
    split at e3
    · exact z0C hT h ho hs hx e3
    · exact z1q hT h ho e3
  | _ => exact z0C hT h ho hs hx e3
end
variable {parts : Array (Nat × Value)}{ps : Array (Nat × Operand)}
section
variable {C : Ctx} {S : zn} {Fp : Nat → List Nat} {X : List Nat} {st : St} {a : Act} {w : World}
def YO (S : zn) (h : Array Obj) : List A → List Value → List Nat → Prop
 | [], [], F => F = []
 | y :: ys, v :: vs, F => ∃ F1 F2, F = F2 ++ F1 ∧ Has S h y v F1 ∧ YO S h ys vs F2
 | _, _, _ => False
theorem z0M : ∀ {ps : List (Operand × Nat)} {Fp : Nat → List Nat} {X : List Nat} {st : St}, Sim C S Fp X st a w → ∀ {xs : List A} {R : List Nat} {U : List (Nat × Ent)}, takes ps tt st = some (xs, R, U) →
  ∃ Fp' G, Sim C S Fp' (G ++ X) (zl U st) a w ∧ YO S w.heap xs (ps.map fun p => a.eval p.1) G
 | [], Fp, X, st, h, xs, R, U, e => by
  cases e
  exact ⟨Fp, [], h, rfl⟩
 | (x, t) :: ps, Fp, X, st, h, xs, R, U, e => by
  simp [takes] at e
  have ⟨y, _, hx, e1⟩ := bR (zD h) e
  obtain ⟨z, R3, U3, R4, U4, h3, e2, rfl, rfl⟩ := bind_some e1
  have ⟨Fp1, F, g1, g2⟩ := XM h hx h3
  obtain ⟨bs, R5, U5, R6, U6, h5, e3, rfl, rfl⟩ := bind_some e2
  have ⟨Fp2, G, k1, k2⟩ := z0M g1 h5
  cases e3
  refine ⟨Fp2, G ++ F, ?_, F, G, rfl, g2, k2⟩
  rw [List.append_nil, zz, List.append_assoc]
  exact k1
theorem z2B (off : Nat) : ∀ (l : List Value) (k : Nat) (arr : Array Value), (l.zipIdx k).foldl (fun cs x => cs.setIfInBounds (off + x.2) x.1) arr = WP arr (off + k) l
 | [], k, arr => by simp [List.zipIdx_nil, List.foldl_nil]; rw [Xz (by intro j v hj; simp at hj)]
 | v :: l, k, arr => by
  rw [List.zipIdx_cons, List.foldl_cons, z2B off l]
  apply Array.ext_getElem?
  intro j
  rw [jE, jE, Array.getElem?_setIfInBounds]
  by_cases hj : off + k = j
  ·subst hj
   rw [if_pos rfl, if_pos (Nat.le_refl _), if_neg (by omega)]
   cases ha : arr[off + k]? with
   | none => rw [if_neg (by intro hlt; rw [Array.getElem?_eq_getElem hlt] at ha; cases ha)]; simp
   | some u => rw [if_pos (Array.getElem?_eq_some_iff.1 ha).1]; simp
  ·rw [if_neg hj]
   by_cases h1 : off + k ≤ j
   ·rw [if_pos (by omega), if_pos h1, show j - (off + k) = (j - (off + (k + 1))) + 1 from by omega, List.getElem?_cons_succ]
   ·rw [if_neg h1, if_neg (by omega)]
theorem z5E (c1 ci c2 cz : List Value) (h : cz.length = ci.length) : WP (c1 ++ ci ++ c2).toArray c1.length cz = (c1 ++ cz ++ c2).toArray := by
 have hs : KT (c1 ++ ci ++ c2).toArray 0 (c1 ++ ci ++ c2) := fun j v hj => by simpa using hj
 have := Jx hs h
 rw [Nat.zero_add] at this
 rw [← this]
 apply Array.ext_getElem?
 intro k
 rw [jE]
 simp only [Nat.zero_le, if_true, Nat.sub_zero, List.getElem?_toArray]
 by_cases hk : k < (c1 ++ cz ++ c2).length
 ·have hk' : k < (c1 ++ ci ++ c2).length := by simp at hk ⊢; omega
  rw [List.getElem?_eq_getElem hk', List.getElem?_eq_getElem hk]; rfl
 ·have hk' : ¬ k < (c1 ++ ci ++ c2).length := by simp at hk ⊢; omega
  rw [List.getElem?_eq_none (by omega), List.getElem?_eq_none (by omega)]; rfl
theorem z3m {h : Array Obj} {place : Nat → Option (Nat × Nat)} : ∀ {ps : List (Nat × A)} {vs : List Value} {es : List A} {l : List Value} {F G : List Nat},
  zL S h es l F → (G ++ F).Nodup → YO S h (ps.map (·.2)) vs G →
  (∀ p ∈ ps, ∃ y, es[p.1]? = some y ∧ p.2.size = y.size ∧ (p.2.isAgg = true ∨ p.2.size = 1) ∧ (∀ fs, p.2 ≠ .tup fs)) →
  (∀ i y, es[i]? = some y → (∃ p ∈ ps, p.1 = i) → place i = some (A.sizes (es.take i), y.size)) →
  ∃ l' F', Instr.fill place l.toArray ((ps.map (·.1)).zip vs) = some l'.toArray ∧ zL S h (Qe es ps) l' F' ∧ F'.Nodup ∧ ∀ k ∈ F', k ∈ G ++ F
 | [], [], es, l, F, G, hc, hn, hh, _, _ => by
  simp only [List.map_nil, YO] at hh
  subst hh
  exact ⟨l, F, rfl, hc, by simpa using hn, fun k hk => by simpa using hk⟩
 | [], _ :: _, _, _, _, _, _, _, hh, _, _ => by simp [YO] at hh
 | p :: ps, [], _, _, _, _, _, _, hh, _, _ => by simp [YO] at hh
 | (i, z) :: ps, v :: vs, es, l, F, G, hc, hn, hh, hp, hpl => by
  simp only [List.map_cons, YO] at hh
  obtain ⟨F1, F2, rfl, q1, q2⟩ := hh
  have ⟨y, hy, hsz, hag, hnt⟩ := hp (i, z) (by simp)
  have ⟨cz, z1, z2, z3⟩ := q1.cells hnt
  obtain ⟨c1, ci, c2, G1, Gi, G2, rfl, rfl, hl1, hxi, hup⟩ := zL.split hc hy
  have hlen : cz.length = ci.length := by rw [z1.len, hxi.len]; exact hsz
  have hcl : v.cells = cz.toArray := by rw [z3]; exact Ym z1.na (hag.imp id (fun h => by rw [z1.len]; exact h))
  have hpi := hpl i y hy ⟨(i, z), by simp, rfl⟩
  have hown := hc.own
  have hset := hup S h z cz F1 (fun _ _ _ h => h) (fun k hk => ⟨rfl, (hown k (by rcases hk with hk | hk <;> simp [hk])).2.1⟩) z1
  rw [List.append_assoc, List.nodup_append] at hn
  have ⟨n1, n2, n3⟩ := hn
  rw [List.nodup_append] at n2
  have ⟨n4, n5, n6⟩ := n2
  rw [List.append_assoc, List.nodup_append] at n5
  have ⟨m1, m2, m3⟩ := n5
  rw [List.nodup_append] at m2
  have ⟨m4, m5, m6⟩ := m2
  have hnod : (F2 ++ (G1 ++ F1 ++ G2)).Nodup := by
   rw [List.nodup_append]
   refine ⟨n1, ?_, ?_⟩
   ·rw [List.append_assoc, List.nodup_append]
    refine ⟨m1, ?_, ?_⟩
    ·rw [List.nodup_append]
     exact ⟨n4, m5, fun k hk k' hk' => n6 k hk k' (by simp [hk'])⟩
    ·rintro k hk k' hk' rfl
     rcases List.mem_append.1 hk' with hk' | hk'
     ·exact n6 k hk' k (by simp [hk]) rfl
     ·exact m3 k hk k (by simp [hk']) rfl
   ·rintro k hk k' hk' rfl
    refine n3 k hk k ?_ rfl
    simp only [List.mem_append] at hk' ⊢
    rcases hk' with (hk' | hk') | hk'
    ·exact .inr (.inl (.inl hk'))
    ·exact .inl hk'
    ·exact .inr (.inr hk')
  have hsizes : ∀ j, A.sizes ((es.set i z).take j) = A.sizes (es.take j) := by
   intro j
   rw [A.sizes_eq, A.sizes_eq]
   congr 1
   apply List.ext_getElem?
   intro k
   simp only [List.getElem?_map, List.getElem?_take, List.getElem?_set]
   split
   ·split
    ·rename_i hik
     subst hik
     split
     ·rw [hy]; simp [hsz]
     ·rename_i hlt; exact absurd (List.getElem?_eq_some_iff.1 hy).1 hlt
    ·rfl
   ·rfl
  have hgetset : ∀ (j : Nat) (u : A), (es.set i z)[j]? = some u → ∃ u' : A, es[j]? = some u' ∧ u.size = u'.size := by
   intro j u hj
   rw [List.getElem?_set] at hj
   split at hj
   ·rename_i hij
    subst hij
    split at hj
    ·cases hj; exact ⟨y, hy, hsz⟩
    ·cases hj
   ·exact ⟨u, hj, rfl⟩
  have ih := z3m (place := place) (ps := ps) (vs := vs) (es := es.set i z) (l := c1 ++ cz ++ c2) (F := G1 ++ F1 ++ G2) (G := F2) hset hnod q2
   (fun p hp' => by
    have ⟨y', hy', h1, h2, h3⟩ := hp p (by simp [hp'])
    by_cases hij : i = p.1
    ·refine ⟨z, ?_, ?_, h2, h3⟩
     ·rw [← hij, List.getElem?_set_self (List.getElem?_eq_some_iff.1 hy).1]
     ·rw [h1, hsz]
      rw [← hij, hy] at hy'
      simp only [Option.some.injEq] at hy'
      rw [← hy']
    ·exact ⟨y', by rw [List.getElem?_set_ne hij]; exact hy', h1, h2, h3⟩)
   (fun j u hj hex => by
    have ⟨u', hu', hus⟩ := hgetset j u hj
    rw [hsizes, hus]
    refine hpl j u' hu' ?_
    have ⟨p, hp1, hp2⟩ := hex
    exact ⟨p, by simp [hp1], hp2⟩)
  have ⟨l', F', r1, r2, r3, r4⟩ := ih
  refine ⟨l', F', ?_, by simpa only [Qe] using r2, r3, ?_⟩
  ·simp only [List.map_cons, List.zip_cons_cons, Instr.fill, hpi, hcl, List.size_toArray]
   have hcond : (decide (cz.length ≠ y.size) || decide (A.sizes (es.take i) + cz.length > (c1 ++ ci ++ c2).length)) = false := by
    have h1 : cz.length = y.size := by rw [z1.len]; exact hsz
    have h2 : A.sizes (es.take i) + cz.length ≤ (c1 ++ ci ++ c2).length := by rw [← hl1, hlen]; simp
    simp [h1]; rw [← h1]; simpa using h2
   rw [hcond]
   simp only [Bool.false_eq_true, if_false]
   have hfold : Array.foldl (fun cs x => cs.setIfInBounds (A.sizes (List.take i es) + x.2) x.1) (c1 ++ ci ++ c2).toArray cz.toArray.zipIdx = (c1 ++ cz ++ c2).toArray := by
    rw [← Array.foldl_toList]
    simp only [Array.toList_zipIdx]
    rw [z2B (A.sizes (List.take i es)) cz 0, Nat.add_zero, ← hl1]
    exact z5E c1 ci c2 cz hlen
   rw [hfold]
   exact r1
  ·intro k hk
   have := r4 k hk
   simp only [List.mem_append] at this ⊢
   rcases this with h | (h | h) | h
   ·exact .inl (.inl h)
   ·exact .inr (.inl (.inl h))
   ·exact .inl (.inr h)
   ·exact .inr (.inr h)
def Kd (es : List A) (ps : List (Nat × A)) : Bool :=
 ps.all fun p => match es[p.1]? with | some y => p.2.size == y.size && (p.2.isAgg || p.2.size == 1) && !(match p.2 with | .tup _ => true | _ => false) | none => false
theorem z0m {ps : List (Nat × A)} (h : Kd es ps = true) : ∀ p ∈ ps, ∃ y, es[p.1]? = some y ∧ p.2.size = y.size ∧ (p.2.isAgg = true ∨ p.2.size = 1) ∧ (∀ fs, p.2 ≠ .tup fs) := by
 intro p hp
 have := List.all_eq_true.1 h p hp
 split at this
 ·rename_i y hy
  simp [Bool.and_eq_true, beq_iff_eq, Bool.or_eq_true] at this
  refine ⟨y, hy, this.1.1, this.1.2, ?_⟩
  intro fs hf
  rw [hf] at this
  simp at this
 ·cases this
def Zd (tt : TT) (n : Fr) (dst : Option Nat) (t len : Nat) (ps : List (Nat × Operand)) : SM Unit :=
 match tt t with
 | some ⟨.slice e, _, _, _, _⟩ =>
  match tt e with
  | some i =>
   match i.zero with
   | some z => do
    let xs ← takes (ps.map fun p => (p.2, e)) tt
    if Kd (List.replicate len z) ((ps.map (·.1)).zip xs) = true ∧ len * i.size ≤ 16777216 ∧ len ≤ lim then
     wrT n dst (.own (.osl i.size true (Qe (List.replicate len z) ((ps.map (·.1)).zip xs))))
    else zt
   | none => zt
  | none => zt
 | _ => zt
theorem WL : ∀ (ps : List (Nat × A)) (es : List A), (Qe es ps).length = es.length
 | [], _ => rfl
 | (i, a) :: ps, es => by simp [Qe, WL ps]
theorem JP : ∀ {ps : List (Operand × Nat)} {st : St} {xs : List A} {R : List Nat} {U : List (Nat × Ent)}, takes ps tt st = some (xs, R, U) → xs.length = ps.length
 | [], st, xs, R, U, e => by obtain ⟨rfl, _, _⟩ := wT e; rfl
 | (x, t) :: ps, st, xs, R, U, e => by
  simp [takes] at e
  obtain ⟨y, R1, U1, R2, U2, h1, e1, rfl, rfl⟩ := bind_some e
  obtain ⟨z, R3, U3, R4, U4, h3, e2, rfl, rfl⟩ := bind_some e1
  obtain ⟨bs, R5, U5, R6, U6, h5, e3, rfl, rfl⟩ := bind_some e2
  obtain ⟨rfl, _, _⟩ := wT e3
  simp [JP h5]
theorem Vk {sz len i : Nat} (hz : z.size = sz) (hi : i ≤ len) : A.sizes ((List.replicate len z).take i) = i * sz := by
 rw [List.take_replicate, Nat.min_eq_left hi, A.sizes_const (sz := sz) (fun x hx => by rw [List.eq_of_mem_replicate hx]; exact hz), List.length_replicate]
theorem z02 {t len e : Nat}   (ht : P.underlying t = some (.slice e)) (hi : P.info? e = some f) (hz : f.zero = some zv) (hlim : len * f.size ≤ 16777216) {parts : Array (Nat × Value)} {arr : Array Value}
  (hf : Instr.fill (fun i => some (i * f.size, f.size)) (madeCells zv.cells (len * f.size)) parts.toList = some arr) (w : World) :
  (Instr.buildSlice t len parts).run P w = .ok (.slice (some ⟨w.heap.size, 0, none⟩) len len) (w.alloc (.cells arr e)) := by
 have hlim' : ¬ (16777216 < len * f.size) := by omega
 by_cases h0 : len * f.size = 0
 ·have hm : madeCells zv.cells (len * f.size) = #[] := by rw [h0]; simp [madeCells]
  rw [hm] at hf
  simp [Instr.buildSlice, run_underlying ht, Go.sizeOf, typeInfo, hi, h0, Array.range_zero', hf, newRow]
 ·unfold madeCells at hf
  simp [Instr.buildSlice, run_underlying ht, Go.sizeOf, typeInfo, hi, hlim', h0, zeroValue, hz, hf, newRow]
theorem z1f {P : Program}  (hT : wG P tt) (h : Sim C S Fp [] st a w)  {t len : Nat}  (ho : o.op = .buildSlice t len ps) {u : Unit} {R : List Nat} {U : List (Nat × Ent)}
  (e : Zd tt C.n o.dst t len ps.toList st = some (u, R, U)) : qE P C o a w (zl U st) := by
 unfold Zd at e
 cases ht : tt t with
 | none => simp [ht] at e; cases e
 | some it =>
  obtain ⟨kd, a1, a2, a3, a4⟩ := it
  cases kd with
  | slice el =>
   simp [ht] at e
   have hel : P.underlying t = some (.slice el) := (hT _ _ ht).kind
   cases hi : tt el with
   | none => simp [hi] at e; cases e
   | some i =>
    simp [hi] at e
    cases hz : i.zero with
    | none => simp [hz] at e; cases e
    | some z =>
     simp [hz] at e
     obtain ⟨f, f1, f2, f3, f4⟩ := (hT _ _ hi).info
     obtain ⟨zv, v1, v2, v3⟩ := f4 z hz
     have hzs : zv.cells.size = f.size := by
      have := (v3 (fun _ _ => none) #[]).len
      rw [v2, ← f2] at this
      simpa using this
     obtain ⟨xs, R1, U1, R2, U2, h1, e1, rfl, rfl⟩ := bind_some e
     have hxl := JP h1
     obtain ⟨Fp', G, g1, g2⟩ := z0M h h1
     rw [zz]
     split at e1
     ·rename_i hcond
      obtain ⟨hok, hlim, hlen0⟩ := hcond
      have hps := z0m hok
      have hmap2 : ((ps.toList.map (·.1)).zip xs).map (·.2) = xs := List.map_snd_zip (by rw [hxl]; simp)
      have hmap1 : ((ps.toList.map (·.1)).zip xs).map (·.1) = ps.toList.map (·.1) := List.map_fst_zip (by rw [hxl]; simp)
      have hc0 := Yl (v3 S w.heap) len
      have hGn := g1.xn
      rw [List.append_nil] at hGn
      obtain ⟨l', F', r1, r2, r3, r4⟩ := z3m (h := w.heap) (place := fun i => some (i * f.size, f.size)) hc0 (by simpa using hGn) (by rw [hmap2]; exact g2) hps (by
       intro j y hj _
       have hj' := List.getElem?_eq_some_iff.1 hj
       obtain ⟨hjl, hjz⟩ := hj'
       simp [List.length_replicate] at hjl
       simp [List.getElem_replicate] at hjz
       subst hjz
       rw [Vk (sz := f.size) (by rw [v2, f2]) (by omega), v2, f2])
      have hszs : ∀ x ∈ Qe (List.replicate len z) ((ps.toList.map (·.1)).zip xs), x.size = i.size := by
       have gen : ∀ (qs : List (Nat × A)) (es : List A), (∀ x ∈ es, x.size = i.size) → (∀ q ∈ qs, q.2.size = i.size) → ∀ x ∈ Qe es qs, x.size = i.size := by
        intro qs
        induction qs with
        | nil => intro es h1 _ x hx; exact h1 x hx
        | cons q qs ih =>
         intro es h1 h2
         simp [Qe]
         refine ih _ (fun x hx => ?_) (fun q' hq' => h2 q' (by simp [hq']))
         rcases List.mem_or_eq_of_mem_set hx with hx | rfl
         ·exact h1 x hx
         ·exact h2 _ (by simp)
       refine gen _ _ (fun x hx => by rw [List.eq_of_mem_replicate hx]; exact v2) (fun q hq => ?_)
       obtain ⟨y, hy, hs, _⟩ := hps q hq
       rw [hs]
       have := List.mem_of_getElem? hy
       rw [List.eq_of_mem_replicate this]; exact v2
      have hlen' : l'.length = len * i.size := by rw [r2.len, A.sizes_const hszs, WL, List.length_replicate]
      have hsub : Sim C S Fp' (F' ++ []) (zl U1 st) a w := g1.mem g1.below (fun _ _ _ h => h) g1.still.cell g1.sbase (fun t' k hk => ⟨rfl, (g1.free t' k hk).2.1⟩) (by simpa using r3)
       (fun t' k hk => g1.xd t' k (by have := r4 k (by simpa using hk); simpa using this)) (fun k hk => g1.xb k (by have := r4 k (by simpa using hk); simpa using this))
      have hsl : (Qe (List.replicate len z) ((ps.toList.map (·.1)).zip xs)).length = len := by rw [WL, List.length_replicate]
      have hmx : len ≤ maxLen := by
       unfold maxLen
       have : len ≤ 4294967296 := hlen0
       omega
      obtain ⟨k1, k2, k3⟩ := z37 hsub r2 r3 el (sz := i.size) (c := len) (t := true) (fun _ => hsl.symm) (by omega) hmx hszs (arr := l'.toArray) (by simp [hlen']) (by rw [hsl, ← hlen']; simp) _ rfl
      obtain ⟨Fp'', hs⟩ := Xv k1 e1 k2 k3
      refine zr ?_ hs
      have hfill : Instr.fill (fun i => some (i * f.size, f.size)) (madeCells zv.cells (len * f.size)) (ps.toList.map fun x => (x.1, a.eval x.2)) = some l'.toArray := by
       rw [hmap1] at r1
       have e1 : (ps.toList.map (·.1)).zip ((ps.toList.map fun p => (p.2, el)).map fun p => a.eval p.1) = ps.toList.map fun x => (x.1, a.eval x.2) := by
        rw [List.map_map, List.zip_map']
        rfl
       rw [e1] at r1
       have e2 : madeCells zv.cells (len * f.size) = (List.replicate len zv.cells.toList).flatten.toArray := by
        have := Vz zv.cells len len (Nat.le_refl _)
        rw [hzs, List.take_of_length_le (by simp [madeCells])] at this
        rw [← this]
       rw [e2]
       exact r1
      have hpl : (ps.map fun x => match x with | (i, x) => (i, a.eval x)).toList = ps.toList.map fun x => (x.1, a.eval x.2) := by simp
      have hrun := z02 (P := P) hel f1 v1 (by rw [f2]; exact hlim) (parts := ps.map fun x => match x with | (i, x) => (i, a.eval x)) (by rw [hpl]; exact hfill) w
      simp [execOp, ho, hrun, Result.andThen_ok]
      simp [yc, hsl]
     ·cases e1
  | _ => simp [ht] at e; cases e
def Yi (tt : TT) (t : Nat) (i : Nat) : Option (Nat × Nat) :=
 match tt t with
 | some ⟨.struct offs, _, _, _, _⟩ => offs[i]?
 | some ⟨.array _ e, _, _, _, _⟩ => (tt e).map fun j => (i * j.size, j.size)
 | _ => none
def z3R (tt : TT) (t : Nat) (zs : List A) (ps : List (Nat × A)) : Bool :=
 ps.all fun p => match zs[p.1]? with | some y => Yi tt t p.1 == some (A.sizes (zs.take p.1), y.size) | none => false
def Kk : TK → Bool
 | .struct _ => true
 | _ => false
def z0y (tt : TT) (n : Fr) (dst : Option Nat) (t : Nat) (ps : List (Nat × Operand)) : SM Unit :=
 match tt t with
 | some i =>
  match i.zero with
  | some (.agg zs) => do
   let xs ← takes (ps.map fun p => (p.2, 0)) tt
   if Kd zs ((ps.map (·.1)).zip xs) = true ∧ z3R tt t zs ((ps.map (·.1)).zip xs) = true ∧ i.kind.isAgg = true ∧ ((Yi tt t 0).isSome = true ∨ Kk i.kind = true) then
    wrT n dst (mkT (.agg (Qe zs ((ps.map (·.1)).zip xs))))
   else zt
  | _ => zt
 | none => zt
theorem z3I {g : α → Sem β} {q : α → β} : ∀ (l : List α), (∀ x ∈ l, ∀ w, (g x).run P w = .ok (q x) w) → ∀ w, (l.mapM g).run P w = .ok (l.map q) w
 | [], _, w => by simp
 | x :: l, h, w => by
  have ih := z3I l (fun x hx => h x (by simp [hx])) w
  rw [List.mapM_cons, Sem.run_bind, h x (by simp) w]
  simp [Result.andThen_ok, ih, List.map_cons]
theorem z5c {f : Field}  (h : P.info? f.type = some i) (w : World) : (do pure (f.offset, ← Go.sizeOf f.type) : Sem (Nat × Nat)).run P w = .ok (f.offset, P.cellsOf f.type) w := by
 simp [Go.sizeOf, typeInfo, h, Program.cellsOf]
theorem z5e (hT : wG P tt)  {i : TI} (ht : tt t = some i) (hag : i.kind.isAgg = true)   (hi : P.info? t = some f) (hz : f.zero = some zv) {parts : Array (Nat × Value)} {arr : Array Value}
  (hf : Instr.fill (Yi tt t) zv.cells parts.toList = some arr) (hne : (Yi tt t 0).isSome = true ∨ ∃ offs, i.kind = .struct offs) (w : World) :
  (Instr.build t parts).run P w = .ok (.agg arr) w := by
 have hk := (hT _ _ ht).kind
 cases hkd : i.kind with
 | struct offs =>
  rw [hkd] at hk
  have ⟨fields, g1, g2, g3⟩ := hk
  have hpl : Yi tt t = fun j => (fields.map fun f => (f.offset, P.cellsOf f.type))[j]? := by
   funext j
   unfold Yi
   have ⟨kd, a1, a2, a3, a4⟩ := i
   simp only at hkd
   subst hkd
   simp only [ht]
   rw [← g2]
   simp
  have hm : ∀ w, (fields.mapM (fun f => do pure (f.offset, ← Go.sizeOf f.type) : Field → Sem (Nat × Nat))).run P w = .ok (fields.map fun f => (f.offset, P.cellsOf f.type)) w := by
   intro w
   rw [Array.mapM_eq_mapM_toList, Sem.run_map, z3I fields.toList (fun f hf w => z5c (g3 f hf).choose_spec w)]
   simp only [Result.andThen_ok]
   congr 1
   apply Array.ext'
   simp
  rw [hpl] at hf
  have hzv : ∀ w, (zeroValue t).run P w = .ok zv w := fun w => by simp [zeroValue, typeInfo, hi, hz]
  unfold Instr.build
  rw [Sem.run_bind, hzv]
  simp only [Result.andThen_ok]
  rw [Sem.run_bind, run_underlying g1]
  simp only [Result.andThen_ok]
  rw [Sem.run_bind, hm]
  simp only [Result.andThen_ok, hf]
  rfl
 | array m e =>
  rw [hkd] at hk
  have g1 : P.underlying t = some (.array m e) := hk
  have ⟨kd, a1, a2, a3, a4⟩ := i
  simp only at hkd
  subst hkd
  cases he : tt e with
  | none =>
   rcases hne with h | ⟨_, h⟩
   ·simp [Yi, ht, he] at h
   ·cases h
  | some j =>
   have hpl : Yi tt t = fun k => some (k * j.size, j.size) := by funext k; simp [Yi, ht, he]
   rw [hpl] at hf
   have hzv : ∀ w, (zeroValue t).run P w = .ok zv w := fun w => by simp [zeroValue, typeInfo, hi, hz]
   unfold Instr.build
   rw [Sem.run_bind, hzv]
   simp only [Result.andThen_ok]
   rw [Sem.run_bind, run_underlying g1]
   simp only [Result.andThen_ok]
   rw [Sem.run_bind, vV hT he]
   simp only [Result.andThen_ok, hf]
   rfl
 | _ => rw [hkd] at hag; simp [TK.isAgg] at hag
theorem z8m {P : Program}  (hT : wG P tt) (h : Sim C S Fp [] st a w)    (ho : o.op = .build t ps) {u : Unit} {R : List Nat} {U : List (Nat × Ent)}
  (e : z0y tt C.n o.dst t ps.toList st = some (u, R, U)) : qE P C o a w (zl U st) := by
 unfold z0y at e
 cases ht : tt t with
 | none => simp [ht] at e; cases e
 | some i =>
  simp [ht] at e
  cases hz : i.zero with
  | none => simp [hz] at e; cases e
  | some z =>
   cases z with
   | agg zs =>
    simp [hz] at e
    obtain ⟨f, f1, f2, f3, f4⟩ := (hT _ _ ht).info
    obtain ⟨zv, v1, v2, v3⟩ := f4 _ hz
    obtain ⟨xs, R1, U1, R2, U2, h1, e1, rfl, rfl⟩ := bind_some e
    have hxl := JP h1
    obtain ⟨Fp', G, g1, g2⟩ := z0M h h1
    rw [zz]
    split at e1
    ·rename_i hcond
     obtain ⟨hok, hpl, hag, hne⟩ := hcond
     have hps := z0m hok
     have hmap2 : ((ps.toList.map (·.1)).zip xs).map (·.2) = xs := List.map_snd_zip (by rw [hxl]; simp)
     have hmap1 : ((ps.toList.map (·.1)).zip xs).map (·.1) = ps.toList.map (·.1) := List.map_fst_zip (by rw [hxl]; simp)
     have hc0 : zL S w.heap zs zv.cells.toList [] := by have := v3 S w.heap; simpa only [zH] using this
     have hGn := g1.xn
     rw [List.append_nil] at hGn
     obtain ⟨l', F', r1, r2, r3, r4⟩ := z3m (h := w.heap) (place := Yi tt t) hc0 (by simpa using hGn) (by rw [hmap2]; exact g2) hps (by
      intro j y hj hex
      obtain ⟨p, hp1, hp2⟩ := hex
      have := List.all_eq_true.1 hpl p hp1
      rw [hp2, hj] at this
      simpa using this)
     have hsub : Sim C S Fp' (F' ++ []) (zl U1 st) a w := g1.mem g1.below (fun _ _ _ h => h) g1.still.cell g1.sbase (fun t' k hk => ⟨rfl, (g1.free t' k hk).2.1⟩) (by simpa using r3)
      (fun t' k hk => g1.xd t' k (by have := r4 k (by simpa using hk); simpa using this)) (fun k hk => g1.xb k (by have := r4 k (by simpa using hk); simpa using this))
     obtain ⟨Fp'', hs⟩ := z0a hsub e1 (v := .agg l'.toArray) (.inr ⟨l', by simp [zH]; exact r2, r3, rfl⟩)
     refine zr ?_ hs
     have e2 : (ps.toList.map (·.1)).zip ((ps.toList.map fun p => (p.2, 0)).map fun p => a.eval p.1) = ps.toList.map fun x => (x.1, a.eval x.2) := by
      rw [List.map_map, List.zip_map']
      rfl
     rw [hmap1, e2] at r1
     have hpl2 : (ps.map fun x => match x with | (i, x) => (i, a.eval x)).toList = ps.toList.map fun x => (x.1, a.eval x.2) := by simp
     have hrun := z5e (P := P) hT ht hag f1 v1 (parts := ps.map fun x => match x with | (i, x) => (i, a.eval x)) (by rw [hpl2]; exact r1) (hne.imp id (fun h => by
      unfold Kk at h
      split at h
      ·rename_i offs hk; exact ⟨offs, hk⟩
      ·cases h)) w
     simp [execOp, ho, hrun, Result.andThen_ok]
    ·cases e1
   | _ => simp [hz] at e; cases e
end
end Go.Own
