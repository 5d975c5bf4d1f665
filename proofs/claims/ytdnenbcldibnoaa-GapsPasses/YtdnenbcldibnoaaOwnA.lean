/- Trees of data with ownership, and what it means that cells of memory hold such a tree. No program in sight. -/
import Derived.WalkKit
namespace Go.Own

inductive Step where
  | deref
  | fld (i : Nat)
  | idx (i : Nat)
  deriving DecidableEq

/-- Data: one-cell atoms, functions with what they have captured, structs and arrays, results of several values, slices in memory that is written no more ('sl', 'sptr'), slices and variables of the call's own ('osl', 'box'). -/
inductive A where
  | atom (v : Value)
  | fn (f : Nat) (caps : List A)
  | agg (fs : List A)
  | tup (fs : List A)
  | sl (sz : Nat) (t : Bool) (xs : List A)
  | sptr (x : A)
  | osl (sz : Nat) (t : Bool) (es : List A)
  | box (x : A)
  | dead (n : Nat)

mutual
def A.size : A → Nat
  | .agg fs => A.sizes fs
  | .dead n => n
  | .tup _ => 0
  | _ => 1
def A.sizes : List A → Nat
  | [] => 0
  | a :: as => a.size + A.sizes as
end

mutual
def A.isD : A → Bool
  | .agg fs => A.areD fs
  | .atom _ | .fn _ _ | .sl _ _ _ | .sptr _ => true
  | _ => false
def A.areD : List A → Bool
  | [] => true
  | a :: as => a.isD && A.areD as
end

mutual
/-- No part of it has been moved away. -/
def A.live : A → Bool
  | .agg fs => A.lives fs
  | .osl _ _ es => A.lives es
  | .box x => x.live
  | .dead _ => false
  | .tup _ => false
  | _ => true
def A.lives : List A → Bool
  | [] => true
  | a :: as => a.live && A.lives as
end

mutual
/-- The tree when its memory is written no more. -/
def A.shut : A → A
  | .agg fs => .agg (A.shuts fs)
  | .osl sz t es => .sl sz t (A.shuts es)
  | .box x => .sptr x.shut
  | x => x
def A.shuts : List A → List A
  | [] => []
  | a :: as => a.shut :: A.shuts as
end

mutual
/-- Without the marks that tell that a slice has no room behind its end. -/
def A.loose : A → A
  | .agg fs => .agg (A.looses fs)
  | .tup fs => .tup (A.looses fs)
  | .sl sz _ xs => .sl sz false (A.looses xs)
  | .osl sz _ es => .osl sz false (A.looses es)
  | .sptr x => .sptr x.loose
  | .box x => .box x.loose
  | .fn f caps => .fn f (A.looses caps)
  | .atom v => .atom v
  | .dead n => .dead n
def A.looses : List A → List A
  | [] => []
  | a :: as => a.loose :: A.looses as
end

/-- The cells that are written no more. -/
abbrev Still := Nat → Nat → Option Value

def cellAt (h : Array Obj) (b o : Nat) : Option Value :=
  match h[b]? with
  | some (.cells c _ _) => c[o]?
  | _ => none

/-- From (b, o) on, these cells are written no more. -/
def Lies (S : Still) (b o : Nat) (l : List Value) : Prop := ∀ j v, l[j]? = some v → S b (o + j) = some v

mutual
def Rep (S : Still) : A → List Value → Prop
  | .atom v, cs => cs = [v] ∧ v.oneCell' = true
  | .fn f caps, cs => ∃ vs, Reps S caps vs ∧ (∀ c ∈ caps, c.size = 1 ∧ ∀ fs, c ≠ .agg fs) ∧ cs = [.func (.func f) #[] vs.toArray]
  | .agg fs, cs => Reps S fs cs
  | .sl sz t xs, cs => ∃ p c, cs = [.slice p xs.length c] ∧ (t = true → c = xs.length) ∧ xs.length ≤ c ∧ (∀ x ∈ xs, x.size = sz) ∧
      (xs = [] ∨ ∃ b o l, p = some ⟨b, o, none⟩ ∧ Reps S xs l ∧ Lies S b o l)
  | .sptr x, cs => ∃ b o l, cs = [.pointer (some ⟨b, o, none⟩)] ∧ Rep S x l ∧ Lies S b o l
  | _, _ => False
def Reps (S : Still) : List A → List Value → Prop
  | [], cs => cs = []
  | a :: as, cs => ∃ c1 c2, cs = c1 ++ c2 ∧ Rep S a c1 ∧ Reps S as c2
end

mutual
def Conc (S : Still) (h : Array Obj) : A → List Value → List Nat → Prop
  | .osl sz t es, cs, F => ∃ p c, cs = [.slice p es.length c] ∧ (t = true → c = es.length) ∧ es.length ≤ c ∧ c ≤ maxLen ∧ (∀ x ∈ es, x.size = sz) ∧
      ((es = [] ∧ c = 0 ∧ p = none ∧ F = []) ∨
       ∃ b arr ty l F', p = some ⟨b, 0, none⟩ ∧ h[b]? = some (.cells arr ty (0, 0)) ∧ arr.size = c * sz ∧ arr.toList.take (es.length * sz) = l ∧ Concs S h es l F' ∧ F = b :: F' ∧ ∀ o, S b o = none)
  | .box x, cs, F => ∃ b ty l F', cs = [.pointer (some ⟨b, 0, none⟩)] ∧ h[b]? = some (.cells l.toArray ty (0, 0)) ∧ Conc S h x l F' ∧ F = b :: F' ∧ ∀ o, S b o = none
  | .agg fs, cs, F => Concs S h fs cs F
  | .dead n, cs, F => cs.length = n ∧ (∀ u ∈ cs, u.oneCell' = true) ∧ F = []
  | .atom v, cs, F => Rep S (.atom v) cs ∧ F = []
  | .fn f caps, cs, F => Rep S (.fn f caps) cs ∧ F = []
  | .sl sz t xs, cs, F => Rep S (.sl sz t xs) cs ∧ F = []
  | .sptr x, cs, F => Rep S (.sptr x) cs ∧ F = []
  | .tup _, _, _ => False
def Concs (S : Still) (h : Array Obj) : List A → List Value → List Nat → Prop
  | [], cs, F => cs = [] ∧ F = []
  | a :: as, cs, F => ∃ c1 c2 F1 F2, cs = c1 ++ c2 ∧ F = F1 ++ F2 ∧ Conc S h a c1 F1 ∧ Concs S h as c2 F2
end

theorem Lies.mono {S S' : Still} (h : ∀ b o v, S b o = some v → S' b o = some v) {b o : Nat} {l : List Value} (hl : Lies S b o l) : Lies S' b o l :=
  fun j v hj => h _ _ _ (hl j v hj)

mutual
theorem Rep.mono {S S' : Still} (h : ∀ b o v, S b o = some v → S' b o = some v) : ∀ {a : A} {cs : List Value}, Rep S a cs → Rep S' a cs
  | .atom _, _, r => by simpa only [Rep] using r
  | .fn _ caps, _, r => by
    simp only [Rep] at r ⊢
    obtain ⟨vs, h1, h2, h3⟩ := r
    exact ⟨vs, Reps.mono h h1, h2, h3⟩
  | .agg fs, _, r => by simp only [Rep] at r ⊢; exact Reps.mono h r
  | .sl _ _ xs, _, r => by
    simp only [Rep] at r ⊢
    obtain ⟨p, c, h1, h2, h3, h4, h5⟩ := r
    refine ⟨p, c, h1, h2, h3, h4, h5.imp id ?_⟩
    rintro ⟨b, o, l, e, g, k⟩
    exact ⟨b, o, l, e, Reps.mono h g, k.mono h⟩
  | .sptr x, _, r => by
    simp only [Rep] at r ⊢
    obtain ⟨b, o, l, e, g, k⟩ := r
    exact ⟨b, o, l, e, Rep.mono h g, k.mono h⟩
  | .tup _, _, r => by simp only [Rep] at r
  | .osl _ _ _, _, r => by simp only [Rep] at r
  | .box _, _, r => by simp only [Rep] at r
  | .dead _, _, r => by simp only [Rep] at r
theorem Reps.mono {S S' : Still} (h : ∀ b o v, S b o = some v → S' b o = some v) : ∀ {as : List A} {cs : List Value}, Reps S as cs → Reps S' as cs
  | [], _, r => by simpa only [Reps] using r
  | a :: as, _, r => by
    simp only [Reps] at r ⊢
    obtain ⟨c1, c2, e, r1, r2⟩ := r
    exact ⟨c1, c2, e, Rep.mono h r1, Reps.mono h r2⟩
end

mutual
theorem Rep.len {S : Still} : ∀ {a : A} {cs : List Value}, Rep S a cs → cs.length = a.size
  | .atom _, _, r => by simp only [Rep] at r; simp [r.1, A.size]
  | .fn _ caps, _, r => by
    simp only [Rep] at r
    obtain ⟨vs, h1, h2, h3⟩ := r
    simp [h3, A.size]
  | .agg fs, _, r => by simp only [Rep] at r; simp only [A.size]; exact Reps.len r
  | .sl _ _ xs, _, r => by
    simp only [Rep] at r
    obtain ⟨p, c, h1, _⟩ := r
    simp [h1, A.size]
  | .sptr x, _, r => by
    simp only [Rep] at r
    obtain ⟨b, o, l, e, _⟩ := r
    simp [e, A.size]
  | .tup _, _, r => by simp only [Rep] at r
  | .osl _ _ _, _, r => by simp only [Rep] at r
  | .box _, _, r => by simp only [Rep] at r
  | .dead _, _, r => by simp only [Rep] at r
theorem Reps.len {S : Still} : ∀ {as : List A} {cs : List Value}, Reps S as cs → cs.length = A.sizes as
  | [], _, r => by simp only [Reps] at r; simp [r, A.sizes]
  | a :: as, _, r => by
    simp only [Reps] at r
    obtain ⟨c1, c2, e, r1, r2⟩ := r
    simp [e, A.sizes, Rep.len r1, Reps.len r2]
end

mutual
theorem Rep.one {S : Still} : ∀ {a : A} {cs : List Value}, Rep S a cs → ∀ u ∈ cs, u.oneCell' = true
  | .atom _, _, r => by simp only [Rep] at r; obtain ⟨rfl, h⟩ := r; simpa using h
  | .fn _ caps, _, r => by
    simp only [Rep] at r
    obtain ⟨vs, h1, h2, rfl⟩ := r
    simp [Value.oneCell']
  | .agg fs, _, r => by simp only [Rep] at r; exact Reps.one r
  | .sl _ _ xs, _, r => by
    simp only [Rep] at r
    obtain ⟨p, c, rfl, _⟩ := r
    simp [Value.oneCell']
  | .sptr x, _, r => by
    simp only [Rep] at r
    obtain ⟨b, o, l, rfl, _⟩ := r
    simp [Value.oneCell']
  | .tup _, _, r => by simp only [Rep] at r
  | .osl _ _ _, _, r => by simp only [Rep] at r
  | .box _, _, r => by simp only [Rep] at r
  | .dead _, _, r => by simp only [Rep] at r
theorem Reps.one {S : Still} : ∀ {as : List A} {cs : List Value}, Reps S as cs → ∀ u ∈ cs, u.oneCell' = true
  | [], _, r => by simp only [Reps] at r; simp [r]
  | a :: as, _, r => by
    simp only [Reps] at r
    obtain ⟨c1, c2, rfl, r1, r2⟩ := r
    intro u hu
    rcases List.mem_append.1 hu with h | h
    · exact Rep.one r1 u h
    · exact Reps.one r2 u h
end

mutual
theorem Conc.len {S : Still} {h : Array Obj} : ∀ {a : A} {cs : List Value} {F : List Nat}, Conc S h a cs F → cs.length = a.size
  | .osl _ _ _, _, _, r => by
    simp only [Conc] at r
    obtain ⟨p, c, e, _⟩ := r
    simp [e, A.size]
  | .box _, _, _, r => by
    simp only [Conc] at r
    obtain ⟨b, ty, l, F', e, _⟩ := r
    simp [e, A.size]
  | .agg fs, _, _, r => by simp only [Conc] at r; simp only [A.size]; exact Concs.len r
  | .dead _, _, _, r => by simp only [Conc] at r; simp [r.1, A.size]
  | .atom _, _, _, r => by simp only [Conc] at r; exact r.1.len
  | .fn _ _, _, _, r => by simp only [Conc] at r; exact r.1.len
  | .sl _ _ _, _, _, r => by simp only [Conc] at r; exact r.1.len
  | .sptr _, _, _, r => by simp only [Conc] at r; exact r.1.len
  | .tup _, _, _, r => by simp only [Conc] at r
theorem Concs.len {S : Still} {h : Array Obj} : ∀ {as : List A} {cs : List Value} {F : List Nat}, Concs S h as cs F → cs.length = A.sizes as
  | [], _, _, r => by simp only [Concs] at r; simp [r.1, A.sizes]
  | a :: as, _, _, r => by
    simp only [Concs] at r
    obtain ⟨c1, c2, F1, F2, e, _, r1, r2⟩ := r
    simp [e, A.sizes, Conc.len r1, Concs.len r2]
end

mutual
theorem Conc.one {S : Still} {h : Array Obj} : ∀ {a : A} {cs : List Value} {F : List Nat}, Conc S h a cs F → ∀ u ∈ cs, u.oneCell' = true
  | .osl _ _ _, _, _, r => by
    simp only [Conc] at r
    obtain ⟨p, c, rfl, _⟩ := r
    simp [Value.oneCell']
  | .box _, _, _, r => by
    simp only [Conc] at r
    obtain ⟨b, ty, l, F', rfl, _⟩ := r
    simp [Value.oneCell']
  | .agg fs, _, _, r => by simp only [Conc] at r; exact Concs.one r
  | .dead _, _, _, r => by simp only [Conc] at r; exact r.2.1
  | .atom _, _, _, r => by simp only [Conc] at r; exact r.1.one
  | .fn _ _, _, _, r => by simp only [Conc] at r; exact r.1.one
  | .sl _ _ _, _, _, r => by simp only [Conc] at r; exact r.1.one
  | .sptr _, _, _, r => by simp only [Conc] at r; exact r.1.one
  | .tup _, _, _, r => by simp only [Conc] at r
theorem Concs.one {S : Still} {h : Array Obj} : ∀ {as : List A} {cs : List Value} {F : List Nat}, Concs S h as cs F → ∀ u ∈ cs, u.oneCell' = true
  | [], _, _, r => by simp only [Concs] at r; simp [r.1]
  | a :: as, _, _, r => by
    simp only [Concs] at r
    obtain ⟨c1, c2, F1, F2, rfl, _, r1, r2⟩ := r
    intro u hu
    rcases List.mem_append.1 hu with h | h
    · exact Conc.one r1 u h
    · exact Concs.one r2 u h
end

mutual
/-- What holds of a tree's memory holds where its blocks lie as they lay. -/
theorem Conc.frame {S S' : Still} {h h' : Array Obj} (hS : ∀ b o v, S b o = some v → S' b o = some v) : ∀ {a : A} {cs : List Value} {F : List Nat}, Conc S h a cs F →
    (∀ k ∈ F, h'[k]? = h[k]? ∧ ∀ o, S' k o = none) → Conc S' h' a cs F
  | .osl _ _ _, _, _, r, hF => by
    simp only [Conc] at r ⊢
    obtain ⟨p, c, e, h1, h2, h3, h4, h5⟩ := r
    refine ⟨p, c, e, h1, h2, h3, h4, h5.imp id ?_⟩
    rintro ⟨b, arr, ty, l, F', e1, e2, e3, e4, e5, rfl, e7⟩
    exact ⟨b, arr, ty, l, F', e1, by rw [(hF b (by simp)).1]; exact e2, e3, e4, Concs.frame hS e5 (fun k hk => hF k (by simp [hk])), rfl, (hF b (by simp)).2⟩
  | .box _, _, _, r, hF => by
    simp only [Conc] at r ⊢
    obtain ⟨b, ty, l, F', e, e1, e2, rfl, e4⟩ := r
    exact ⟨b, ty, l, F', e, by rw [(hF b (by simp)).1]; exact e1, Conc.frame hS e2 (fun k hk => hF k (by simp [hk])), rfl, (hF b (by simp)).2⟩
  | .agg fs, _, _, r, hF => by simp only [Conc] at r ⊢; exact Concs.frame hS r hF
  | .dead _, _, _, r, _ => by simpa only [Conc] using r
  | .atom _, _, _, r, _ => by simp only [Conc] at r ⊢; exact ⟨r.1.mono hS, r.2⟩
  | .fn _ _, _, _, r, _ => by simp only [Conc] at r ⊢; exact ⟨r.1.mono hS, r.2⟩
  | .sl _ _ _, _, _, r, _ => by simp only [Conc] at r ⊢; exact ⟨r.1.mono hS, r.2⟩
  | .sptr _, _, _, r, _ => by simp only [Conc] at r ⊢; exact ⟨r.1.mono hS, r.2⟩
  | .tup _, _, _, r, _ => by simp only [Conc] at r
theorem Concs.frame {S S' : Still} {h h' : Array Obj} (hS : ∀ b o v, S b o = some v → S' b o = some v) : ∀ {as : List A} {cs : List Value} {F : List Nat}, Concs S h as cs F →
    (∀ k ∈ F, h'[k]? = h[k]? ∧ ∀ o, S' k o = none) → Concs S' h' as cs F
  | [], _, _, r, _ => by simpa only [Concs] using r
  | a :: as, _, _, r, hF => by
    simp only [Concs] at r ⊢
    obtain ⟨c1, c2, F1, F2, rfl, rfl, r1, r2⟩ := r
    exact ⟨c1, c2, F1, F2, rfl, rfl, Conc.frame hS r1 (fun k hk => hF k (by simp [hk])), Concs.frame hS r2 (fun k hk => hF k (by simp [hk]))⟩
end

mutual
/-- A tree's own blocks lie in the heap and are not still. -/
theorem Conc.own {S : Still} {h : Array Obj} : ∀ {a : A} {cs : List Value} {F : List Nat}, Conc S h a cs F → ∀ k ∈ F, k < h.size ∧ (∀ o, S k o = none) ∧ ∃ c ty, h[k]? = some (.cells c ty (0, 0))
  | .osl _ _ _, _, _, r => by
    simp only [Conc] at r
    obtain ⟨p, c, e, h1, h2, h3, h4, h5⟩ := r
    rcases h5 with ⟨_, _, _, rfl⟩ | ⟨b, arr, ty, l, F', e1, e2, e3, e4, e5, rfl, e7⟩
    · simp
    · intro k hk
      rcases List.mem_cons.1 hk with rfl | hk
      · exact ⟨(Array.getElem?_eq_some_iff.1 e2).1, e7, _, _, e2⟩
      · exact Concs.own e5 k hk
  | .box _, _, _, r => by
    simp only [Conc] at r
    obtain ⟨b, ty, l, F', e, e1, e2, rfl, e4⟩ := r
    intro k hk
    rcases List.mem_cons.1 hk with rfl | hk
    · exact ⟨(Array.getElem?_eq_some_iff.1 e1).1, e4, _, _, e1⟩
    · exact Conc.own e2 k hk
  | .agg fs, _, _, r => by simp only [Conc] at r; exact Concs.own r
  | .dead _, _, _, r => by simp only [Conc] at r; simp [r.2.2]
  | .atom _, _, _, r => by simp only [Conc] at r; simp [r.2]
  | .fn _ _, _, _, r => by simp only [Conc] at r; simp [r.2]
  | .sl _ _ _, _, _, r => by simp only [Conc] at r; simp [r.2]
  | .sptr _, _, _, r => by simp only [Conc] at r; simp [r.2]
  | .tup _, _, _, r => by simp only [Conc] at r
theorem Concs.own {S : Still} {h : Array Obj} : ∀ {as : List A} {cs : List Value} {F : List Nat}, Concs S h as cs F → ∀ k ∈ F, k < h.size ∧ (∀ o, S k o = none) ∧ ∃ c ty, h[k]? = some (.cells c ty (0, 0))
  | [], _, _, r => by simp only [Concs] at r; simp [r.2]
  | a :: as, _, _, r => by
    simp only [Concs] at r
    obtain ⟨c1, c2, F1, F2, rfl, rfl, r1, r2⟩ := r
    intro k hk
    rcases List.mem_append.1 hk with h | h
    · exact Conc.own r1 k h
    · exact Concs.own r2 k h
end

mutual
theorem Conc.isD {S : Still} {h : Array Obj} : ∀ {a : A} {cs : List Value} {F : List Nat}, a.isD = true → Conc S h a cs F → Rep S a cs ∧ F = []
  | .agg fs, _, _, d, r => by
    simp only [A.isD] at d
    simp only [Conc] at r
    simp only [Rep]
    exact Concs.areD d r
  | .atom _, _, _, _, r => by simpa only [Conc] using r
  | .fn _ _, _, _, _, r => by simpa only [Conc] using r
  | .sl _ _ _, _, _, _, r => by simpa only [Conc] using r
  | .sptr _, _, _, _, r => by simpa only [Conc] using r
  | .tup _, _, _, d, _ => by simp [A.isD] at d
  | .osl _ _ _, _, _, d, _ => by simp [A.isD] at d
  | .box _, _, _, d, _ => by simp [A.isD] at d
  | .dead _, _, _, d, _ => by simp [A.isD] at d
theorem Concs.areD {S : Still} {h : Array Obj} : ∀ {as : List A} {cs : List Value} {F : List Nat}, A.areD as = true → Concs S h as cs F → Reps S as cs ∧ F = []
  | [], _, _, _, r => by simpa only [Concs, Reps] using r
  | a :: as, _, _, d, r => by
    simp only [A.areD, Bool.and_eq_true] at d
    simp only [Concs] at r
    obtain ⟨c1, c2, F1, F2, rfl, rfl, r1, r2⟩ := r
    obtain ⟨q1, rfl⟩ := Conc.isD d.1 r1
    obtain ⟨q2, rfl⟩ := Concs.areD d.2 r2
    exact ⟨by simp only [Reps]; exact ⟨c1, c2, rfl, q1, q2⟩, rfl⟩
end

mutual
theorem Rep.conc {S : Still} (h : Array Obj) : ∀ {a : A} {cs : List Value}, Rep S a cs → Conc S h a cs []
  | .agg fs, _, r => by simp only [Rep] at r; simp only [Conc]; exact Reps.concs h r
  | .atom _, _, r => by simp only [Conc]; exact ⟨r, trivial⟩
  | .fn _ _, _, r => by simp only [Conc]; exact ⟨r, trivial⟩
  | .sl _ _ _, _, r => by simp only [Conc]; exact ⟨r, trivial⟩
  | .sptr _, _, r => by simp only [Conc]; exact ⟨r, trivial⟩
  | .tup _, _, r => by simp only [Rep] at r
  | .osl _ _ _, _, r => by simp only [Rep] at r
  | .box _, _, r => by simp only [Rep] at r
  | .dead _, _, r => by simp only [Rep] at r
theorem Reps.concs {S : Still} (h : Array Obj) : ∀ {as : List A} {cs : List Value}, Reps S as cs → Concs S h as cs []
  | [], _, r => by simp only [Reps] at r; simp only [Concs]; exact ⟨r, trivial⟩
  | a :: as, _, r => by
    simp only [Reps] at r
    obtain ⟨c1, c2, rfl, r1, r2⟩ := r
    simp only [Concs]
    exact ⟨c1, c2, [], [], rfl, rfl, Rep.conc h r1, Reps.concs h r2⟩
end

theorem A.shuts_eq (as : List A) : A.shuts as = as.map A.shut := by
  induction as with
  | nil => rfl
  | cons a as ih => simp [A.shuts, ih]

theorem A.sizes_eq (as : List A) : A.sizes as = (as.map A.size).sum := by
  induction as with
  | nil => rfl
  | cons a as ih => simp [A.sizes, ih]

theorem A.sizes_const {as : List A} {sz : Nat} (h : ∀ x ∈ as, x.size = sz) : A.sizes as = as.length * sz := by
  induction as with
  | nil => simp [A.sizes]
  | cons a as ih => simp only [A.sizes, h a (by simp), ih (fun x hx => h x (by simp [hx])), List.length_cons, Nat.add_mul, Nat.one_mul]; omega

mutual
theorem A.size_shut : ∀ (a : A), a.shut.size = a.size
  | .agg fs => by simp only [A.shut, A.size]; exact A.sizes_shuts fs
  | .osl _ _ _ => rfl
  | .box _ => rfl
  | .atom _ => rfl
  | .fn _ _ => rfl
  | .sl _ _ _ => rfl
  | .sptr _ => rfl
  | .tup _ => rfl
  | .dead _ => rfl
theorem A.sizes_shuts : ∀ (as : List A), A.sizes (A.shuts as) = A.sizes as
  | [] => rfl
  | a :: as => by simp only [A.shuts, A.sizes, A.size_shut a, A.sizes_shuts as]
end

mutual
/-- A live tree, its memory written no more. -/
theorem Conc.shut {S S' : Still} {h : Array Obj} (hS : ∀ b o v, S b o = some v → S' b o = some v) : ∀ {a : A} {cs : List Value} {F : List Nat}, Conc S h a cs F → a.live = true →
    (∀ k ∈ F, ∀ o, S' k o = cellAt h k o) → Rep S' a.shut cs
  | .osl sz t es, _, _, r, l, hF => by
    simp only [Conc] at r
    simp only [A.live] at l
    obtain ⟨p, c, e, h1, h2, h3, h4, h5⟩ := r
    simp only [A.shut, Rep]
    have hlen : (A.shuts es).length = es.length := by simp [A.shuts_eq]
    rw [hlen]
    refine ⟨p, c, e, h1, h2, ?_, ?_⟩
    · intro x hx
      rw [A.shuts_eq] at hx
      obtain ⟨y, hy, rfl⟩ := List.mem_map.1 hx
      rw [A.size_shut]; exact h4 y hy
    · rcases h5 with ⟨rfl, _⟩ | ⟨b, arr, ty, l', F', e1, e2, e3, e4, e5, rfl, e7⟩
      · exact .inl rfl
      · refine .inr ⟨b, 0, l', e1, Concs.shut hS e5 l (fun k hk => hF k (by simp [hk])), ?_⟩
        intro j v hj
        rw [hF b (by simp), cellAt, e2]
        simp only [Nat.zero_add]
        rw [← e4, List.getElem?_take] at hj
        split at hj
        · simpa using hj
        · cases hj
  | .box x, _, _, r, l, hF => by
    simp only [Conc] at r
    simp only [A.live] at l
    obtain ⟨b, ty, l', F', e, e1, e2, rfl, e4⟩ := r
    simp only [A.shut, Rep]
    refine ⟨b, 0, l', e, Conc.shut hS e2 l (fun k hk => hF k (by simp [hk])), ?_⟩
    intro j v hj
    rw [hF b (by simp), cellAt, e1]
    simpa using hj
  | .agg fs, _, _, r, l, hF => by
    simp only [Conc] at r
    simp only [A.live] at l
    simp only [A.shut, Rep]
    exact Concs.shut hS r l hF
  | .dead _, _, _, _, l, _ => by simp [A.live] at l
  | .atom _, _, _, r, _, _ => by simp only [Conc] at r; exact r.1.mono hS
  | .fn _ _, _, _, r, _, _ => by simp only [Conc] at r; exact r.1.mono hS
  | .sl _ _ _, _, _, r, _, _ => by simp only [Conc] at r; exact r.1.mono hS
  | .sptr _, _, _, r, _, _ => by simp only [Conc] at r; exact r.1.mono hS
  | .tup _, _, _, r, _, _ => by simp only [Conc] at r
theorem Concs.shut {S S' : Still} {h : Array Obj} (hS : ∀ b o v, S b o = some v → S' b o = some v) : ∀ {as : List A} {cs : List Value} {F : List Nat}, Concs S h as cs F → A.lives as = true →
    (∀ k ∈ F, ∀ o, S' k o = cellAt h k o) → Reps S' (A.shuts as) cs
  | [], _, _, r, _, _ => by simp only [Concs] at r; simp only [A.shuts, Reps]; exact r.1
  | a :: as, _, _, r, l, hF => by
    simp only [Concs] at r
    simp only [A.lives, Bool.and_eq_true] at l
    obtain ⟨c1, c2, F1, F2, rfl, rfl, r1, r2⟩ := r
    simp only [A.shuts, Reps]
    exact ⟨c1, c2, rfl, Conc.shut hS r1 l.1 (fun k hk => hF k (by simp [hk])), Concs.shut hS r2 l.2 (fun k hk => hF k (by simp [hk]))⟩
end

end Go.Own

namespace Go.Own

def getP : List Step → A → Option A
  | [], x => some x
  | .deref :: p, .box x => getP p x
  | .fld i :: p, .agg fs => match fs[i]? with | some y => getP p y | none => none
  | .idx i :: p, .osl _ _ es => match es[i]? with | some y => getP p y | none => none
  | _, _ => none

def setP : List Step → A → A → A
  | [], _, z => z
  | .deref :: p, .box x, z => .box (setP p x z)
  | .fld i :: p, .agg fs, z => .agg (match fs[i]? with | some y => fs.set i (setP p y z) | none => fs)
  | .idx i :: p, .osl sz t es, z => .osl sz t (match es[i]? with | some y => es.set i (setP p y z) | none => es)
  | _, x, _ => x

/-- Where the place lies; the tree itself lies from (b, o) on. -/
def locM (h : Array Obj) : List Step → A → Nat → Nat → Option (Nat × Nat)
  | [], _, b, o => some (b, o)
  | .fld i :: p, .agg fs, b, o => match fs[i]? with | some y => locM h p y b (o + A.sizes (fs.take i)) | none => none
  | .deref :: p, .box x, b, o => match cellAt h b o with | some (.pointer (some a)) => locM h p x a.block 0 | _ => none
  | .idx i :: p, .osl sz _ es, b, o => match es[i]?, cellAt h b o with | some y, some (.slice (some a) _ _) => locM h p y a.block (i * sz) | _, _ => none
  | _, _, _, _ => none

/-- From o on the array holds these cells. -/
def Sits (arr : Array Value) (o : Nat) (l : List Value) : Prop := ∀ j v, l[j]? = some v → arr[o + j]? = some v

/-- The array with these cells from o on. -/
def over (arr : Array Value) (o : Nat) (l : List Value) : Array Value := arr.mapIdx fun k v => (if o ≤ k then l[k - o]? else none).getD v

theorem over_get (arr : Array Value) (o : Nat) (l : List Value) (k : Nat) : (over arr o l)[k]? = arr[k]?.map fun v => (if o ≤ k then l[k - o]? else none).getD v := by
  simp [over, Array.getElem?_mapIdx]

@[simp] theorem over_size (arr : Array Value) (o : Nat) (l : List Value) : (over arr o l).size = arr.size := by simp [over]

theorem over_same {arr : Array Value} {o : Nat} {l : List Value} (hs : Sits arr o l) : over arr o l = arr := by
  apply Array.ext_getElem?
  intro k
  rw [over_get]
  cases ha : arr[k]? with
  | none => rfl
  | some v =>
    simp only [Option.map_some]
    by_cases hk : o ≤ k
    · simp only [hk, if_true]
      cases hl : l[k - o]? with
      | none => rfl
      | some u =>
        have := hs _ _ hl
        rw [show o + (k - o) = k from by omega, ha] at this
        simpa using this.symm
    · simp [hk]

theorem sits_over {arr : Array Value} {o : Nat} {l l' : List Value} (hs : Sits arr o l) (hl : l'.length = l.length) : Sits (over arr o l') o l' := by
  intro j v hj
  have hlt : j < l.length := by rw [← hl]; exact (List.getElem?_eq_some_iff.1 hj).1
  have := hs j l[j] (List.getElem?_eq_getElem hlt)
  rw [over_get, this]
  simp [hj]

theorem Sits.mid {arr : Array Value} {o : Nat} {c1 ci c2 : List Value} (hs : Sits arr o (c1 ++ ci ++ c2)) : Sits arr (o + c1.length) ci := by
  intro j v hj
  have hlt := (List.getElem?_eq_some_iff.1 hj).1
  have := hs (c1.length + j) v (by rw [List.append_assoc, List.getElem?_append_right (by omega), Nat.add_sub_cancel_left, List.getElem?_append_left hlt]; exact hj)
  rwa [← Nat.add_assoc] at this

theorem over_mid {arr : Array Value} {o : Nat} {c1 ci ci' c2 : List Value} (hs : Sits arr o (c1 ++ ci ++ c2)) (hl : ci'.length = ci.length) :
    over arr o (c1 ++ ci' ++ c2) = over arr (o + c1.length) ci' := by
  apply Array.ext_getElem?
  intro k
  rw [over_get, over_get]
  cases ha : arr[k]? with
  | none => rfl
  | some v =>
    simp only [Option.map_some, Option.some.injEq]
    by_cases h1 : o ≤ k
    · simp only [h1, if_true]
      by_cases h2 : k - o < c1.length
      · rw [if_neg (by omega), List.append_assoc, List.getElem?_append_left h2]
        have := hs (k - o) c1[k - o] (by rw [List.append_assoc, List.getElem?_append_left h2]; exact List.getElem?_eq_getElem h2)
        rw [show o + (k - o) = k from by omega, ha] at this
        rw [List.getElem?_eq_getElem h2]
        simpa using this.symm
      · rw [if_pos (by omega), List.append_assoc, List.getElem?_append_right (by omega)]
        by_cases h3 : k - o - c1.length < ci'.length
        · rw [List.getElem?_append_left h3, show k - (o + c1.length) = k - o - c1.length from by omega]
        · rw [List.getElem?_append_right (by omega), List.getElem?_eq_none (l := ci') (i := k - (o + c1.length)) (by omega)]
          simp only [Option.getD_none]
          cases h4 : c2[k - o - c1.length - ci'.length]? with
          | none => rfl
          | some u =>
            have := hs (k - o) u (by rw [List.append_assoc, List.getElem?_append_right (by omega), List.getElem?_append_right (by omega), ← hl]; exact h4)
            rw [show o + (k - o) = k from by omega, ha] at this
            simpa using this.symm
    · rw [if_neg h1, if_neg (by omega)]

theorem Concs.split {S : Still} {h : Array Obj} : ∀ {as : List A} {cs : List Value} {F : List Nat} {i : Nat} {x : A}, Concs S h as cs F → as[i]? = some x →
    ∃ c1 ci c2 F1 Fi F2, cs = c1 ++ ci ++ c2 ∧ F = F1 ++ Fi ++ F2 ∧ c1.length = A.sizes (as.take i) ∧ Conc S h x ci Fi ∧
      ∀ (S' : Still) (h' : Array Obj) (z : A) (ci' : List Value) (Fi' : List Nat), (∀ b o v, S b o = some v → S' b o = some v) → (∀ k, k ∈ F1 ∨ k ∈ F2 → h'[k]? = h[k]? ∧ ∀ o, S' k o = none) →
        Conc S' h' z ci' Fi' → Concs S' h' (as.set i z) (c1 ++ ci' ++ c2) (F1 ++ Fi' ++ F2)
  | [], _, _, _, _, _, e => by simp at e
  | a :: as, cs, F, 0, x, r, e => by
    simp at e
    subst e
    simp only [Concs] at r
    obtain ⟨c1, c2, F1, F2, rfl, rfl, r1, r2⟩ := r
    refine ⟨[], c1, c2, [], F1, F2, rfl, rfl, rfl, r1, ?_⟩
    intro S' h' z ci' Fi' hS hk hz
    simp only [List.set_cons_zero, List.nil_append, Concs]
    exact ⟨ci', c2, Fi', F2, rfl, rfl, hz, Concs.frame hS r2 (fun k hk' => hk k (.inr hk'))⟩
  | a :: as, cs, F, i + 1, x, r, e => by
    simp at e
    simp only [Concs] at r
    obtain ⟨c1, c2, F1, F2, rfl, rfl, r1, r2⟩ := r
    obtain ⟨d1, di, d2, G1, Gi, G2, rfl, rfl, hl, hx, hup⟩ := Concs.split r2 e
    refine ⟨c1 ++ d1, di, d2, F1 ++ G1, Gi, G2, by simp, by simp, by simp [A.sizes, hl, r1.len], hx, ?_⟩
    intro S' h' z ci' Fi' hS hk hz
    simp only [List.set_cons_succ, Concs]
    refine ⟨c1, d1 ++ ci' ++ d2, F1, G1 ++ Fi' ++ G2, by simp, by simp, Conc.frame hS r1 (fun k hk' => hk k (.inl (by simp [hk']))), hup S' h' z ci' Fi' hS (fun k hk' => hk k ?_) hz⟩
    rcases hk' with h | h
    · exact .inl (by simp [h])
    · exact .inr h

/-- A place in a tree that lies from (b0, o0) on: what lies there, and what the tree is once other cells lie there. -/
theorem focus {S : Still} {h : Array Obj} : ∀ (p : List Step) {x0 : A} {cs0 : List Value} {F0 : List Nat} {b0 o0 : Nat} {arr0 : Array Value} {ty0 : TypeId},
    Conc S h x0 cs0 F0 → F0.Nodup → b0 ∉ F0 → h[b0]? = some (.cells arr0 ty0 (0, 0)) → Sits arr0 o0 cs0 → ∀ {y : A}, getP p x0 = some y →
    ∃ b o arr ty csy Fy, locM h p x0 b0 o0 = some (b, o) ∧ h[b]? = some (.cells arr ty (0, 0)) ∧ Sits arr o csy ∧ Conc S h y csy Fy ∧ b ∉ Fy ∧ (b = b0 ∨ b ∈ F0) ∧ (∀ k ∈ Fy, k ∈ F0) ∧ Fy.Nodup ∧
      ∀ (S' : Still) (h' : Array Obj) (z : A) (csz : List Value) (Fz : List Nat), (∀ b o v, S b o = some v → S' b o = some v) → csz.length = csy.length → Conc S' h' z csz Fz → Fz.Nodup →
        (∀ k ∈ F0, k ∉ Fy → ∀ o, S' k o = none) → (∀ k, k = b0 ∨ k ∈ F0 → k ∉ Fy → k ≠ b → h'[k]? = h[k]?) → h'[b]? = some (.cells (over arr o csz) ty (0, 0)) →
        (∀ k ∈ Fz, k ∈ F0 → k ∈ Fy) →
        ∃ cs0' F0', Conc S' h' (setP p x0 z) cs0' F0' ∧ cs0'.length = cs0.length ∧ F0'.Nodup ∧ (∀ k, k ∈ F0' ↔ (k ∈ F0 ∧ k ∉ Fy) ∨ k ∈ Fz) ∧ h'[b0]? = some (.cells (over arr0 o0 cs0') ty0 (0, 0))
  | [], x0, cs0, F0, b0, o0, arr0, ty0, hx, hn, hb, hh, hs, y, e => by
    simp only [getP, Option.some.injEq] at e
    subst e
    refine ⟨b0, o0, arr0, ty0, cs0, F0, rfl, hh, hs, hx, hb, .inl rfl, fun _ h => h, hn, ?_⟩
    intro S' h' z csz Fz _ hl hz hnz _ _ hb' _
    exact ⟨csz, Fz, by simpa only [setP] using hz, hl, hnz, fun k => ⟨fun h => .inr h, fun h => h.elim (fun h => absurd h.1 h.2) id⟩, hb'⟩
  | .fld i :: p, .agg fs, cs0, F0, b0, o0, arr0, ty0, hx, hn, hb, hh, hs, y, e => by
    simp only [getP] at e
    cases hf : fs[i]? with
    | none => simp [hf] at e
    | some x1 =>
      simp only [hf] at e
      simp only [Conc] at hx
      obtain ⟨c1, ci, c2, F1, Fi, F2, rfl, rfl, hl1, hxi, hup⟩ := Concs.split hx hf
      have hn' := hn
      rw [List.append_assoc, List.nodup_append] at hn'
      obtain ⟨n1, n2, n3⟩ := hn'
      rw [List.nodup_append] at n2
      obtain ⟨n4, n5, n6⟩ := n2
      have hbi : b0 ∉ Fi := fun h => hb (by simp [h])
      obtain ⟨b, o, arr, ty, csy, Fy, g1, g2, g3, g4, g5, g6, g7, g8, g9⟩ := focus p hxi n4 hbi hh hs.mid e
      refine ⟨b, o, arr, ty, csy, Fy, ?_, g2, g3, g4, g5, g6.imp id (fun h => by simp [h]), fun k hk => by simp [g7 k hk], g8, ?_⟩
      · simp only [locM, hf]; rw [← hl1]; exact g1
      · intro S' h' z csz Fz hS hl hz hnz hfree hh' hb' hsep
        have hsub : ∀ k ∈ Fi, k ∈ F1 ++ Fi ++ F2 := fun k hk => by simp [hk]
        obtain ⟨ci', Fi', q1, q2, q3, q4, q5⟩ := g9 S' h' z csz Fz hS hl hz hnz (fun k hk => hfree k (hsub k hk)) (fun k hk => hh' k (hk.imp id (hsub k))) hb' (fun k hk hk' => hsep k hk (hsub k hk'))
        have hoth : ∀ k, k ∈ F1 ∨ k ∈ F2 → k ∉ Fy ∧ k ≠ b ∧ k ∈ F1 ++ Fi ++ F2 := by
          intro k hk
          have hki : k ∉ Fi := by
            rcases hk with hk | hk
            · exact fun h => n3 k hk k (by simp [h]) rfl
            · exact fun h => n6 k h k hk rfl
          refine ⟨fun h => hki (g7 k h), ?_, by rcases hk with hk | hk <;> simp [hk]⟩
          rintro rfl
          rcases g6 with rfl | g6
          · exact hb (by rcases hk with hk | hk <;> simp [hk])
          · exact hki g6
        refine ⟨c1 ++ ci' ++ c2, F1 ++ Fi' ++ F2, ?_, by simp [q2], ?_, ?_, ?_⟩
        · simp only [setP, hf, Conc]
          exact hup S' h' _ ci' Fi' hS (fun k hk => ⟨hh' k (.inr (hoth k hk).2.2) (hoth k hk).1 (hoth k hk).2.1, hfree k (hoth k hk).2.2 (hoth k hk).1⟩) q1
        · rw [List.append_assoc, List.nodup_append]
          refine ⟨n1, ?_, ?_⟩
          · rw [List.nodup_append]
            refine ⟨q3, n5, ?_⟩
            rintro a ha b' hb'' rfl
            rcases (q4 a).1 ha with h | h
            · exact n6 a h.1 a hb'' rfl
            · exact (hoth a (.inr hb'')).1 (hsep a h (hoth a (.inr hb'')).2.2)
          · rintro a ha b' hb'' rfl
            rcases List.mem_append.1 hb'' with h | h
            · rcases (q4 a).1 h with h | h
              · exact n3 a ha a (by simp [h.1]) rfl
              · exact (hoth a (.inl ha)).1 (hsep a h (hoth a (.inl ha)).2.2)
            · exact n3 a ha a (by simp [h]) rfl
        · intro k
          simp only [List.mem_append, q4 k]
          constructor
          · rintro ((h | h) | h)
            · exact .inl ⟨.inl (.inl h), (hoth k (.inl h)).1⟩
            · rcases h with h | h
              · exact .inl ⟨.inl (.inr h.1), h.2⟩
              · exact .inr h
            · exact .inl ⟨.inr h, (hoth k (.inr h)).1⟩
          · rintro (⟨(h | h) | h, h'⟩ | h)
            · exact .inl (.inl h)
            · exact .inl (.inr (.inl ⟨h, h'⟩))
            · exact .inr h
            · exact .inl (.inr (.inr h))
        · rw [over_mid hs q2]
          exact q5
  | .deref :: p, .box x, cs0, F0, b0, o0, arr0, ty0, hx, hn, hb, hh, hs, y, e => by
    simp only [getP] at e
    simp only [Conc] at hx
    obtain ⟨b1, ty1, l, F', rfl, e1, e2, rfl, e4⟩ := hx
    have hn' := List.nodup_cons.1 hn
    have hsl : Sits l.toArray 0 l := fun j v hj => by simpa using hj
    obtain ⟨b, o, arr, ty, csy, Fy, g1, g2, g3, g4, g5, g6, g7, g8, g9⟩ := focus p e2 hn'.2 hn'.1 e1 hsl e
    have hcell : cellAt h b0 o0 = some (.pointer (some ⟨b1, 0, none⟩)) := by
      have := hs 0 _ rfl
      simpa [cellAt, hh] using this
    have hb1 : b ∈ b1 :: F' := by rcases g6 with rfl | g6 <;> simp [*]
    refine ⟨b, o, arr, ty, csy, Fy, by simp only [locM, hcell]; exact g1, g2, g3, g4, g5, .inr hb1, fun k hk => by simp [g7 k hk], g8, ?_⟩
    intro S' h' z csz Fz hS hl hz hnz hfree hh' hb' hsep
    obtain ⟨cs', F0', q1, q2, q3, q4, q5⟩ := g9 S' h' z csz Fz hS hl hz hnz (fun k hk => hfree k (by simp [hk])) (fun k hk => hh' k (.inr (by simpa using hk))) hb' (fun k hk hk' => hsep k hk (by simp [hk']))
    have hb1y : b1 ∉ Fy := fun h => hn'.1 (g7 _ h)
    have hov : over l.toArray 0 cs' = cs'.toArray := by
      apply Array.ext_getElem?
      intro k
      rw [over_get]
      simp only [Nat.zero_le, if_true, Nat.sub_zero, List.getElem?_toArray]
      by_cases hk : k < l.length
      · rw [List.getElem?_eq_getElem hk, List.getElem?_eq_getElem (by omega)]; simp
      · rw [List.getElem?_eq_none (by omega), List.getElem?_eq_none (by omega)]; rfl
    refine ⟨[.pointer (some ⟨b1, 0, none⟩)], b1 :: F0', ?_, rfl, ?_, ?_, ?_⟩
    · simp only [setP, Conc]
      exact ⟨b1, ty1, cs', F0', rfl, by rw [q5, hov], q1, rfl, hfree b1 (by simp) hb1y⟩
    · refine List.nodup_cons.2 ⟨fun h => ?_, q3⟩
      rcases (q4 b1).1 h with h | h
      · exact hn'.1 h.1
      · exact hb1y (hsep b1 h (by simp))
    · intro k
      simp only [List.mem_cons, q4 k]
      constructor
      · rintro (rfl | h | h)
        · exact .inl ⟨.inl rfl, hb1y⟩
        · exact .inl ⟨.inr h.1, h.2⟩
        · exact .inr h
      · rintro (⟨rfl | h, h'⟩ | h)
        · exact .inl rfl
        · exact .inr (.inl ⟨h, h'⟩)
        · exact .inr (.inr h)
    · rw [over_same hs, hh' b0 (.inl rfl) (fun h => hb (by simp [g7 _ h])) (fun h => hb (h ▸ hb1)), hh]
  | .idx i :: p, .osl sz t es, cs0, F0, b0, o0, arr0, ty0, hx, hn, hb, hh, hs, y, e => by
    simp only [getP] at e
    cases hf : es[i]? with
    | none => simp [hf] at e
    | some x1 =>
      simp only [hf] at e
      simp only [Conc] at hx
      obtain ⟨pp, c, rfl, t1, t2, t3, t4, t5⟩ := hx
      rcases t5 with ⟨rfl, _⟩ | ⟨b1, arr1, ty1, l, F', rfl, e1, e2, e3, e4, rfl, e6⟩
      · simp at hf
      have hn' := List.nodup_cons.1 hn
      obtain ⟨c1, ci, c2, F1, Fi, F2, hl0, rfl, hl1, hxi, hup⟩ := Concs.split e4 hf
      have hsl : Sits arr1 0 l := by
        intro j v hj
        rw [← e3, List.getElem?_take] at hj
        split at hj
        · simpa using hj
        · cases hj
      have hit : c1.length = i * sz := by
        rw [hl1, A.sizes_const (sz := sz) (fun x hx => t4 x (List.mem_of_mem_take hx)), List.length_take]
        have := (List.getElem?_eq_some_iff.1 hf).1
        rw [Nat.min_eq_left (by omega)]
      have hn2 := hn'.2
      rw [List.append_assoc, List.nodup_append] at hn2
      obtain ⟨n1, n2, n3⟩ := hn2
      rw [List.nodup_append] at n2
      obtain ⟨n4, n5, n6⟩ := n2
      have hbi : b1 ∉ Fi := fun h => hn'.1 (by simp [h])
      have hsm : Sits arr1 (i * sz) ci := by
        have := (hl0 ▸ hsl : Sits arr1 0 (c1 ++ ci ++ c2)).mid
        rwa [Nat.zero_add, hit] at this
      obtain ⟨b, o, arr, ty, csy, Fy, g1, g2, g3, g4, g5, g6, g7, g8, g9⟩ := focus p hxi n4 hbi e1 hsm e
      have hcell : cellAt h b0 o0 = some (.slice (some ⟨b1, 0, none⟩) es.length c) := by
        have := hs 0 _ rfl
        simpa [cellAt, hh] using this
      have hb1 : b ∈ b1 :: (F1 ++ Fi ++ F2) := by rcases g6 with rfl | g6 <;> simp [*]
      refine ⟨b, o, arr, ty, csy, Fy, by simp only [locM, hf, hcell]; exact g1, g2, g3, g4, g5, .inr hb1, fun k hk => by simp [g7 k hk], g8, ?_⟩
      intro S' h' z csz Fz hS hl hz hnz hfree hh' hb' hsep
      have hsub : ∀ k ∈ Fi, k ∈ b1 :: (F1 ++ Fi ++ F2) := fun k hk => by simp [hk]
      have hsub1 : ∀ k, k = b1 ∨ k ∈ Fi → k ∈ b1 :: (F1 ++ Fi ++ F2) := fun k hk => by rcases hk with rfl | hk <;> simp [*]
      obtain ⟨ci', Fi', q1, q2, q3, q4, q5⟩ := g9 S' h' z csz Fz hS hl hz hnz (fun k hk => hfree k (hsub k hk)) (fun k hk => hh' k (.inr (hsub1 k hk))) hb' (fun k hk hk' => hsep k hk (hsub k hk'))
      have hoth : ∀ k, k ∈ F1 ∨ k ∈ F2 → k ∉ Fy ∧ k ≠ b ∧ k ∈ b1 :: (F1 ++ Fi ++ F2) := by
        intro k hk
        have hki : k ∉ Fi := by
          rcases hk with hk | hk
          · exact fun h => n3 k hk k (by simp [h]) rfl
          · exact fun h => n6 k h k hk rfl
        refine ⟨fun h => hki (g7 k h), ?_, by rcases hk with hk | hk <;> simp [hk]⟩
        rintro rfl
        rcases g6 with rfl | g6
        · exact hn'.1 (by rcases hk with hk | hk <;> simp [hk])
        · exact hki g6
      have hb1y : b1 ∉ Fy := fun h => hbi (g7 _ h)
      have hes : (es.set i (setP p x1 z)).length = es.length := by simp
      have hsz1 : (setP p x1 z).size = sz := by rw [← q1.len, q2, hxi.len]; exact t4 x1 (List.mem_of_getElem? hf)
      have hlen : l.length = es.length * sz := by rw [e4.len, A.sizes_const t4]
      refine ⟨[.slice (some ⟨b1, 0, none⟩) es.length c], b1 :: (F1 ++ Fi' ++ F2), ?_, rfl, ?_, ?_, ?_⟩
      · simp only [setP, hf, Conc, hes]
        refine ⟨_, c, rfl, t1, t2, t3, ?_, .inr ⟨b1, over arr1 (i * sz) ci', ty1, c1 ++ ci' ++ c2, F1 ++ Fi' ++ F2, rfl, q5, by simp [e2], ?_, ?_, rfl, hfree b1 (by simp) hb1y⟩⟩
        · intro x hx
          rcases List.mem_or_eq_of_mem_set hx with h | rfl
          · exact t4 x h
          · exact hsz1
        · have hov : over arr1 0 (c1 ++ ci' ++ c2) = over arr1 (i * sz) ci' := by
            have := over_mid (arr := arr1) (o := 0) (c1 := c1) (ci := ci) (ci' := ci') (c2 := c2) (hl0 ▸ hsl) q2
            rwa [Nat.zero_add, hit] at this
          rw [← hov]
          have hle : es.length * sz ≤ arr1.size := by rw [e2]; exact Nat.mul_le_mul_right _ t2
          apply List.ext_getElem?
          intro k
          rw [List.getElem?_take]
          have hll : (c1 ++ ci' ++ c2).length = es.length * sz := by rw [← hlen, hl0]; simp [q2]
          split
          · rename_i hk
            have hk2 : k < (c1 ++ ci' ++ c2).length := by omega
            rw [Array.getElem?_toList, over_get, Array.getElem?_eq_getElem (by omega : k < arr1.size), if_pos (Nat.zero_le _), Nat.sub_zero, List.getElem?_eq_getElem hk2]
            simp
          · rw [List.getElem?_eq_none (by omega)]
        · exact hup S' h' _ ci' Fi' hS (fun k hk => ⟨hh' k (.inr (hoth k hk).2.2) (hoth k hk).1 (hoth k hk).2.1, hfree k (hoth k hk).2.2 (hoth k hk).1⟩) q1
      · refine List.nodup_cons.2 ⟨?_, ?_⟩
        · intro h
          simp only [List.mem_append] at h
          rcases h with (h | h) | h
          · exact hn'.1 (by simp [h])
          · rcases (q4 b1).1 h with h | h
            · exact hbi h.1
            · exact hb1y (hsep b1 h (by simp))
          · exact hn'.1 (by simp [h])
        · rw [List.append_assoc, List.nodup_append]
          refine ⟨n1, ?_, ?_⟩
          · rw [List.nodup_append]
            refine ⟨q3, n5, ?_⟩
            rintro a ha b' hb'' rfl
            rcases (q4 a).1 ha with h | h
            · exact n6 a h.1 a hb'' rfl
            · exact (hoth a (.inr hb'')).1 (hsep a h (hoth a (.inr hb'')).2.2)
          · rintro a ha b' hb'' rfl
            rcases List.mem_append.1 hb'' with h | h
            · rcases (q4 a).1 h with h | h
              · exact n3 a ha a (by simp [h.1]) rfl
              · exact (hoth a (.inl ha)).1 (hsep a h (hoth a (.inl ha)).2.2)
            · exact n3 a ha a (by simp [h]) rfl
      · intro k
        simp only [List.mem_cons, List.mem_append, q4 k]
        constructor
        · rintro (rfl | (h | h) | h)
          · exact .inl ⟨.inl rfl, hb1y⟩
          · exact .inl ⟨.inr (.inl (.inl h)), (hoth k (.inl h)).1⟩
          · rcases h with h | h
            · exact .inl ⟨.inr (.inl (.inr h.1)), h.2⟩
            · exact .inr h
          · exact .inl ⟨.inr (.inr h), (hoth k (.inr h)).1⟩
        · rintro (⟨rfl | (h | h) | h, h'⟩ | h)
          · exact .inl rfl
          · exact .inr (.inl (.inl h))
          · exact .inr (.inl (.inr (.inl ⟨h, h'⟩)))
          · exact .inr (.inr h)
          · exact .inr (.inl (.inr (.inr h)))
      · rw [over_same hs, hh' b0 (.inl rfl) (fun h => hb (by simp [g7 _ h])) (fun h => hb (h ▸ hb1)), hh]
  | .deref :: _, .atom _, _, _, _, _, _, _, _, _, _, _, _, _, e => by simp [getP] at e
  | .deref :: _, .fn _ _, _, _, _, _, _, _, _, _, _, _, _, _, e => by simp [getP] at e
  | .deref :: _, .agg _, _, _, _, _, _, _, _, _, _, _, _, _, e => by simp [getP] at e
  | .deref :: _, .tup _, _, _, _, _, _, _, _, _, _, _, _, _, e => by simp [getP] at e
  | .deref :: _, .sl _ _ _, _, _, _, _, _, _, _, _, _, _, _, _, e => by simp [getP] at e
  | .deref :: _, .sptr _, _, _, _, _, _, _, _, _, _, _, _, _, e => by simp [getP] at e
  | .deref :: _, .osl _ _ _, _, _, _, _, _, _, _, _, _, _, _, _, e => by simp [getP] at e
  | .deref :: _, .dead _, _, _, _, _, _, _, _, _, _, _, _, _, e => by simp [getP] at e
  | .fld _ :: _, .atom _, _, _, _, _, _, _, _, _, _, _, _, _, e => by simp [getP] at e
  | .fld _ :: _, .fn _ _, _, _, _, _, _, _, _, _, _, _, _, _, e => by simp [getP] at e
  | .fld _ :: _, .tup _, _, _, _, _, _, _, _, _, _, _, _, _, e => by simp [getP] at e
  | .fld _ :: _, .sl _ _ _, _, _, _, _, _, _, _, _, _, _, _, _, e => by simp [getP] at e
  | .fld _ :: _, .sptr _, _, _, _, _, _, _, _, _, _, _, _, _, e => by simp [getP] at e
  | .fld _ :: _, .osl _ _ _, _, _, _, _, _, _, _, _, _, _, _, _, e => by simp [getP] at e
  | .fld _ :: _, .box _, _, _, _, _, _, _, _, _, _, _, _, _, e => by simp [getP] at e
  | .fld _ :: _, .dead _, _, _, _, _, _, _, _, _, _, _, _, _, e => by simp [getP] at e
  | .idx _ :: _, .atom _, _, _, _, _, _, _, _, _, _, _, _, _, e => by simp [getP] at e
  | .idx _ :: _, .fn _ _, _, _, _, _, _, _, _, _, _, _, _, _, e => by simp [getP] at e
  | .idx _ :: _, .agg _, _, _, _, _, _, _, _, _, _, _, _, _, e => by simp [getP] at e
  | .idx _ :: _, .tup _, _, _, _, _, _, _, _, _, _, _, _, _, e => by simp [getP] at e
  | .idx _ :: _, .sl _ _ _, _, _, _, _, _, _, _, _, _, _, _, _, e => by simp [getP] at e
  | .idx _ :: _, .sptr _, _, _, _, _, _, _, _, _, _, _, _, _, e => by simp [getP] at e
  | .idx _ :: _, .box _, _, _, _, _, _, _, _, _, _, _, _, _, e => by simp [getP] at e
  | .idx _ :: _, .dead _, _, _, _, _, _, _, _, _, _, _, _, _, e => by simp [getP] at e

end Go.Own

namespace Go.Own

def valOf : A → List Value → Value
  | .agg _, cs => .agg cs.toArray
  | _, cs => cs.headD undef

def locRoot (h : Array Obj) : List Step → A → Value → Option (Nat × Nat)
  | .deref :: p, .box x, .pointer (some a) => locM h p x a.block 0
  | .idx i :: p, .osl sz _ es, .slice (some a) _ _ => match es[i]? with | some y => locM h p y a.block (i * sz) | none => none
  | _, _, _ => none

/-- A place behind the root's own memory. -/
theorem focusRoot {S : Still} {h : Array Obj} : ∀ (p : List Step) {x0 : A} {cs0 : List Value} {F0 : List Nat},
    Conc S h x0 cs0 F0 → F0.Nodup → ∀ {y : A}, p ≠ [] → (∀ i q, p ≠ .fld i :: q) → getP p x0 = some y →
    ∃ b o arr ty csy Fy, locRoot h p x0 (valOf x0 cs0) = some (b, o) ∧ h[b]? = some (.cells arr ty (0, 0)) ∧ Sits arr o csy ∧ Conc S h y csy Fy ∧ b ∉ Fy ∧ b ∈ F0 ∧ (∀ k ∈ Fy, k ∈ F0) ∧ Fy.Nodup ∧
      ∀ (S' : Still) (h' : Array Obj) (z : A) (csz : List Value) (Fz : List Nat), (∀ b o v, S b o = some v → S' b o = some v) → csz.length = csy.length → Conc S' h' z csz Fz → Fz.Nodup →
        (∀ k ∈ F0, k ∉ Fy → ∀ o, S' k o = none) → (∀ k, k ∈ F0 → k ∉ Fy → k ≠ b → h'[k]? = h[k]?) → h'[b]? = some (.cells (over arr o csz) ty (0, 0)) →
        (∀ k ∈ Fz, k ∈ F0 → k ∈ Fy) →
        ∃ F0', Conc S' h' (setP p x0 z) cs0 F0' ∧ F0'.Nodup ∧ (∀ k, k ∈ F0' ↔ (k ∈ F0 ∧ k ∉ Fy) ∨ k ∈ Fz)
  | [], _, _, _, _, _, _, np, _, _ => absurd rfl np
  | .fld i :: q, _, _, _, _, _, _, _, nf, _ => absurd rfl (nf i q)
  | .deref :: p, .box x, cs0, F0, hx, hn, y, _, _, e => by
    simp only [getP] at e
    simp only [Conc] at hx
    obtain ⟨b1, ty1, l, F', rfl, e1, e2, rfl, e4⟩ := hx
    have hn' := List.nodup_cons.1 hn
    have hsl : Sits l.toArray 0 l := fun j v hj => by simpa using hj
    obtain ⟨b, o, arr, ty, csy, Fy, g1, g2, g3, g4, g5, g6, g7, g8, g9⟩ := focus p e2 hn'.2 hn'.1 e1 hsl e
    have hb1 : b ∈ b1 :: F' := by rcases g6 with rfl | g6 <;> simp [*]
    refine ⟨b, o, arr, ty, csy, Fy, by simp only [valOf, List.headD_cons, locRoot]; exact g1, g2, g3, g4, g5, hb1, fun k hk => by simp [g7 k hk], g8, ?_⟩
    intro S' h' z csz Fz hS hl hz hnz hfree hh' hb' hsep
    obtain ⟨cs', F0', q1, q2, q3, q4, q5⟩ := g9 S' h' z csz Fz hS hl hz hnz (fun k hk => hfree k (by simp [hk])) (fun k hk => hh' k (by simpa using hk)) hb' (fun k hk hk' => hsep k hk (by simp [hk']))
    have hb1y : b1 ∉ Fy := fun h => hn'.1 (g7 _ h)
    have hov : over l.toArray 0 cs' = cs'.toArray := by
      apply Array.ext_getElem?
      intro k
      rw [over_get]
      simp only [Nat.zero_le, if_true, Nat.sub_zero, List.getElem?_toArray]
      by_cases hk : k < l.length
      · rw [List.getElem?_eq_getElem hk, List.getElem?_eq_getElem (by omega)]; simp
      · rw [List.getElem?_eq_none (by omega), List.getElem?_eq_none (by omega)]; rfl
    refine ⟨b1 :: F0', ?_, ?_, ?_⟩
    · simp only [setP, Conc]
      exact ⟨b1, ty1, cs', F0', rfl, by rw [q5, hov], q1, rfl, hfree b1 (by simp) hb1y⟩
    · refine List.nodup_cons.2 ⟨fun h => ?_, q3⟩
      rcases (q4 b1).1 h with h | h
      · exact hn'.1 h.1
      · exact hb1y (hsep b1 h (by simp))
    · intro k
      simp only [List.mem_cons, q4 k]
      constructor
      · rintro (rfl | h | h)
        · exact .inl ⟨.inl rfl, hb1y⟩
        · exact .inl ⟨.inr h.1, h.2⟩
        · exact .inr h
      · rintro (⟨rfl | h, h'⟩ | h)
        · exact .inl rfl
        · exact .inr (.inl ⟨h, h'⟩)
        · exact .inr (.inr h)
  | .idx i :: p, .osl sz t es, cs0, F0, hx, hn, y, _, _, e => by
    simp only [getP] at e
    cases hf : es[i]? with
    | none => simp [hf] at e
    | some x1 =>
      simp only [hf] at e
      simp only [Conc] at hx
      obtain ⟨pp, c, rfl, t1, t2, t3, t4, t5⟩ := hx
      rcases t5 with ⟨rfl, _⟩ | ⟨b1, arr1, ty1, l, F', rfl, e1, e2, e3, e4, rfl, e6⟩
      · simp at hf
      have hn' := List.nodup_cons.1 hn
      obtain ⟨c1, ci, c2, F1, Fi, F2, hl0, rfl, hl1, hxi, hup⟩ := Concs.split e4 hf
      have hsl : Sits arr1 0 l := by
        intro j v hj
        rw [← e3, List.getElem?_take] at hj
        split at hj
        · simpa using hj
        · cases hj
      have hit : c1.length = i * sz := by
        rw [hl1, A.sizes_const (sz := sz) (fun x hx => t4 x (List.mem_of_mem_take hx)), List.length_take]
        have := (List.getElem?_eq_some_iff.1 hf).1
        rw [Nat.min_eq_left (by omega)]
      have hn2 := hn'.2
      rw [List.append_assoc, List.nodup_append] at hn2
      obtain ⟨n1, n2, n3⟩ := hn2
      rw [List.nodup_append] at n2
      obtain ⟨n4, n5, n6⟩ := n2
      have hbi : b1 ∉ Fi := fun h => hn'.1 (by simp [h])
      have hsm : Sits arr1 (i * sz) ci := by
        have := (hl0 ▸ hsl : Sits arr1 0 (c1 ++ ci ++ c2)).mid
        rwa [Nat.zero_add, hit] at this
      obtain ⟨b, o, arr, ty, csy, Fy, g1, g2, g3, g4, g5, g6, g7, g8, g9⟩ := focus p hxi n4 hbi e1 hsm e
      have hb1 : b ∈ b1 :: (F1 ++ Fi ++ F2) := by rcases g6 with rfl | g6 <;> simp [*]
      refine ⟨b, o, arr, ty, csy, Fy, by simp only [valOf, List.headD_cons, locRoot, hf]; exact g1, g2, g3, g4, g5, hb1, fun k hk => by simp [g7 k hk], g8, ?_⟩
      intro S' h' z csz Fz hS hl hz hnz hfree hh' hb' hsep
      have hsub : ∀ k ∈ Fi, k ∈ b1 :: (F1 ++ Fi ++ F2) := fun k hk => by simp [hk]
      have hsub1 : ∀ k, k = b1 ∨ k ∈ Fi → k ∈ b1 :: (F1 ++ Fi ++ F2) := fun k hk => by rcases hk with rfl | hk <;> simp [*]
      obtain ⟨ci', Fi', q1, q2, q3, q4, q5⟩ := g9 S' h' z csz Fz hS hl hz hnz (fun k hk => hfree k (hsub k hk)) (fun k hk => hh' k (hsub1 k hk)) hb' (fun k hk hk' => hsep k hk (hsub k hk'))
      have hoth : ∀ k, k ∈ F1 ∨ k ∈ F2 → k ∉ Fy ∧ k ≠ b ∧ k ∈ b1 :: (F1 ++ Fi ++ F2) := by
        intro k hk
        have hki : k ∉ Fi := by
          rcases hk with hk | hk
          · exact fun h => n3 k hk k (by simp [h]) rfl
          · exact fun h => n6 k h k hk rfl
        refine ⟨fun h => hki (g7 k h), ?_, by rcases hk with hk | hk <;> simp [hk]⟩
        rintro rfl
        rcases g6 with rfl | g6
        · exact hn'.1 (by rcases hk with hk | hk <;> simp [hk])
        · exact hki g6
      have hb1y : b1 ∉ Fy := fun h => hbi (g7 _ h)
      have hes : (es.set i (setP p x1 z)).length = es.length := by simp
      have hsz1 : (setP p x1 z).size = sz := by rw [← q1.len, q2, hxi.len]; exact t4 x1 (List.mem_of_getElem? hf)
      have hlen : l.length = es.length * sz := by rw [e4.len, A.sizes_const t4]
      refine ⟨b1 :: (F1 ++ Fi' ++ F2), ?_, ?_, ?_⟩
      · simp only [setP, hf, Conc, hes]
        refine ⟨_, c, rfl, t1, t2, t3, ?_, .inr ⟨b1, over arr1 (i * sz) ci', ty1, c1 ++ ci' ++ c2, F1 ++ Fi' ++ F2, rfl, q5, by simp [e2], ?_, ?_, rfl, hfree b1 (by simp) hb1y⟩⟩
        · intro x hx
          rcases List.mem_or_eq_of_mem_set hx with h | rfl
          · exact t4 x h
          · exact hsz1
        · have hov : over arr1 0 (c1 ++ ci' ++ c2) = over arr1 (i * sz) ci' := by
            have := over_mid (arr := arr1) (o := 0) (c1 := c1) (ci := ci) (ci' := ci') (c2 := c2) (hl0 ▸ hsl) q2
            rwa [Nat.zero_add, hit] at this
          rw [← hov]
          have hle : es.length * sz ≤ arr1.size := by rw [e2]; exact Nat.mul_le_mul_right _ t2
          apply List.ext_getElem?
          intro k
          rw [List.getElem?_take]
          have hll : (c1 ++ ci' ++ c2).length = es.length * sz := by rw [← hlen, hl0]; simp [q2]
          split
          · rename_i hk
            have hk2 : k < (c1 ++ ci' ++ c2).length := by omega
            rw [Array.getElem?_toList, over_get, Array.getElem?_eq_getElem (by omega : k < arr1.size), if_pos (Nat.zero_le _), Nat.sub_zero, List.getElem?_eq_getElem hk2]
            simp
          · rw [List.getElem?_eq_none (by omega)]
        · exact hup S' h' _ ci' Fi' hS (fun k hk => ⟨hh' k (hoth k hk).2.2 (hoth k hk).1 (hoth k hk).2.1, hfree k (hoth k hk).2.2 (hoth k hk).1⟩) q1
      · refine List.nodup_cons.2 ⟨?_, ?_⟩
        · intro h
          simp only [List.mem_append] at h
          rcases h with (h | h) | h
          · exact hn'.1 (by simp [h])
          · rcases (q4 b1).1 h with h | h
            · exact hbi h.1
            · exact hb1y (hsep b1 h (by simp))
          · exact hn'.1 (by simp [h])
        · rw [List.append_assoc, List.nodup_append]
          refine ⟨n1, ?_, ?_⟩
          · rw [List.nodup_append]
            refine ⟨q3, n5, ?_⟩
            rintro a ha b' hb'' rfl
            rcases (q4 a).1 ha with h | h
            · exact n6 a h.1 a hb'' rfl
            · exact (hoth a (.inr hb'')).1 (hsep a h (hoth a (.inr hb'')).2.2)
          · rintro a ha b' hb'' rfl
            rcases List.mem_append.1 hb'' with h | h
            · rcases (q4 a).1 h with h | h
              · exact n3 a ha a (by simp [h.1]) rfl
              · exact (hoth a (.inl ha)).1 (hsep a h (hoth a (.inl ha)).2.2)
            · exact n3 a ha a (by simp [h]) rfl
      · intro k
        simp only [List.mem_cons, List.mem_append, q4 k]
        constructor
        · rintro (rfl | (h | h) | h)
          · exact .inl ⟨.inl rfl, hb1y⟩
          · exact .inl ⟨.inr (.inl (.inl h)), (hoth k (.inl h)).1⟩
          · rcases h with h | h
            · exact .inl ⟨.inr (.inl (.inr h.1)), h.2⟩
            · exact .inr h
          · exact .inl ⟨.inr (.inr h), (hoth k (.inr h)).1⟩
        · rintro (⟨rfl | (h | h) | h, h'⟩ | h)
          · exact .inl rfl
          · exact .inr (.inl (.inl h))
          · exact .inr (.inl (.inr (.inl ⟨h, h'⟩)))
          · exact .inr (.inr h)
          · exact .inr (.inl (.inr (.inr h)))
  | .deref :: _, .atom _, _, _, _, _, _, _, _, e => by simp [getP] at e
  | .deref :: _, .fn _ _, _, _, _, _, _, _, _, e => by simp [getP] at e
  | .deref :: _, .agg _, _, _, _, _, _, _, _, e => by simp [getP] at e
  | .deref :: _, .tup _, _, _, _, _, _, _, _, e => by simp [getP] at e
  | .deref :: _, .sl _ _ _, _, _, _, _, _, _, _, e => by simp [getP] at e
  | .deref :: _, .sptr _, _, _, _, _, _, _, _, e => by simp [getP] at e
  | .deref :: _, .osl _ _ _, _, _, _, _, _, _, _, e => by simp [getP] at e
  | .deref :: _, .dead _, _, _, _, _, _, _, _, e => by simp [getP] at e
  | .idx _ :: _, .atom _, _, _, _, _, _, _, _, e => by simp [getP] at e
  | .idx _ :: _, .fn _ _, _, _, _, _, _, _, _, e => by simp [getP] at e
  | .idx _ :: _, .agg _, _, _, _, _, _, _, _, e => by simp [getP] at e
  | .idx _ :: _, .tup _, _, _, _, _, _, _, _, e => by simp [getP] at e
  | .idx _ :: _, .sl _ _ _, _, _, _, _, _, _, _, e => by simp [getP] at e
  | .idx _ :: _, .sptr _, _, _, _, _, _, _, _, e => by simp [getP] at e
  | .idx _ :: _, .box _, _, _, _, _, _, _, _, e => by simp [getP] at e
  | .idx _ :: _, .dead _, _, _, _, _, _, _, _, e => by simp [getP] at e

theorem cellAt_frame {h h' : Array Obj} {b o : Nat} (e : h'[b]? = h[b]?) : cellAt h' b o = cellAt h b o := by simp [cellAt, e]

/-- The place lies where it lay if the tree's own blocks, and the cells where the tree lies, are as they were. -/
theorem locM_frame {S : Still} {h h' : Array Obj} : ∀ (p : List Step) {x : A} {cs : List Value} {F : List Nat} {b o : Nat}, Conc S h x cs F → (∀ j v, cs[j]? = some v → cellAt h b (o + j) = some v ∧ cellAt h' b (o + j) = some v) →
    (∀ k ∈ F, h'[k]? = h[k]?) → locM h' p x b o = locM h p x b o
  | [], _, _, _, _, _, _, _, _ => rfl
  | .fld i :: p, .agg fs, cs, F, b, o, hx, hc, hF => by
    simp only [locM]
    cases hf : fs[i]? with
    | none => rfl
    | some y =>
      simp only [Conc] at hx
      obtain ⟨c1, ci, c2, F1, Fi, F2, rfl, rfl, hl1, hxi, _⟩ := Concs.split hx hf
      dsimp only
      rw [← hl1]
      refine locM_frame p hxi (fun j v hj => ?_) (fun k hk => hF k (by simp [hk]))
      have hlt := (List.getElem?_eq_some_iff.1 hj).1
      rw [Nat.add_assoc]
      exact hc (c1.length + j) v (by rw [List.append_assoc, List.getElem?_append_right (by omega), Nat.add_sub_cancel_left, List.getElem?_append_left hlt]; exact hj)
  | .deref :: p, .box x, cs, F, b, o, hx, hc, hF => by
    simp only [Conc] at hx
    obtain ⟨b1, ty1, l, F', rfl, e1, e2, rfl, e4⟩ := hx
    have h0 := hc 0 _ rfl
    simp only [Nat.add_zero] at h0
    simp only [locM, h0.1, h0.2]
    refine locM_frame p e2 (fun j v hj => ?_) (fun k hk => hF k (by simp [hk]))
    rw [cellAt_frame (h := h) (h' := h') (hF b1 (by simp))]
    simp [cellAt, e1, hj]
  | .idx i :: p, .osl sz t es, cs, F, b, o, hx, hc, hF => by
    simp only [locM]
    cases hf : es[i]? with
    | none => rfl
    | some y =>
      simp only [Conc] at hx
      obtain ⟨pp, c, rfl, t1, t2, t3, t4, t5⟩ := hx
      rcases t5 with ⟨rfl, _⟩ | ⟨b1, arr1, ty1, l, F', rfl, e1, e2, e3, e4, rfl, e6⟩
      · simp at hf
      have h0 := hc 0 _ rfl
      simp only [Nat.add_zero] at h0
      simp only [h0.1, h0.2]
      obtain ⟨c1, ci, c2, F1, Fi, F2, rfl, rfl, hl1, hxi, _⟩ := Concs.split e4 hf
      have hit : c1.length = i * sz := by
        rw [hl1, A.sizes_const (sz := sz) (fun x hx => t4 x (List.mem_of_mem_take hx)), List.length_take]
        have := (List.getElem?_eq_some_iff.1 hf).1
        rw [Nat.min_eq_left (by omega)]
      refine locM_frame p hxi (fun j v hj => ?_) (fun k hk => hF k (by simp [hk]))
      rw [cellAt_frame (h := h) (h' := h') (hF b1 (by simp))]
      have hlt := (List.getElem?_eq_some_iff.1 hj).1
      have : (c1 ++ ci ++ c2)[i * sz + j]? = some v := by
        rw [← hit, List.append_assoc, List.getElem?_append_right (by omega), Nat.add_sub_cancel_left, List.getElem?_append_left hlt]; exact hj
      rw [← e3, List.getElem?_take] at this
      split at this
      · simp only [cellAt, e1]; simpa using this
      · cases this
  | .deref :: _, .atom _, _, _, _, _, _, _, _ => rfl
  | .deref :: _, .fn _ _, _, _, _, _, _, _, _ => rfl
  | .deref :: _, .agg _, _, _, _, _, _, _, _ => rfl
  | .deref :: _, .tup _, _, _, _, _, _, _, _ => rfl
  | .deref :: _, .sl _ _ _, _, _, _, _, _, _, _ => rfl
  | .deref :: _, .sptr _, _, _, _, _, _, _, _ => rfl
  | .deref :: _, .osl _ _ _, _, _, _, _, _, _, _ => rfl
  | .deref :: _, .dead _, _, _, _, _, _, _, _ => rfl
  | .fld _ :: _, .atom _, _, _, _, _, _, _, _ => rfl
  | .fld _ :: _, .fn _ _, _, _, _, _, _, _, _ => rfl
  | .fld _ :: _, .tup _, _, _, _, _, _, _, _ => rfl
  | .fld _ :: _, .sl _ _ _, _, _, _, _, _, _, _ => rfl
  | .fld _ :: _, .sptr _, _, _, _, _, _, _, _ => rfl
  | .fld _ :: _, .osl _ _ _, _, _, _, _, _, _, _ => rfl
  | .fld _ :: _, .box _, _, _, _, _, _, _, _ => rfl
  | .fld _ :: _, .dead _, _, _, _, _, _, _, _ => rfl
  | .idx _ :: _, .atom _, _, _, _, _, _, _, _ => rfl
  | .idx _ :: _, .fn _ _, _, _, _, _, _, _, _ => rfl
  | .idx _ :: _, .agg _, _, _, _, _, _, _, _ => rfl
  | .idx _ :: _, .tup _, _, _, _, _, _, _, _ => rfl
  | .idx _ :: _, .sl _ _ _, _, _, _, _, _, _, _ => rfl
  | .idx _ :: _, .sptr _, _, _, _, _, _, _, _ => rfl
  | .idx _ :: _, .box _, _, _, _, _, _, _, _ => rfl
  | .idx _ :: _, .dead _, _, _, _, _, _, _, _ => rfl

theorem locRoot_frame {S : Still} {h h' : Array Obj} (p : List Step) {x : A} {cs : List Value} {F : List Nat} (hx : Conc S h x cs F) (hF : ∀ k ∈ F, h'[k]? = h[k]?) : locRoot h' p x (valOf x cs) = locRoot h p x (valOf x cs) := by
  match p, x, hx with
  | [], x, _ => cases x <;> simp [locRoot]
  | .fld _ :: _, x, _ => cases x <;> simp [locRoot]
  | .deref :: p, .box x, hx =>
    simp only [Conc] at hx
    obtain ⟨b1, ty1, l, F', rfl, e1, e2, rfl, e4⟩ := hx
    simp only [valOf, List.headD_cons, locRoot]
    refine locM_frame p e2 (fun j v hj => ?_) (fun k hk => hF k (by simp [hk]))
    rw [cellAt_frame (h := h) (h' := h') (hF b1 (by simp))]
    simp [cellAt, e1, hj]
  | .idx i :: p, .osl sz t es, hx =>
    simp only [Conc] at hx
    obtain ⟨pp, c, rfl, t1, t2, t3, t4, t5⟩ := hx
    rcases t5 with ⟨rfl, _, rfl, _⟩ | ⟨b1, arr1, ty1, l, F', rfl, e1, e2, e3, e4, rfl, e6⟩
    · simp [valOf, locRoot]
    simp only [valOf, List.headD_cons, locRoot]
    cases hf : es[i]? with
    | none => rfl
    | some y =>
      obtain ⟨c1, ci, c2, F1, Fi, F2, rfl, rfl, hl1, hxi, _⟩ := Concs.split e4 hf
      have hit : c1.length = i * sz := by
        rw [hl1, A.sizes_const (sz := sz) (fun x hx => t4 x (List.mem_of_mem_take hx)), List.length_take]
        have := (List.getElem?_eq_some_iff.1 hf).1
        rw [Nat.min_eq_left (by omega)]
      refine locM_frame p hxi (fun j v hj => ?_) (fun k hk => hF k (by simp [hk]))
      rw [cellAt_frame (h := h) (h' := h') (hF b1 (by simp))]
      have hlt := (List.getElem?_eq_some_iff.1 hj).1
      have : (c1 ++ ci ++ c2)[i * sz + j]? = some v := by
        rw [← hit, List.append_assoc, List.getElem?_append_right (by omega), Nat.add_sub_cancel_left, List.getElem?_append_left hlt]; exact hj
      rw [← e3, List.getElem?_take] at this
      split at this
      · simp only [cellAt, e1]; simpa using this
      · cases this
  | .deref :: _, .atom _, _ => rfl
  | .deref :: _, .fn _ _, _ => rfl
  | .deref :: _, .agg _, _ => rfl
  | .deref :: _, .tup _, _ => rfl
  | .deref :: _, .sl _ _ _, _ => rfl
  | .deref :: _, .sptr _, _ => rfl
  | .deref :: _, .osl _ _ _, _ => rfl
  | .deref :: _, .dead _, _ => rfl
  | .idx _ :: _, .atom _, _ => rfl
  | .idx _ :: _, .fn _ _, _ => rfl
  | .idx _ :: _, .agg _, _ => rfl
  | .idx _ :: _, .tup _, _ => rfl
  | .idx _ :: _, .sl _ _ _, _ => rfl
  | .idx _ :: _, .sptr _, _ => rfl
  | .idx _ :: _, .box _, _ => rfl
  | .idx _ :: _, .dead _, _ => rfl

end Go.Own

namespace Go.Own

inductive T where
  | gone
  | d (a : A)
  | own (a : A)
  | als (r : Nat) (p : List Step) (er ec : Nat)
  | ptr (r : Nat) (p : List Step) (er ec : Nat)

/-- What a temporary holds, and how often its root and its contents have been turned. -/
structure Ent where
  t : T
  er : Nat
  ec : Nat

abbrev St := Nat → Ent
def upd (st : St) (k : Nat) (e : Ent) : St := fun t => if t = k then e else st t
theorem upd_same (st : St) (k : Nat) (e : Ent) : upd st k e k = e := by simp [upd]
theorem upd_ne (st : St) {k t : Nat} (e : Ent) (h : t ≠ k) : upd st k e t = st t := by simp [upd, h]

def applyU : List (Nat × Ent) → St → St
  | [], st => st
  | u :: us, st => applyU us (upd st u.1 u.2)

def SM (α : Type) := St → Option (α × List Nat × List (Nat × Ent))
def SM.bind {α β : Type} (m : SM α) (f : α → SM β) : SM β := fun st =>
  match m st with
  | none => none
  | some (a, R, U) =>
    match f a (applyU U st) with
    | none => none
    | some (b, R', U') => some (b, R ++ R', U ++ U')
def SM.pure {α : Type} (a : α) : SM α := fun _ => some (a, [], [])
instance : Monad SM := { pure := SM.pure, bind := SM.bind }
def sfail {α : Type} : SM α := fun _ => none
def rdE (k : Nat) : SM Ent := fun st => some (st k, [k], [])
def wrE (k : Nat) (e : Ent) : SM Unit := fun _ => some ((), [], [(k, e)])
def ofO {α : Type} (x : Option α) : SM α := fun _ => match x with | some a => some (a, [], []) | none => none

def All2 {α β : Type} (R : α → β → Prop) : List α → List β → Prop
  | [], [] => True
  | a :: as, b :: bs => R a b ∧ All2 R as bs
  | _, _ => False

def Rep1 (S : Still) (a : A) (v : Value) : Prop := ∃ cs, Rep S a cs ∧ v = valOf a cs
def RepV (S : Still) : A → Value → Prop
  | .tup fs, v => ∃ vs, v = .tuple vs.toArray ∧ All2 (Rep1 S) fs vs
  | a, v => Rep1 S a v

theorem All2.mono {α β : Type} {R R' : α → β → Prop} (h : ∀ a b, R a b → R' a b) : ∀ {as : List α} {bs : List β}, All2 R as bs → All2 R' as bs
  | [], [], _ => trivial
  | _ :: _, _ :: _, r => ⟨h _ _ r.1, All2.mono h r.2⟩
  | [], _ :: _, r => r.elim
  | _ :: _, [], r => r.elim

theorem Rep1.mono {S S' : Still} (h : ∀ b o v, S b o = some v → S' b o = some v) {a : A} {v : Value} (r : Rep1 S a v) : Rep1 S' a v :=
  let ⟨cs, r1, r2⟩ := r; ⟨cs, r1.mono h, r2⟩
theorem RepV.mono {S S' : Still} (h : ∀ b o v, S b o = some v → S' b o = some v) {a : A} {v : Value} (r : RepV S a v) : RepV S' a v := by
  cases a <;> simp only [RepV] at r ⊢ <;> first | exact r.mono h | (obtain ⟨vs, e, r⟩ := r; exact ⟨vs, e, r.mono fun _ _ q => q.mono h⟩)

theorem Rep1.repV {S : Still} {a : A} {v : Value} (r : Rep1 S a v) : RepV S a v := by
  cases a <;> simp only [RepV] <;> first | exact r | (obtain ⟨cs, h, _⟩ := r; simp [Rep] at h)

theorem RepV.rep1 {S : Still} {a : A} {v : Value} (h : a.isD = true) (r : RepV S a v) : Rep1 S a v := by
  cases a <;> simp only [RepV] at r <;> first | exact r | simp [A.isD] at h

def ownP : List Step → Bool
  | .deref :: _ | .idx _ :: _ => true
  | _ => false

/-- From (b, o) on the heap holds these cells. -/
def SitsH (h : Array Obj) (b o : Nat) (cs : List Value) : Prop := ∀ j u, cs[j]? = some u → cellAt h b (o + j) = some u

def AlsOk (h : Array Obj) (st : St) (tv : Nat → Value) (r : Nat) (p : List Step) (er ec : Nat) (v : Value) : Prop :=
  er ≤ (st r).er ∧ ec ≤ (st r).ec ∧
  match (st r).t with
  | .own x => (st r).er = er → (p = [] ∨ (st r).ec = ec) → (p = [] ∧ v = tv r) ∨ (ownP p = true ∧ ∃ y b o cs, getP p x = some y ∧ locRoot h p x (tv r) = some (b, o) ∧ cs.length = y.size ∧ SitsH h b o cs ∧ v = valOf y cs)
  | .d _ => (st r).er = er → p = [] → v = tv r
  | _ => True

def PtrOk (h : Array Obj) (st : St) (tv : Nat → Value) (r : Nat) (p : List Step) (er ec : Nat) (v : Value) : Prop :=
  er ≤ (st r).er ∧ ec ≤ (st r).ec ∧
  match (st r).t with
  | .own x => (st r).er = er → (st r).ec = ec → ownP p = true ∧ ∃ y b o, getP p x = some y ∧ locRoot h p x (tv r) = some (b, o) ∧ v = .pointer (some ⟨b, o, none⟩)
  | _ => True

def EntOk (S : Still) (h : Array Obj) (st : St) (tv : Nat → Value) (F : List Nat) (e : Ent) (v : Value) : Prop :=
  match e.t with
  | .gone => F = []
  | .d a => RepV S a v ∧ F = []
  | .own a => ∃ cs, Conc S h a cs F ∧ F.Nodup ∧ v = valOf a cs
  | .als r p er ec => F = [] ∧ AlsOk h st tv r p er ec v
  | .ptr r p er ec => F = [] ∧ PtrOk h st tv r p er ec v

/-- A frame: how many slots; and one slot that is not written (none: all may be). -/
structure Fr where
  size : Nat
  pin : Option Nat
def Fr.ok (n : Fr) (k : Nat) : Bool := decide (k < n.size) && (n.pin != some k)
theorem Fr.lt {n : Fr} {k : Nat} (h : n.ok k = true) : k < n.size := by simp [Fr.ok] at h; exact h.1
theorem Fr.free {n : Fr} {k : Nat} (h : n.ok k = true) : n.pin ≠ some k := by simp [Fr.ok] at h; exact h.2

/-- Frame, world and sealed cells at the call's begin; and the blocks that the call may turn: those made since, and those handed to it. -/
structure Ctx where
  n : Fr
  pv : Value
  w0 : World
  S0 : Still
  M : Nat → Prop

structure Kept (M : Nat → Prop) (w w' : World) : Prop where
  os : w'.os = w.os
  tape : w'.tape = w.tape
  output : w'.output = w.output
  size : w.heap.size ≤ w'.heap.size
  block : ∀ k, ¬ M k → w'.heap[k]? = w.heap[k]?

theorem Kept.refl (M : Nat → Prop) (w : World) : Kept M w w := ⟨rfl, rfl, rfl, Nat.le_refl _, fun _ _ => rfl⟩
theorem Kept.trans {M : Nat → Prop} {a b c : World} (h : Kept M a b) (k : Kept M b c) : Kept M a c :=
  ⟨k.os.trans h.os, k.tape.trans h.tape, k.output.trans h.output, Nat.le_trans h.size k.size, fun i hi => (k.block i hi).trans (h.block i hi)⟩
theorem Kept.mono {M M' : Nat → Prop} {w w' : World} (h : Kept M w w') (hM : ∀ k, M k → M' k) : Kept M' w w' := ⟨h.os, h.tape, h.output, h.size, fun k hk => h.block k fun q => hk (hM k q)⟩
theorem Kept.drew {M : Nat → Prop} {a w : World} (h : Kept M a w) : Kept M a w.drew := ⟨h.os, h.tape, h.output, h.size, h.block⟩
theorem Kept.alloc {M : Nat → Prop} {a w : World} (h : Kept M a w) (hM : M w.heap.size) (o : Obj) : Kept M a (w.alloc o) :=
  h.trans ⟨rfl, rfl, rfl, by simp, fun k hk => by
    show (w.heap.push o)[k]? = _
    rw [Array.getElem?_push, if_neg (by rintro rfl; exact hk hM)]⟩

def Act.tv (a : Act) (t : Nat) : Value := a.tmps.getD t undef

structure Sim (C : Ctx) (S : Still) (Fp : Nat → List Nat) (X : List Nat) (st : St) (a : Act) (w : World) : Prop where
  size : a.tmps.size = C.n.size
  pin : ∀ i, C.n.pin = some i → Act.tv a i = C.pv
  defers : a.defers = []
  below : Kept C.M C.w0 w
  mine : ∀ k, C.w0.heap.size ≤ k → C.M k
  still : ∀ b o v, S b o = some v → cellAt w.heap b o = some v
  sinc : ∀ b o v, C.S0 b o = some v → S b o = some v
  sbase : ∀ b o, ¬ C.M b → S b o = C.S0 b o
  ent : ∀ t, EntOk S w.heap st (Act.tv a) (Fp t) (st t) (Act.tv a t)
  disj : ∀ t u k, k ∈ Fp t → k ∈ Fp u → t = u
  base : ∀ t k, k ∈ Fp t → C.M k
  xn : X.Nodup
  xd : ∀ t k, k ∈ X → k ∉ Fp t
  xb : ∀ k, k ∈ X → C.M k

def updF (Fp : Nat → List Nat) (k : Nat) (F : List Nat) : Nat → List Nat := fun t => if t = k then F else Fp t

theorem AlsOk.frame {S : Still} {h h' : Array Obj} {st : St} {tv : Nat → Value} {r : Nat} {p : List Step} {er ec : Nat} {v : Value} {F : List Nat} (hr : EntOk S h st tv F (st r) (tv r)) (hF : ∀ k ∈ F, h'[k]? = h[k]?)
    (q : AlsOk h st tv r p er ec v) : AlsOk h' st tv r p er ec v := by
  obtain ⟨q1, q2, q3⟩ := q
  refine ⟨q1, q2, ?_⟩
  unfold EntOk at hr
  cases ht : (st r).t with
  | own x =>
    simp only [ht] at q3 hr ⊢
    intro e1 e2
    rcases q3 e1 e2 with q | ⟨q4, y, b, o, cs, g1, g2, g3, g4, g5⟩
    · exact .inl q
    · refine .inr ⟨q4, y, b, o, cs, g1, ?_, g3, ?_, g5⟩
      · obtain ⟨cs', c1, c2, c3⟩ := hr
        rw [c3] at g2 ⊢
        rw [locRoot_frame p c1 hF]; exact g2
      · obtain ⟨cs', c1, c2, c3⟩ := hr
        obtain ⟨b', o', arr, ty, csy, Fy, f1, f2, f3, f4, f5, f6, _⟩ := focusRoot p c1 c2 (by rintro rfl; simp [ownP] at q4) (by rintro i q rfl; simp [ownP] at q4) g1
        rw [c3, f1] at g2
        simp only [Option.some.injEq, Prod.mk.injEq] at g2
        obtain ⟨rfl, rfl⟩ := g2
        intro j u hj
        rw [cellAt_frame (hF _ f6)]
        exact g4 j u hj
  | gone => trivial
  | d x => simpa only [ht] using q3
  | als _ _ _ _ => trivial
  | ptr _ _ _ _ => trivial

theorem PtrOk.frame {S : Still} {h h' : Array Obj} {st : St} {tv : Nat → Value} {r : Nat} {p : List Step} {er ec : Nat} {v : Value} {F : List Nat} (hr : EntOk S h st tv F (st r) (tv r)) (hF : ∀ k ∈ F, h'[k]? = h[k]?)
    (q : PtrOk h st tv r p er ec v) : PtrOk h' st tv r p er ec v := by
  obtain ⟨q1, q2, q3⟩ := q
  refine ⟨q1, q2, ?_⟩
  unfold EntOk at hr
  cases ht : (st r).t with
  | own x =>
    simp only [ht] at q3 hr ⊢
    intro e1 e2
    obtain ⟨q4, y, b, o, g1, g2, g3⟩ := q3 e1 e2
    refine ⟨q4, y, b, o, g1, ?_, g3⟩
    obtain ⟨cs', c1, c2, c3⟩ := hr
    rw [c3] at g2 ⊢
    rw [locRoot_frame p c1 hF]; exact g2
  | gone => trivial
  | d x => trivial
  | als _ _ _ _ => trivial
  | ptr _ _ _ _ => trivial

/-- The memory has grown; no tree's block has turned. -/
theorem Sim.mem {C : Ctx} {S S' : Still} {Fp : Nat → List Nat} {X X' : List Nat} {st : St} {a : Act} {w w' : World} (h : Sim C S Fp X st a w) (hb : Kept C.M C.w0 w') (hS : ∀ b o v, S b o = some v → S' b o = some v)
    (hst : ∀ b o v, S' b o = some v → cellAt w'.heap b o = some v) (hsb : ∀ b o, ¬ C.M b → S' b o = C.S0 b o) (hF : ∀ t k, k ∈ Fp t → w'.heap[k]? = w.heap[k]? ∧ ∀ o, S' k o = none)
    (xn : X'.Nodup) (xd : ∀ t k, k ∈ X' → k ∉ Fp t) (xb : ∀ k, k ∈ X' → C.M k) : Sim C S' Fp X' st a w' where
  size := h.size
  pin := h.pin
  defers := h.defers
  below := hb
  mine := h.mine
  still := hst
  sinc := fun b o v q => hS _ _ _ (h.sinc _ _ _ q)
  sbase := hsb
  ent := fun t => by
    have q := h.ent t
    unfold EntOk at q ⊢
    cases ht : (st t).t with
    | gone => simpa only [ht] using q
    | d x => simp only [ht] at q ⊢; exact ⟨q.1.mono hS, q.2⟩
    | own x => simp only [ht] at q ⊢; obtain ⟨cs, q1, q2, q3⟩ := q; exact ⟨cs, q1.frame hS (fun k hk => hF t k hk), q2, q3⟩
    | als r p er ec => simp only [ht] at q ⊢; exact ⟨q.1, q.2.frame (h.ent r) (fun k hk => (hF r k hk).1)⟩
    | ptr r p er ec => simp only [ht] at q ⊢; exact ⟨q.1, q.2.frame (h.ent r) (fun k hk => (hF r k hk).1)⟩
  disj := h.disj
  base := h.base
  xn := xn
  xd := xd
  xb := xb

/-- A root's tree is another; its value in the frame is the same. -/
theorem Sim.change {C : Ctx} {S S' : Still} {Fp : Nat → List Nat} {X X' : List Nat} {st : St} {a : Act} {w w' : World} (h : Sim C S Fp X st a w) (r : Nat) (T' : T) (er' ec' : Nat) (F' : List Nat)
    (hb : Kept C.M C.w0 w') (hS : ∀ b o v, S b o = some v → S' b o = some v)
    (hst : ∀ b o v, S' b o = some v → cellAt w'.heap b o = some v) (hsb : ∀ b o, ¬ C.M b → S' b o = C.S0 b o) (hF : ∀ t k, t ≠ r → k ∈ Fp t → w'.heap[k]? = w.heap[k]? ∧ ∀ o, S' k o = none)
    (hT : match T' with
      | .gone => F' = []
      | .d x => RepV S' x (Act.tv a r) ∧ F' = []
      | .own x => (∃ cs, Conc S' w'.heap x cs F' ∧ F'.Nodup ∧ Act.tv a r = valOf x cs) ∧ ∃ y, (st r).t = .own y
      | _ => False)
    (ht0 : (∃ y, (st r).t = .own y) ∨ ∃ y, (st r).t = .d y)
    (her : (st r).er ≤ er') (hec : (st r).ec < ec')
    (fd : ∀ t k, t ≠ r → k ∈ F' → k ∉ Fp t) (fb : ∀ k, k ∈ F' → C.M k)
    (xn : X'.Nodup) (xd : ∀ t k, t ≠ r → k ∈ X' → k ∉ Fp t) (xf : ∀ k, k ∈ X' → k ∉ F') (xb : ∀ k, k ∈ X' → C.M k) :
    Sim C S' (updF Fp r F') X' (upd st r ⟨T', er', ec'⟩) a w' where
  size := h.size
  pin := h.pin
  defers := h.defers
  below := hb
  mine := h.mine
  still := hst
  sinc := fun b o v q => hS _ _ _ (h.sinc _ _ _ q)
  sbase := hsb
  ent := fun t => by
    by_cases htr : t = r
    · subst htr
      rw [upd_same]
      simp only [updF, if_true, EntOk]
      cases T' with
      | gone => exact hT
      | d x => exact hT
      | own x => exact hT.1
      | als _ _ _ _ => exact hT.elim
      | ptr _ _ _ _ => exact hT.elim
    · rw [upd_ne _ _ htr]
      simp only [updF, htr, if_false]
      have q := h.ent t
      unfold EntOk at q ⊢
      cases ht : (st t).t with
      | gone => simpa only [ht] using q
      | d x => simp only [ht] at q ⊢; exact ⟨q.1.mono hS, q.2⟩
      | own x => simp only [ht] at q ⊢; obtain ⟨cs, q1, q2, q3⟩ := q; exact ⟨cs, q1.frame hS (fun k hk => hF t k htr hk), q2, q3⟩
      | als u p er ec =>
        simp only [ht] at q ⊢
        refine ⟨q.1, ?_⟩
        by_cases hu : u = r
        · subst hu
          obtain ⟨q1, q2, q3⟩ := q.2
          unfold AlsOk
          rw [upd_same]
          refine ⟨Nat.le_trans q1 her, Nat.le_trans q2 (Nat.le_of_lt hec), ?_⟩
          cases T' with
          | gone => trivial
          | d x =>
            dsimp only
            intro e1 e2
            rcases ht0 with ⟨y, hy⟩ | ⟨y, hy⟩
            · simp only [hy] at q3
              rcases q3 (by omega) (.inl e2) with q | q
              · exact q.2
              · simp [e2, ownP] at q
            · simp only [hy] at q3
              exact q3 (by omega) e2
          | own x =>
            dsimp only
            intro e1 e2
            obtain ⟨_, y, hy⟩ := hT
            simp only [hy] at q3
            have hp : p = [] := e2.resolve_right (by omega)
            rcases q3 (by omega) (.inl hp) with q | q
            · exact .inl q
            · simp [hp, ownP] at q
          | als _ _ _ _ => trivial
          | ptr _ _ _ _ => trivial
        · have := AlsOk.frame (h' := w'.heap) (h.ent u) (fun k hk => (hF u k hu hk).1) q.2
          unfold AlsOk at this ⊢
          rw [upd_ne _ _ hu]
          exact this
      | ptr u p er ec =>
        simp only [ht] at q ⊢
        refine ⟨q.1, ?_⟩
        by_cases hu : u = r
        · subst hu
          obtain ⟨q1, q2, q3⟩ := q.2
          unfold PtrOk
          rw [upd_same]
          refine ⟨Nat.le_trans q1 her, Nat.le_trans q2 (Nat.le_of_lt hec), ?_⟩
          cases T' with
          | gone => trivial
          | d x => trivial
          | own x =>
            dsimp only
            intro e1 e2
            omega
          | als _ _ _ _ => trivial
          | ptr _ _ _ _ => trivial
        · have := PtrOk.frame (h' := w'.heap) (h.ent u) (fun k hk => (hF u k hu hk).1) q.2
          unfold PtrOk at this ⊢
          rw [upd_ne _ _ hu]
          exact this
  disj := fun t u k ht hu => by
    simp only [updF] at ht hu
    split at ht <;> split at hu
    · simp_all
    · exact absurd hu (fd u k ‹_› ht)
    · exact absurd ht (fd t k ‹_› hu)
    · exact h.disj t u k ht hu
  base := fun t k ht => by
    simp only [updF] at ht
    split at ht
    · exact fb k ht
    · exact h.base t k ht
  xn := xn
  xd := fun t k hk => by
    simp only [updF]
    split
    · exact xf k hk
    · exact xd t k ‹_› hk
  xb := xb

theorem Act.tv_put (a : Act) (k : Nat) (v : Value) (hk : k < a.tmps.size) (t : Nat) : Act.tv (a.put (some k) v) t = if t = k then v else Act.tv a t := by
  simp only [Act.tv, Go.Act.put, Array.getD_eq_getD_getElem?, Array.getElem?_setIfInBounds]
  by_cases h : t = k
  · subst h; simp [hk]
  · simp [h, Ne.symm h]

theorem AlsOk.put {h : Array Obj} {st : St} {tv tv' : Nat → Value} {k : Nat} {e : Ent} (her : (st k).er < e.er) (hec : (st k).ec < e.ec) (htv : ∀ t, t ≠ k → tv' t = tv t) {r : Nat} {p : List Step} {er ec : Nat} {v : Value}
    (q : AlsOk h st tv r p er ec v) : AlsOk h (upd st k e) tv' r p er ec v := by
  unfold AlsOk at q ⊢
  obtain ⟨q1, q2, q3⟩ := q
  by_cases hr : r = k
  · subst hr
    rw [upd_same]
    refine ⟨by omega, by omega, ?_⟩
    cases e.t with
    | own x => dsimp only; intro e1; omega
    | d x => dsimp only; intro e1; omega
    | gone => trivial
    | als _ _ _ _ => trivial
    | ptr _ _ _ _ => trivial
  · rw [upd_ne _ _ hr, htv r hr]
    exact ⟨q1, q2, q3⟩

theorem PtrOk.put {h : Array Obj} {st : St} {tv tv' : Nat → Value} {k : Nat} {e : Ent} (her : (st k).er < e.er) (hec : (st k).ec < e.ec) (htv : ∀ t, t ≠ k → tv' t = tv t) {r : Nat} {p : List Step} {er ec : Nat} {v : Value}
    (q : PtrOk h st tv r p er ec v) : PtrOk h (upd st k e) tv' r p er ec v := by
  unfold PtrOk at q ⊢
  obtain ⟨q1, q2, q3⟩ := q
  by_cases hr : r = k
  · subst hr
    rw [upd_same]
    refine ⟨by omega, by omega, ?_⟩
    cases e.t with
    | own x => dsimp only; intro e1; omega
    | d x => trivial
    | gone => trivial
    | als _ _ _ _ => trivial
    | ptr _ _ _ _ => trivial
  · rw [upd_ne _ _ hr, htv r hr]
    exact ⟨q1, q2, q3⟩

/-- A temporary is written. -/
theorem Sim.put {C : Ctx} {S : Still} {Fp : Nat → List Nat} {X X' : List Nat} {st : St} {a : Act} {w : World} (h : Sim C S Fp X st a w) {k : Nat} (hk : C.n.ok k = true) (T' : T) (F : List Nat) (v : Value)
    (hT : EntOk S w.heap (upd st k ⟨T', (st k).er + 1, (st k).ec + 1⟩) (fun t => if t = k then v else Act.tv a t) F ⟨T', (st k).er + 1, (st k).ec + 1⟩ v)
    (fd : ∀ t m, t ≠ k → m ∈ F → m ∉ Fp t) (fb : ∀ m, m ∈ F → C.M m)
    (xn : X'.Nodup) (xd : ∀ t m, t ≠ k → m ∈ X' → m ∉ Fp t) (xf : ∀ m, m ∈ X' → m ∉ F) (xb : ∀ m, m ∈ X' → C.M m) :
    Sim C S (updF Fp k F) X' (upd st k ⟨T', (st k).er + 1, (st k).ec + 1⟩) (a.put (some k) v) w := by
  have hk' : k < a.tmps.size := h.size ▸ Fr.lt hk
  have htv : Act.tv (a.put (some k) v) = fun t => if t = k then v else Act.tv a t := funext (Act.tv_put a k v hk')
  exact {
    size := by simp [Go.Act.put, h.size]
    pin := fun i hi => by
      rw [htv]
      have hne : i ≠ k := by rintro rfl; exact Fr.free hk hi
      simp only [if_neg hne]
      exact h.pin i hi
    defers := h.defers
    below := h.below
    mine := h.mine
    still := h.still
    sinc := h.sinc
    sbase := h.sbase
    ent := fun t => by
      rw [htv]
      by_cases ht : t = k
      · subst ht
        rw [upd_same]
        simpa only [updF, if_true] using hT
      · rw [upd_ne _ _ ht]
        simp only [updF, ht, if_false]
        have q := h.ent t
        unfold EntOk at q ⊢
        cases htt : (st t).t with
        | gone => simpa only [htt] using q
        | d x => simpa only [htt] using q
        | own x => simpa only [htt] using q
        | als r p er ec => simp only [htt] at q ⊢; exact ⟨q.1, q.2.put (Nat.lt_succ_self _) (Nat.lt_succ_self _) (fun t ht => by simp [ht])⟩
        | ptr r p er ec => simp only [htt] at q ⊢; exact ⟨q.1, q.2.put (Nat.lt_succ_self _) (Nat.lt_succ_self _) (fun t ht => by simp [ht])⟩
    disj := fun t u m ht hu => by
      simp only [updF] at ht hu
      split at ht <;> split at hu
      · simp_all
      · exact absurd hu (fd u m ‹_› ht)
      · exact absurd ht (fd t m ‹_› hu)
      · exact h.disj t u m ht hu
    base := fun t m ht => by
      simp only [updF] at ht
      split at ht
      · exact fb m ht
      · exact h.base t m ht
    xn := xn
    xd := fun t m hm => by
      simp only [updF]
      split
      · exact xf m hm
      · exact xd t m ‹_› hm
    xb := xb }

end Go.Own
