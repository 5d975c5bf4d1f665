/- What the functions compute, as plain Lean. -/
import Derived.Test.YtdnenbcldibnoaaOwnG
namespace Go.Own

def cmpI (a b : Int) : Int := if a < b then -1 else if a > b then 1 else 0
def lexC : List Int → List Int → Int
  | [], [] => 0
  | [], _ :: _ => -1
  | _ :: _, [] => 1
  | a :: x, b :: y => if cmpI a b ≠ 0 then cmpI a b else lexC x y
/-- The order of words. -/
def wcmp (a b : List Int) : Int := if cmpI a.length b.length ≠ 0 then cmpI a.length b.length else lexC a b
def orI : List Int → Int
  | [] => 0
  | x :: l => if x ≠ 0 then x else orI l

theorem cmpI_zero {a b : Int} : cmpI a b = 0 ↔ a = b := by
  unfold cmpI
  (repeat' split) <;> omega
theorem lexC_zero : ∀ {a b : List Int}, lexC a b = 0 ↔ a = b
  | [], [] => by simp [lexC]
  | [], _ :: _ => by simp [lexC]
  | _ :: _, [] => by simp [lexC]
  | a :: x, b :: y => by
    simp only [lexC, ne_eq, ite_not, List.cons.injEq]
    have h1 := @lexC_zero x y
    have h2 := @cmpI_zero a b
    split
    · rename_i h; rw [h1]; simp [h2.1 h]
    · rename_i h; simp only [h, false_iff]; intro q; exact h (h2.2 q.1)
theorem wcmp_zero {a b : List Int} : wcmp a b = 0 ↔ a = b := by
  unfold wcmp
  split
  · rename_i h
    simp only [h, false_iff]
    intro q; subst q; exact h (cmpI_zero.2 rfl)
  · exact lexC_zero
theorem wcmp_or (a b : List Int) : orI [cmpI a.length b.length, lexC a b] = wcmp a b := by
  simp only [orI, wcmp]
  split
  · rfl
  · split
    · rfl
    · rename_i h; simp only [ne_eq, Decidable.not_not] at h; exact h.symm

/-- Words in their order, each once. -/
def Asc (l : List (List Int)) : Prop := ∀ (i : Nat) a b, l[i]? = some a → l[i + 1]? = some b → wcmp a b < 0

/-- A valid list of words over n inputs. -/
structure LOk (n : Int) (l : List (List Int)) : Prop where
  n1 : 1 ≤ n
  n2 : n ≤ 16
  len : l.length ≤ 4096
  sym : ∀ w ∈ l, Sym n w
  short : ∀ w ∈ l, w.length ≤ 256
  asc : Asc l
  sum : (l.map List.length).sum ≤ 65536

theorem sum_take_le (l : List Nat) (i : Nat) : (l.take i).sum ≤ l.sum := by
  conv => rhs; rw [← List.take_append_drop i l, List.sum_append]
  omega
theorem sum_take_succ (l : List (List Int)) {i : Nat} {w : List Int} (h : l[i]? = some w) : ((l.map List.length).take (i + 1)).sum = ((l.map List.length).take i).sum + w.length := by
  obtain ⟨hi, rfl⟩ := List.getElem?_eq_some_iff.1 h
  rw [List.take_succ_eq_append_getElem (by simpa using hi)]
  simp

theorem drop_cons {α : Type} {l : List α} {i : Nat} {x : α} (h : l[i]? = some x) : l.drop i = x :: l.drop (i + 1) := by
  obtain ⟨hi, rfl⟩ := List.getElem?_eq_some_iff.1 h
  exact List.drop_eq_getElem_cons hi
theorem some_at {α : Type} {l : List α} {i : Nat} (h : i < l.length) : ∃ x, l[i]? = some x := ⟨_, List.getElem?_eq_getElem h⟩

def stepF (m o : Mach) : Int → Int → List Int → Nat → Int
  | _, _, [], _ => -1
  | s, t, i :: w, k => if (nx m s i).2 ≠ (nx o t i).2 then k else stepF m o (nx m s i).1 (nx o t i).1 w (k + 1)


def passF (m o : Mach) : List (List Int) → Nat → Int × Int
  | [], _ => (-1, -1)
  | w :: l, i => if stepF m o 0 0 w 0 ≠ -1 then (i, stepF m o 0 0 w 0) else passF m o l (i + 1)
def fatF (m o : Mach) : List (List Int) → Nat → List Int
  | [], _ => []
  | w :: l, i => if stepF m o 0 0 w 0 ≠ -1 then (i : Int) :: fatF m o l (i + 1) else fatF m o l (i + 1)
def runF (m : Mach) : Int → List Int → List Int
  | _, [] => []
  | s, i :: w => (nx m s i).2 :: runF m (nx m s i).1 w
def difF : List Int → List Int → Nat → Int
  | a :: x, b :: y, k => if a ≠ b then k else difF x y (k + 1)
  | _, _, _ => -1

theorem runF_length (m : Mach) : ∀ (w : List Int) (s : Int), (runF m s w).length = w.length
  | [], _ => rfl
  | _ :: w, _ => by simp [runF, runF_length m w]
theorem dif_step (m o : Mach) : ∀ (w : List Int) (s t : Int) (k : Nat), difF (runF m s w) (runF o t w) k = stepF m o s t w k
  | [], _, _, _ => rfl
  | i :: w, s, t, k => by
    simp only [runF, difF, stepF]
    rw [dif_step m o w]
theorem stepF_cases (m o : Mach) : ∀ (w : List Int) (s t : Int) (k : Nat), stepF m o s t w k = -1 ∨ 0 ≤ stepF m o s t w k
  | [], _, _, _ => .inl rfl
  | i :: w, s, t, k => by
    simp only [stepF]
    split
    · right; omega
    · exact stepF_cases m o w _ _ _
theorem fatF_length (m o : Mach) : ∀ (l : List (List Int)) (i : Nat), (fatF m o l i).length ≤ l.length
  | [], _ => Nat.le_refl _
  | w :: l, i => by
    simp only [fatF]
    have := fatF_length m o l (i + 1)
    split <;> simp <;> omega

end Go.Own

namespace Go.Own
def spNaN : Spec where
  α := Int
  k := 131
  raw := false
  gives := []
  enc := fun a => [.atom (.int .i64 a)]
  pre := fun a => True
  f := fun a => .atom (.bool false)
  inj := by
    rintro a0 b0 h _ _
    simp only [List.cons.injEq, and_true] at h
    have h0 := h
    have e0 := I_inj _ _ h0
    subst e0
    rfl
theorem spNaN_run {ctr : Ctr} (hh : ctr.Has spNaN) {a : Int}  : ctr.run 131 [.atom (.int .i64 a)] = some (.atom (.bool false)) := hh.run a trivial
theorem spNaN_at {ctr : Ctr} (h : ctr.Has spNaN) : ctr.gives 131 = [] ∧ ctr.raw 131 = false ∧ ctr.lend 131 = none := ⟨h.gives, h.raw, h.lend⟩
def spCmpI : Spec where
  α := Int × Int
  k := 104
  raw := false
  gives := []
  enc := fun ⟨a, b⟩ => [.atom (.int .i64 a), .atom (.int .i64 b)]
  pre := fun ⟨a, b⟩ => True
  f := fun ⟨a, b⟩ => .atom (.int .i64 (cmpI a b))
  inj := by
    rintro ⟨a0, a1⟩ ⟨b0, b1⟩ h _ _
    simp only [List.cons.injEq, and_true] at h
    obtain ⟨h0, h1⟩ := h
    have e0 := I_inj _ _ h0
    have e1 := I_inj _ _ h1
    subst e0 e1
    rfl
theorem spCmpI_run {ctr : Ctr} (hh : ctr.Has spCmpI) {a : Int} {b : Int}  : ctr.run 104 [.atom (.int .i64 a), .atom (.int .i64 b)] = some (.atom (.int .i64 (cmpI a b))) := hh.run (a, b) trivial
theorem spCmpI_at {ctr : Ctr} (h : ctr.Has spCmpI) : ctr.gives 104 = [] ∧ ctr.raw 104 = false ∧ ctr.lend 104 = none := ⟨h.gives, h.raw, h.lend⟩
def spLex : Spec where
  α := List Int × List Int
  k := 80
  raw := false
  gives := []
  enc := fun ⟨a, b⟩ => [encW a, encW b]
  pre := fun ⟨a, b⟩ => (a.length ≤ 4096) ∧ (b.length ≤ 4096)
  f := fun ⟨a, b⟩ => .atom (.int .i64 (lexC a b))
  inj := by
    rintro ⟨a0, a1⟩ ⟨b0, b1⟩ h _ _
    simp only [List.cons.injEq, and_true] at h
    obtain ⟨h0, h1⟩ := h
    have e0 := encW_inj _ _ h0
    have e1 := encW_inj _ _ h1
    subst e0 e1
    rfl
theorem spLex_run {ctr : Ctr} (hh : ctr.Has spLex) {a : List Int} {b : List Int} (ha : a.length ≤ 4096) (hb : b.length ≤ 4096) : ctr.run 80 [encW a, encW b] = some (.atom (.int .i64 (lexC a b))) := hh.run (a, b) ⟨ha, hb⟩
theorem spLex_at {ctr : Ctr} (h : ctr.Has spLex) : ctr.gives 80 = [] ∧ ctr.raw 80 = false ∧ ctr.lend 80 = none := ⟨h.gives, h.raw, h.lend⟩
def spOr : Spec where
  α := List Int
  k := 152
  raw := false
  gives := []
  enc := fun l => [encW l]
  pre := fun l => (l.length ≤ 4096)
  f := fun l => .atom (.int .i64 (orI l))
  inj := by
    rintro a0 b0 h _ _
    simp only [List.cons.injEq, and_true] at h
    have h0 := h
    have e0 := encW_inj _ _ h0
    subst e0
    rfl
theorem spOr_run {ctr : Ctr} (hh : ctr.Has spOr) {l : List Int} (hl : l.length ≤ 4096) : ctr.run 152 [encW l] = some (.atom (.int .i64 (orI l))) := hh.run l hl
theorem spOr_at {ctr : Ctr} (h : ctr.Has spOr) : ctr.gives 152 = [] ∧ ctr.raw 152 = false ∧ ctr.lend 152 = none := ⟨h.gives, h.raw, h.lend⟩
def spWCmp : Spec where
  α := List Int × List Int
  k := 135
  raw := false
  gives := []
  enc := fun ⟨a, b⟩ => [encW a, encW b]
  pre := fun ⟨a, b⟩ => (a.length ≤ 4096) ∧ (b.length ≤ 4096)
  f := fun ⟨a, b⟩ => .atom (.int .i64 (wcmp a b))
  inj := by
    rintro ⟨a0, a1⟩ ⟨b0, b1⟩ h _ _
    simp only [List.cons.injEq, and_true] at h
    obtain ⟨h0, h1⟩ := h
    have e0 := encW_inj _ _ h0
    have e1 := encW_inj _ _ h1
    subst e0 e1
    rfl
theorem spWCmp_run {ctr : Ctr} (hh : ctr.Has spWCmp) {a : List Int} {b : List Int} (ha : a.length ≤ 4096) (hb : b.length ≤ 4096) : ctr.run 135 [encW a, encW b] = some (.atom (.int .i64 (wcmp a b))) := hh.run (a, b) ⟨ha, hb⟩
theorem spWCmp_at {ctr : Ctr} (h : ctr.Has spWCmp) : ctr.gives 135 = [] ∧ ctr.raw 135 = false ∧ ctr.lend 135 = none := ⟨h.gives, h.raw, h.lend⟩
def spRCmp : Spec where
  α := List Int × List Int
  k := 62
  raw := false
  gives := []
  enc := fun ⟨a, b⟩ => [encW a, encW b]
  pre := fun ⟨a, b⟩ => (a.length ≤ 4096) ∧ (b.length ≤ 4096)
  f := fun ⟨a, b⟩ => .atom (.int .i64 (wcmp a b))
  inj := by
    rintro ⟨a0, a1⟩ ⟨b0, b1⟩ h _ _
    simp only [List.cons.injEq, and_true] at h
    obtain ⟨h0, h1⟩ := h
    have e0 := encW_inj _ _ h0
    have e1 := encW_inj _ _ h1
    subst e0 e1
    rfl
theorem spRCmp_run {ctr : Ctr} (hh : ctr.Has spRCmp) {a : List Int} {b : List Int} (ha : a.length ≤ 4096) (hb : b.length ≤ 4096) : ctr.run 62 [encW a, encW b] = some (.atom (.int .i64 (wcmp a b))) := hh.run (a, b) ⟨ha, hb⟩
theorem spRCmp_at {ctr : Ctr} (h : ctr.Has spRCmp) : ctr.gives 62 = [] ∧ ctr.raw 62 = false ∧ ctr.lend 62 = none := ⟨h.gives, h.raw, h.lend⟩
def spClip : Spec where
  α := List Int
  k := 54
  raw := false
  gives := []
  enc := fun a => [encW a]
  pre := fun a => (a.length ≤ 65536)
  f := fun a => .sl 1 true (a.map fun x => .atom (.int .i64 x))
  inj := by
    rintro a0 b0 h _ _
    simp only [List.cons.injEq, and_true] at h
    have h0 := h
    have e0 := encW_inj _ _ h0
    subst e0
    rfl
theorem spClip_run {ctr : Ctr} (hh : ctr.Has spClip) {a : List Int} (ha : a.length ≤ 65536) : ctr.run 54 [encW a] = some (.sl 1 true (a.map fun x => .atom (.int .i64 x))) := hh.run a ha
theorem spClip_at {ctr : Ctr} (h : ctr.Has spClip) : ctr.gives 54 = [] ∧ ctr.raw 54 = false ∧ ctr.lend 54 = none := ⟨h.gives, h.raw, h.lend⟩
def spSteps : Spec where
  α := List (List Int)
  k := 110
  raw := false
  gives := []
  enc := fun l => [encL l]
  pre := fun l => (l.length ≤ 4096) ∧ ((l.map List.length).sum ≤ 1000000)
  f := fun l => .atom (.int .i64 (l.map List.length).sum)
  inj := by
    rintro a0 b0 h _ _
    simp only [List.cons.injEq, and_true] at h
    have h0 := h
    have e0 := encL_inj _ _ h0
    subst e0
    rfl
theorem spSteps_run {ctr : Ctr} (hh : ctr.Has spSteps) {l : List (List Int)} (hl : l.length ≤ 4096) (hs : (l.map List.length).sum ≤ 1000000) : ctr.run 110 [encL l] = some (.atom (.int .i64 (l.map List.length).sum)) := hh.run l ⟨hl, hs⟩
theorem spSteps_at {ctr : Ctr} (h : ctr.Has spSteps) : ctr.gives 110 = [] ∧ ctr.raw 110 = false ∧ ctr.lend 110 = none := ⟨h.gives, h.raw, h.lend⟩
def spAhead : Spec where
  α := List (List Int)
  k := 109
  raw := false
  gives := []
  enc := fun l => [encL l]
  pre := fun l => (l.length ≤ 4096) ∧ (∀ w ∈ l, w.length ≤ 4096) ∧ (Asc l)
  f := fun l => .atom (.bool true)
  inj := by
    rintro a0 b0 h _ _
    simp only [List.cons.injEq, and_true] at h
    have h0 := h
    have e0 := encL_inj _ _ h0
    subst e0
    rfl
theorem spAhead_run {ctr : Ctr} (hh : ctr.Has spAhead) {l : List (List Int)} (hl : l.length ≤ 4096) (hw : ∀ w ∈ l, w.length ≤ 4096) (ha : Asc l) : ctr.run 109 [encL l] = some (.atom (.bool true)) := hh.run l ⟨hl, hw, ha⟩
theorem spAhead_at {ctr : Ctr} (h : ctr.Has spAhead) : ctr.gives 109 = [] ∧ ctr.raw 109 = false ∧ ctr.lend 109 = none := ⟨h.gives, h.raw, h.lend⟩

theorem PI_inj : ∀ a b : Int, A.sptr (.atom (.int .i64 a)) = .sptr (.atom (.int .i64 b)) → a = b := by intro a b h; simpa using h
theorem PM_inj : ∀ a b : Mach, A.sptr (encM a) = .sptr (encM b) → a = b := by intro a b h; simp only [A.sptr.injEq] at h; exact encM_inj _ _ h
theorem F151_inj : ∀ a b : Int, A.fn 151 [.sptr (.atom (.int .i64 a))] = .fn 151 [.sptr (.atom (.int .i64 b))] → a = b := by intro a b h; simpa using h
theorem F106_inj : ∀ a b : Mach, A.fn 106 [.sptr (encM a)] = .fn 106 [.sptr (encM b)] → a = b := by intro a b h; simp only [A.fn.injEq, List.cons.injEq, A.sptr.injEq, true_and, and_true] at h; exact encM_inj _ _ h
def spBad : Spec where
  α := Int × Int
  k := 151
  raw := false
  gives := []
  enc := fun ⟨c, n⟩ => [.atom (.int .i64 c), .sptr (.atom (.int .i64 n))]
  pre := fun ⟨c, n⟩ => (0 ≤ c) ∧ (c < n)
  f := fun ⟨c, n⟩ => .atom (.bool false)
  inj := by
    rintro ⟨a0, a1⟩ ⟨b0, b1⟩ h _ _
    simp only [List.cons.injEq, and_true] at h
    obtain ⟨h0, h1⟩ := h
    have e0 := I_inj _ _ h0
    have e1 := PI_inj _ _ h1
    subst e0 e1
    rfl
theorem spBad_run {ctr : Ctr} (hh : ctr.Has spBad) {c : Int} {n : Int} (h0 : 0 ≤ c) (h1 : c < n) : ctr.run 151 [.atom (.int .i64 c), .sptr (.atom (.int .i64 n))] = some (.atom (.bool false)) := hh.run (c, n) ⟨h0, h1⟩
theorem spBad_at {ctr : Ctr} (h : ctr.Has spBad) : ctr.gives 151 = [] ∧ ctr.raw 151 = false ∧ ctr.lend 151 = none := ⟨h.gives, h.raw, h.lend⟩
def spIndex1 : Spec where
  α := List Int × Int
  k := 160
  raw := false
  gives := []
  enc := fun ⟨w, n⟩ => [encW w, .fn 151 [.sptr (.atom (.int .i64 n))]]
  pre := fun ⟨w, n⟩ => (w.length ≤ 256) ∧ (Sym n w)
  f := fun ⟨w, n⟩ => .atom (.int .i64 (-1))
  inj := by
    rintro ⟨a0, a1⟩ ⟨b0, b1⟩ h _ _
    simp only [List.cons.injEq, and_true] at h
    obtain ⟨h0, h1⟩ := h
    have e0 := encW_inj _ _ h0
    have e1 := F151_inj _ _ h1
    subst e0 e1
    rfl
theorem spIndex1_run {ctr : Ctr} (hh : ctr.Has spIndex1) {w : List Int} {n : Int} (hl : w.length ≤ 256) (hw : Sym n w) : ctr.run 160 [encW w, .fn 151 [.sptr (.atom (.int .i64 n))]] = some (.atom (.int .i64 (-1))) := hh.run (w, n) ⟨hl, hw⟩
theorem spIndex1_at {ctr : Ctr} (h : ctr.Has spIndex1) : ctr.gives 160 = [] ∧ ctr.raw 160 = false ∧ ctr.lend 160 = none := ⟨h.gives, h.raw, h.lend⟩
def spCont1 : Spec where
  α := List Int × Int
  k := 150
  raw := false
  gives := []
  enc := fun ⟨w, n⟩ => [encW w, .fn 151 [.sptr (.atom (.int .i64 n))]]
  pre := fun ⟨w, n⟩ => (w.length ≤ 256) ∧ (Sym n w)
  f := fun ⟨w, n⟩ => .atom (.bool false)
  inj := by
    rintro ⟨a0, a1⟩ ⟨b0, b1⟩ h _ _
    simp only [List.cons.injEq, and_true] at h
    obtain ⟨h0, h1⟩ := h
    have e0 := encW_inj _ _ h0
    have e1 := F151_inj _ _ h1
    subst e0 e1
    rfl
theorem spCont1_run {ctr : Ctr} (hh : ctr.Has spCont1) {w : List Int} {n : Int} (hl : w.length ≤ 256) (hw : Sym n w) : ctr.run 150 [encW w, .fn 151 [.sptr (.atom (.int .i64 n))]] = some (.atom (.bool false)) := hh.run (w, n) ⟨hl, hw⟩
theorem spCont1_at {ctr : Ctr} (h : ctr.Has spCont1) : ctr.gives 150 = [] ∧ ctr.raw 150 = false ∧ ctr.lend 150 = none := ⟨h.gives, h.raw, h.lend⟩
def spWCheck : Spec where
  α := List Int × Int
  k := 134
  raw := false
  gives := []
  enc := fun ⟨w, n⟩ => [encW w, .atom (.int .i64 n)]
  pre := fun ⟨w, n⟩ => (1 ≤ n) ∧ (n ≤ 16) ∧ (w.length ≤ 256) ∧ (Sym n w)
  f := fun ⟨w, n⟩ => .atom (.int .i64 0)
  inj := by
    rintro ⟨a0, a1⟩ ⟨b0, b1⟩ h _ _
    simp only [List.cons.injEq, and_true] at h
    obtain ⟨h0, h1⟩ := h
    have e0 := encW_inj _ _ h0
    have e1 := I_inj _ _ h1
    subst e0 e1
    rfl
theorem spWCheck_run {ctr : Ctr} (hh : ctr.Has spWCheck) {w : List Int} {n : Int} (n1 : 1 ≤ n) (n2 : n ≤ 16) (hl : w.length ≤ 256) (hw : Sym n w) : ctr.run 134 [encW w, .atom (.int .i64 n)] = some (.atom (.int .i64 0)) := hh.run (w, n) ⟨n1, n2, hl, hw⟩
theorem spWCheck_at {ctr : Ctr} (h : ctr.Has spWCheck) : ctr.gives 134 = [] ∧ ctr.raw 134 = false ∧ ctr.lend 134 = none := ⟨h.gives, h.raw, h.lend⟩
def spLoose : Spec where
  α := List (List Int) × Int
  k := 108
  raw := false
  gives := []
  enc := fun ⟨l, n⟩ => [encL l, .atom (.int .i64 n)]
  pre := fun ⟨l, n⟩ => (LOk n l)
  f := fun ⟨l, n⟩ => .atom (.int .i64 0)
  inj := by
    rintro ⟨a0, a1⟩ ⟨b0, b1⟩ h _ _
    simp only [List.cons.injEq, and_true] at h
    obtain ⟨h0, h1⟩ := h
    have e0 := encL_inj _ _ h0
    have e1 := I_inj _ _ h1
    subst e0 e1
    rfl
theorem spLoose_run {ctr : Ctr} (hh : ctr.Has spLoose) {l : List (List Int)} {n : Int} (h : LOk n l) : ctr.run 108 [encL l, .atom (.int .i64 n)] = some (.atom (.int .i64 0)) := hh.run (l, n) h
theorem spLoose_at {ctr : Ctr} (h : ctr.Has spLoose) : ctr.gives 108 = [] ∧ ctr.raw 108 = false ∧ ctr.lend 108 = none := ⟨h.gives, h.raw, h.lend⟩
def spTCheck : Spec where
  α := List (List Int) × Int
  k := 86
  raw := false
  gives := []
  enc := fun ⟨l, n⟩ => [encL l, .atom (.int .i64 n)]
  pre := fun ⟨l, n⟩ => (LOk n l)
  f := fun ⟨l, n⟩ => .atom (.int .i64 0)
  inj := by
    rintro ⟨a0, a1⟩ ⟨b0, b1⟩ h _ _
    simp only [List.cons.injEq, and_true] at h
    obtain ⟨h0, h1⟩ := h
    have e0 := encL_inj _ _ h0
    have e1 := I_inj _ _ h1
    subst e0 e1
    rfl
theorem spTCheck_run {ctr : Ctr} (hh : ctr.Has spTCheck) {l : List (List Int)} {n : Int} (h : LOk n l) : ctr.run 86 [encL l, .atom (.int .i64 n)] = some (.atom (.int .i64 0)) := hh.run (l, n) h
theorem spTCheck_at {ctr : Ctr} (h : ctr.Has spTCheck) : ctr.gives 86 = [] ∧ ctr.raw 86 = false ∧ ctr.lend 86 = none := ⟨h.gives, h.raw, h.lend⟩
def spNone : Spec where
  α := Unit
  k := 133
  raw := false
  gives := []
  enc := fun _ => []
  pre := fun _ => True
  f := fun _ => encE (-1, -1)
  inj := fun _ _ _ _ _ => rfl
theorem spNone_run {ctr : Ctr} (hh : ctr.Has spNone)   : ctr.run 133 [] = some (encE (-1, -1)) := hh.run () trivial
theorem spNone_at {ctr : Ctr} (h : ctr.Has spNone) : ctr.gives 133 = [] ∧ ctr.raw 133 = false ∧ ctr.lend 133 = none := ⟨h.gives, h.raw, h.lend⟩
def spFits : Spec where
  α := Mach × (Int × Int)
  k := 107
  raw := false
  gives := []
  enc := fun ⟨m, e⟩ => [encM m, encE e]
  pre := fun ⟨m, e⟩ => (EdgeOk m e)
  f := fun ⟨m, e⟩ => .atom (.bool true)
  inj := by
    rintro ⟨a0, a1⟩ ⟨b0, b1⟩ h _ _
    simp only [List.cons.injEq, and_true] at h
    obtain ⟨h0, h1⟩ := h
    have e0 := encM_inj _ _ h0
    have e1 := encE_inj _ _ h1
    subst e0 e1
    rfl
theorem spFits_run {ctr : Ctr} (hh : ctr.Has spFits) {m : Mach} {e : Int × Int} (he : EdgeOk m e) : ctr.run 107 [encM m, encE e] = some (.atom (.bool true)) := hh.run (m, e) he
theorem spFits_at {ctr : Ctr} (h : ctr.Has spFits) : ctr.gives 107 = [] ∧ ctr.raw 107 = false ∧ ctr.lend 107 = none := ⟨h.gives, h.raw, h.lend⟩
def spNotFits : Spec where
  α := (Int × Int) × Mach
  k := 106
  raw := false
  gives := []
  enc := fun ⟨e, m⟩ => [encE e, .sptr (encM m)]
  pre := fun ⟨e, m⟩ => (EdgeOk m e)
  f := fun ⟨e, m⟩ => .atom (.bool false)
  inj := by
    rintro ⟨a0, a1⟩ ⟨b0, b1⟩ h _ _
    simp only [List.cons.injEq, and_true] at h
    obtain ⟨h0, h1⟩ := h
    have e0 := encE_inj _ _ h0
    have e1 := PM_inj _ _ h1
    subst e0 e1
    rfl
theorem spNotFits_run {ctr : Ctr} (hh : ctr.Has spNotFits) {e : Int × Int} {m : Mach} (he : EdgeOk m e) : ctr.run 106 [encE e, .sptr (encM m)] = some (.atom (.bool false)) := hh.run (e, m) he
theorem spNotFits_at {ctr : Ctr} (h : ctr.Has spNotFits) : ctr.gives 106 = [] ∧ ctr.raw 106 = false ∧ ctr.lend 106 = none := ⟨h.gives, h.raw, h.lend⟩
def spIndex2 : Spec where
  α := (List (Int × Int)) × Mach
  k := 132
  raw := false
  gives := []
  enc := fun ⟨r, m⟩ => [encR r, .fn 106 [.sptr (encM m)]]
  pre := fun ⟨r, m⟩ => (r.length ≤ 256) ∧ (∀ e ∈ r, EdgeOk m e)
  f := fun ⟨r, m⟩ => .atom (.int .i64 (-1))
  inj := by
    rintro ⟨a0, a1⟩ ⟨b0, b1⟩ h _ _
    simp only [List.cons.injEq, and_true] at h
    obtain ⟨h0, h1⟩ := h
    have e0 := encR_inj _ _ h0
    have e1 := F106_inj _ _ h1
    subst e0 e1
    rfl
theorem spIndex2_run {ctr : Ctr} (hh : ctr.Has spIndex2) {r : List (Int × Int)} {m : Mach} (hl : r.length ≤ 256) (hr : ∀ e ∈ r, EdgeOk m e) : ctr.run 132 [encR r, .fn 106 [.sptr (encM m)]] = some (.atom (.int .i64 (-1))) := hh.run (r, m) ⟨hl, hr⟩
theorem spIndex2_at {ctr : Ctr} (h : ctr.Has spIndex2) : ctr.gives 132 = [] ∧ ctr.raw 132 = false ∧ ctr.lend 132 = none := ⟨h.gives, h.raw, h.lend⟩
def spCont2 : Spec where
  α := (List (Int × Int)) × Mach
  k := 105
  raw := false
  gives := []
  enc := fun ⟨r, m⟩ => [encR r, .fn 106 [.sptr (encM m)]]
  pre := fun ⟨r, m⟩ => (r.length ≤ 256) ∧ (∀ e ∈ r, EdgeOk m e)
  f := fun ⟨r, m⟩ => .atom (.bool false)
  inj := by
    rintro ⟨a0, a1⟩ ⟨b0, b1⟩ h _ _
    simp only [List.cons.injEq, and_true] at h
    obtain ⟨h0, h1⟩ := h
    have e0 := encR_inj _ _ h0
    have e1 := F106_inj _ _ h1
    subst e0 e1
    rfl
theorem spCont2_run {ctr : Ctr} (hh : ctr.Has spCont2) {r : List (Int × Int)} {m : Mach} (hl : r.length ≤ 256) (hr : ∀ e ∈ r, EdgeOk m e) : ctr.run 105 [encR r, .fn 106 [.sptr (encM m)]] = some (.atom (.bool false)) := hh.run (r, m) ⟨hl, hr⟩
theorem spCont2_at {ctr : Ctr} (h : ctr.Has spCont2) : ctr.gives 105 = [] ∧ ctr.raw 105 = false ∧ ctr.lend 105 = none := ⟨h.gives, h.raw, h.lend⟩
def spMCheck : Spec where
  α := Mach
  k := 85
  raw := false
  gives := []
  enc := fun m => [encM m]
  pre := fun m => (Valid m)
  f := fun m => .atom (.int .i64 0)
  inj := by
    rintro a0 b0 h _ _
    simp only [List.cons.injEq, and_true] at h
    have h0 := h
    have e0 := encM_inj _ _ h0
    subst e0
    rfl
theorem spMCheck_run {ctr : Ctr} (hh : ctr.Has spMCheck) {m : Mach} (hv : Valid m) : ctr.run 85 [encM m] = some (.atom (.int .i64 0)) := hh.run m hv
theorem spMCheck_at {ctr : Ctr} (h : ctr.Has spMCheck) : ctr.gives 85 = [] ∧ ctr.raw 85 = false ∧ ctr.lend 85 = none := ⟨h.gives, h.raw, h.lend⟩
def spReady : Spec where
  α := Mach × Mach × List (List Int)
  k := 51
  raw := false
  gives := []
  enc := fun ⟨m, o, l⟩ => [encM m, encM o, encL l]
  pre := fun ⟨m, o, l⟩ => (Valid m) ∧ (Valid o) ∧ (m.inp = o.inp) ∧ (LOk m.inp l)
  f := fun ⟨m, o, l⟩ => .atom (.int .i64 0)
  inj := by
    rintro ⟨a0, a1, a2⟩ ⟨b0, b1, b2⟩ h _ _
    simp only [List.cons.injEq, and_true] at h
    obtain ⟨h0, h1, h2⟩ := h
    have e0 := encM_inj _ _ h0
    have e1 := encM_inj _ _ h1
    have e2 := encL_inj _ _ h2
    subst e0 e1 e2
    rfl
theorem spReady_run {ctr : Ctr} (hh : ctr.Has spReady) {m : Mach} {o : Mach} {l : List (List Int)} (hv : Valid m) (ho : Valid o) (hi : m.inp = o.inp) (hl : LOk m.inp l) : ctr.run 51 [encM m, encM o, encL l] = some (.atom (.int .i64 0)) := hh.run (m, o, l) ⟨hv, ho, hi, hl⟩
theorem spReady_at {ctr : Ctr} (h : ctr.Has spReady) : ctr.gives 51 = [] ∧ ctr.raw 51 = false ∧ ctr.lend 51 = none := ⟨h.gives, h.raw, h.lend⟩

def spNext : Spec where
  α := Mach × Int × Int
  k := 75
  raw := false
  gives := []
  enc := fun x => [encM x.1, .atom (.int .i64 x.2.1), .atom (.int .i64 x.2.2)]
  pre := fun x => Valid x.1 ∧ StOk x.1 x.2.1 ∧ 0 ≤ x.2.2 ∧ x.2.2 < x.1.inp
  f := fun x => encE (nx x.1 x.2.1 x.2.2)
  inj := by
    rintro ⟨m, s, i⟩ ⟨m', s', i'⟩ h _ _
    simp only [List.cons.injEq, A.atom.injEq, Value.int.injEq, true_and, and_true] at h
    obtain ⟨h1, rfl, rfl⟩ := h
    rw [encM_inj _ _ h1]
theorem spNext_run {ctr : Ctr} (hh : ctr.Has spNext) {m : Mach} {s i : Int} (hv : Valid m) (hs : StOk m s) (hi : 0 ≤ i ∧ i < m.inp) :
    ctr.run 75 [encM m, .atom (.int .i64 s), .atom (.int .i64 i)] = some (encE (nx m s i)) := hh.run (m, s, i) ⟨hv, hs, hi.1, hi.2⟩
theorem spNext_at {ctr : Ctr} (h : ctr.Has spNext) : ctr.gives 75 = [] ∧ ctr.raw 75 = false ∧ ctr.lend 75 = none := ⟨h.gives, h.raw, h.lend⟩

def spStep : Spec where
  α := Mach × Mach × List Int
  k := 52
  raw := false
  gives := []
  enc := fun x => [encM x.1, encM x.2.1, encW x.2.2]
  pre := fun x => Valid x.1 ∧ Valid x.2.1 ∧ Sym x.1.inp x.2.2 ∧ Sym x.2.1.inp x.2.2 ∧ x.2.2.length ≤ 256
  f := fun x => .atom (.int .i64 (stepF x.1 x.2.1 0 0 x.2.2 0))
  inj := by
    rintro ⟨m, s, i⟩ ⟨m', s', i'⟩ h _ _
    simp only [List.cons.injEq, and_true] at h
    rw [encM_inj _ _ h.1, encM_inj _ _ h.2.1, encW_inj _ _ h.2.2]

theorem spStep_run {ctr : Ctr} (hh : ctr.Has spStep) {m o : Mach} {w : List Int} (hv : Valid m) (ho : Valid o) (h1 : Sym m.inp w) (h2 : Sym o.inp w) (h3 : w.length ≤ 256) : ctr.run 52 [encM m, encM o, encW w] = some (.atom (.int .i64 (stepF m o 0 0 w 0))) := hh.run (m, o, w) ⟨hv, ho, h1, h2, h3⟩
theorem spStep_at {ctr : Ctr} (h : ctr.Has spStep) : ctr.gives 52 = [] ∧ ctr.raw 52 = false ∧ ctr.lend 52 = none := ⟨h.gives, h.raw, h.lend⟩

theorem TW_inj : ∀ a b : List Int, A.sl 1 true (a.map fun x => A.atom (.int .i64 x)) = .sl 1 true (b.map fun x => A.atom (.int .i64 x)) → a = b := by
  intro a b h
  simp only [A.sl.injEq, true_and] at h
  exact map_inj (by intro x y h; simpa using h) h
def spPasses : Spec where
  α := Mach × Mach × List (List Int)
  k := 15
  raw := false
  gives := []
  enc := fun ⟨m, o, l⟩ => [encM m, encM o, encL l]
  pre := fun ⟨m, o, l⟩ => (Valid m) ∧ (Valid o) ∧ (m.inp = o.inp) ∧ (LOk m.inp l)
  f := fun ⟨m, o, l⟩ => .tup [.atom (.int .i64 (passF m o l 0).1), .atom (.int .i64 (passF m o l 0).2), .atom (.int .i64 0)]
  inj := by
    rintro ⟨a0, a1, a2⟩ ⟨b0, b1, b2⟩ h _ _
    simp only [List.cons.injEq, and_true] at h
    obtain ⟨h0, h1, h2⟩ := h
    have e0 := encM_inj _ _ h0
    have e1 := encM_inj _ _ h1
    have e2 := encL_inj _ _ h2
    subst e0 e1 e2
    rfl
theorem spPasses_run {ctr : Ctr} (hh : ctr.Has spPasses) {m : Mach} {o : Mach} {l : List (List Int)} (hv : Valid m) (ho : Valid o) (hi : m.inp = o.inp) (hl : LOk m.inp l) : ctr.run 15 [encM m, encM o, encL l] = some (.tup [.atom (.int .i64 (passF m o l 0).1), .atom (.int .i64 (passF m o l 0).2), .atom (.int .i64 0)]) := hh.run (m, o, l) ⟨hv, ho, hi, hl⟩
theorem spPasses_at {ctr : Ctr} (h : ctr.Has spPasses) : ctr.gives 15 = [] ∧ ctr.raw 15 = false ∧ ctr.lend 15 = none := ⟨h.gives, h.raw, h.lend⟩
def spFatal : Spec where
  α := Mach × List (List Int) × Mach
  k := 17
  raw := false
  gives := []
  enc := fun ⟨m, l, o⟩ => [encM m, encL l, encM o]
  pre := fun ⟨m, l, o⟩ => (Valid m) ∧ (Valid o) ∧ (m.inp = o.inp) ∧ (LOk m.inp l)
  f := fun ⟨m, l, o⟩ => .tup [.sl 1 true ((fatF m o l 0).map fun x => .atom (.int .i64 x)), .atom (.int .i64 0)]
  inj := by
    rintro ⟨a0, a1, a2⟩ ⟨b0, b1, b2⟩ h _ _
    simp only [List.cons.injEq, and_true] at h
    obtain ⟨h0, h1, h2⟩ := h
    have e0 := encM_inj _ _ h0
    have e1 := encL_inj _ _ h1
    have e2 := encM_inj _ _ h2
    subst e0 e1 e2
    rfl
theorem spFatal_run {ctr : Ctr} (hh : ctr.Has spFatal) {m : Mach} {l : List (List Int)} {o : Mach} (hv : Valid m) (ho : Valid o) (hi : m.inp = o.inp) (hl : LOk m.inp l) : ctr.run 17 [encM m, encL l, encM o] = some (.tup [.sl 1 true ((fatF m o l 0).map fun x => .atom (.int .i64 x)), .atom (.int .i64 0)]) := hh.run (m, l, o) ⟨hv, ho, hi, hl⟩
theorem spFatal_at {ctr : Ctr} (h : ctr.Has spFatal) : ctr.gives 17 = [] ∧ ctr.raw 17 = false ∧ ctr.lend 17 = none := ⟨h.gives, h.raw, h.lend⟩
def spRun : Spec where
  α := Mach × Int × List Int
  k := 35
  raw := false
  gives := []
  enc := fun ⟨m, s, w⟩ => [encM m, .atom (.int .i64 s), encW w]
  pre := fun ⟨m, s, w⟩ => (Valid m) ∧ (StOk m s) ∧ (Sym m.inp w) ∧ (w.length ≤ 256)
  f := fun ⟨m, s, w⟩ => ownW (runF m s w)
  inj := by
    rintro ⟨a0, a1, a2⟩ ⟨b0, b1, b2⟩ h _ _
    simp only [List.cons.injEq, and_true] at h
    obtain ⟨h0, h1, h2⟩ := h
    have e0 := encM_inj _ _ h0
    have e1 := I_inj _ _ h1
    have e2 := encW_inj _ _ h2
    subst e0 e1 e2
    rfl
theorem spRun_run {ctr : Ctr} (hh : ctr.Has spRun) {m : Mach} {s : Int} {w : List Int} (hv : Valid m) (hs : StOk m s) (hw : Sym m.inp w) (hl : w.length ≤ 256) : ctr.run 35 [encM m, .atom (.int .i64 s), encW w] = some (ownW (runF m s w)) := hh.run (m, s, w) ⟨hv, hs, hw, hl⟩
theorem spRun_at {ctr : Ctr} (h : ctr.Has spRun) : ctr.gives 35 = [] ∧ ctr.raw 35 = false ∧ ctr.lend 35 = none := ⟨h.gives, h.raw, h.lend⟩
def spRStep : Spec where
  α := Mach × Mach × List Int
  k := 53
  raw := false
  gives := []
  enc := fun ⟨m, o, w⟩ => [encM m, encM o, encW w]
  pre := fun ⟨m, o, w⟩ => (Valid m) ∧ (Valid o) ∧ (Sym m.inp w) ∧ (Sym o.inp w) ∧ (w.length ≤ 256)
  f := fun ⟨m, o, w⟩ => .atom (.int .i64 (stepF m o 0 0 w 0))
  inj := by
    rintro ⟨a0, a1, a2⟩ ⟨b0, b1, b2⟩ h _ _
    simp only [List.cons.injEq, and_true] at h
    obtain ⟨h0, h1, h2⟩ := h
    have e0 := encM_inj _ _ h0
    have e1 := encM_inj _ _ h1
    have e2 := encW_inj _ _ h2
    subst e0 e1 e2
    rfl
theorem spRStep_run {ctr : Ctr} (hh : ctr.Has spRStep) {m : Mach} {o : Mach} {w : List Int} (hv : Valid m) (ho : Valid o) (hw1 : Sym m.inp w) (hw2 : Sym o.inp w) (hl : w.length ≤ 256) : ctr.run 53 [encM m, encM o, encW w] = some (.atom (.int .i64 (stepF m o 0 0 w 0))) := hh.run (m, o, w) ⟨hv, ho, hw1, hw2, hl⟩
theorem spRStep_at {ctr : Ctr} (h : ctr.Has spRStep) : ctr.gives 53 = [] ∧ ctr.raw 53 = false ∧ ctr.lend 53 = none := ⟨h.gives, h.raw, h.lend⟩
def spRPasses : Spec where
  α := Mach × Mach × List (List Int)
  k := 16
  raw := false
  gives := []
  enc := fun ⟨m, o, l⟩ => [encM m, encM o, encL l]
  pre := fun ⟨m, o, l⟩ => (Valid m) ∧ (Valid o) ∧ (m.inp = o.inp) ∧ (LOk m.inp l)
  f := fun ⟨m, o, l⟩ => .tup [.atom (.int .i64 (passF m o l 0).1), .atom (.int .i64 (passF m o l 0).2)]
  inj := by
    rintro ⟨a0, a1, a2⟩ ⟨b0, b1, b2⟩ h _ _
    simp only [List.cons.injEq, and_true] at h
    obtain ⟨h0, h1, h2⟩ := h
    have e0 := encM_inj _ _ h0
    have e1 := encM_inj _ _ h1
    have e2 := encL_inj _ _ h2
    subst e0 e1 e2
    rfl
theorem spRPasses_run {ctr : Ctr} (hh : ctr.Has spRPasses) {m : Mach} {o : Mach} {l : List (List Int)} (hv : Valid m) (ho : Valid o) (hi : m.inp = o.inp) (hl : LOk m.inp l) : ctr.run 16 [encM m, encM o, encL l] = some (.tup [.atom (.int .i64 (passF m o l 0).1), .atom (.int .i64 (passF m o l 0).2)]) := hh.run (m, o, l) ⟨hv, ho, hi, hl⟩
theorem spRPasses_at {ctr : Ctr} (h : ctr.Has spRPasses) : ctr.gives 16 = [] ∧ ctr.raw 16 = false ∧ ctr.lend 16 = none := ⟨h.gives, h.raw, h.lend⟩
def spRFatal : Spec where
  α := Mach × Mach × List (List Int)
  k := 19
  raw := false
  gives := []
  enc := fun ⟨m, o, l⟩ => [encM m, encM o, encL l]
  pre := fun ⟨m, o, l⟩ => (Valid m) ∧ (Valid o) ∧ (m.inp = o.inp) ∧ (LOk m.inp l)
  f := fun ⟨m, o, l⟩ => ownW (fatF m o l 0)
  inj := by
    rintro ⟨a0, a1, a2⟩ ⟨b0, b1, b2⟩ h _ _
    simp only [List.cons.injEq, and_true] at h
    obtain ⟨h0, h1, h2⟩ := h
    have e0 := encM_inj _ _ h0
    have e1 := encM_inj _ _ h1
    have e2 := encL_inj _ _ h2
    subst e0 e1 e2
    rfl
theorem spRFatal_run {ctr : Ctr} (hh : ctr.Has spRFatal) {m : Mach} {o : Mach} {l : List (List Int)} (hv : Valid m) (ho : Valid o) (hi : m.inp = o.inp) (hl : LOk m.inp l) : ctr.run 19 [encM m, encM o, encL l] = some (ownW (fatF m o l 0)) := hh.run (m, o, l) ⟨hv, ho, hi, hl⟩
theorem spRFatal_at {ctr : Ctr} (h : ctr.Has spRFatal) : ctr.gives 19 = [] ∧ ctr.raw 19 = false ∧ ctr.lend 19 = none := ⟨h.gives, h.raw, h.lend⟩
def spSame : Spec where
  α := List (List Int) × List (List Int)
  k := 55
  raw := false
  gives := []
  enc := fun ⟨a, b⟩ => [encL a, encL b]
  pre := fun ⟨a, b⟩ => (a.length ≤ 4096) ∧ (b.length ≤ 4096) ∧ (∀ w ∈ a, w.length ≤ 4096) ∧ (∀ w ∈ b, w.length ≤ 4096)
  f := fun ⟨a, b⟩ => .atom (.bool (decide (a = b)))
  inj := by
    rintro ⟨a0, a1⟩ ⟨b0, b1⟩ h _ _
    simp only [List.cons.injEq, and_true] at h
    obtain ⟨h0, h1⟩ := h
    have e0 := encL_inj _ _ h0
    have e1 := encL_inj _ _ h1
    subst e0 e1
    rfl
theorem spSame_run {ctr : Ctr} (hh : ctr.Has spSame) {a : List (List Int)} {b : List (List Int)} (ha : a.length ≤ 4096) (hb : b.length ≤ 4096) (ha2 : ∀ w ∈ a, w.length ≤ 4096) (hb2 : ∀ w ∈ b, w.length ≤ 4096) : ctr.run 55 [encL a, encL b] = some (.atom (.bool (decide (a = b)))) := hh.run (a, b) ⟨ha, hb, ha2, hb2⟩
theorem spSame_at {ctr : Ctr} (h : ctr.Has spSame) : ctr.gives 55 = [] ∧ ctr.raw 55 = false ∧ ctr.lend 55 = none := ⟨h.gives, h.raw, h.lend⟩
def spInts : Spec where
  α := List Int × List Int
  k := 18
  raw := true
  gives := []
  enc := fun ⟨a, b⟩ => [.sl 1 true (a.map fun x => .atom (.int .i64 x)), encW b]
  pre := fun ⟨a, b⟩ => (a.length ≤ 4096) ∧ (a = b)
  f := fun ⟨a, b⟩ => .atom (.bool true)
  inj := by
    rintro ⟨a0, a1⟩ ⟨b0, b1⟩ h _ _
    simp only [List.cons.injEq, and_true] at h
    obtain ⟨h0, h1⟩ := h
    have e0 := TW_inj _ _ h0
    have e1 := encW_inj _ _ h1
    subst e0 e1
    rfl
theorem spInts_run {ctr : Ctr} (hh : ctr.Has spInts) {a : List Int} {b : List Int} (hl : a.length ≤ 4096) (he : a = b) : ctr.run 18 [.sl 1 true (a.map fun x => .atom (.int .i64 x)), encW b] = some (.atom (.bool true)) := hh.run (a, b) ⟨hl, he⟩
theorem spInts_at {ctr : Ctr} (h : ctr.Has spInts) : ctr.gives 18 = [] ∧ ctr.raw 18 = true ∧ ctr.lend 18 = none := ⟨h.gives, h.raw, h.lend⟩

end Go.Own
