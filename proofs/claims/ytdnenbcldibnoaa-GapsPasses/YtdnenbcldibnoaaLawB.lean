/- Sorted lists of words, machines out of plain data: plain Lean. -/
import Derived.Test.YtdnenbcldibnoaaLawA
import Derived.Test.YtdnenbcldibnoaaOwnG
namespace Go.Own

theorem cmpI_neg {a b : Int} : cmpI a b < 0 ↔ a < b := by
  unfold cmpI
  (repeat' split) <;> omega
theorem lexC_cases : ∀ (a b : List Int), lexC a b = -1 ∨ lexC a b = 0 ∨ lexC a b = 1
  | [], [] => .inr (.inl rfl)
  | [], _ :: _ => .inl rfl
  | _ :: _, [] => .inr (.inr rfl)
  | a :: x, b :: y => by
    simp only [lexC]
    split
    · unfold cmpI
      (repeat' split) <;> simp
    · exact lexC_cases x y
theorem lexC_trans : ∀ {a b c : List Int}, lexC a b < 0 → lexC b c < 0 → lexC a c < 0
  | [], [], _, h, _ => by simp [lexC] at h
  | [], _ :: _, [], _, h => by simp [lexC] at h
  | [], _ :: _, _ :: _, _, _ => by simp [lexC]
  | _ :: _, [], _, h, _ => by simp [lexC] at h
  | _ :: _, _ :: _, [], _, h => by simp [lexC] at h
  | a :: x, b :: y, c :: z, h1, h2 => by
    simp only [lexC] at h1 h2 ⊢
    have n1 := @cmpI_neg a b
    have n2 := @cmpI_neg b c
    have n3 := @cmpI_neg a c
    have z1 := @cmpI_zero a b
    have z2 := @cmpI_zero b c
    have z3 := @cmpI_zero a c
    split at h1
    · split at h2
      · rw [if_pos (by omega)]; omega
      · rw [if_pos (by omega)]; omega
    · split at h2
      · rw [if_pos (by omega)]; omega
      · rw [if_neg (by omega)]; exact lexC_trans h1 h2
theorem wcmp_trans {a b c : List Int} (h1 : wcmp a b < 0) (h2 : wcmp b c < 0) : wcmp a c < 0 := by
  unfold wcmp at *
  have n1 := @cmpI_neg a.length b.length
  have n2 := @cmpI_neg b.length c.length
  have n3 := @cmpI_neg a.length c.length
  have z1 := @cmpI_zero a.length b.length
  have z2 := @cmpI_zero b.length c.length
  have z3 := @cmpI_zero a.length c.length
  split at h1
  · split at h2
    · rw [if_pos (by omega)]; omega
    · rw [if_pos (by omega)]; omega
  · split at h2
    · rw [if_pos (by omega)]; omega
    · rw [if_neg (by omega)]; exact lexC_trans h1 h2
theorem cmpI_flip (a b : Int) : cmpI a b = - cmpI b a := by
  unfold cmpI
  (repeat' split) <;> omega
theorem lexC_flip : ∀ (a b : List Int), lexC a b = - lexC b a
  | [], [] => rfl
  | [], _ :: _ => rfl
  | _ :: _, [] => rfl
  | a :: x, b :: y => by
    simp only [lexC]
    rw [cmpI_flip a b, lexC_flip x y]
    split
    · rw [if_pos (by omega)]
    · rw [if_neg (by omega)]
theorem wcmp_flip (a b : List Int) : wcmp a b = - wcmp b a := by
  unfold wcmp
  rw [cmpI_flip a.length, lexC_flip a b]
  split
  · rw [if_pos (by omega)]
  · rw [if_neg (by omega)]

theorem Asc.lt {l : List (List Int)} (h : Asc l) : ∀ (d i : Nat) {a b : List Int}, l[i]? = some a → l[i + d + 1]? = some b → wcmp a b < 0
  | 0, i, a, b, h1, h2 => h i a b h1 h2
  | d + 1, i, a, b, h1, h2 => by
    obtain ⟨c, hc⟩ := some_at (l := l) (i := i + d + 1) (by have := (List.getElem?_eq_some_iff.1 h2).1; omega)
    exact wcmp_trans (Asc.lt h d i h1 hc) (h _ _ _ hc h2)
theorem Asc.lt' {l : List (List Int)} (h : Asc l) {i j : Nat} (hij : i < j) {a b : List Int} (h1 : l[i]? = some a) (h2 : l[j]? = some b) : wcmp a b < 0 :=
  h.lt (j - i - 1) i h1 (by rw [show i + (j - i - 1) + 1 = j by omega]; exact h2)

/-- Where a word belongs. -/
def putP (l : List (List Int)) (w : List Int) : Nat := (l.takeWhile fun x => decide (wcmp x w < 0)).length
def putF (l : List (List Int)) (w : List Int) : List (List Int) := if l[putP l w]? = some w then l else l.take (putP l w) ++ w :: l.drop (putP l w)
def sortF (l : List (List Int)) : List (List Int) := l.foldl putF []

theorem putP_eq {w : List Int} : ∀ {l : List (List Int)} {p : Nat}, p ≤ l.length → (∀ j x, j < p → l[j]? = some x → wcmp x w < 0) → (∀ x, l[p]? = some x → ¬ wcmp x w < 0) → putP l w = p
  | [], p, h, _, _ => by simp at h; subst h; rfl
  | x :: l, 0, _, _, h2 => by
    have := h2 x rfl
    simp [putP, List.takeWhile_cons, this]
  | x :: l, p + 1, h, h1, h2 => by
    have := h1 0 x (by omega) rfl
    have ih := putP_eq (w := w) (l := l) (p := p) (by simpa using h) (fun j y hj hy => h1 (j + 1) y (by omega) hy) (fun y hy => h2 y hy)
    unfold putP at ih ⊢
    simp [List.takeWhile_cons, this, ih]

theorem takeWhile_all {α : Type} (q : α → Bool) : ∀ (l : List α) (j : Nat) (x : α), j < (l.takeWhile q).length → l[j]? = some x → q x = true
  | [], _, _, h, _ => by simp at h
  | a :: l, j, x, h, e => by
    rw [List.takeWhile_cons] at h
    split at h
    · cases j with
      | zero => simp only [List.getElem?_cons_zero, Option.some.injEq] at e; subst e; assumption
      | succ j => exact takeWhile_all q l j x (by simpa using h) (by simpa using e)
    · simp at h
theorem takeWhile_end {α : Type} (q : α → Bool) : ∀ (l : List α) (x : α), l[(l.takeWhile q).length]? = some x → q x = false
  | [], _, e => by simp at e
  | a :: l, x, e => by
    rw [List.takeWhile_cons] at e
    split at e
    · exact takeWhile_end q l x (by simpa using e)
    · rename_i hq
      simp only [List.length_nil, List.getElem?_cons_zero, Option.some.injEq] at e
      subst e
      simpa using hq

theorem putP_lt (l : List (List Int)) (w : List Int) {j : Nat} {x : List Int} (hj : j < putP l w) (hx : l[j]? = some x) : wcmp x w < 0 := by
  simpa using takeWhile_all _ l j x hj hx
theorem putP_ge (l : List (List Int)) (w : List Int) {x : List Int} (hx : l[putP l w]? = some x) : ¬ wcmp x w < 0 := by
  simpa using takeWhile_end _ l x hx
theorem putP_le (l : List (List Int)) (w : List Int) : putP l w ≤ l.length := by
  unfold putP
  exact (List.takeWhile_sublist _).length_le

theorem putF_mem {l : List (List Int)} {w x : List Int} (h : x ∈ putF l w) : x = w ∨ x ∈ l := by
  unfold putF at h
  split at h
  · exact .inr h
  · rcases List.mem_append.1 h with h | h
    · exact .inr (List.mem_of_mem_take h)
    · rcases List.mem_cons.1 h with h | h
      · exact .inl h
      · exact .inr (List.mem_of_mem_drop h)
theorem putF_length (l : List (List Int)) (w : List Int) : (putF l w).length ≤ l.length + 1 := by
  unfold putF
  split
  · omega
  · have := putP_le l w
    simp only [List.length_append, List.length_take, List.length_cons, List.length_drop]
    omega

theorem putF_asc {l : List (List Int)} (h : Asc l) (w : List Int) : Asc (putF l w) := by
  unfold putF
  split
  · exact h
  · rename_i hne
    have hle := putP_le l w
    intro i a b ha hb
    generalize hp : putP l w = p at *
    have hlt : (l.take p).length = p := by simp; omega
    rcases Nat.lt_trichotomy (i + 1) p with h1 | h1 | h1
    · rw [List.getElem?_append_left (by omega), List.getElem?_take_of_lt (by omega)] at ha hb
      exact h i a b ha hb
    · rw [List.getElem?_append_left (by omega), List.getElem?_take_of_lt (by omega)] at ha
      rw [List.getElem?_append_right (by omega), hlt, show i + 1 - p = 0 by omega] at hb
      simp only [List.getElem?_cons_zero, Option.some.injEq] at hb
      subst hb
      exact putP_lt l _ (by omega) ha
    · rw [List.getElem?_append_right (by omega), hlt] at hb
      obtain ⟨d, hd⟩ : ∃ d, i + 1 - p = d + 1 := ⟨i - p, by omega⟩
      rw [hd, List.getElem?_cons_succ, List.getElem?_drop] at hb
      rcases Nat.lt_or_ge i p with h2 | h2
      · omega
      · rw [List.getElem?_append_right (by omega), hlt] at ha
        rcases Nat.eq_or_lt_of_le h2 with h3 | h3
        · subst h3
          rw [show p - p = 0 by omega] at ha
          simp only [List.getElem?_cons_zero, Option.some.injEq] at ha
          subst ha
          have hd0 : d = 0 := by omega
          subst hd0
          rw [Nat.add_zero] at hb
          have g1 : ¬ wcmp b w < 0 := putP_ge l w (by rw [hp]; exact hb)
          have g2 : wcmp b w ≠ 0 := fun e => hne (by rw [hb, wcmp_zero.1 e])
          have := wcmp_flip w b
          omega
        · obtain ⟨q, hq⟩ : ∃ q, i - p = q + 1 := ⟨i - p - 1, by omega⟩
          rw [hq, List.getElem?_cons_succ, List.getElem?_drop] at ha
          exact h (p + q) a b ha (by rw [show p + q + 1 = p + d by omega]; exact hb)

theorem foldl_put (l : List (List Int)) : ∀ (acc : List (List Int)), Asc acc → Asc (l.foldl putF acc) ∧ (l.foldl putF acc).length ≤ acc.length + l.length ∧ ∀ x ∈ l.foldl putF acc, x ∈ l ∨ x ∈ acc := by
  induction l with
  | nil => intro acc h; exact ⟨h, by simp, fun x hx => .inr hx⟩
  | cons w l ih =>
    intro acc h
    obtain ⟨h1, h2, h3⟩ := ih (putF acc w) (putF_asc h w)
    refine ⟨h1, ?_, ?_⟩
    · have := putF_length acc w
      simp only [List.foldl_cons, List.length_cons]
      omega
    · intro x hx
      rcases h3 x hx with q | q
      · exact .inl (List.mem_cons_of_mem _ q)
      · rcases putF_mem q with rfl | q
        · exact .inl List.mem_cons_self
        · exact .inr q
theorem asc_nil : Asc [] := fun i a b h => by simp at h
theorem sortF_asc (l : List (List Int)) : Asc (sortF l) := (foldl_put l [] asc_nil).1
theorem sortF_length (l : List (List Int)) : (sortF l).length ≤ l.length := by have := (foldl_put l [] asc_nil).2.1; simpa [sortF] using this
theorem sortF_mem {l : List (List Int)} {x : List Int} (h : x ∈ sortF l) : x ∈ l := by
  rcases (foldl_put l [] asc_nil).2.2 x h with q | q
  · exact q
  · cases q
theorem sortF_snoc (l : List (List Int)) (w : List Int) : sortF (l ++ [w]) = putF (sortF l) w := by simp [sortF]

/-- A list whose spine is the call's own. -/
def ownS (l : List (List Int)) : A := .osl 1 false (l.map encW)
theorem ownS_inj : ∀ a b, ownS a = ownS b → a = b := by
  intro a b h
  simp only [ownS, A.osl.injEq, true_and] at h
  exact map_inj encW_inj h

theorem set_at {α : Type} {x y : List α} {g : α} {i : Nat} (h : x.length = i) : (x ++ g :: y)[i]? = some g := by
  rw [List.getElem?_append_right (by omega), h, Nat.sub_self]; rfl
theorem put_at {α : Type} {x y : List α} {g a : α} {i : Nat} (h : x.length = i) : (x ++ g :: y).set i a = x ++ a :: y := by
  rw [List.set_append_right _ _ (by omega), h, Nat.sub_self]; rfl
theorem shift_at {α : Type} {l : List α} {g a : α} {i : Nat} (h : 0 < i) (hi : i ≤ l.length) (ha : l[i - 1]? = some a) : (l.take i ++ g :: l.drop i).set i a = l.take (i - 1) ++ a :: l.drop (i - 1) := by
  rw [put_at (by simp; omega)]
  obtain ⟨j, rfl⟩ : ∃ j, i = j + 1 := ⟨i - 1, by omega⟩
  simp only [Nat.add_sub_cancel] at ha ⊢
  rw [drop_cons ha, List.take_add_one, ha]
  simp

/-- The elements behind a word is put. -/
def putE (l : List (List Int)) (w : List Int) : List A :=
  if l[putP l w]? = some w then l.map encW else (l.map encW).take (putP l w) ++ .osl 1 w.isEmpty (w.map fun x => .atom (.int .i64 x)) :: (l.map encW).drop (putP l w)
theorem lives_app : ∀ {a b : List A}, A.lives (a ++ b) = (A.lives a && A.lives b)
  | [], _ => by simp [A.lives]
  | x :: a, b => by simp [A.lives, lives_app (a := a), Bool.and_assoc]
theorem lives_encW (x : List (List Int)) : A.lives (x.map encW) = true := lives_map _ _ fun _ => rfl
theorem putE_lives (l : List (List Int)) (w : List Int) : A.lives (putE l w) = true := by
  unfold putE
  split
  · exact lives_encW l
  · rw [← List.map_take, ← List.map_drop, lives_app, lives_encW]
    simp only [A.lives, A.live, lives_encW, live_atoms, Bool.and_self]
theorem putE_eq (l : List (List Int)) (w : List Int) : (A.osl 1 false (A.shuts (putE l w))).loose = ownS (putF l w) := by
  simp only [A.loose, ownS, A.osl.injEq, true_and, A.shuts_eq, A.looses_eq, List.map_map]
  unfold putE putF
  have e : ∀ x : List (List Int), x.map ((A.loose ∘ A.shut) ∘ encW) = x.map encW := fun x => List.map_congr_left fun w _ => by simp only [Function.comp, shut_encW, loose_encW]
  split
  · rw [List.map_map, e]
  · rw [← List.map_take, ← List.map_drop]
    simp only [List.map_append, List.map_cons, List.map_map, e]
    congr 2
    simp only [Function.comp, A.shut, A.loose, shuts_atoms, looses_atoms, encW]

/-! ### Lists and machines out of plain data -/
def encB (w : List Int) : A := .sl 1 false (w.map fun x => .atom (.int .u8 x))
structure LD where
  n : Int
  ws : List (List Int)
structure LD.Ok (x : LD) : Prop where
  n0 : 0 ≤ x.n
  n1 : x.n ≤ 255
  ws : ∀ w ∈ x.ws, ∀ c ∈ w, 0 ≤ c ∧ c ≤ 255
def encLD (x : LD) : A := .agg [.atom (.int .u8 x.n), .sl 1 false (x.ws.map encB)]
theorem encB_inj : ∀ a b, encB a = encB b → a = b := by
  intro a b h
  simp only [encB, A.sl.injEq, true_and] at h
  exact map_inj (by intro x y h; simpa using h) h
theorem encLD_inj : ∀ a b, encLD a = encLD b → a = b := by
  rintro ⟨a1, a2⟩ ⟨b1, b2⟩ h
  simp only [encLD, A.agg.injEq, List.cons.injEq, A.atom.injEq, Value.int.injEq, true_and, A.sl.injEq, and_true] at h
  obtain ⟨rfl, h⟩ := h
  rw [map_inj encB_inj h]
theorem isD_encB (x : List Int) : (encB x).isD = true := rfl
theorem size_encB (x : List Int) : (encB x).size = 1 := rfl
theorem loose_encB (x : List Int) : (encB x).loose = encB x := by simp only [encB, A.loose, looses_map]
theorem looses_encB (x : List (List Int)) : A.looses (x.map encB) = x.map encB := by simp only [looses_map, loose_encB]
theorem areD_encB (x : List (List Int)) : A.areD (x.map encB) = true := areD_map _ _ fun _ => rfl
theorem looses_u8 (x : List Int) : A.looses (x.map fun x => A.atom (.int .u8 x)) = x.map fun x => A.atom (.int .u8 x) := by simp only [looses_map, A.loose]
theorem areD_u8 (x : List Int) : A.areD (x.map fun x => A.atom (.int .u8 x)) = true := areD_map _ _ fun _ => rfl
theorem looses_u16 (x : List Int) : A.looses (x.map fun x => A.atom (.int .u16 x)) = x.map fun x => A.atom (.int .u16 x) := by simp only [looses_map, A.loose]
theorem areD_u16 (x : List Int) : A.areD (x.map fun x => A.atom (.int .u16 x)) = true := areD_map _ _ fun _ => rfl
/-- A word of the call's own, with its mark. -/
def ownT (w : List Int) : A := .osl 1 w.isEmpty (w.map fun x => .atom (.int .i64 x))
theorem looses_ownT (x : List (List Int)) : A.looses (x.map ownT) = x.map ownW := by
  simp only [looses_map]
  exact List.map_congr_left fun w _ => by simp only [ownT, ownW, A.loose, looses_atoms]
theorem lives_ownT (x : List (List Int)) : A.lives (x.map ownT) = true := lives_map _ _ fun w => live_atoms w
theorem loose_ownT (w : List Int) : (ownT w).loose = ownW w := by simp only [ownT, ownW, A.loose, looses_atoms]
theorem shut_ownT_loose (x : List (List Int)) : A.looses (A.shuts (x.map ownT)) = x.map encW := by
  simp only [shuts_map, looses_map]
  exact List.map_congr_left fun w _ => by simp only [ownT, encW, A.shut, A.loose, shuts_atoms, looses_atoms]
attribute [go_sem ↓] isD_encB size_encB loose_encB looses_encB areD_encB looses_u8 areD_u8 looses_u16 areD_u16 looses_ownT lives_ownT shut_ownT_loose

def alpha (x : LD) : Int := 1 + x.n.tmod 3
theorem tmod_lt {a b : Int} (h0 : 0 ≤ a) (hb : 0 < b) : 0 ≤ a.tmod b ∧ a.tmod b < b := by
  rw [Int.tmod_eq_emod_of_nonneg h0]
  exact ⟨Int.emod_nonneg _ (by omega), Int.emod_lt_of_pos _ hb⟩
theorem LD.Ok.alpha {x : LD} (h : x.Ok) : 1 ≤ alpha x ∧ alpha x ≤ 3 := by
  have := tmod_lt h.n0 (show (0 : Int) < 3 by omega)
  unfold Go.Own.alpha
  omega
/-- The words as they stand, and the list. -/
def rawW (x : LD) (w : List Int) : List Int := (w.take 12).map fun c => c.tmod (alpha x)
def rawF (x : LD) : List (List Int) := (x.ws.take 40).map (rawW x)
def withinF (l : List (List Int)) (n : Int) : List (List Int) := sortF (l.map fun w => w.map fun c => c.tmod n)

end Go.Own

namespace Go.Own
def spAlpha : Spec where
  α := LD
  k := 84
  raw := false
  gives := []
  enc := fun x => [encLD x]
  pre := fun x => (x.Ok)
  f := fun x => .atom (.int .i64 (alpha x))
  inj := by
    rintro a0 b0 h _ _
    simp only [List.cons.injEq, and_true] at h
    have h0 := h
    have e0 := encLD_inj _ _ h0
    subst e0
    rfl
theorem spAlpha_run {ctr : Ctr} (hh : ctr.Has spAlpha) {x : LD} (h : x.Ok) : ctr.run 84 [encLD x] = some (.atom (.int .i64 (alpha x))) := hh.run x h
theorem spAlpha_at {ctr : Ctr} (h : ctr.Has spAlpha) : ctr.gives 84 = [] ∧ ctr.raw 84 = false ∧ ctr.lend 84 = none := ⟨h.gives, h.raw, h.lend⟩
def spRaw : Spec where
  α := LD
  k := 50
  raw := false
  gives := []
  enc := fun x => [encLD x]
  pre := fun x => (x.Ok)
  f := fun x => ownL (rawF x)
  inj := by
    rintro a0 b0 h _ _
    simp only [List.cons.injEq, and_true] at h
    have h0 := h
    have e0 := encLD_inj _ _ h0
    subst e0
    rfl
theorem spRaw_run {ctr : Ctr} (hh : ctr.Has spRaw) {x : LD} (h : x.Ok) : ctr.run 50 [encLD x] = some (ownL (rawF x)) := hh.run x h
theorem spRaw_at {ctr : Ctr} (h : ctr.Has spRaw) : ctr.gives 50 = [] ∧ ctr.raw 50 = false ∧ ctr.lend 50 = none := ⟨h.gives, h.raw, h.lend⟩
def spPut : Spec where
  α := List (List Int) × List Int
  k := 83
  raw := false
  gives := [true, false]
  enc := fun ⟨l, w⟩ => [ownS l, encW w]
  pre := fun ⟨l, w⟩ => (Asc l) ∧ (l.length ≤ 4000) ∧ (w.length ≤ 4096) ∧ (∀ x ∈ l, x.length ≤ 4096)
  f := fun ⟨l, w⟩ => ownS (putF l w)
  inj := by
    rintro ⟨a0, a1⟩ ⟨b0, b1⟩ h _ _
    simp only [List.cons.injEq, and_true] at h
    obtain ⟨h0, h1⟩ := h
    have e0 := ownS_inj _ _ h0
    have e1 := encW_inj _ _ h1
    subst e0 e1
    rfl
theorem spPut_run {ctr : Ctr} (hh : ctr.Has spPut) {l : List (List Int)} {w : List Int} (ha : Asc l) (hl : l.length ≤ 4000) (hw : w.length ≤ 4096) (hs : ∀ x ∈ l, x.length ≤ 4096) : ctr.run 83 [ownS l, encW w] = some (ownS (putF l w)) := hh.run (l, w) ⟨ha, hl, hw, hs⟩
theorem spPut_at {ctr : Ctr} (h : ctr.Has spPut) : ctr.gives 83 = [true, false] ∧ ctr.raw 83 = false ∧ ctr.lend 83 = none := ⟨h.gives, h.raw, h.lend⟩
def spSort : Spec where
  α := List (List Int)
  k := 49
  raw := false
  gives := []
  enc := fun l => [encL l]
  pre := fun l => (l.length ≤ 4000) ∧ (∀ x ∈ l, x.length ≤ 4096)
  f := fun l => ownS (sortF l)
  inj := by
    rintro a0 b0 h _ _
    simp only [List.cons.injEq, and_true] at h
    have h0 := h
    have e0 := encL_inj _ _ h0
    subst e0
    rfl
theorem spSort_run {ctr : Ctr} (hh : ctr.Has spSort) {l : List (List Int)} (hl : l.length ≤ 4000) (hs : ∀ x ∈ l, x.length ≤ 4096) : ctr.run 49 [encL l] = some (ownS (sortF l)) := hh.run l ⟨hl, hs⟩
theorem spSort_at {ctr : Ctr} (h : ctr.Has spSort) : ctr.gives 49 = [] ∧ ctr.raw 49 = false ∧ ctr.lend 49 = none := ⟨h.gives, h.raw, h.lend⟩
def spLOf : Spec where
  α := LD
  k := 14
  raw := false
  gives := []
  enc := fun x => [encLD x]
  pre := fun x => (x.Ok)
  f := fun x => ownS (sortF (rawF x))
  inj := by
    rintro a0 b0 h _ _
    simp only [List.cons.injEq, and_true] at h
    have h0 := h
    have e0 := encLD_inj _ _ h0
    subst e0
    rfl
theorem spLOf_run {ctr : Ctr} (hh : ctr.Has spLOf) {x : LD} (h : x.Ok) : ctr.run 14 [encLD x] = some (ownS (sortF (rawF x))) := hh.run x h
theorem spLOf_at {ctr : Ctr} (h : ctr.Has spLOf) : ctr.gives 14 = [] ∧ ctr.raw 14 = false ∧ ctr.lend 14 = none := ⟨h.gives, h.raw, h.lend⟩
def spWithin : Spec where
  α := List (List Int) × Int
  k := 13
  raw := false
  gives := []
  enc := fun ⟨l, n⟩ => [encL l, .atom (.int .i64 n)]
  pre := fun ⟨l, n⟩ => (l.length ≤ 4000) ∧ (∀ x ∈ l, x.length ≤ 4096) ∧ (1 ≤ n)
  f := fun ⟨l, n⟩ => ownS (withinF l n)
  inj := by
    rintro ⟨a0, a1⟩ ⟨b0, b1⟩ h _ _
    simp only [List.cons.injEq, and_true] at h
    obtain ⟨h0, h1⟩ := h
    have e0 := encL_inj _ _ h0
    have e1 := I_inj _ _ h1
    subst e0 e1
    rfl
theorem spWithin_run {ctr : Ctr} (hh : ctr.Has spWithin) {l : List (List Int)} {n : Int} (hl : l.length ≤ 4000) (hs : ∀ x ∈ l, x.length ≤ 4096) (hn : 1 ≤ n) : ctr.run 13 [encL l, .atom (.int .i64 n)] = some (ownS (withinF l n)) := hh.run (l, n) ⟨hl, hs, hn⟩
theorem spWithin_at {ctr : Ctr} (h : ctr.Has spWithin) : ctr.gives 13 = [] ∧ ctr.raw 13 = false ∧ ctr.lend 13 = none := ⟨h.gives, h.raw, h.lend⟩

end Go.Own
