/- The operations are right, fourth part: slices, parts of values, functions, maps. -/
import Derived.Test.YtdnenbcldibnoaaExC
namespace Go.Ex
open Go.Own (A Still cellAt Rep Reps Lies)

section
variable {P : Program} {tt : ET} {C : Ctx} {N n : Nat} {ρ : Pl} {st : St} {a : Act} {w : World} {Ds : List Nat} {o : Oper}

/-! ### Slices -/

/-- A bound's value: none where there is none. -/
def BoundOk (S : Still) (ρ : Pl) (x : Option V) (v : Option Value) : Prop :=
  match x, v with
  | none, none => True
  | some x, some v => VR S ρ x v
  | _, _ => False

theorem opO_ok (h : Sim C N ρ st a w Ds) {x : Option Operand} {v : Option V} {R : List Key} {U : Ups} (e : opO x st = some (v, R, U)) : U = [] ∧ BoundOk C.S ρ v (x.map a.eval) := by
  cases x with
  | none => obtain ⟨rfl, rfl, rfl⟩ := pure_some e; exact ⟨rfl, trivial⟩
  | some x =>
    simp only [opO] at e
    obtain ⟨y, R1, U1, R2, U2, h1, h2, rfl, rfl⟩ := bind_some e
    obtain ⟨rfl, q⟩ := opV_ok h h1
    obtain ⟨rfl, rfl, rfl⟩ := pure_some h2
    exact ⟨rfl, q⟩

theorem boundV_none {S : Still} {d l : Nat} {v : Option Value} (e : boundV d none = some l) (h : BoundOk S ρ none v) : v = none ∧ l = d := by
  simp only [boundV, Option.some.injEq] at e
  cases v with
  | none => exact ⟨rfl, e.symm⟩
  | some _ => exact h.elim

theorem boundV_some {S : Still} {d l : Nat} {x : V} {v : Option Value} (e : boundV d (some x) = some l) (h : BoundOk S ρ (some x) v) : ∃ k, v = some (.int k l) := by
  cases v with
  | none => exact h.elim
  | some v =>
    unfold boundV at e
    split at e
    · cases ‹some _ = none›
    · rename_i k m hx
      cases hx
      split at e
      · rename_i hm
        simp only [Option.some.injEq] at e
        simp only [BoundOk, VR] at h
        subst h
        exact ⟨k, by rw [← e, Int.toNat_of_nonneg hm]⟩
      · cases e
    · cases e

theorem run_sliceBound (k : IntKind) (i y : Nat) (c : BoundsCode) (h : i ≤ y) (w : World) : (Instr.sliceBound (.int k i) y c).run P w = .ok i w := by
  have : (0 : Int) ≤ i ∧ (i : Int) ≤ y := by omega
  simp [Instr.sliceBound, asIntOf, this]

/-- The three bounds of a slice expression. -/
theorem run_bounds {S : Still} (sl : Bool) (n c l h : Nat) {lo hi mx : Option V} {vl vh vm : Option Value} (hlo : BoundOk S ρ lo vl) (hhi : BoundOk S ρ hi vh) (hmx : BoundOk S ρ mx vm) (e1 : boundV 0 lo = some l) (e2 : boundV n hi = some h) (m : Nat)
    (e3 : (mx = none ∧ m = c) ∨ (∃ x, mx = some x ∧ boundV 0 mx = some m ∧ hi ≠ none)) (h1 : l ≤ h) (h2 : h ≤ m) (h3 : m ≤ c) (w : World) : (Instr.sliceBounds sl n c vl vh vm).run P w = .ok (l, h, m) w := by
  unfold Instr.sliceBounds
  rcases e3 with ⟨rfl, rfl⟩ | ⟨x, rfl, e3, e4⟩
  · cases vm with
    | some _ => exact hmx.elim
    | none =>
      cases hi with
      | none =>
        obtain ⟨rfl, rfl⟩ := boundV_none e2 hhi
        cases lo with
        | none => obtain ⟨rfl, rfl⟩ := boundV_none e1 hlo; simp
        | some x => obtain ⟨k, rfl⟩ := boundV_some e1 hlo; simp [run_sliceBound k l h _ h1]
      | some y =>
        obtain ⟨k2, rfl⟩ := boundV_some e2 hhi
        cases lo with
        | none => obtain ⟨rfl, rfl⟩ := boundV_none e1 hlo; simp [run_sliceBound k2 h m _ h2]
        | some x => obtain ⟨k, rfl⟩ := boundV_some e1 hlo; simp [run_sliceBound k l h _ h1, run_sliceBound k2 h m _ h2]
  · obtain ⟨k3, rfl⟩ := boundV_some e3 hmx
    cases hi with
    | none => exact absurd rfl e4
    | some y =>
      obtain ⟨k2, rfl⟩ := boundV_some e2 hhi
      cases lo with
      | none => obtain ⟨rfl, rfl⟩ := boundV_none e1 hlo; simp [run_sliceBound k2 h m _ h2, run_sliceBound k3 m c _ h3]
      | some x => obtain ⟨k, rfl⟩ := boundV_some e1 hlo; simp [run_sliceBound k l h _ h1, run_sliceBound k2 h m _ h2, run_sliceBound k3 m c _ h3]

def capIs : Option Nat → Nat → Prop
  | some k, c' => c' = k
  | none, _ => True

theorem fullV_ok {c : Option Nat} {q c' : Nat} (h : fullV c q = false ∧ c ≠ none) (hc : capIs c c') : q ≤ c' := by
  cases c with
  | none => exact absurd rfl h.2
  | some r => have := h.1; simp only [fullV, decide_eq_false_iff_not] at this; simp only [capIs] at hc; omega

theorem sliceSl_ok {S : Still} {t e b q z n' : Nat} {c : Option Nat} {lo hi mx : Option V} {v : V} (hv : sliceSl b q z n' c lo hi mx = some v) {u : Value} (hx : VR S ρ (.sl b q z n' c) u) {vl vh vm : Option Value} (hlo : BoundOk S ρ lo vl) (hhi : BoundOk S ρ hi vh) (hmx : BoundOk S ρ mx vm)
    (hk : P.underlying t = some (.slice e)) (hsz : (Go.sizeOf e).run P w = .ok z w) : ∃ vu, (Instr.sliceAt t u vl vh vm).run P w = .ok vu w ∧ VR S ρ v vu := by
  simp only [VR] at hx
  obtain ⟨p, o', c', hp, rfl, s1, s2, s3⟩ := hx
  have c3 : capIs c c' := by cases c with | none => trivial | some k => exact s3
  have run : ∀ l h m, (Instr.sliceBounds true n' c' vl vh vm).run P w = .ok (l, h, m) w → (Instr.sliceAt t (.slice (some ⟨p.B, o', none⟩) n' c') vl vh vm).run P w = .ok (.slice (if m = l then some ⟨p.B, o', none⟩ else some ⟨p.B, o' + l * z, none⟩) (h - l) (m - l)) w := by
    intro l h m hb
    simp only [Instr.sliceAt, Instr.slice, Sem.run_bind, run_underlying hk, Result.andThen_ok, hb, hsz, Sem.run_pure]
    split <;> simp [Addr.add_lit]
  have rel : ∀ l h m (cc : Option Nat), l ≤ h → h ≤ m → m ≤ c' → (match cc with | some k => m - l = k | none => p.O + (q + l * z) + (m - l) * z = p.Z) →
      VR S ρ (.sl b (q + l * z) z (h - l) cc) (.slice (if m = l then some ⟨p.B, o', none⟩ else some ⟨p.B, o' + l * z, none⟩) (h - l) (m - l)) := by
    intro l h m cc h1 h2 h3 h4
    simp only [VR]
    by_cases hml : m = l
    · rw [if_pos hml]
      exact ⟨p, o', m - l, hp, rfl, by omega, by omega, h4⟩
    · rw [if_neg hml]
      exact ⟨p, o' + l * z, m - l, hp, rfl, by omega, fun _ => by rw [s2 (by omega), Nat.add_assoc], h4⟩
  unfold sliceSl at hv
  split at hv
  · rename_i l h e1 e2
    split at hv
    · rename_i hc
      simp only [Option.some.injEq] at hv; subst hv
      have hh : h ≤ c' := by
        rcases hc.2 with h1 | h1
        · omega
        · exact fullV_ok h1 c3
      have hb := run_bounds (P := P) true n' c' l h hlo hhi hmx e1 e2 c' (.inl ⟨rfl, rfl⟩) hc.1 hh (Nat.le_refl _) w
      refine ⟨_, run l h c' hb, rel l h c' _ hc.1 hh (Nat.le_refl _) ?_⟩
      cases c with
      | some r => simp only at s3 ⊢; simp only [Option.map_some]; omega
      | none =>
        simp only at s3 ⊢
        simp only [Option.map_none]
        have : c' * z = l * z + (c' - l) * z := by rw [← Nat.add_mul]; congr 1; omega
        omega
    · cases hv
  · rename_i l h m e1 e2
    split at hv
    · rename_i mm hh e3
      split at hv
      · rename_i hc
        simp only [Option.some.injEq] at hv; subst hv
        have hmm : mm ≤ c' := by
          rcases hc.2.2 with h1 | h1
          · omega
          · exact fullV_ok h1 c3
        have hb := run_bounds (P := P) true n' c' l h hlo hhi hmx e1 e2 mm (.inr ⟨m, rfl, e3, by simp⟩) hc.1 hc.2.1 hmm w
        exact ⟨_, run l h mm hb, rel l h mm _ hc.1 hc.2.1 hmm rfl⟩
      · cases hv
    · cases hv
  · cases hv

theorem sliceNil_ok {S : Still} {t e z : Nat} {lo hi mx : Option V} {v : V} (hv : sliceNil lo hi mx = some v) {vl vh vm : Option Value} (hlo : BoundOk S ρ lo vl) (hhi : BoundOk S ρ hi vh) (hmx : BoundOk S ρ mx vm)
    (hk : P.underlying t = some (.slice e)) (hsz : (Go.sizeOf e).run P w = .ok z w) : ∃ vu, (Instr.sliceAt t (.slice none 0 0) vl vh vm).run P w = .ok vu w ∧ VR S ρ v vu := by
  have run : (Instr.sliceBounds true 0 0 vl vh vm).run P w = .ok (0, 0, 0) w → (Instr.sliceAt t (.slice none 0 0) vl vh vm).run P w = .ok (.slice none 0 0) w := by
    intro hb
    simp only [Instr.sliceAt, Instr.slice, Sem.run_bind, run_underlying hk, Result.andThen_ok, hb, hsz, Sem.run_pure]
    simp
  unfold sliceNil at hv
  split at hv
  · rename_i e1 e2
    simp only [Option.some.injEq] at hv; subst hv
    exact ⟨_, run (run_bounds (P := P) true 0 0 0 0 hlo hhi hmx e1 e2 0 (.inl ⟨rfl, rfl⟩) (Nat.le_refl _) (Nat.le_refl _) (Nat.le_refl _) w), vlit _⟩
  · rename_i m e1 e2
    split at hv
    · rename_i hh e3
      simp only [Option.some.injEq] at hv; subst hv
      exact ⟨_, run (run_bounds (P := P) true 0 0 0 0 hlo hhi hmx e1 e2 0 (.inr ⟨m, rfl, e3, by simp⟩) (Nat.le_refl _) (Nat.le_refl _) (Nat.le_refl _) w), vlit _⟩
    · cases hv
  · cases hv

theorem slice_ok (hT : ETok P tt) {S : Still} {t : Nat} {x v : V} {lo hi mx : Option V} (hv : sliceV tt t x lo hi mx = some v) {u : Value} (hx : VR S ρ x u) {vl vh vm : Option Value} (hlo : BoundOk S ρ lo vl) (hhi : BoundOk S ρ hi vh) (hmx : BoundOk S ρ mx vm) (w : World) :
    ∃ vu, (Instr.sliceAt t u vl vh vm).run P w = .ok vu w ∧ VR S ρ v vu := by
  unfold sliceV at hv
  split at hv
  · split at hv
    · rename_i he
      obtain ⟨e, h1, h2⟩ := elemSize_some hT he w
      exact sliceSl_ok hv hx hlo hhi hmx h1 h2
    · cases hv
  · split at hv
    · rename_i he
      obtain ⟨z, he⟩ := Option.isSome_iff_exists.1 he
      obtain ⟨e, h1, h2⟩ := elemSize_some hT he w
      simp only [VR] at hx
      subst hx
      exact sliceNil_ok hv hlo hhi hmx h1 h2
    · cases hv
  · rename_i b q
    split at hv
    · rename_i m el i ha
      obtain ⟨hk, hi'⟩ := arElem_some hT ha
      split at hv
      · rename_i l h e1 e2
        split at hv
        · rename_i hc
          simp only [Option.some.injEq] at hv; subst hv
          simp only [VR] at hx
          obtain ⟨p, hp, rfl⟩ := hx
          have hb := run_bounds (P := P) false m m l h hlo hhi hmx e1 e2 m (.inl ⟨rfl, rfl⟩) hc.1 hc.2 (Nat.le_refl _) w
          refine ⟨_, by
            simp only [Instr.sliceAt, Sem.run_bind, run_underlying hk, Result.andThen_ok, Instr.sureAddr, hb, run_sizeOf hT hi', Sem.run_pure]
            rfl, ?_⟩
          simp only [VR]
          by_cases hml : m = l
          · rw [if_pos hml]
            exact ⟨p, p.O + q, m - l, hp, rfl, by omega, by omega, rfl⟩
          · rw [if_neg hml]
            exact ⟨p, p.O + q + l * i.size, m - l, hp, by rw [Addr.add_lit], by omega, fun _ => by rw [Nat.add_assoc], rfl⟩
        · cases hv
      · cases hv
    · cases hv
  · cases hv

/-! ### Parts of values -/

theorem part_ok (hT : ETok P tt) {S : Still} {t off : Nat} {xs : List V} {x : V} (e : partV tt t xs off = some x) {cs : List Value} (h : VRs S ρ xs cs) (w : World) : ∃ v, (Go.part t cs.toArray off).run P w = .ok v w ∧ VR S ρ x v := by
  unfold partV at e
  split at e
  · rename_i i ht
    split at e
    · rename_i hc
      have hsub : VRs S ρ ((xs.drop off).take i.size) ((cs.drop off).take i.size) := (h.drop off).take i.size
      obtain ⟨q1, q2⟩ := ofCells_ok e hsub
      refine ⟨_, ?_, q1⟩
      have hk := run_isAgg (hT t i ht).kind w
      have hlen := h.len
      unfold Go.part
      simp only [Sem.run_bind, hk, Result.andThen_ok, Sem.run_ite]
      by_cases hag : i.kind.isAgg = true
      · simp only [hag, if_true, run_sizeOf hT ht, Result.andThen_ok, Sem.run_pure]
        congr 2
        apply Array.ext_getElem?
        intro k
        simp [List.getElem?_take, List.getElem?_drop]
      · simp only [hag, if_false, Bool.false_eq_true]
        have h1 := q2 (by simpa using hag)
        have hi1 : i.size = 1 := by
          rcases hc.2 with h2 | h2
          · exact absurd h2 hag
          · exact h2
        have hlt : off < cs.length := by omega
        have : cs.toArray[off]? = some cs[off] := by simp [hlt]
        simp only [this, Sem.run_pure]
        congr 1
        rw [hi1, List.take_one, List.head?_drop, List.getElem?_eq_getElem hlt]
        rfl
    · cases e
  · cases e

theorem field_ok (hT : ETok P tt) {S : Still} {t i : Nat} {x z : V} (e : fieldV tt t i x = some z) {u : Value} (hx : VR S ρ x u) (w : World) : ∃ v, (Instr.field t u i).run P w = .ok v w ∧ VR S ρ z v := by
  unfold fieldV at e
  split at e
  · rename_i fs _ _ _ _ xs ht
    split at e
    · rename_i off ft hf
      simp only [VR] at hx
      obtain ⟨cs, h1, rfl⟩ := hx
      obtain ⟨fields, g1, g2, _⟩ := (hT _ _ ht).kind
      rw [← g2, List.getElem?_map] at hf
      obtain ⟨f, h4, h5⟩ := Option.map_eq_some_iff.1 hf
      cases h5
      have hfi : fields[i]? = some f := by simpa using h4
      obtain ⟨v, d1, d2⟩ := part_ok hT e h1 w
      exact ⟨v, by simp only [Instr.field, Sem.run_bind, run_underlying g1, Result.andThen_ok, hfi, asAgg, Sem.run_pure]; exact d1, d2⟩
    · cases e
  · cases e

theorem index_ok (hT : ETok P tt) {S : Still} {t : Nat} {x z : V} {k : IntKind} {j : Int} (e : indexV tt t x j = some z) {u : Value} (hx : VR S ρ x u) (w : World) : ∃ v, (Instr.index t u (.int k j)).run P w = .ok v w ∧ VR S ρ z v := by
  unfold indexV at e
  split at e
  · rename_i h0
    split at e
    · rename_i xs
      split at e
      · rename_i m el i ha
        obtain ⟨hk, hi⟩ := arElem_some hT ha
        split at e
        · rename_i hj
          simp only [VR] at hx
          obtain ⟨cs, h1, rfl⟩ := hx
          obtain ⟨v, d1, d2⟩ := part_ok hT e h1 w
          have hj' : j < (m : Int) := by omega
          exact ⟨v, by simp only [Instr.index, asIntOf, Sem.run_bind, Sem.run_pure, Result.andThen_ok, run_underlying hk, h0, hj', and_self, if_true, run_sizeOf hT hi]; exact d1, d2⟩
        · cases e
      · cases e
    · rename_i s
      split at e
      · rename_i ht
        obtain ⟨b, hb, rfl⟩ := Option.map_eq_some_iff.1 e
        have hk : P.underlying t = some .string := (hT _ _ ht).kind
        simp only [VR] at hx
        subst hx
        exact ⟨_, by simp only [Instr.index, asIntOf, Sem.run_bind, Sem.run_pure, Result.andThen_ok, run_underlying hk, h0, if_true, hb], vlit _⟩
      · cases e
    · cases e
  · cases e

theorem extract_ok {S : Still} {x z : V} {i : Nat} (e : extractV x i = some z) {u : Value} (hx : VR S ρ x u) (w : World) : ∃ v, (Instr.extract u i).run P w = .ok v w ∧ VR S ρ z v := by
  unfold extractV at e
  split at e
  · simp only [VR] at hx
    obtain ⟨vs, h1, rfl⟩ := hx
    obtain ⟨v, h2, h3⟩ := h1.get e
    exact ⟨v, by simp [Instr.extract, h2], h3⟩
  · cases e

theorem nilCheck_ok {S : Still} {x : Operand} {y z : V} (e : nilCheckV y = some z) (hx : VR S ρ y (a.eval x)) (ho : o.op = .nilCheck x) (w : World) : (execOp a.eval o).run P w = .ok (.value (a.eval x)) w ∧ VR S ρ z (a.eval x) := by
  unfold nilCheckV at e
  split at e
  · simp only [Option.some.injEq] at e; subst e
    refine ⟨?_, hx⟩
    simp only [VR] at hx
    obtain ⟨p, _, hv⟩ := hx
    simp [execOp, ho, hv]
  · simp only [Option.some.injEq] at e; subst e
    refine ⟨?_, hx⟩
    simp only [VR] at hx
    obtain ⟨vs, _, hv⟩ := hx
    simp [execOp, ho, hv]
  · simp only [Option.some.injEq] at e; subst e
    refine ⟨?_, hx⟩
    simp only [VR] at hx
    obtain ⟨p, _, hv⟩ := hx
    simp [execOp, ho, hv]
  · simp only [Option.some.injEq] at e; subst e
    refine ⟨?_, hx⟩
    simp only [VR, Rep] at hx
    obtain ⟨b, q, l, hv, _⟩ := hx
    simp only [List.cons.injEq, and_true] at hv
    simp [execOp, ho, hv]
  · cases e

theorem minV_ok {S : Still} {mx : Bool} {x y z : V} (e : minV mx x y = some z) {u v : Value} (hx : VR S ρ x u) (hy : VR S ρ y v) (w : World) : ∃ r, (if mx = true then Builtin.max2 u v else Builtin.min2 u v).run P w = .ok r w ∧ VR S ρ z r := by
  unfold minV at e
  split at e
  · simp only [Option.some.injEq] at e; subst e
    simp only [VR] at hx hy
    subst hx; subst hy
    cases mx
    · exact ⟨_, by simp [Builtin.min2]; rfl, by simp only [VR, Bool.false_eq_true, if_false]⟩
    · exact ⟨_, by simp [Builtin.max2]; rfl, by simp only [VR, if_true]⟩
  · cases e

theorem minVs_ok {S : Still} (mx : Bool) (w : World) : ∀ {ys : List V} {x z : V} {u : Value} {vs : List Value}, minVs mx x ys = some z → VR S ρ x u → VRs S ρ ys vs → ∃ r, (vs.foldlM (fun x y => if mx = true then Builtin.max2 x y else Builtin.min2 x y) u).run P w = .ok r w ∧ VR S ρ z r
  | [], x, z, u, vs, e, hx, hy => by
    simp only [minVs, Option.some.injEq] at e; subst e
    simp only [VRs] at hy; subst hy
    exact ⟨u, by simp, hx⟩
  | y :: ys, x, z, u, vs, e, hx, hy => by
    simp only [minVs] at e
    obtain ⟨m, e1, e2⟩ := Option.bind_eq_some_iff.1 e
    simp only [VRs] at hy
    obtain ⟨v, us, rfl, q1, q2⟩ := hy
    obtain ⟨r, d1, d2⟩ := minV_ok (P := P) e1 hx q1 w
    obtain ⟨r', d3, d4⟩ := minVs_ok mx w e2 d2 q2
    exact ⟨r', by rw [List.foldlM_cons, Sem.run_bind, d1, Result.andThen_ok]; exact d3, d4⟩

/-! ### Maps -/

theorem bytes_eq {x y : ByteArray} (h : (x == y) = true) : x = y := by
  cases x; cases y
  simp only [BEq.beq] at h
  unfold ByteArray.beq at h
  simpa using h

theorem eqVals_eq : ∀ {vs us : List Value}, eqVals vs us = some true → vs = us
  | [], [], _ => rfl
  | v :: vs, u :: us, e => by
    unfold eqVals at e
    split at e <;> first | (cases e; done) | skip
    · rename_i e1 e2; cases e1
    · rename_i k x xs k' y ys e1 e2
      cases e1; cases e2
      split at e
      · rename_i hk
        obtain ⟨r, h1, h2⟩ := Option.map_eq_some_iff.1 e
        simp only [Bool.and_eq_true, beq_iff_eq] at h2
        obtain ⟨rfl, rfl⟩ := h2
        subst hk
        rw [eqVals_eq h1]
      · cases e
    · rename_i x xs y ys e1 e2
      cases e1; cases e2
      obtain ⟨r, h1, h2⟩ := Option.map_eq_some_iff.1 e
      simp only [Bool.and_eq_true, beq_iff_eq] at h2
      obtain ⟨rfl, rfl⟩ := h2
      rw [eqVals_eq h1]
    · rename_i x xs y ys e1 e2
      cases e1; cases e2
      obtain ⟨r, h1, h2⟩ := Option.map_eq_some_iff.1 e
      simp only [Bool.and_eq_true] at h2
      obtain ⟨h3, rfl⟩ := h2
      rw [bytes_eq h3, eqVals_eq h1]
  | [], _ :: _, e => by simp [eqVals] at e
  | _ :: _, [], e => by unfold eqVals at e; split at e <;> simp_all

theorem eqVals_len : ∀ {vs us : List Value} {r : Bool}, eqVals vs us = some r → vs.length = us.length
  | [], [], _, _ => rfl
  | v :: vs, u :: us, r, e => by
    unfold eqVals at e
    split at e <;> first | (cases e; done) | skip
    · rename_i e1 e2; cases e1
    · rename_i k x xs k' y ys e1 e2
      cases e1; cases e2
      split at e
      · obtain ⟨r, h1, h2⟩ := Option.map_eq_some_iff.1 e
        simp [eqVals_len h1]
      · cases e
    · rename_i x xs y ys e1 e2
      cases e1; cases e2
      obtain ⟨r, h1, h2⟩ := Option.map_eq_some_iff.1 e
      simp [eqVals_len h1]
    · rename_i x xs y ys e1 e2
      cases e1; cases e2
      obtain ⟨r, h1, h2⟩ := Option.map_eq_some_iff.1 e
      simp [eqVals_len h1]
  | [], _ :: _, _, e => by simp [eqVals] at e
  | _ :: _, [], _, e => by unfold eqVals at e; split at e <;> simp_all

theorem keyEq_eq {k k' : Value} (e : keyEq k k' = some true) : k = k' := by
  unfold keyEq at e
  split at e <;> first | (cases e; done) | skip
  · split at e
    · rename_i hk; simp only [Option.some.injEq, beq_iff_eq] at e; subst hk; rw [e]
    · cases e
  · simp only [Option.some.injEq, beq_iff_eq] at e; rw [e]
  · simp only [Option.some.injEq] at e; rw [bytes_eq e]
  · exact congrArg Value.agg (Array.toList_inj.1 (eqVals_eq e))

theorem keyOf_ok {S : Still} {x : V} {k : Value} (e : keyOf x = some k) {u : Value} (hx : VR S ρ x u) : u = k := by
  unfold keyOf at e
  split at e <;> first | (cases e; done) | skip
  · simp only [Option.some.injEq] at e; subst e; simpa only [VR] using hx
  · simp only [Option.some.injEq] at e; subst e; simpa only [VR] using hx
  · simp only [Option.some.injEq] at e; subst e; simpa only [VR] using hx
  · obtain ⟨vs, h1, rfl⟩ := Option.map_eq_some_iff.1 e
    simp only [VR] at hx
    obtain ⟨us, h2, rfl⟩ := hx
    rw [litsV_ok h1 h2]

theorem run_checkKey (hT : ETok P tt) {t : Nat} {k : Value} (h : keyOk tt t k = true) (e : Bool) (w : World) : (Instr.checkKey e 10000 t k).run P w = .ok () w := by
  unfold keyOk at h
  split at h
  · rename_i i ht
    have hk := (hT _ _ ht).kind
    have leaf : ∀ d, P.underlying t = some d → (match d with | .interface _ | .array _ _ | .struct _ => False | _ => True) → (Instr.checkKey e 10000 t k).run P w = .ok () w := by
      intro d hd hc
      show (Instr.checkKey e (9999 + 1) t k).run P w = _
      generalize 9999 = q
      unfold Instr.checkKey
      simp only [Sem.run_bind, run_underlying hd, Result.andThen_ok]
      cases d <;> first | exact hc.elim | simp
    split at h <;> first | (cases h; done) | skip
    · rename_i kk _ _ hkk; exact leaf _ (by rw [hkk] at hk; exact hk) trivial
    · rename_i _ hkk; exact leaf _ (by rw [hkk] at hk; exact hk) trivial
    · rename_i _ hkk; exact leaf _ (by rw [hkk] at hk; exact hk) trivial
    · rename_i xs hkk
      simp only [Bool.and_eq_true, beq_iff_eq] at h
      have := ((hT _ _ ht).eqn h.1.1).key xs.toList e w (by simpa using h.1.2)
      simpa using this
    · rename_i xs hkk
      simp only [Bool.and_eq_true, beq_iff_eq] at h
      have := ((hT _ _ ht).eqn h.1.1).key xs.toList e w (by simpa using h.1.2)
      simpa using this
  · cases h

theorem find_ok (hT : ETok P tt) {S : Still} {t : Nat} {k : Value} (hk : keyOk tt t k = true) {es : List (Value × V)} {r : Option (Nat × V)} (e : findM k es 0 = some r) {ents : List MapEntry} (h1 : ents.map (·.key) = es.map (·.1)) (h2 : VRs S ρ (es.map (·.2)) (ents.map (·.val))) (w : World) :
    ∃ r', (Instr.findKey t k ents).run P w = .ok r' w ∧ (match r, r' with | some (i, x), some (i', v) => i' = i ∧ i < es.length ∧ VR S ρ x v ∧ (ents[i]?).map (·.key) = some k | none, none => True | _, _ => False) := by
  unfold keyOk at hk
  split at hk
  · rename_i i ht
    have hkind := (hT _ _ ht).kind
    have rel : ∀ {es : List (Value × V)} {r : Option (Nat × V)} {ents : List MapEntry} (j : Nat), findM k es j = some r → ents.map (·.key) = es.map (·.1) → VRs S ρ (es.map (·.2)) (ents.map (·.val)) →
        (∃ r', (match r, r' with | some (i, x), some (i', v) => i' = i ∧ j ≤ i ∧ i < j + es.length ∧ VR S ρ x v ∧ (ents[i - j]?).map (·.key) = some k | none, none => True | _, _ => False) ∧
          (∀ d, (∀ k', keyEq k k' = some true → Instr.sameNow d k k' = some true) → (∀ k', keyEq k k' = some false → Instr.sameNow d k k' = some false) → Instr.findNow d k ents j = some r') ∧
          ((∀ k' b, keyEq k k' = some b → (Op.equal t k k').run P w = .ok b w) → (Instr.findAsking t k ents j).run P w = .ok r' w)) := by
      intro es
      induction es with
      | nil =>
        intro r ents j e h1 h2
        simp only [findM, Option.some.injEq] at e; subst e
        cases ents with
        | nil => exact ⟨none, trivial, fun _ _ _ => rfl, fun _ => by simp [Instr.findAsking]⟩
        | cons _ _ => simp at h1
      | cons p es ih =>
        intro r ents j e h1 h2
        cases ents with
        | nil => simp at h1
        | cons en ents =>
          simp only [List.map_cons, List.cons.injEq] at h1
          simp only [List.map_cons, VRs] at h2
          obtain ⟨v, us, hv, q1, q2⟩ := h2
          cases hv
          simp only [findM] at e
          split at e
          · rename_i he
            simp only [Option.some.injEq] at e; subst e
            refine ⟨some (j, en.val), ⟨rfl, Nat.le_refl _, by simp, q1, by simp [h1.1, ← keyEq_eq he]⟩, ?_, ?_⟩
            · intro d hd _
              simp only [Instr.findNow, h1.1, hd _ he]
            · intro hd
              simp only [Instr.findAsking, Sem.run_bind, h1.1, hd _ _ he, Result.andThen_ok, if_true, Sem.run_pure]
          · rename_i he
            obtain ⟨r', g1, g2, g3⟩ := ih (j + 1) e h1.2 q2
            refine ⟨r', ?_, ?_, ?_⟩
            · cases r with
              | none => cases r' <;> first | exact g1 | exact g1.elim
              | some x =>
                obtain ⟨i1, x1⟩ := x
                cases r' with
                | none => exact g1.elim
                | some y =>
                  obtain ⟨i2, v2⟩ := y
                  obtain ⟨c1, c2, c3, c4, c5⟩ := g1
                  refine ⟨c1, by omega, by simp only [List.length_cons]; omega, c4, ?_⟩
                  rw [show i1 - j = (i1 - (j + 1)) + 1 from by omega, List.getElem?_cons_succ]
                  exact c5
            · intro d hd1 hd2
              simp only [Instr.findNow, h1.1, hd2 _ he]
              exact g2 d hd1 hd2
            · intro hd
              simp only [Instr.findAsking, Sem.run_bind, h1.1, hd _ _ he, Result.andThen_ok, Bool.false_eq_true, if_false]
              exact g3 hd
          · cases e
    obtain ⟨r', g1, g2, g3⟩ := rel 0 e h1 h2
    refine ⟨r', ?_, ?_⟩
    · have scalar : ∀ d, P.underlying t = some d → (∀ k', keyEq k k' = some true → Instr.sameNow d k k' = some true) → (∀ k', keyEq k k' = some false → Instr.sameNow d k k' = some false) → (Instr.findKey t k ents).run P w = .ok r' w := by
        intro d hd c1 c2
        simp only [Instr.findKey, Sem.run_bind, run_underlying hd, Result.andThen_ok, g2 d c1 c2, Sem.run_pure]
      have asking : ∀ d xs, P.underlying t = some d → k = .agg xs → (∀ k', Instr.sameNow d k k' = none) → (∀ k' b, keyEq k k' = some b → (Op.equal t k k').run P w = .ok b w) → (Instr.findKey t k ents).run P w = .ok r' w := by
        intro d xs hd hkk c1 c2
        cases ents with
        | nil =>
          have := g3 c2
          simp only [Instr.findKey, Sem.run_bind, run_underlying hd, Result.andThen_ok, Instr.findNow, Sem.run_pure]
          simpa [Instr.findAsking] using this
        | cons en l =>
          simp only [Instr.findKey, Sem.run_bind, run_underlying hd, Result.andThen_ok, Instr.findNow, c1]
          exact g3 c2
      have agg : ∀ xs, k = .agg xs → i.eqn = true → xs.size = i.size → fitE i xs.toList = true → ∀ k' b, keyEq k k' = some b → (Op.equal t k k').run P w = .ok b w := by
        intro xs hkk he hsz hfit k' b hb
        subst hkk
        cases k' <;> simp only [keyEq] at hb <;> first | (cases hb; done) | skip
        rename_i ys
        have hl := eqVals_len hb
        have := ((hT _ _ ht).eqn he).run xs.toList ys.toList b w (by simpa using hsz) (by simp at hl; simp; omega) hfit hb
        simpa using this
      split at hk <;> first | (cases hk; done) | skip
      · rename_i kk k1 m hkk
        rw [hkk] at hkind
        refine scalar _ hkind ?_ ?_ <;>
        · intro k' hb
          cases k' <;> simp only [keyEq] at hb <;> first | (cases hb; done) | skip
          split at hb
          · rename_i h3; simp only [Instr.sameNow, h3, if_true]; exact hb
          · cases hb
      · rename_i b hkk
        rw [hkk] at hkind
        refine scalar _ hkind ?_ ?_ <;>
        · intro k' hb
          cases k' <;> simp only [keyEq] at hb <;> first | (cases hb; done) | skip
          simp only [Instr.sameNow]; exact hb
      · rename_i s hkk
        rw [hkk] at hkind
        refine scalar _ hkind ?_ ?_ <;>
        · intro k' hb
          cases k' <;> simp only [keyEq] at hb <;> first | (cases hb; done) | skip
          simp only [Instr.sameNow]; exact hb
      · rename_i fs xs hkk
        rw [hkk] at hkind
        obtain ⟨fields, hd, _⟩ := hkind
        simp only [Bool.and_eq_true, beq_iff_eq] at hk
        exact asking _ xs hd rfl (fun k' => by cases k' <;> rfl) (agg xs rfl hk.1.1 hk.1.2 hk.2)
      · rename_i m el xs hkk
        rw [hkk] at hkind
        simp only [Bool.and_eq_true, beq_iff_eq] at hk
        exact asking _ xs hkind rfl (fun k' => by cases k' <;> rfl) (agg xs rfl hk.1.1 hk.1.2 hk.2)
    · cases r with
      | none => cases r' <;> first | exact g1 | exact g1.elim
      | some x =>
        cases r' with
        | none => exact g1.elim
        | some y => obtain ⟨c1, c2, c3, c4, c5⟩ := g1; exact ⟨c1, by omega, c4, by simpa using c5⟩
  · cases hk

theorem map_get (h : HSim C ρ st w) {b : Nat} {es : List (Value × V)} (hes : st (.b b) = .mp es) : ∃ p ents cl, ρ b = some p ∧ w.heap[p.B]? = some (.map ents cl) ∧ ents.toList.map (·.key) = es.map (·.1) ∧ VRs C.S ρ (es.map (·.2)) (ents.toList.map (·.val)) := by
  obtain ⟨p, h1, h2⟩ := h.ent b (by rw [hes]; rfl)
  rw [hes] at h2
  obtain ⟨ents, cl, q1, q2, q3⟩ := h2
  exact ⟨p, ents, cl, h1, q1, q2, q3⟩

theorem zeroV_ok (hT : ETok P tt) {S : Still} {t : Nat} {x : V} (e : zeroV tt t = some x) (w : World) : ∃ v, (zeroValue t).run P w = .ok v w ∧ VR S ρ x v := by
  unfold zeroV at e
  split at e
  · rename_i i ht
    obtain ⟨z, hz, e1⟩ := Option.bind_eq_some_iff.1 e
    obtain ⟨v, z1, z2, z3, z4, z5⟩ := zero_some (w := w) hT ht hz
    obtain ⟨q1, q2⟩ := ofCells_ok (ρ := ρ) (S := S) e1 (VRs.lits z)
    refine ⟨v, z1, ?_⟩
    cases hag : i.kind.isAgg with
    | true =>
      rw [hag] at q1 z5
      simp only [if_true] at q1 z5
      obtain ⟨cs, rfl⟩ := z5
      have : z.toArray = cs := by rw [← z2]; simp [Value.cells]
      rwa [this] at q1
    | false =>
      rw [hag] at q1 z5
      simp only [Bool.false_eq_true, if_false] at q1 z5
      have : z = [v] := by rw [← z2]; cases v <;> first | rfl | simp [Value.oneCell'] at z5
      rw [this] at q1
      exact q1
  · cases e

theorem lookup_ok (hT : ETok P tt) (h : Sim C N ρ st a w Ds) {t : Nat} {x i v : V} {ok : Bool} {R : List Key} {U : Ups} (e : lookupV tt t x i ok st = some (v, R, U)) {xu iu : Value} (hx : VR C.S ρ x xu) (hi : VR C.S ρ i iu) :
    U = [] ∧ ∃ vu, (Instr.lookup t xu iu ok).run P w = .ok vu w ∧ VR C.S ρ v vu := by
  unfold lookupV at e
  obtain ⟨⟨kt, et⟩, R1, U1, R2, U2, g1, g2, rfl, rfl⟩ := bind_some e
  obtain ⟨hm, rfl, rfl⟩ := ofO_some g1
  obtain ⟨k, R3, U3, R4, U4, g3, g4, rfl, rfl⟩ := bind_some g2
  obtain ⟨hk, rfl, rfl⟩ := ofO_some g3
  obtain ⟨es, R5, U5, R6, U6, g5, g6, rfl, rfl⟩ := bind_some g4
  simp only [applyU, List.nil_append] at g5 g6 ⊢
  have hkind := mapKE_some hT hm
  have := keyOf_ok hk hi
  subst this
  have hents : U5 = [] ∧ ∃ ents : Array MapEntry, ents.toList.map (·.key) = es.map (·.1) ∧ VRs C.S ρ (es.map (·.2)) (ents.toList.map (·.val)) ∧
      ∀ (f : Array MapEntry → Sem Value), (do
        let es ← match xu with
          | .map none => pure #[]
          | .map (some r) => do
            let .map es _ ← getObj r | stuck "Lookup: map expected"
            pure es
          | _ => stuck "Lookup: map expected"
        f es : Sem Value).run P w = (f ents).run P w := by
    unfold entsV at g5
    split at g5
    · obtain ⟨rfl, rfl, rfl⟩ := pure_some g5
      simp only [VR] at hx
      subst hx
      exact ⟨rfl, #[], rfl, by simp [VRs], fun f => by simp⟩
    · rename_i b
      obtain ⟨rfl, hes⟩ := rdM_some g5
      obtain ⟨p, ents, cl, h1, h2, h3, h4⟩ := map_get h.h hes
      simp only [VR] at hx
      obtain ⟨p', h5, rfl⟩ := hx
      rw [h1] at h5; cases h5
      refine ⟨rfl, ents, h3, h4, fun f => ?_⟩
      simp [getObj, Sem.run, h2]
    · exact (efail_some g5).elim
  obtain ⟨rfl, ents, n1, n2, n3⟩ := hents
  simp only [applyU, List.nil_append] at g6 ⊢
  split at g6
  · rename_i hko
    obtain ⟨r, R7, U7, R8, U8, g7, g8, rfl, rfl⟩ := bind_some g6
    obtain ⟨hr, rfl, rfl⟩ := ofO_some g7
    simp only [applyU, List.nil_append] at g8 ⊢
    obtain ⟨r', f1, f2⟩ := find_ok hT hko hr n1 n2 w
    have hck := run_checkKey hT hko ents.isEmpty w
    have run : (Instr.lookup t xu iu ok).run P w = (do
        let (v, b) ← match r' with
          | some (_, v) => pure (v, true)
          | none => pure (← zeroValue et, false)
        pure (if ok then .tuple #[v, .bool b] else v) : Sem Value).run P w := by
      unfold Instr.lookup
      rw [Sem.run_bind, run_underlying hkind, Result.andThen_ok]
      refine (n3 _).trans ?_
      rw [Sem.run_bind, hck, Result.andThen_ok, Sem.run_bind, f1, Result.andThen_ok]
      cases r' <;> rfl
    cases r with
    | some y =>
      obtain ⟨j, y⟩ := y
      cases r' with
      | none => exact f2.elim
      | some y' =>
        obtain ⟨j', v'⟩ := y'
        obtain ⟨rfl, _, q1, _⟩ := f2
        simp only at g8
        obtain ⟨rfl, rfl, rfl⟩ := pure_some g8
        refine ⟨rfl, if ok = true then .tuple #[v', .bool true] else v', ?_, ?_⟩
        · rw [run]; simp
        · cases ok
          · simpa using q1
          · simp only [if_true, VR, VRs]
            exact ⟨[v', .bool true], ⟨v', [.bool true], rfl, q1, .bool true, [], rfl, rfl, rfl⟩, rfl⟩
    | none =>
      cases r' with
      | some _ => exact f2.elim
      | none =>
        simp only at g8
        obtain ⟨z, R9, U9, R10, U10, g9, g10, rfl, rfl⟩ := bind_some g8
        obtain ⟨hz, rfl, rfl⟩ := ofO_some g9
        obtain ⟨rfl, rfl, rfl⟩ := pure_some g10
        obtain ⟨zv, z1, z2⟩ := zeroV_ok (ρ := ρ) (S := C.S) hT hz w
        refine ⟨rfl, if ok = true then .tuple #[zv, .bool false] else zv, ?_, ?_⟩
        · rw [run]; simp [z1]
        · cases ok
          · simpa using z2
          · simp only [if_true, VR, VRs]
            exact ⟨[zv, .bool false], ⟨zv, [.bool false], rfl, z2, .bool false, [], rfl, rfl, rfl⟩, rfl⟩
  · exact (efail_some g6).elim

theorem map_upd (h : Sim C N ρ st a w Ds) {b : Nat} {es es' : List (Value × V)} (hes : st (.b b) = .mp es) {p : Loc} (hp : ρ b = some p) {ents : Array MapEntry} {cl cl' : Nat} (hb : w.heap[p.B]? = some (.map ents cl)) {ents' : Array MapEntry}
    (h1 : ents'.toList.map (·.key) = es'.map (·.1)) (h2 : VRs C.S ρ (es'.map (·.2)) (ents'.toList.map (·.val))) : Sim C N ρ (upd st (.b b) (.mp es')) a (w.putObj p.B (.map ents' cl')) Ds := by
  have hmem : (st (.b b)).mem = true := by rw [hes]; rfl
  have hmem' : ∀ i, ((upd st (.b b) (.mp es')) (.b i)).mem = (st (.b i)).mem := by
    intro i
    by_cases e : i = b
    · subst e; rw [upd_same, hes]; rfl
    · rw [upd_ne _ _ (by simpa using e)]
  have hM := h.h.base b p hmem hp
  have hlt := h.h.lt b p hp
  have hoth : ∀ B, B ≠ p.B → (w.putObj p.B (.map ents' cl')).heap[B]? = w.heap[B]? := fun B hB => World.putObj_heap_other hB
  have alone : ∀ i q, i ≠ b → (st (.b i)).mem = true → ρ i = some q → q.B ≠ p.B := by
    intro i q hi hm hq hB
    obtain ⟨k, k', _, d2, _⟩ := h.h.dis i b q p hi hm hmem hq hp hB
    rw [hes] at d2; cases d2
  refine ⟨⟨?_, ?_, ?_, ?_, ?_, ?_, h.h.sfree, ?_, h.h.mine⟩, ?_⟩
  · intro i q
    rw [hmem'] at q
    by_cases e : i = b
    · subst e
      rw [upd_same]
      exact ⟨p, hp, ents', cl', World.putObj_heap_same hlt, h1, h2⟩
    · obtain ⟨p', q1, q2⟩ := h.h.ent i q
      refine ⟨p', q1, ?_⟩
      rw [upd_ne _ _ (by simpa using e)]
      exact q2.mem_world (hoth _ (alone i p' e q q1))
  · intro i i' q q' g1 g2 g3 g4 g5 g6
    rw [hmem'] at g2 g3
    by_cases e : i = b
    · subst e
      rw [hp] at g4; cases g4
      exact absurd g6.symm (alone i' q' (Ne.symm g1) g3 g5)
    · by_cases e' : i' = b
      · subst e'
        rw [hp] at g5; cases g5
        exact absurd g6 (alone i q g1 g2 g4)
      · rw [upd_ne _ _ (by simpa using e), upd_ne _ _ (by simpa using e')]
        exact h.h.dis i i' q q' g1 g2 g3 g4 g5 g6
  · intro i k q
    rw [upd_ne _ _ (by simp)]
    by_cases e : i = b
    · subst e; rw [upd_same] at q; cases q
    · rw [upd_ne _ _ (by simpa using e)] at q
      exact h.h.fam i k q
  · intro i q g1
    rw [hmem'] at g1
    exact h.h.base i q g1
  · intro i q g
    rw [World.putObj_size]
    exact h.h.lt i q g
  · intro B o' v hS
    have hne : B ≠ p.B := by rintro rfl; exact h.h.sfree _ _ _ hS hM
    have := h.h.still B o' v hS
    unfold cellAt at this ⊢
    rw [hoth B hne]; exact this
  · exact h.h.kept.trans ⟨rfl, rfl, rfl, by rw [World.putObj_size]; exact Nat.le_refl _, fun B hB => hoth B (by rintro rfl; exact hB hM)⟩
  · refine h.f.step (Pl.le_refl _) (fun t => upd_ne _ _ (by simp)) ?_ ?_
    · intro D hD
      exact hoth D (by have := h.f.dx D hD b p hmem hp; exact Ne.symm this)
    · intro D hD i q g
      rw [hmem'] at g
      exact h.f.dx D hD i q g

theorem sameBits_refl : ∀ {k k' : Value}, keyEq k k' = some true → Instr.sameBits 10000 k k = true := by
  have cell : ∀ {vs us : List Value}, eqVals vs us = some true → (vs.zip vs).all (fun (x, y) => Instr.sameBits 9999 x y) = true := by
    intro vs
    induction vs with
    | nil => intro _ _; rfl
    | cons v vs ih =>
      intro us e
      cases us with
      | nil => unfold eqVals at e; split at e <;> simp_all
      | cons u us =>
        unfold eqVals at e
        split at e <;> first | (cases e; done) | skip
        · rename_i e1 e2; cases e1
        · rename_i k x xs k' y ys e1 e2
          cases e1; cases e2
          split at e
          · obtain ⟨r, h1, h2⟩ := Option.map_eq_some_iff.1 e
            simp only [Bool.and_eq_true] at h2
            simp only [List.zip_cons_cons, List.all_cons, Bool.and_eq_true]
            exact ⟨by simp [Instr.sameBits], ih (h2.2 ▸ h1)⟩
          · cases e
        · rename_i x xs y ys e1 e2
          cases e1; cases e2
          obtain ⟨r, h1, h2⟩ := Option.map_eq_some_iff.1 e
          simp only [Bool.and_eq_true] at h2
          simp only [List.zip_cons_cons, List.all_cons, Bool.and_eq_true]
          exact ⟨by simp [Instr.sameBits], ih (h2.2 ▸ h1)⟩
        · rename_i x xs y ys e1 e2
          cases e1; cases e2
          obtain ⟨r, h1, h2⟩ := Option.map_eq_some_iff.1 e
          simp only [Bool.and_eq_true] at h2
          simp only [List.zip_cons_cons, List.all_cons, Bool.and_eq_true]
          have hxy := bytes_eq h2.1
          subst hxy
          exact ⟨by simp only [Instr.sameBits]; exact h2.1, ih (h2.2 ▸ h1)⟩
  intro k k' e
  unfold keyEq at e
  split at e <;> first | (cases e; done) | skip
  · simp [Instr.sameBits]
  · simp [Instr.sameBits]
  · simp only [Option.some.injEq] at e
    have hxy := bytes_eq e
    subst hxy
    simp only [Instr.sameBits]; exact e
  · simp only [Instr.sameBits, beq_self_eq_true, Bool.true_and]
    exact cell e

theorem findM_key {k : Value} : ∀ {es : List (Value × V)} {j i : Nat} {x : V}, findM k es j = some (some (i, x)) → ∃ k', keyEq k k' = some true
  | [], _, _, _, e => by simp [findM] at e
  | p :: es, j, i, x, e => by
    simp only [findM] at e
    split at e
    · rename_i he; exact ⟨_, he⟩
    · exact findM_key e
    · cases e

theorem mapUpdate_ok (hT : ETok P tt) (h : Sim C N ρ st a w Ds) {t : Nat} {x i v : V} {u : Unit} {R : List Key} {U : Ups} (e : mapUpdateV tt t x i v st = some (u, R, U)) {xu iu vu : Value} (hx : VR C.S ρ x xu) (hi : VR C.S ρ i iu) (hv : VR C.S ρ v vu) :
    ∃ w', (Instr.mapUpdate t xu iu vu).run P w = .ok () w' ∧ Sim C N ρ (applyU U st) a w' Ds := by
  unfold mapUpdateV at e
  obtain ⟨⟨kt, et⟩, R1, U1, R2, U2, g1, g2, rfl, rfl⟩ := bind_some e
  obtain ⟨hm, rfl, rfl⟩ := ofO_some g1
  obtain ⟨k, R3, U3, R4, U4, g3, g4, rfl, rfl⟩ := bind_some g2
  obtain ⟨hk, rfl, rfl⟩ := ofO_some g3
  simp only [applyU, List.nil_append] at g4 ⊢
  have hkind := mapKE_some hT hm
  have := keyOf_ok hk hi
  subst this
  split at g4
  · rename_i b
    obtain ⟨es, R5, U5, R6, U6, g5, g6, rfl, rfl⟩ := bind_some g4
    obtain ⟨rfl, hes⟩ := rdM_some g5
    simp only [applyU, List.nil_append] at g6 ⊢
    obtain ⟨p, ents, cl, h1, h2, h3, h4⟩ := map_get h.h hes
    simp only [VR] at hx
    obtain ⟨p', h5, rfl⟩ := hx
    rw [h1] at h5; cases h5
    split at g6
    · rename_i hko
      obtain ⟨r, R7, U7, R8, U8, g7, g8, rfl, rfl⟩ := bind_some g6
      obtain ⟨hr, rfl, rfl⟩ := ofO_some g7
      simp only [applyU, List.nil_append] at g8 ⊢
      obtain ⟨r', f1, f2⟩ := find_ok hT hko hr h3 h4 w
      have hck := run_checkKey hT hko false w
      have hget : (getObj p.B).run P w = .ok (.map ents cl) w := by simp [getObj, Sem.run, h2]
      have hset : ∀ o', (setObj p.B o').run P w = .ok () (w.putObj p.B o') := by intro o'; simp [setObj, Sem.run, h2, World.putObj]
      have run : (Instr.mapUpdate t (.map (some p.B)) iu vu).run P w = (do
          match r' with
          | some (i, _) => do
            let key ← Instr.keyThatStays (((ents[i]?).map (·.key)).getD iu) iu
            setObj p.B (.map (ents.modify i fun e => { e with key, val := vu }) cl)
          | none => setObj p.B (.map (ents.push { key := iu, val := vu, born := cl }) (cl + 1)) : Sem Unit).run P w := by
        unfold Instr.mapUpdate
        rw [Sem.run_bind, run_underlying hkind, Result.andThen_ok]
        show (do
          let .map es clock ← getObj p.B | stuck "MapUpdate: map expected"
          _ : Sem Unit).run P w = _
        rw [Sem.run_bind, hget, Result.andThen_ok]
        show (do
          Instr.checkKey false 10000 kt iu
          _ : Sem Unit).run P w = _
        rw [Sem.run_bind, hck, Result.andThen_ok, Sem.run_bind, f1, Result.andThen_ok]
        cases r' <;> rfl
      cases r with
      | some y =>
        obtain ⟨j, y⟩ := y
        cases r' with
        | none => exact f2.elim
        | some y' =>
          obtain ⟨j', v'⟩ := y'
          obtain ⟨rfl, hj, _, q1⟩ := f2
          simp only at g8
          obtain ⟨rfl, rfl⟩ := wrX_some g8
          obtain ⟨k', hk'⟩ := findM_key hr
          have hkey : (ents[j']?).map (·.key) = some iu := by rw [← Array.getElem?_toList]; exact q1
          have hstay : (Instr.keyThatStays (((ents[j']?).map (·.key)).getD iu) iu).run P w = .ok iu w := by
            rw [hkey]
            simp only [Option.getD_some, Instr.keyThatStays, sameBits_refl hk', if_true, Sem.run_pure]
          refine ⟨_, ?_, map_upd h hes h1 h2 (ents' := ents.modify j' fun e => { e with key := iu, val := vu }) (cl' := cl) ?_ ?_⟩
          · rw [run]
            simp only [Sem.run_bind, hstay, Result.andThen_ok, hset]
          · apply List.ext_getElem?
            intro q
            simp only [List.getElem?_map, Array.getElem?_toList, Array.getElem?_modify, List.getElem?_set]
            by_cases e : j' = q
            · subst e
              simp only [if_true, hj, Option.map_some]
              cases hq : ents[j']? with
              | none => rw [hq] at hkey; cases hkey
              | some en => rfl
            · simp only [e, if_false]
              rw [← Array.getElem?_toList, ← List.getElem?_map, h3, List.getElem?_map]
          · refine VRs.of_get ?_ ?_
            · have := h4.len; simp only [List.length_map, Array.length_toList] at this; simpa using this
            · intro q z hz
              simp only [List.getElem?_map, List.getElem?_set] at hz
              simp only [List.getElem?_map, Array.getElem?_toList, Array.getElem?_modify]
              by_cases e : j' = q
              · subst e
                simp only [if_true, hj, Option.map_some, Option.some.injEq] at hz
                subst hz
                cases hq : ents[j']? with
                | none => rw [hq] at hkey; cases hkey
                | some en => exact ⟨vu, by simp, hv⟩
              · simp only [e, if_false] at hz ⊢
                have : (es.map (·.2))[q]? = some z := by rw [List.getElem?_map]; exact hz
                obtain ⟨v2, d1, d2⟩ := h4.get this
                rw [List.getElem?_map, Array.getElem?_toList] at d1
                exact ⟨v2, d1, d2⟩
      | none =>
        cases r' with
        | some _ => exact f2.elim
        | none =>
          simp only at g8
          obtain ⟨rfl, rfl⟩ := wrX_some g8
          refine ⟨_, ?_, map_upd h hes h1 h2 (ents' := ents.push { key := iu, val := vu, born := cl }) (cl' := cl + 1) ?_ ?_⟩
          · rw [run, hset]
          · simp [h3]
          · simp only [List.map_append, List.map_cons, List.map_nil, Array.toList_push]
            refine h4.append ?_
            simp only [VRs]
            exact ⟨vu, [], rfl, hv, rfl⟩
    · exact (efail_some g6).elim
  · exact (efail_some g4).elim

theorem makeMap_ok (h : Sim C N ρ st a w Ds) (hn : ρ n = none) {t : Nat} {r : Option Operand} {v : V} {R : List Key} {U : Ups} (e : makeMapV n st = some (v, R, U)) (hr : r = none ∨ ((∃ kt et, P.underlying t = some (.map kt et)) ∧ ∃ x k j, r = some x ∧ a.eval x = .int k j)) (ho : o.op = .makeMap t r) : Res P C N n (n + 1) o ρ a w Ds v (applyU U st) := by
  unfold makeMapV at e
  obtain ⟨u1, R1, U1, R2, U2, g1, g2, rfl, rfl⟩ := bind_some e
  obtain ⟨rfl, rfl⟩ := wrX_some g1
  obtain ⟨rfl, rfl, rfl⟩ := pure_some g2
  simp only [List.append_nil, applyU]
  have hnew := h.new hn (.map #[] 0) (.mp []) 0 ⟨#[], 0, World.alloc_heap_new w _, rfl, by simp [VRs]⟩ (st' := upd st (.b n) (.mp [])) (by
    intro i
    by_cases e : i = n
    · subst e; simp [upd_same]
    · rw [upd_ne _ _ (by simpa using e)]; simp [e]) (fun t => upd_ne _ _ (by simp)) (by
    intro b k hk
    obtain ⟨_, l, h1, h2⟩ := h.h.fam b k hk
    exact ⟨l, by rw [upd_ne _ _ (by simp)]; exact h1, h2⟩) (by intro k hk; cases hk)
  refine ⟨_, _, .map (some w.heap.size), ?_, Ext.set _ hn (Nat.lt_succ_self _), hnew, ?_⟩
  · rcases hr with rfl | ⟨⟨kt, et, hk⟩, x, k, j, rfl, hx⟩
    · simp [execOp, ho, Instr.makeMap]
    · simp [execOp, ho, Instr.makeMap, run_underlying hk, hx, asInt, asIntOf]
  · simp only [VR]; exact ⟨_, setP_same _ _ _, rfl⟩

end
end Go.Ex

namespace Go.Ex
open Go.Own (A Still cellAt Rep Reps Lies)

def mkV (ag : Bool) (cs : List Value) : Value := if ag = true then .agg cs.toArray else cs.headD undef

theorem fitZ_append : ∀ {z1 z2 vs : List Value}, fitZ (z1 ++ z2) vs = true → fitZ z1 (vs.take z1.length) = true ∧ fitZ z2 (vs.drop z1.length) = true
  | [], z2, vs, h => ⟨rfl, h⟩
  | a :: z1, z2, [], h => by cases a <;> simp [fitZ] at h
  | a :: z1, z2, v :: vs, h => by
    have : fitZ (z1 ++ z2) vs = true ∧ (∀ l l', fitZ l l' = true → fitZ (a :: l) (v :: l') = true) := by
      cases a <;> cases v <;> simp only [List.cons_append, fitZ, Bool.false_eq_true] at h ⊢ <;> exact ⟨h, fun l l' q => q⟩
    obtain ⟨h1, h2⟩ := this
    obtain ⟨q1, q2⟩ := fitZ_append h1
    exact ⟨h2 _ _ q1, q2⟩

theorem eqVals_split : ∀ {n : Nat} {vs us : List Value} {r : Bool}, eqVals vs us = some r → ∃ r1 r2, eqVals (vs.take n) (us.take n) = some r1 ∧ eqVals (vs.drop n) (us.drop n) = some r2 ∧ r = (r1 && r2)
  | 0, vs, us, r, h => ⟨true, r, by simp [eqVals], by simpa using h, by simp⟩
  | n + 1, [], us, r, h => by
    cases us with
    | nil => simp only [eqVals, Option.some.injEq] at h; subst h; exact ⟨true, true, by simp [eqVals], by simp [eqVals], rfl⟩
    | cons u us => simp [eqVals] at h
  | n + 1, v :: vs, [], r, h => by unfold eqVals at h; split at h <;> simp_all
  | n + 1, v :: vs, u :: us, r, h => by
    have : ∃ b r', eqVals vs us = some r' ∧ r = (b && r') ∧ ∀ l l' q, eqVals l l' = some q → eqVals (v :: l) (u :: l') = some (b && q) := by
      unfold eqVals at h
      split at h
      · rename_i h1 _; cases h1
      · rename_i k a xs k' b ys h1 h2
        cases h1; cases h2
        split at h
        · rename_i hk
          rw [Option.map_eq_some_iff] at h
          obtain ⟨r', e1, rfl⟩ := h
          exact ⟨_, r', e1, rfl, fun l l' q hq => by simp [eqVals, hk, hq]⟩
        · cases h
      · rename_i a xs b ys h1 h2
        cases h1; cases h2
        rw [Option.map_eq_some_iff] at h
        obtain ⟨r', e1, rfl⟩ := h
        exact ⟨_, r', e1, rfl, fun l l' q hq => by simp [eqVals, hq]⟩
      · rename_i a xs b ys h1 h2
        cases h1; cases h2
        rw [Option.map_eq_some_iff] at h
        obtain ⟨r', e1, rfl⟩ := h
        exact ⟨_, r', e1, rfl, fun l l' q hq => by simp [eqVals, hq]⟩
      · cases h
    obtain ⟨b, r', h1, rfl, h2⟩ := this
    obtain ⟨r1, r2, q1, q2, rfl⟩ := eqVals_split (n := n) h1
    exact ⟨b && r1, r2, h2 _ _ _ q1, q2, by rw [Bool.and_assoc]⟩

structure EqP (P : Program) (t : Nat) (z : List Value) (ag : Bool) (dep : Nat) : Prop where
  pos : 1 ≤ dep
  part : ∀ (cs : List Value) (off : Nat) (w : World), off + z.length ≤ cs.length → (Go.part t cs.toArray off).run P w = .ok (mkV ag ((cs.drop off).take z.length)) w
  size : ∀ w, (Go.sizeOf t).run P w = .ok z.length w
  eq : ∀ d, dep ≤ d → ∀ (vs us : List Value) (r : Bool) (w : World), vs.length = z.length → us.length = z.length → fitZ z vs = true → eqVals vs us = some r → (Op.equalIn d t (mkV ag vs) (mkV ag us)).run P w = .ok r w
  guard : ∀ d, dep ≤ d → P.eqGuardType d t = false
  key : ∀ d e, dep ≤ d → ∀ (vs : List Value) (w : World), vs.length = z.length → (Instr.checkKey e d t (mkV ag vs)).run P w = .ok () w

section
variable {P : Program} {t : Nat}

theorem info_size {n : Nat} (h : ∃ f, P.info? t = some f ∧ f.size = n) (w : World) : (Go.sizeOf t).run P w = .ok n w := by
  obtain ⟨f, f1, f2⟩ := h
  simp [Go.sizeOf, typeInfo, f1, f2]

theorem part_run {k : EK} (hk : EKindOk P t k) {n : Nat} (hs : ∃ f, P.info? t = some f ∧ f.size = n) (h1 : k.isAgg = true ∨ n = 1) (cs : List Value) (off : Nat) (w : World) (hle : off + n ≤ cs.length) : (Go.part t cs.toArray off).run P w = .ok (mkV k.isAgg ((cs.drop off).take n)) w := by
  have hk' := run_isAgg hk w
  unfold Go.part
  simp only [Sem.run_bind, hk', Result.andThen_ok, Sem.run_ite]
  by_cases hag : k.isAgg = true
  · simp only [hag, if_true, info_size hs, Result.andThen_ok, Sem.run_pure, mkV]
    congr 2
    apply Array.ext_getElem?
    intro j
    simp [List.getElem?_take, List.getElem?_drop]
  · have hn : n = 1 := h1.resolve_left hag
    subst hn
    have hlt : off < cs.length := by omega
    have : cs.toArray[off]? = some cs[off] := by simp [hlt]
    simp only [hag, if_false, Bool.false_eq_true, mkV, this, Sem.run_pure]
    congr 1
    rw [List.take_one, List.head?_drop, List.getElem?_eq_getElem hlt]
    rfl

def leafZ : EK → Value → Bool
  | .int _, .int _ _ => true
  | .bool, .bool _ => true
  | .str, .string _ => true
  | _, _ => false

theorem eqP_leaf {k : EK} (hk : EKindOk P t k) (hs : ∃ f, P.info? t = some f ∧ f.size = 1) {z : Value} (hz : leafZ k z = true) : EqP P t [z] false 1 := by
  have hag : k.isAgg = false := by cases k <;> first | rfl | (cases z <;> cases hz)
  refine ⟨Nat.le_refl _, fun cs off w h => ?_, fun w => info_size hs w, ?_, ?_, ?_⟩
  · have := part_run hk hs (.inr rfl) cs off w h
    rw [hag] at this
    exact this
  · intro d hd vs us r w hv hu hf he
    obtain ⟨d, rfl⟩ : ∃ d', d = d' + 1 := ⟨d - 1, by omega⟩
    rcases vs with _ | ⟨v, _ | ⟨_, _⟩⟩ <;> simp at hv
    rcases us with _ | ⟨u, _ | ⟨_, _⟩⟩ <;> simp at hu
    simp only [mkV, Bool.false_eq_true, if_false, List.headD_cons]
    unfold Op.equalIn
    cases k <;> cases z <;> simp only [leafZ, Bool.false_eq_true] at hz <;> cases v <;> simp only [fitZ, Bool.false_eq_true] at hf <;> cases u <;> simp only [eqVals, reduceCtorEq] at he
    · split at he
      · rename_i hkk
        simp only [Option.map_some, Bool.and_true, Option.some.injEq] at he
        subst he
        simp only [EKindOk] at hk
        simp [Sem.run_bind, run_underlying hk, hkk]
      · cases he
    · simp only [Option.map_some, Bool.and_true, Option.some.injEq] at he
      subst he
      simp only [EKindOk] at hk
      simp [Sem.run_bind, run_underlying hk]
    · simp only [Option.map_some, Bool.and_true, Option.some.injEq] at he
      subst he
      simp only [EKindOk] at hk
      simp [Sem.run_bind, run_underlying hk]
  · intro d hd
    obtain ⟨d, rfl⟩ : ∃ d', d = d' + 1 := ⟨d - 1, by omega⟩
    unfold Program.eqGuardType
    cases k <;> cases z <;> simp only [leafZ, Bool.false_eq_true] at hz <;> simp only [EKindOk] at hk <;> simp [hk]
  · intro d e hd vs w hv
    obtain ⟨d, rfl⟩ : ∃ d', d = d' + 1 := ⟨d - 1, by omega⟩
    unfold Instr.checkKey
    cases k <;> cases z <;> simp only [leafZ, Bool.false_eq_true] at hz <;> simp only [EKindOk] at hk <;> simp [Sem.run_bind, run_underlying hk]

def FieldsOk (P : Program) (dep : Nat) : List Field → Nat → List (List Value × Bool) → Prop
  | [], _, [] => True
  | f :: fs, off, (z, ag) :: zs => f.name ≠ "_" ∧ f.offset = off ∧ EqP P f.type z ag dep ∧ FieldsOk P dep fs (off + z.length) zs
  | _, _, _ => False

def flatZ (zs : List (List Value × Bool)) : List Value := (zs.map (·.1)).flatten

theorem fields_eq {dep d : Nat} (hd : dep ≤ d) {vs us : List Value} (w : World) : ∀ {fs : List Field} {off : Nat} {zs : List (List Value × Bool)} {r : Bool}, FieldsOk P dep fs off zs → off + (flatZ zs).length = vs.length → off + (flatZ zs).length = us.length → fitZ (flatZ zs) (vs.drop off) = true → eqVals (vs.drop off) (us.drop off) = some r →
    Sem.run P (forIn fs ((none, ()) : Option Bool × Unit) fun f _ =>
      if f.name ≠ "_" then do
        let a ← Go.part f.type vs.toArray f.offset
        let b ← Go.part f.type us.toArray f.offset
        let q ← Op.equalIn d f.type a b
        if (!q) = true then pure (ForInStep.done (some false, ())) else pure (ForInStep.yield (none, ()))
      else pure (ForInStep.yield (none, ()))) w = .ok (if r = true then (none, ()) else (some false, ())) w
  | [], off, [], r, _, h1, h2, hf, he => by
    have hv : vs.drop off = [] := List.drop_eq_nil_of_le (by simp [flatZ] at h1; omega)
    have hu : us.drop off = [] := List.drop_eq_nil_of_le (by simp [flatZ] at h2; omega)
    rw [hv, hu] at he
    simp only [eqVals, Option.some.injEq] at he
    subst he
    simp
  | f :: fs, off, (z, ag) :: zs, r, hok, h1, h2, hf, he => by
    obtain ⟨g1, g2, g3, g4⟩ := hok
    have hz : flatZ ((z, ag) :: zs) = z ++ flatZ zs := by simp [flatZ]
    rw [hz] at h1 h2 hf
    simp only [List.length_append] at h1 h2
    obtain ⟨f1, f2⟩ := fitZ_append hf
    rw [List.drop_drop] at f2
    obtain ⟨r1, r2, e1, e2, rfl⟩ := eqVals_split (n := z.length) he
    rw [List.drop_drop, List.drop_drop] at e2
    have p1 := g3.part vs off w (by omega)
    have p2 := g3.part us off w (by omega)
    have p3 := g3.eq d hd _ _ r1 w (by simp; omega) (by simp; omega) f1 e1
    simp only [List.forIn_cons, Sem.run_bind, ne_eq, g1, not_false_eq_true, if_true, g2, p1, p2, p3, Result.andThen_ok]
    cases r1
    · simp
    · simp only [Bool.not_true, Bool.false_eq_true, if_false, Sem.run_pure, Result.andThen_ok, Bool.true_and]
      exact fields_eq hd w g4 (by omega) (by omega) f2 e2
  | [], _, _ :: _, _, h, _, _, _, _ => by simp [FieldsOk] at h
  | _ :: _, _, [], _, h, _, _, _, _ => by simp [FieldsOk] at h

theorem fields_key {dep d : Nat} (hd : dep ≤ d) {e : Bool} {vs : List Value} (w : World) : ∀ {fs : List Field} {off : Nat} {zs : List (List Value × Bool)}, FieldsOk P dep fs off zs → off + (flatZ zs).length = vs.length →
    Sem.run P (forIn fs PUnit.unit fun f _ =>
      if f.name ≠ "_" then do
        let a ← Go.part f.type vs.toArray f.offset
        Instr.checkKey e d f.type a
        pure (ForInStep.yield PUnit.unit)
      else pure (ForInStep.yield PUnit.unit)) w = .ok PUnit.unit w
  | [], off, [], _, h1 => by simp
  | f :: fs, off, (z, ag) :: zs, hok, h1 => by
    obtain ⟨g1, g2, g3, g4⟩ := hok
    have hz : flatZ ((z, ag) :: zs) = z ++ flatZ zs := by simp [flatZ]
    rw [hz] at h1
    simp only [List.length_append] at h1
    have p1 := g3.part vs off w (by omega)
    have p3 := g3.key d e hd ((vs.drop off).take z.length) w (by simp; omega)
    simp only [List.forIn_cons, Sem.run_bind, ne_eq, g1, not_false_eq_true, if_true, g2, p1, p3, Result.andThen_ok, Sem.run_pure]
    exact fields_key hd w g4 (by omega)
  | [], _, _ :: _, h, _ => by simp [FieldsOk] at h
  | _ :: _, _, [], h, _ => by simp [FieldsOk] at h

theorem fields_guard {dep d : Nat} (hd : dep ≤ d) : ∀ {fs : List Field} {off : Nat} {zs : List (List Value × Bool)}, FieldsOk P dep fs off zs → fs.any (fun f => f.name != "_" && P.eqGuardType d f.type) = false
  | [], _, _, _ => rfl
  | f :: fs, off, (z, ag) :: zs, hok => by
    obtain ⟨g1, g2, g3, g4⟩ := hok
    simp only [List.any_cons, g3.guard d hd, Bool.and_false, Bool.false_or]
    exact fields_guard hd g4
  | _ :: _, _, [], h => by simp [FieldsOk] at h

theorem eqP_struct {fields : Array Field} (hu : P.underlying t = some (.struct fields)) (hst : P.stoodInHeld t = false) {zs : List (List Value × Bool)} (hs : ∃ f, P.info? t = some f ∧ f.size = (flatZ zs).length) {dep : Nat} (h1 : 1 ≤ dep) (hf : FieldsOk P dep fields.toList 0 zs) : EqP P t (flatZ zs) true (dep + 1) := by
  have hk : EKindOk P t (.struct (fields.toList.map fun f => (f.offset, f.type))) ∨ True := .inr trivial
  refine ⟨by omega, fun cs off w h => ?_, fun w => info_size hs w, ?_, ?_, ?_⟩
  · unfold Go.part Go.isAgg
    simp only [Sem.run_bind, run_underlying hu, Result.andThen_ok, Sem.run_pure, if_true, info_size hs, mkV]
    congr 2
    apply Array.ext_getElem?
    intro j
    simp [List.getElem?_take, List.getElem?_drop]
  · intro d hd vs us r w hv hu' hfit he
    obtain ⟨d, rfl⟩ : ∃ d', d = d' + 1 := ⟨d - 1, by omega⟩
    simp only [mkV, if_true]
    unfold Op.equalIn
    simp only [Sem.run_bind, run_underlying hu, Result.andThen_ok, program, Sem.run, hst, Bool.false_eq_true, if_false]
    rw [← Array.forIn_toList]
    have := fields_eq (P := P) (d := d) (dep := dep) (by omega) (vs := vs) (us := us) w (off := 0) (r := r) hf (by simpa using hv.symm) (by simpa using hu'.symm) (by simpa using hfit) (by simpa using he)
    rw [this]
    cases r <;> simp
  · intro d hd
    obtain ⟨d, rfl⟩ : ∃ d', d = d' + 1 := ⟨d - 1, by omega⟩
    unfold Program.eqGuardType
    simp only [hu]
    rw [← Array.any_toList]
    exact fields_guard (by omega) hf
  · intro d e hd vs w hv
    obtain ⟨d, rfl⟩ : ∃ d', d = d' + 1 := ⟨d - 1, by omega⟩
    simp only [mkV, if_true]
    unfold Instr.checkKey
    simp only [Sem.run_bind, run_underlying hu, Result.andThen_ok]
    rw [← Array.forIn_toList]
    have := fields_key (P := P) (dep := dep) (d := d) (e := e) (vs := vs) (by omega) w (off := 0) hf (by simpa using hv.symm)
    rw [this]
    simp

def repZ (n : Nat) (z : List Value) : List Value := (List.replicate n z).flatten

theorem repZ_len (n : Nat) (z : List Value) : (repZ n z).length = n * z.length := by simp [repZ]

theorem items_eq {dep d : Nat} (hd : dep ≤ d) {el : Nat} {z : List Value} {ag : Bool} (hE : EqP P el z ag dep) {vs us : List Value} (w : World) : ∀ {n i : Nat} {r : Bool}, i * z.length + n * z.length = vs.length → i * z.length + n * z.length = us.length → fitZ (repZ n z) (vs.drop (i * z.length)) = true → eqVals (vs.drop (i * z.length)) (us.drop (i * z.length)) = some r →
    Sem.run P (forIn (List.range' i n) ((none, ()) : Option Bool × Unit) fun j _ => do
        let a ← Go.part el vs.toArray (j * z.length)
        let b ← Go.part el us.toArray (j * z.length)
        let q ← Op.equalIn d el a b
        if (!q) = true then pure (ForInStep.done (some false, ())) else pure (ForInStep.yield (none, ()))) w = .ok (if r = true then (none, ()) else (some false, ())) w
  | 0, i, r, h1, h2, hf, he => by
    have hv : vs.drop (i * z.length) = [] := List.drop_eq_nil_of_le (by omega)
    have hu : us.drop (i * z.length) = [] := List.drop_eq_nil_of_le (by omega)
    rw [hv, hu] at he
    simp only [eqVals, Option.some.injEq] at he
    subst he
    simp
  | n + 1, i, r, h1, h2, hf, he => by
    have hz : repZ (n + 1) z = z ++ repZ n z := by simp [repZ, List.replicate_succ]
    rw [hz] at hf
    rw [Nat.add_mul, Nat.one_mul] at h1 h2
    obtain ⟨f1, f2⟩ := fitZ_append hf
    have hi : i * z.length + z.length = (i + 1) * z.length := by rw [Nat.add_mul, Nat.one_mul]
    rw [List.drop_drop, hi] at f2
    obtain ⟨r1, r2, e1, e2, rfl⟩ := eqVals_split (n := z.length) he
    rw [List.drop_drop, List.drop_drop, hi] at e2
    have p1 := hE.part vs (i * z.length) w (by omega)
    have p2 := hE.part us (i * z.length) w (by omega)
    have p3 := hE.eq d hd _ _ r1 w (by simp; omega) (by simp; omega) f1 e1
    simp only [List.range'_succ, List.forIn_cons, Sem.run_bind, p1, p2, p3, Result.andThen_ok]
    cases r1
    · simp
    · simp only [Bool.not_true, Bool.false_eq_true, if_false, Sem.run_pure, Result.andThen_ok, Bool.true_and]
      exact items_eq hd hE w (by omega) (by omega) f2 e2

theorem items_key {dep d : Nat} (hd : dep ≤ d) {e : Bool} {el : Nat} {z : List Value} {ag : Bool} (hE : EqP P el z ag dep) {vs : List Value} (w : World) : ∀ {n i : Nat}, i * z.length + n * z.length = vs.length →
    Sem.run P (forIn (List.range' i n) PUnit.unit fun j _ => do
        let s ← Go.sizeOf el
        let a ← Go.part el vs.toArray (j * s)
        Instr.checkKey e d el a
        pure (ForInStep.yield PUnit.unit)) w = .ok PUnit.unit w
  | 0, i, h1 => by simp
  | n + 1, i, h1 => by
    rw [Nat.add_mul, Nat.one_mul] at h1
    have hi : i * z.length + z.length = (i + 1) * z.length := by rw [Nat.add_mul, Nat.one_mul]
    have p1 := hE.part vs (i * z.length) w (by omega)
    have p3 := hE.key d e hd ((vs.drop (i * z.length)).take z.length) w (by simp; omega)
    simp only [List.range'_succ, List.forIn_cons, Sem.run_bind, hE.size, p1, p3, Result.andThen_ok, Sem.run_pure]
    exact items_key hd hE w (by omega)

theorem eqP_array {n el : Nat} (hu : P.underlying t = some (.array n el)) {z : List Value} {ag : Bool} {dep : Nat} (hE : EqP P el z ag dep) (hs : ∃ f, P.info? t = some f ∧ f.size = (repZ n z).length) : EqP P t (repZ n z) true (dep + 1) := by
  refine ⟨by omega, fun cs off w h => ?_, fun w => info_size hs w, ?_, ?_, ?_⟩
  · unfold Go.part Go.isAgg
    simp only [Sem.run_bind, run_underlying hu, Result.andThen_ok, Sem.run_pure, if_true, info_size hs, mkV]
    congr 2
    apply Array.ext_getElem?
    intro j
    simp [List.getElem?_take, List.getElem?_drop]
  · intro d hd vs us r w hv hu' hfit he
    obtain ⟨d, rfl⟩ : ∃ d', d = d' + 1 := ⟨d - 1, by omega⟩
    rw [repZ_len] at hv hu'
    simp only [mkV, if_true]
    unfold Op.equalIn
    simp only [Sem.run_bind, run_underlying hu, Result.andThen_ok, hE.size]
    simp only [Std.Legacy.Range.forIn_eq_forIn_range', Std.Legacy.Range.size, Nat.sub_zero, Nat.add_one_sub_one, Nat.div_one]
    have := items_eq (P := P) (d := d) (dep := dep) (by omega) hE (vs := vs) (us := us) w (n := n) (i := 0) (r := r) (by simpa using hv.symm) (by simpa using hu'.symm) (by simpa using hfit) (by simpa using he)
    rw [this]
    cases r <;> simp
  · intro d hd
    obtain ⟨d, rfl⟩ : ∃ d', d = d' + 1 := ⟨d - 1, by omega⟩
    unfold Program.eqGuardType
    simp only [hu]
    exact hE.guard d (by omega)
  · intro d e hd vs w hv
    obtain ⟨d, rfl⟩ : ∃ d', d = d' + 1 := ⟨d - 1, by omega⟩
    rw [repZ_len] at hv
    simp only [mkV, if_true]
    unfold Instr.checkKey
    simp only [Sem.run_bind, run_underlying hu, Result.andThen_ok]
    simp only [Std.Legacy.Range.forIn_eq_forIn_range', Std.Legacy.Range.size, Nat.sub_zero, Nat.add_one_sub_one, Nat.div_one]
    have := items_key (P := P) (dep := dep) (d := d) (e := e) (vs := vs) (by omega) hE w (n := n) (i := 0) (by simpa using hv.symm)
    rw [this]
    simp

theorem EqP.mono {z : List Value} {ag : Bool} {dep dep' : Nat} (h : EqP P t z ag dep) (hd : dep ≤ dep') : EqP P t z ag dep' :=
  ⟨Nat.le_trans h.pos hd, h.part, h.size, fun d q => h.eq d (Nat.le_trans hd q), fun d q => h.guard d (Nat.le_trans hd q), fun d e q => h.key d e (Nat.le_trans hd q)⟩

theorem FieldsOk.nil {dep off : Nat} : FieldsOk P dep [] off [] := trivial
theorem FieldsOk.cons {dep off : Nat} {f : Field} {fs : List Field} {z : List Value} {ag : Bool} {zs : List (List Value × Bool)} (h1 : f.name ≠ "_") (h2 : f.offset = off) (h3 : EqP P f.type z ag dep) (h4 : FieldsOk P dep fs (off + z.length) zs) : FieldsOk P dep (f :: fs) off ((z, ag) :: zs) := ⟨h1, h2, h3, h4⟩

theorem eqOk_of {i : EI} {z : List Value} {dep : Nat} (h : EqP P t z true dep) (hz : i.zero = some z) (hsz : i.size = z.length) (h1 : dep ≤ P.depth) (h2 : dep ≤ 10000) : EqOk P t i where
  guard := h.guard _ h1
  run := fun vs us r w hv hu hf he => h.eq _ h2 vs us r w (hv.trans hsz) (hu.trans hsz) (by simpa only [fitE, hz] using hf) he
  key := fun vs e w hv => h.key _ e h2 vs w (hv.trans hsz)

end
end Go.Ex

namespace Go.Ex

def wrapF (k : IntKind) (n : Int) : Int :=
  match n with
  | .ofNat m => match Nat.blt m (match k with | .i64 => 9223372036854775808 | .u64 => 18446744073709551616 | _ => 128) with
    | true => .ofNat m
    | false => k.wrap (.ofNat m)
  | .negSucc m => k.wrap (.negSucc m)

theorem wrapF_eq (k : IntKind) (n : Int) : wrapF k n = k.wrap n := by
  unfold wrapF
  cases n with
  | negSucc m => rfl
  | ofNat m =>
    simp only
    split
    · rename_i h
      rw [Nat.blt_eq] at h
      have h0 : (Int.ofNat m) = (m : Int) := rfl
      rw [h0]
      cases k <;> simp only at h <;> simp [IntKind.wrap, IntKind.bits, IntKind.signed] <;> omega
    · rfl

def ltI (a b : Int) : Bool :=
  match a, b with
  | .ofNat m, .ofNat n => Nat.blt m n
  | a, b => decide (a < b)
theorem ltI_eq (a b : Int) : ltI a b = decide (a < b) := by
  unfold ltI
  split
  · rename_i m n
    rw [Bool.eq_iff_iff, Nat.blt_eq, decide_eq_true_iff]
    exact Int.ofNat_lt.symm
  · rfl
def eqI (a b : Int) : Bool :=
  match a, b with
  | .ofNat m, .ofNat n => Nat.beq m n
  | a, b => a == b
theorem eqI_eq (a b : Int) : eqI a b = (a == b) := by
  unfold eqI
  split
  · rename_i m n
    rw [Bool.eq_iff_iff, Nat.beq_eq, beq_iff_eq]
    exact Int.ofNat_inj.symm
  · rfl

def ikN : IntKind → Nat
  | .i8 => 0 | .i16 => 1 | .i32 => 2 | .i64 => 3 | .u8 => 4 | .u16 => 5 | .u32 => 6 | .u64 => 7
def ikb (a b : IntKind) : Bool := Nat.beq (ikN a) (ikN b)
theorem ikb_eq (a b : IntKind) : ikb a b = decide (a = b) := by cases a <;> cases b <;> rfl

structure Ci where
  run : IntKind → Int → IntKind → Int → Option V

def ci (f : IntKind → Int → Int → Option V) : Ci := ⟨fun k a k' b => match ikb k k' with | true => f k a b | false => none⟩

def cbi (op : BinOp) : Ci :=
  match op with
  | .add => ci fun k a b => some (.lit (.int k (wrapF k (a + b))))
  | .sub => ci fun k a b => some (.lit (.int k (wrapF k (a - b))))
  | .eql => ci fun _ a b => some (.lit (.bool (eqI a b)))
  | .neq => ci fun _ a b => some (.lit (.bool (!eqI a b)))
  | .lss => ci fun _ a b => some (.lit (.bool (ltI a b)))
  | .gtr => ci fun _ a b => some (.lit (.bool (ltI b a)))
  | .leq => ci fun _ a b => some (.lit (.bool (!ltI b a)))
  | .geq => ci fun _ a b => some (.lit (.bool (!ltI a b)))
  | .shl => ⟨fun k a _ b => (shiftV .shl k a b).map .lit⟩
  | .shr => ⟨fun k a _ b => (shiftV .shr k a b).map .lit⟩
  | op => ci fun k a b => (intV op k a b).map .lit

structure Cb where
  run : V → V → Option V

def cb (tt : ET) (op : BinOp) (xt : Nat) : Cb :=
  ⟨fun x y => match isV x with
    | some (k, a) => match isV y with
      | some (k', b) => (cbi op).run k a k' b
      | none => binV tt op xt x y
    | none => binV tt op xt x y⟩

theorem ci_run {f : IntKind → Int → Int → Option V} {k k' : IntKind} {a b : Int} : (ci f).run k a k' b = if k = k' then f k a b else none := by
  unfold ci
  simp only [ikb_eq]
  by_cases h : k = k' <;> simp [h]

theorem cb_run (tt : ET) (op : BinOp) (xt : Nat) (x y : V) : (cb tt op xt).run x y = binV tt op xt x y := by
  unfold cb
  simp only
  split
  · rename_i k a hx
    split
    · rename_i k' b hy
      have e1 : x = .lit (.int k a) := by unfold isV at hx; split at hx <;> simp_all
      have e2 : y = .lit (.int k' b) := by unfold isV at hy; split at hy <;> simp_all
      subst e1; subst e2
      have hb : ∀ a b : Int, (!decide (b < a)) = decide (a ≤ b) := by
        intro a b
        by_cases h : b < a
        · simp [h]
        · simp [h]; omega
      cases op <;> simp only [cbi, ci_run, binV, intV, wrapF_eq, ltI_eq, eqI_eq, Option.map_some, bne, hb, GT.gt, GE.ge] <;> rfl
    · rfl
  · rfl

end Go.Ex
