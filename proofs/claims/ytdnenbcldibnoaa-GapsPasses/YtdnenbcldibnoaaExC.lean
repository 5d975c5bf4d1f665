/- The operations are right, second part: loads and stores, addresses, lengths, new blocks. -/
import Derived.Test.YtdnenbcldibnoaaExB
namespace Go.Ex
open Go.Own (A Still cellAt Rep Reps Lies)

section
variable {P : Program} {tt : ET} {C : Ctx} {N n : Nat} {ρ : Pl} {st : St} {a : Act} {w : World} {Ds : List Nat} {o : Oper}

theorem smudge_wk (k : Blk) (lo hi : Nat) : Wk k (smudge k lo hi) := by
  refine ⟨rfl, rfl, rfl, by simp [smudge], ?_⟩
  intro i x hx
  simp only [smudge, List.getElem?_mapIdx, Option.map_eq_some_iff] at hx
  obtain ⟨y, h1, h2⟩ := hx
  split at h2
  · exact .inl h2.symm
  · exact .inr (h2 ▸ h1)

theorem smudge_un (k : Blk) (lo hi : Nat) {i : Nat} {x : V} (hx : (smudge k lo hi).cells[i]? = some x) (h1 : lo ≤ k.foff + i) (h2 : k.foff + i < hi) : x = .un := by
  simp only [smudge, List.getElem?_mapIdx, Option.map_eq_some_iff] at hx
  obtain ⟨y, h3, h4⟩ := hx
  rw [if_pos ⟨h1, h2⟩] at h4
  exact h4.symm

theorem weak_upd {st : St} {m : Nat} {k k' : Blk} (h : st (.b m) = .k k) (hk : Wk k k') : Weak st (upd st (.b m) (.k k')) where
  s := fun t => upd_ne _ _ (by simp)
  f := fun t => upd_ne _ _ (by simp)
  b := fun i => by
    by_cases e : i = m
    · subst e; exact .inr ⟨k, k', h, upd_same _ _ _, hk⟩
    · exact .inl (upd_ne _ _ (by simpa using e))

theorem touch_ok (b fam lo hi : Nat) : ∀ (l : List Nat) {st : St} {u : Unit} {R : List Key} {U : Ups}, touch b fam lo hi l st = some (u, R, U) →
    Weak st (applyU U st) ∧ (applyU U st) (.b b) = st (.b b) ∧ ∀ m ∈ l, m ≠ b → ∀ k, (applyU U st) (.b m) = .k k → k.fam = fam → ∀ (i : Nat) (x : V), k.cells[i]? = some x → lo ≤ k.foff + i → k.foff + i < hi → x = .un
  | [], st, u, R, U, e => by
    obtain ⟨_, rfl, rfl⟩ := pure_some e
    exact ⟨Weak.refl _, rfl, by simp⟩
  | m :: l, st, u, R, U, e => by
    simp only [touch] at e
    by_cases hm : m = b
    · rw [if_pos hm] at e
      obtain ⟨h1, h2, h3⟩ := touch_ok b fam lo hi l e
      refine ⟨h1, h2, ?_⟩
      intro m' hm' hne
      rcases List.mem_cons.1 hm' with rfl | hm'
      · exact absurd hm hne
      · exact h3 m' hm' hne
    · rw [if_neg hm] at e
      obtain ⟨x, R1, U1, R2, U2, g1, g2, rfl, rfl⟩ := bind_some e
      obtain ⟨rfl, rfl, rfl⟩ := rdX_some g1
      simp only [applyU, List.nil_append] at g2 ⊢
      have skip : ∀ {U : Ups} {R : List Key}, touch b fam lo hi l st = some (u, R, U) → (∀ k, st (.b m) = .k k → k.fam = fam → ¬ (lo < k.foff + k.cells.length ∧ k.foff < hi)) →
          Weak st (applyU U st) ∧ (applyU U st) (.b b) = st (.b b) ∧ ∀ m' ∈ m :: l, m' ≠ b → ∀ k, (applyU U st) (.b m') = .k k → k.fam = fam → ∀ (i : Nat) (x : V), k.cells[i]? = some x → lo ≤ k.foff + i → k.foff + i < hi → x = .un := by
        intro U R e hk
        obtain ⟨h1, h2, h3⟩ := touch_ok b fam lo hi l e
        refine ⟨h1, h2, ?_⟩
        intro m' hm' hne k hk' hf i x hx c1 c2
        rcases List.mem_cons.1 hm' with rfl | hm'
        · obtain ⟨k0, f1, f2⟩ := h1.blk hk'
          have hlt : i < k.cells.length := (List.getElem?_eq_some_iff.1 hx).1
          have := hk k0 f1 (f2.1 ▸ hf)
          obtain ⟨q1, q2, q3, q4, q5⟩ := f2
          omega
        · exact h3 m' hm' hne k hk' hf i x hx c1 c2
      cases hk : st (.b m) with
      | k k =>
        simp only [hk] at g2
        split at g2
        · obtain ⟨u3, R3, U3, R4, U4, g3, g4, rfl, rfl⟩ := bind_some g2
          obtain ⟨rfl, rfl⟩ := wrX_some g3
          simp only [List.cons_append, List.nil_append, applyU] at g4 ⊢
          have hw := weak_upd hk (smudge_wk k lo hi)
          obtain ⟨h1, h2, h3⟩ := touch_ok b fam lo hi l g4
          refine ⟨hw.trans h1, ?_, ?_⟩
          · rw [h2, upd_ne _ _ (by simpa using Ne.symm hm)]
          · intro m' hm' hne k' hk' hf i x hx c1 c2
            by_cases hmm : m' = m
            · subst hmm
              obtain ⟨k0, f1, f2⟩ := h1.blk hk'
              rw [upd_same] at f1
              cases f1
              rcases f2.2.2.2.2 i x hx with h | h
              · exact h
              · refine smudge_un k lo hi h ?_ ?_
                · have := f2.2.1; simp only [smudge] at this; omega
                · have := f2.2.1; simp only [smudge] at this; omega
            · rcases List.mem_cons.1 hm' with h | hm'
              · exact absurd h hmm
              · exact h3 m' hm' hne k' hk' hf i x hx c1 c2
        · rename_i hc
          refine skip g2 ?_
          intro k' hk' hf
          cases hk'.symm.trans hk
          intro hcc
          exact hc ⟨hf, hcc⟩
      | _ => simp only [hk] at g2; exact skip g2 (by intro k' hk'; cases hk'.symm.trans hk)

/-- Cells are written. -/
theorem putB_ok (h : Sim C N ρ st a w Ds) {b q : Nat} {xs : List V} {u : Unit} {R : List Key} {U : Ups} (e : putB b q xs st = some (u, R, U)) {cs : List Value} (hr : VRs C.S ρ xs cs) (h1 : ∀ u ∈ cs, u.oneCell' = true) :
    ∃ p arr ty, ρ b = some p ∧ w.heap[p.B]? = some (.cells arr ty (0, 0)) ∧ p.O + q + cs.length ≤ arr.size ∧ Sim C N ρ (applyU U st) a (w.setRow p.B (over arr (p.O + q) cs)) Ds := by
  unfold putB at e
  obtain ⟨k, R1, U1, R2, U2, g1, g2, rfl, rfl⟩ := bind_some e
  obtain ⟨rfl, hk⟩ := rdB_some g1
  simp only [applyU, List.nil_append] at g2 ⊢
  split at g2
  · rename_i hfit
    obtain ⟨l, R3, U3, R4, U4, g3, g4, rfl, rfl⟩ := bind_some g2
    obtain ⟨rfl, hl⟩ := rdF_some g3
    simp only [applyU, List.nil_append] at g4 ⊢
    obtain ⟨u5, R5, U5, R6, U6, g5, g6, rfl, rfl⟩ := bind_some g4
    obtain ⟨rfl, rfl⟩ := wrX_some g6
    obtain ⟨t1, t2, t3⟩ := touch_ok b _ _ _ l.l g5
    have hs := h.weak t1
    have hkb : (applyU U5 st) (.b b) = .k k := by rw [t2]; exact hk
    obtain ⟨p, arr, ty, f1, f2, f3, f4, f5, f6⟩ := blk_get (h := h.h) hk
    have hlen := hr.len
    refine ⟨p, arr, ty, f1, f2, by omega, ?_⟩
    rw [applyU_append]
    refine hs.store hkb f1 f2 (by omega) (by omega) (fun _ => hfit) hr h1 ?_
    intro m km hm hkm hf i x hx c1 c2
    obtain ⟨km0, d1, d2⟩ := t1.blk hkm
    obtain ⟨_, l', d3, d4⟩ := h.h.fam m km0 d1
    rw [← d2.1, hf, hl] at d3
    cases d3
    exact t3 m d4.1 hm km hkm hf i x hx c1 c2
  · exact (efail_some g2).elim

theorem oneAll {S : Still} {xs : List V} {cs : List Value} (h : xs.all oneV = true) (hr : VRs S ρ xs cs) : ∀ u ∈ cs, u.oneCell' = true := by
  intro u hu
  obtain ⟨i, hi⟩ := List.mem_iff_getElem?.1 hu
  have hlt : i < xs.length := by rw [← hr.len]; exact (List.getElem?_eq_some_iff.1 hi).1
  obtain ⟨v, h1, h2⟩ := hr.get (List.getElem?_eq_getElem hlt)
  rw [hi] at h1; cases h1
  exact h2.one (List.all_eq_true.1 h _ (List.getElem_mem hlt))

theorem cells_ok {S : Still} {x : V} {v : Value} (h : VR S ρ x v) (hx : x.cells.all oneV = true) : VRs S ρ x.cells v.cells.toList := by
  cases x with
  | agg xs =>
    simp only [VR] at h
    obtain ⟨vs, h1, rfl⟩ := h
    simpa [V.cells, Value.cells] using h1
  | _ =>
    simp only [V.cells, List.all_cons, List.all_nil, Bool.and_true] at hx
    have := VR.one hx h
    have hc : v.cells = #[v] := by cases v <;> first | rfl | simp [Value.oneCell'] at this
    rw [hc]
    simp only [V.cells, VRs]
    exact ⟨v, [], rfl, h, rfl⟩

theorem run_storeVar (hT : ETok P tt) {t : Nat} {i : EI} (ht : tt t = some i) {v : Value} {b o : Nat} {arr : Array Value} {ty : TypeId} (hl : v.cells.toList.length = i.size) (h1 : ∀ u ∈ v.cells.toList, u.oneCell' = true)
    (hb : w.heap[b]? = some (.cells arr ty (0, 0))) (hfit : o + v.cells.toList.length ≤ arr.size) : (storeVar t ⟨b, o, none⟩ v).run P w = .ok () (w.setRow b (over arr o v.cells.toList)) := by
  have hst := run_storeCells_at P b o ty v.cells.toList 0 arr w hb (by simpa using hfit) h1
  simp only [Nat.add_zero] at hst
  rw [setRow_take_over hfit] at hst
  unfold storeVar
  have hsz : v.cells.size = i.size := by simpa using hl
  simp only [Sem.run_bind, run_sizeOf hT ht, Result.andThen_ok, hsz, ne_eq, not_true, if_false]
  exact hst

theorem store_ok (hT : ETok P tt) (h : Sim C N ρ st a w Ds) {t : Nat} {x v : V} {u : Unit} {R : List Key} {U : Ups} (e : storeV tt t x v st = some (u, R, U)) {xu vu : Value} (hx : VR C.S ρ x xu) (hv : VR C.S ρ v vu) :
    ∃ w', (Instr.storeAt t xu vu).run P w = .ok () w' ∧ Sim C N ρ (applyU U st) a w' Ds := by
  unfold storeV at e
  obtain ⟨i, R1, U1, R2, U2, g1, g2, rfl, rfl⟩ := bind_some e
  obtain ⟨ht, rfl, rfl⟩ := ofO_some g1
  simp only [applyU, List.nil_append] at g2 ⊢
  split at g2
  · rename_i b q
    split at g2
    · rename_i hf
      unfold fits at hf
      simp only [Bool.and_eq_true, beq_iff_eq] at hf
      obtain ⟨⟨f1, f2⟩, f3⟩ := hf
      have hc := cells_ok hv f3
      have h1 := oneAll f3 hc
      obtain ⟨p, arr, ty, k1, k2, k3, k4⟩ := putB_ok h g2 hc h1
      simp only [VR] at hx
      obtain ⟨p', k5, rfl⟩ := hx
      rw [k1] at k5; cases k5
      refine ⟨_, ?_, k4⟩
      simp only [Instr.storeAt, Instr.sureAddr, Sem.run_bind, Sem.run_pure, Result.andThen_ok]
      exact run_storeVar hT ht (by rw [hc.len, f2]) h1 k2 k3
    · exact (efail_some g2).elim
  · exact (efail_some g2).elim

theorem load_ok (hT : ETok P tt) (h : Sim C N ρ st a w Ds) {t : Nat} {x v : V} {R : List Key} {U : Ups} (e : loadV tt t x st = some (v, R, U)) {xu : Value} (hx : VR C.S ρ x xu) :
    U = [] ∧ ∃ vu, (Instr.loadAt t xu).run P w = .ok vu w ∧ VR C.S ρ v vu := by
  unfold loadV at e
  obtain ⟨i, R1, U1, R2, U2, g1, g2, rfl, rfl⟩ := bind_some e
  obtain ⟨ht, rfl, rfl⟩ := ofO_some g1
  simp only [applyU, List.nil_append] at g2 ⊢
  split at g2
  · rename_i b q
    obtain ⟨k, R3, U3, R4, U4, g3, g4, rfl, rfl⟩ := bind_some g2
    obtain ⟨rfl, hk⟩ := rdB_some g3
    simp only [applyU] at g4
    split at g4
    · rename_i hc
      obtain ⟨g5, rfl, rfl⟩ := ofO_some g4
      refine ⟨rfl, ?_⟩
      simp only [VR] at hx
      obtain ⟨p, hp, rfl⟩ := hx
      obtain ⟨cs, c1, c2, c3, c4⟩ := blk_part h.h hk hp q i.size hc.1
      obtain ⟨vu, d1, d2⟩ := run_loadV (w := w) hT ht c2 c4 c1 g5
      exact ⟨vu, by simp only [Instr.loadAt, Instr.sureAddr, Sem.run_bind, Sem.run_pure, Result.andThen_ok]; exact d1, d2⟩
    · exact (efail_some g4).elim
  · rename_i y
    obtain ⟨cs, R3, U3, R4, U4, g3, g4, rfl, rfl⟩ := bind_some g2
    obtain ⟨hcs, rfl, rfl⟩ := ofO_some g3
    simp only [applyU] at g4
    split at g4
    · rename_i hc
      obtain ⟨g5, rfl, rfl⟩ := ofO_some g4
      refine ⟨rfl, ?_⟩
      simp only [VR, Rep] at hx
      obtain ⟨b, q, l, hl, r1, r2⟩ := hx
      simp only [List.cons.injEq, and_true] at hl
      subst hl
      have hv := cellsA_ok (ρ := ρ) hcs r1
      obtain ⟨vu, d1, d2⟩ := run_loadV (w := w) hT ht (by rw [hv.len, hc.1]) (fun j u hj => h.h.still _ _ _ (r2 j u hj)) hv g5
      exact ⟨vu, by simp only [Instr.loadAt, Instr.sureAddr, Sem.run_bind, Sem.run_pure, Result.andThen_ok]; exact d1, d2⟩
    · exact (efail_some g4).elim
  · exact (efail_some g2).elim

/-! ### Addresses -/

theorem offOf_some (hT : ETok P tt) {fs : List (Nat × Nat)} {i off sz : Nat} (e : offOf tt fs i = some (off, sz)) : ∃ ft j, fs[i]? = some (off, ft) ∧ tt ft = some j ∧ j.size = sz := by
  unfold offOf at e
  split at e
  · rename_i off' ft h
    obtain ⟨j, h1, h2⟩ := Option.map_eq_some_iff.1 e
    cases h2
    exact ⟨ft, j, h, h1, rfl⟩
  · cases e

theorem run_fieldAt (hT : ETok P tt) {t i off sz : Nat} (e : fieldOff tt t i = some (off, sz)) (hsz : sz ≠ 0) (B O : Nat) (w : World) : (Instr.fieldAt t (.pointer (some ⟨B, O, none⟩)) i).run P w = .ok (.pointer (some ⟨B, O + off, none⟩)) w := by
  unfold fieldOff at e
  split at e
  · rename_i fs _ _ _ _ ht
    obtain ⟨ft, j, h1, h2, h3⟩ := offOf_some hT e
    obtain ⟨fields, g1, g2, _⟩ := (hT _ _ ht).kind
    rw [← g2, List.getElem?_map] at h1
    obtain ⟨f, h4, h5⟩ := Option.map_eq_some_iff.1 h1
    cases h5
    have hfi : fields[i]? = some f := by simpa using h4
    have hs := run_sizeOf hT h2 w
    simp only [Instr.fieldAt, Sem.run_bind, run_underlying g1, Result.andThen_ok, hfi, Instr.sureAddr, Sem.run_pure, fieldPlace, hs, h3, hsz, if_false, Addr.add_lit]
  · cases e

theorem reps_get {S : Still} : ∀ {as : List A} {cs : List Value} {i : Nat} {x : A}, Reps S as cs → as[i]? = some x → ∃ c1 ci c2, cs = c1 ++ ci ++ c2 ∧ c1.length = A.sizes (as.take i) ∧ Rep S x ci
  | [], _, _, _, _, e => by simp at e
  | a :: as, cs, 0, x, r, e => by
    simp at e; subst e
    simp only [Reps] at r
    obtain ⟨c1, c2, rfl, r1, r2⟩ := r
    exact ⟨[], c1, c2, rfl, rfl, r1⟩
  | a :: as, cs, i + 1, x, r, e => by
    simp at e
    simp only [Reps] at r
    obtain ⟨c1, c2, rfl, r1, r2⟩ := r
    obtain ⟨d1, di, d2, rfl, h1, h2⟩ := reps_get r2 e
    exact ⟨c1 ++ d1, di, d2, by simp, by simp [A.sizes, r1.len, h1], h2⟩

theorem lies_mid {S : Still} {b o : Nat} {c1 ci c2 : List Value} (h : Lies S b o (c1 ++ ci ++ c2)) : Lies S b (o + c1.length) ci := by
  intro j v hj
  have := h (c1.length + j) v (by
    rw [List.append_assoc, List.getElem?_append_right (by omega), Nat.add_sub_cancel_left, List.getElem?_append_left (List.getElem?_eq_some_iff.1 hj).1]
    exact hj)
  rw [Nat.add_assoc]; exact this

theorem fieldAddr_ok (hT : ETok P tt) {S : Still} {t i : Nat} {x z : V} (e : fieldAddrV tt t i x = some z) {xu : Value} (hx : VR S ρ x xu) (w : World) : ∃ vu, (Instr.fieldAt t xu i).run P w = .ok vu w ∧ VR S ρ z vu := by
  unfold fieldAddrV at e
  split at e
  · rename_i off sz hoff
    split at e
    · rename_i hsz
      split at e
      · rename_i b q
        simp only [Option.some.injEq] at e; subst e
        simp only [VR] at hx
        obtain ⟨p, hp, rfl⟩ := hx
        exact ⟨_, run_fieldAt hT hoff hsz _ _ w, by simp only [VR]; exact ⟨p, hp, by rw [Nat.add_assoc]⟩⟩
      · rename_i fs
        split at e
        · rename_i hoo
          obtain ⟨y, h1, rfl⟩ := Option.map_eq_some_iff.1 e
          simp only [VR, Rep] at hx
          obtain ⟨b, q, l, hl, r1, r2⟩ := hx
          simp only [List.cons.injEq, and_true] at hl
          subst hl
          obtain ⟨c1, ci, c2, rfl, h2, h3⟩ := reps_get r1 h1
          refine ⟨_, run_fieldAt hT hoff hsz _ _ w, ?_⟩
          simp only [VR, Rep]
          exact ⟨b, q + off, ci, rfl, h3, by rw [← hoo, ← h2]; exact lies_mid r2⟩
        · cases e
      · cases e
    · cases e
  · cases e

theorem slElem_some (hT : ETok P tt) {t e : Nat} {i : EI} (h : slElem tt t = some (e, i)) : P.underlying t = some (.slice e) ∧ tt e = some i := by
  unfold slElem at h
  split at h
  · rename_i el _ _ _ _ ht
    obtain ⟨j, hj, h2⟩ := Option.map_eq_some_iff.1 h
    cases h2
    exact ⟨(hT _ _ ht).kind, hj⟩
  · cases h

theorem arElem_some (hT : ETok P tt) {t n e : Nat} {i : EI} (h : arElem tt t = some (n, e, i)) : P.underlying t = some (.array n e) ∧ tt e = some i := by
  unfold arElem at h
  split at h
  · rename_i m el _ _ _ _ ht
    obtain ⟨j, hj, h2⟩ := Option.map_eq_some_iff.1 h
    cases h2
    exact ⟨(hT _ _ ht).kind, hj⟩
  · cases h

theorem mapKE_some (hT : ETok P tt) {t k e : Nat} (h : mapKE tt t = some (k, e)) : P.underlying t = some (.map k e) := by
  unfold mapKE at h
  split at h
  · rename_i k' el _ _ _ _ ht
    cases h
    exact (hT _ _ ht).kind
  · cases h

theorem elemSize_some (hT : ETok P tt) {t sz : Nat} (h : elemSize tt t = some sz) (w : World) : ∃ e, P.underlying t = some (.slice e) ∧ (Go.sizeOf e).run P w = .ok sz w := by
  unfold elemSize at h
  obtain ⟨⟨e, i⟩, h1, rfl⟩ := Option.map_eq_some_iff.1 h
  obtain ⟨h2, h3⟩ := slElem_some hT h1
  exact ⟨e, h2, run_sizeOf hT h3 w⟩

theorem run_indexAt {t e sz : Nat} {w : World} (h1 : P.underlying t = some (.slice e)) (h2 : (Go.sizeOf e).run P w = .ok sz w) {b o n c : Nat} {k : IntKind} {j : Int} (h0 : 0 ≤ j) (hj : j.toNat < n) :
    (Instr.indexAt t (.slice (some ⟨b, o, none⟩) n c) (.int k j)).run P w = .ok (.pointer (some ⟨b, o + j.toNat * sz, none⟩)) w := by
  have : j < (n : Int) := by omega
  simp [Instr.indexAt, asIntOf, run_underlying h1, h0, this, h2, Addr.add_lit]

theorem indexAddr_ok (hT : ETok P tt) {S : Still} {t : Nat} {x z : V} {k : IntKind} {j : Int} (e : indexAddrV tt t x j = some z) {xu : Value} (hx : VR S ρ x xu) (w : World) : ∃ vu, (Instr.indexAt t xu (.int k j)).run P w = .ok vu w ∧ VR S ρ z vu := by
  unfold indexAddrV at e
  split at e
  · rename_i h0
    split at e
    · rename_i b q z' m c
      split at e
      · rename_i hc
        simp only [Option.some.injEq] at e; subst e
        simp only [VR] at hx
        obtain ⟨p, o', c', hp, rfl, h1, h2, _⟩ := hx
        have ho := h2 (by omega)
        subst ho
        obtain ⟨el, g1, g2⟩ := elemSize_some hT hc.1 w
        exact ⟨_, run_indexAt g1 g2 h0 hc.2, by simp only [VR]; exact ⟨p, hp, by rw [Nat.add_assoc]⟩⟩
      · cases e
    · rename_i z' tg xs
      split at e
      · rename_i hc
        obtain ⟨y, h1, rfl⟩ := Option.map_eq_some_iff.1 e
        simp only [VR, Rep] at hx
        obtain ⟨p, c, hl, q1, q2, q3, q4⟩ := hx
        simp only [List.cons.injEq, and_true] at hl
        subst hl
        have hlt : j.toNat < xs.length := (List.getElem?_eq_some_iff.1 h1).1
        rcases q4 with rfl | ⟨b, q, l, rfl, r1, r2⟩
        · simp at hlt
        · obtain ⟨el, g1, g2⟩ := elemSize_some hT hc w
          refine ⟨_, run_indexAt g1 g2 h0 hlt, ?_⟩
          obtain ⟨c1, ci, c2, rfl, h2, h3⟩ := reps_get r1 h1
          simp only [VR, Rep]
          refine ⟨b, q + j.toNat * z', ci, rfl, h3, ?_⟩
          have : c1.length = j.toNat * z' := by
            rw [h2, A.sizes_const (sz := z') (fun x hx => q3 x (List.mem_of_mem_take hx)), List.length_take]
            congr 1; omega
          rw [← this]
          exact lies_mid r2
      · cases e
    · rename_i b q
      split at e
      · rename_i m el i ha
        obtain ⟨hk, hi⟩ := arElem_some hT ha
        split at e
        · rename_i hj
          simp only [Option.some.injEq] at e; subst e
          simp only [VR] at hx
          obtain ⟨p, hp, rfl⟩ := hx
          refine ⟨.pointer (some ⟨p.B, p.O + q + j.toNat * i.size, none⟩), ?_, by simp only [VR]; exact ⟨p, hp, by rw [Nat.add_assoc]⟩⟩
          have hj' : j < (m : Int) := by omega
          simp [Instr.indexAt, asIntOf, run_underlying hk, Instr.sureAddr, h0, hj', run_sizeOf hT hi, Addr.add_lit]
        · cases e
      · cases e
    · cases e
  · cases e

/-! ### Lengths -/

theorem len_ok (hT : ETok P tt) (h : Sim C N ρ st a w Ds) {t ty : Nat} {x v : V} {R : List Key} {U : Ups} (e : lenV tt t x st = some (v, R, U)) {xu : Value} (hx : VR C.S ρ x xu) :
    U = [] ∧ ∃ vu, (Builtin.len_ #[t] ty #[xu]).run P w = .ok vu w ∧ VR C.S ρ v vu := by
  unfold lenV at e
  obtain ⟨i, R1, U1, R2, U2, g1, g2, rfl, rfl⟩ := bind_some e
  obtain ⟨ht, rfl, rfl⟩ := ofO_some g1
  simp only [applyU, List.nil_append] at g2 ⊢
  have hk := (hT _ _ ht).kind
  generalize hkk : i.kind = kd at g2
  split at g2
  · rename_i el b q z m c
    obtain ⟨rfl, rfl, rfl⟩ := pure_some g2
    rw [hkk] at hk
    have hk : P.underlying t = some (.slice el) := hk
    simp only [VR] at hx
    obtain ⟨p, o', c', hp, rfl, _⟩ := hx
    exact ⟨rfl, _, by simp [Builtin.len_, run_underlying hk, goInt]; done, vlit _⟩
  · rename_i el p m c
    obtain ⟨rfl, rfl, rfl⟩ := pure_some g2
    rw [hkk] at hk
    have hk : P.underlying t = some (.slice el) := hk
    simp only [VR] at hx
    subst hx
    exact ⟨rfl, _, by simp [Builtin.len_, run_underlying hk, goInt]; done, vlit _⟩
  · rename_i el z tg xs
    obtain ⟨rfl, rfl, rfl⟩ := pure_some g2
    rw [hkk] at hk
    have hk : P.underlying t = some (.slice el) := hk
    simp only [VR, Rep] at hx
    obtain ⟨p, c, hl, _⟩ := hx
    simp only [List.cons.injEq, and_true] at hl
    subst hl
    exact ⟨rfl, _, by simp [Builtin.len_, run_underlying hk, goInt]; done, vlit _⟩
  · rename_i s
    obtain ⟨rfl, rfl, rfl⟩ := pure_some g2
    rw [hkk] at hk
    have hk : P.underlying t = some .string := hk
    simp only [VR] at hx
    subst hx
    exact ⟨rfl, _, by simp [Builtin.len_, run_underlying hk, goInt]; done, vlit _⟩
  · rename_i kk el
    obtain ⟨rfl, rfl, rfl⟩ := pure_some g2
    rw [hkk] at hk
    have hk : P.underlying t = some (.map kk el) := hk
    simp only [VR] at hx
    subst hx
    exact ⟨rfl, _, by simp [Builtin.len_, run_underlying hk, goInt]; done, vlit _⟩
  · rename_i kk el b
    rw [hkk] at hk
    have hk : P.underlying t = some (.map kk el) := hk
    obtain ⟨es, R3, U3, R4, U4, g3, g4, rfl, rfl⟩ := bind_some g2
    obtain ⟨rfl, hes⟩ := rdM_some g3
    simp only [applyU] at g4
    obtain ⟨rfl, rfl, rfl⟩ := pure_some g4
    simp only [VR] at hx
    obtain ⟨p, hp, rfl⟩ := hx
    obtain ⟨p', h1, h2⟩ := h.h.ent b (by rw [hes]; rfl)
    rw [hp] at h1; cases h1
    rw [hes] at h2
    obtain ⟨ents, cl, q1, q2, q3⟩ := h2
    have hlen : ents.size = es.length := by have := congrArg List.length q2; simpa using this
    exact ⟨rfl, _, by simp [Builtin.len_, run_underlying hk, getObj, Sem.run, q1, hlen, goInt], vlit _⟩
  · exact (efail_some g2).elim

theorem cap_ok (hT : ETok P tt) {S : Still} {t ty : Nat} {x z : V} (e : capV tt t x = some z) {xu : Value} (hx : VR S ρ x xu) (w : World) : ∃ vu, (Builtin.cap_ #[t] ty #[xu]).run P w = .ok vu w ∧ VR S ρ z vu := by
  unfold capV at e
  split at e
  · rename_i el _ _ _ _ b q zz m c ht
    simp only [Option.some.injEq] at e; subst e
    have hk : P.underlying t = some (.slice el) := (hT _ _ ht).kind
    simp only [VR] at hx
    obtain ⟨p, o', c', hp, rfl, _, _, rfl⟩ := hx
    exact ⟨_, by simp [Builtin.cap_, run_underlying hk, goInt]; done, vlit _⟩
  · rename_i el _ _ _ _ p m c ht
    simp only [Option.some.injEq] at e; subst e
    have hk : P.underlying t = some (.slice el) := (hT _ _ ht).kind
    simp only [VR] at hx
    subst hx
    exact ⟨_, by simp [Builtin.cap_, run_underlying hk, goInt]; done, vlit _⟩
  · rename_i el _ _ _ _ zz xs ht
    simp only [Option.some.injEq] at e; subst e
    have hk : P.underlying t = some (.slice el) := (hT _ _ ht).kind
    simp only [VR, Rep] at hx
    obtain ⟨p, c, hl, hc, _⟩ := hx
    simp only [List.cons.injEq, and_true] at hl
    subst hl
    exact ⟨_, by simp [Builtin.cap_, run_underlying hk, hc trivial, goInt]; done, vlit _⟩
  · cases e

/-! ### New blocks -/

/-- A block of the call's own that is known whole. -/
theorem new_ok (h : Sim C N ρ st a w Ds) (hn : ρ n = none) {xs : List V} {cs : List Value} (hr : VRs C.S ρ xs cs) (h1 : ∀ u ∈ cs, u.oneCell' = true) (ex : Bool) (arr : Array Value) (harr : arr.toList.take cs.length = cs) (hex : ex = true → arr.size = cs.length) (ty : TypeId)
    {u : Unit} {R : List Key} {U : Ups} (e : wrNew n ⟨xs, ex, n, 0⟩ st = some (u, R, U)) : Sim C N (setP ρ n ⟨w.heap.size, 0, arr.size⟩) (applyU U st) a (w.alloc (.cells arr ty)) Ds := by
  unfold wrNew at e
  obtain ⟨u1, R1, U1, R2, U2, g1, g2, rfl, rfl⟩ := bind_some e
  obtain ⟨rfl, rfl⟩ := wrX_some g1
  obtain ⟨rfl, rfl⟩ := wrX_some g2
  simp only [List.cons_append, List.nil_append, applyU]
  have hle : cs.length ≤ arr.size := by
    have := congrArg List.length harr
    simp only [List.length_take, Array.length_toList] at this
    omega
  refine h.new hn (.cells arr ty) (.k ⟨xs, ex, n, 0⟩) arr.size ?_ ?_ ?_ ?_ ?_
  · refine ⟨arr, ty, World.alloc_heap_new w _, rfl, ?_, ?_, ?_⟩
    · simp only [Nat.zero_add, ← hr.len]; exact hle
    · intro hx; simp only [Nat.zero_add, ← hr.len]; exact (hex hx).symm
    · intro i x hx
      obtain ⟨v, q1, q2⟩ := hr.get hx
      refine ⟨v, ?_, q2.mono (setP_le _ hn), h1 v (List.mem_of_getElem? q1)⟩
      rw [Nat.zero_add]
      rw [← harr, List.getElem?_take] at q1
      split at q1
      · simpa using q1
      · cases q1
  · intro i
    rw [upd_ne _ _ (by simp)]
    by_cases e : i = n
    · subst e; simp [upd_same]
    · rw [upd_ne _ _ (by simpa using e)]; simp [e]
  · intro t
    rw [upd_ne _ _ (by simp), upd_ne _ _ (by simp)]
  · intro b k hk
    obtain ⟨⟨⟨p, hp⟩, _⟩, l, hl, hm⟩ := h.h.fam b k hk
    have hne : k.fam ≠ n := by rintro q; rw [q, hn] at hp; cases hp
    exact ⟨l, by rw [upd_ne _ _ (by simpa using hne), upd_ne _ _ (by simp)]; exact hl, hm⟩
  · intro k hk
    cases hk
    exact ⟨⟨⟨_, setP_same _ _ _⟩, Nat.le_refl _⟩, _, upd_same _ _ _, by simp [Fam.has]⟩

theorem zero_some (hT : ETok P tt) {t : Nat} {i : EI} (ht : tt t = some i) {z : List Value} (hz : i.zero = some z) : ∃ v, (zeroValue t).run P w = .ok v w ∧ v.cells.toList = z ∧ (∀ u ∈ z, u.oneCell' = true) ∧ z.length = i.size ∧ (if i.kind.isAgg = true then ∃ cs, v = .agg cs else v.oneCell' = true) := by
  obtain ⟨f, f1, f2, f3, f4⟩ := (hT _ _ ht).info
  obtain ⟨v, g1, g2⟩ := f4 z hz
  exact ⟨v, by simp [zeroValue, typeInfo, f1, g1], g2⟩

theorem alloc_ok (hT : ETok P tt) (h : Sim C N ρ st a w Ds) (hn : ρ n = none) {t : Nat} {v : V} {R : List Key} {U : Ups} (e : allocV tt n t st = some (v, R, U)) (ho : o.op = .alloc t) : Res P C N n (n + 1) o ρ a w Ds v (applyU U st) := by
  unfold allocV at e
  obtain ⟨i, R1, U1, R2, U2, g1, g2, rfl, rfl⟩ := bind_some e
  obtain ⟨ht, rfl, rfl⟩ := ofO_some g1
  obtain ⟨z, R3, U3, R4, U4, g3, g4, rfl, rfl⟩ := bind_some g2
  obtain ⟨hz, rfl, rfl⟩ := ofO_some g3
  simp only [applyU, List.nil_append] at g4 ⊢
  obtain ⟨u5, R5, U5, R6, U6, g5, g6, rfl, rfl⟩ := bind_some g4
  obtain ⟨rfl, rfl, rfl⟩ := pure_some g6
  simp only [List.append_nil]
  obtain ⟨zv, z1, z2, z3, z4, _⟩ := zero_some (w := w) hT ht hz
  have := new_ok h hn (VRs.lits z) z3 true zv.cells (by rw [← z2]; exact List.take_of_length_le (Nat.le_refl _)) (by intro _; rw [← z2]; simp) t g5
  refine ⟨_, _, .pointer (some ⟨w.heap.size, 0, none⟩), ?_, Ext.set _ hn (Nat.lt_succ_self _), this, ?_⟩
  · simp [execOp, ho, Instr.alloc, newVar, newRow, z1]
  · simp only [VR]; exact ⟨_, setP_same _ _ _, rfl⟩

theorem box_ok (h : Sim C N ρ st a w Ds) (hn : ρ n = none) {t : Nat} {x : Operand} {y v : V} {R : List Key} {U : Ups} (e : boxV n y st = some (v, R, U)) (hy : VR C.S ρ y (a.eval x)) (ho : o.op = .box t x) : Res P C N n (n + 1) o ρ a w Ds v (applyU U st) := by
  unfold boxV at e
  split at e
  · rename_i hone
    obtain ⟨u5, R5, U5, R6, U6, g5, g6, rfl, rfl⟩ := bind_some e
    obtain ⟨rfl, rfl, rfl⟩ := pure_some g6
    simp only [List.append_nil]
    have hc := cells_ok hy hone
    have := new_ok h hn hc (oneAll hone hc) true (a.eval x).cells (List.take_of_length_le (Nat.le_refl _)) (by intro _; simp) t g5
    refine ⟨_, _, .pointer (some ⟨w.heap.size, 0, none⟩), ?_, Ext.set _ hn (Nat.lt_succ_self _), this, ?_⟩
    · simp [execOp, ho, Instr.box, newVar, newRow]
    · simp only [VR]; exact ⟨_, setP_same _ _ _, rfl⟩
  · exact (efail_some e).elim

theorem flat_get {α : Type} (l : List α) : ∀ (n k : Nat), (List.replicate n l).flatten[k]? = if k < n * l.length then l[k % l.length]? else none
  | 0, k => by simp
  | n + 1, k => by
    rw [List.replicate_succ, List.flatten_cons]
    by_cases hk : k < l.length
    · rw [List.getElem?_append_left hk, if_pos (by rw [Nat.add_mul]; omega), Nat.mod_eq_of_lt hk]
    · rw [List.getElem?_append_right (by omega), flat_get l n]
      have hm : (k - l.length) % l.length = k % l.length := (Nat.mod_eq_sub_mod (by omega)).symm
      rw [hm]
      by_cases h2 : k - l.length < n * l.length
      · rw [if_pos h2, if_pos (by rw [Nat.add_mul]; omega)]
      · rw [if_neg h2, if_neg (by rw [Nat.add_mul]; omega)]

theorem made_eq (z : Array Value) (c : Nat) : madeCells z (c * z.size) = (List.replicate c z.toList).flatten.toArray := by
  symm
  apply Array.ext_getElem?
  intro k
  rw [List.getElem?_toArray, flat_get, Array.length_toList]
  simp only [madeCells, Array.getElem?_map, Array.getElem?_range]
  split
  · rename_i hk
    have hz : 0 < z.size := by
      rcases Nat.eq_zero_or_pos z.size with h0 | h0
      · rw [h0] at hk; simp at hk
      · exact h0
    have hmod : k % z.size < z.size := Nat.mod_lt _ hz
    simp only [Option.map_some, Array.getElem?_toList]
    rw [Array.getElem?_eq_getElem hmod, getElem!_pos z _ hmod]
  · rfl

theorem VRs.flat {S : Still} {xs : List V} {cs : List Value} (h : VRs S ρ xs cs) : ∀ c, VRs S ρ (List.replicate c xs).flatten (List.replicate c cs).flatten
  | 0 => by simp [VRs]
  | c + 1 => by simp only [List.replicate_succ, List.flatten_cons]; exact h.append (VRs.flat h c)

theorem flat_one {cs : List Value} (h : ∀ u ∈ cs, u.oneCell' = true) (c : Nat) : ∀ u ∈ (List.replicate c cs).flatten, u.oneCell' = true := by
  intro u hu
  obtain ⟨l, h1, h2⟩ := List.mem_flatten.1 hu
  rw [List.eq_of_mem_replicate h1] at h2
  exact h u h2

theorem makeSlice_ok (hT : ETok P tt) (h : Sim C N ρ st a w Ds) (hn : ρ n = none) {t : Nat} {l c : Operand} {k1 k2 : IntKind} {x y : Int} {v : V} {R : List Key} {U : Ups} (e : makeSliceV tt n t x y st = some (v, R, U)) (hl : a.eval l = .int k1 x) (hc : a.eval c = .int k2 y)
    (ho : o.op = .makeSlice t l c) : Res P C N n (n + 1) o ρ a w Ds v (applyU U st) := by
  unfold makeSliceV at e
  obtain ⟨⟨el, i⟩, R1, U1, R2, U2, g1, g2, rfl, rfl⟩ := bind_some e
  obtain ⟨hsl, rfl, rfl⟩ := ofO_some g1
  obtain ⟨z, R3, U3, R4, U4, g3, g4, rfl, rfl⟩ := bind_some g2
  obtain ⟨hz, rfl, rfl⟩ := ofO_some g3
  simp only [applyU, List.nil_append] at g4 ⊢
  obtain ⟨hel, hi⟩ := slElem_some hT hsl
  split at g4
  · rename_i hcond
    obtain ⟨c1, c2, c3, c4⟩ := hcond
    obtain ⟨u5, R5, U5, R6, U6, g5, g6, rfl, rfl⟩ := bind_some g4
    obtain ⟨rfl, rfl, rfl⟩ := pure_some g6
    simp only [List.append_nil]
    obtain ⟨f, f1, f2, f3, f4⟩ := (hT _ _ hi).info
    obtain ⟨zv, v1, v2, v3, v4, v5⟩ := f4 z hz
    have hlim : y ≤ 16777216 := by simpa [lim] using c3
    have hbytes : (f.bytes : Int) * y ≤ 281474976710656 := by
      rw [f3]
      have h1 : (i.bytes : Int) ≤ 4096 := by omega
      have h2 : (i.bytes : Int) * y ≤ 4096 * 16777216 := Int.mul_le_mul h1 hlim (by omega) (by omega)
      omega
    have hrun := run_make (P := P) w t el f zv hel f1 v1 k1 k2 x y c1 c2 hbytes (by omega)
    have hzs : zv.cells.size = i.size := by rw [← v4, ← v2]; simp
    rw [f2, ← hzs, made_eq, v2] at hrun
    have hnew := new_ok h hn (VRs.flat (VRs.lits z) y.toNat) (flat_one v3 _) true (List.replicate y.toNat z).flatten.toArray (List.take_of_length_le (Nat.le_refl _)) (by intro _; simp) el g5
    refine ⟨_, _, .slice (some ⟨w.heap.size, 0, none⟩) x.toNat y.toNat, ?_, Ext.set _ hn (Nat.lt_succ_self _), hnew, ?_⟩
    · simp only [execOp, ho, hl, hc, Sem.run_bind, hrun, Result.andThen_ok, Sem.run_pure]
    · simp only [VR]
      exact ⟨_, 0, y.toNat, setP_same _ _ _, rfl, by omega, fun _ => rfl, rfl⟩
  · exact (efail_some g4).elim

/-! ### Literals -/

theorem parts_ok (h : Sim C N ρ st a w Ds) : ∀ {ps : List (Nat × Operand)} {qs : List (Nat × V)} {R : List Key} {U : Ups}, parts ps st = some (qs, R, U) →
    U = [] ∧ qs.map (·.1) = ps.map (·.1) ∧ VRs C.S ρ (qs.map (·.2)) (ps.map fun p => a.eval p.2)
  | [], qs, R, U, e => by
    obtain ⟨rfl, rfl, rfl⟩ := pure_some e
    exact ⟨rfl, rfl, by simp [VRs]⟩
  | (i, x) :: ps, qs, R, U, e => by
    simp only [parts] at e
    obtain ⟨v, R1, U1, R2, U2, h1, h2, rfl, rfl⟩ := bind_some e
    obtain ⟨rfl, q1⟩ := opV_ok h h1
    obtain ⟨us, R3, U3, R4, U4, h3, h4, rfl, rfl⟩ := bind_some h2
    simp only [applyU] at h3 h4
    obtain ⟨rfl, q2, q3⟩ := parts_ok h h3
    obtain ⟨rfl, rfl, rfl⟩ := pure_some h4
    refine ⟨rfl, by simp [q2], ?_⟩
    simp only [List.map_cons, VRs]
    exact ⟨_, _, rfl, q1, q3⟩

theorem foldl_over (cs : List Value) : ∀ (arr : Array Value) (off : Nat) (j : Nat), off + j + cs.length ≤ arr.size → (cs.zipIdx j).foldl (fun acc p => acc.setIfInBounds (off + p.2) p.1) arr = over arr (off + j) cs := by
  induction cs with
  | nil =>
    intro arr off j _
    simp only [List.zipIdx_nil, List.foldl_nil]
    apply Array.ext_getElem?
    intro k
    rw [over_out (by simp; omega)]
  | cons c cs ih =>
    intro arr off j hfit
    simp only [List.length_cons] at hfit
    simp only [List.zipIdx_cons, List.foldl_cons]
    rw [ih _ _ _ (by simp; omega)]
    apply Array.ext_getElem?
    intro k
    by_cases hk : k < off + j
    · rw [over_out (.inl (by omega)), over_out (.inl hk), Array.getElem?_setIfInBounds_ne (by omega)]
    · by_cases hk2 : k = off + j
      · subst hk2
        rw [over_out (.inl (by omega))]
        have h1 : (over arr (off + j) (c :: cs))[off + j + 0]? = some c := over_in (by simp; omega) rfl
        rw [Nat.add_zero] at h1
        rw [h1, Array.getElem?_setIfInBounds, if_pos rfl, if_pos (by omega)]
      · by_cases hk3 : k < off + j + 1 + cs.length
        · have hj : cs[k - (off + j + 1)]? = some cs[k - (off + j + 1)] := List.getElem?_eq_getElem (by omega)
          have h1 := over_in (arr := arr.setIfInBounds (off + j) c) (o := off + (j + 1)) (l := cs) (by simp; omega) hj
          have h2 : (c :: cs)[k - (off + j)]? = some cs[k - (off + j + 1)] := by
            rw [show k - (off + j) = (k - (off + j + 1)) + 1 from by omega, List.getElem?_cons_succ]; exact hj
          have h3 := over_in (arr := arr) (o := off + j) (l := c :: cs) (by simp; omega) h2
          rw [show off + (j + 1) + (k - (off + j + 1)) = k from by omega] at h1
          rw [show off + j + (k - (off + j)) = k from by omega] at h3
          rw [h1, h3]
        · rw [over_out (.inr (by omega)), over_out (.inr (by simp; omega)), Array.getElem?_setIfInBounds_ne (by omega)]

theorem over_toList (arr : Array Value) (o : Nat) (cs : List Value) (h : o + cs.length ≤ arr.size) : (over arr o cs).toList = arr.toList.take o ++ cs ++ arr.toList.drop (o + cs.length) := by
  rw [← setRow_take_over h]

theorem VRs.put {S : Still} {xs ys : List V} {vs us : List Value} (h1 : VRs S ρ xs vs) (h2 : VRs S ρ ys us) (o : Nat) : VRs S ρ (putL xs o ys) (vs.take o ++ us ++ vs.drop (o + us.length)) := by
  unfold putL
  rw [h2.len]
  exact ((h1.take o).append h2).append (h1.drop _)

theorem fill_ok {S : Still} {pl pl' : Nat → Option (Nat × Nat)} (hpl' : ∀ j x, pl j = some x → pl' j = some x) : ∀ {ps : List (Nat × V)} {us : List Value} {cells cs' : List V} {arr : Array Value}, fillL pl cells ps = some cs' → VRs S ρ (ps.map (·.2)) us → VRs S ρ cells arr.toList → (∀ u ∈ arr.toList, u.oneCell' = true) →
    ∃ arr', Instr.fill pl' arr ((ps.map (·.1)).zip us) = some arr' ∧ VRs S ρ cs' arr'.toList ∧ (∀ u ∈ arr'.toList, u.oneCell' = true) ∧ arr'.size = arr.size
  | [], us, cells, cs', arr, e, h1, h2, h3 => by
    simp only [fillL, Option.some.injEq] at e; subst e
    simp only [List.map_nil, VRs] at h1; subst h1
    exact ⟨arr, rfl, h2, h3, rfl⟩
  | (i, v) :: ps, us, cells, cs', arr, e, h1, h2, h3 => by
    simp only [List.map_cons, VRs] at h1
    obtain ⟨u, us', rfl, q1, q2⟩ := h1
    simp only [fillL] at e
    split at e
    · cases e
    · rename_i off size hpl
      split at e
      · cases e
      · rename_i hc
        simp only [not_or, ne_eq, Decidable.not_not, Bool.not_eq_false] at hc
        obtain ⟨c1, c2, c3⟩ := hc
        have hcl := cells_ok q1 c3
        have hone := oneAll c3 hcl
        have hl1 : u.cells.size = size := by have := hcl.len; rw [c1] at this; simpa using this
        have hl2 : arr.size = cells.length := by have := h2.len; simpa using this
        have hfit : off + u.cells.toList.length ≤ arr.size := by simp only [Array.length_toList]; omega
        have hov : u.cells.zipIdx.foldl (fun cs (c, j) => cs.setIfInBounds (off + j) c) arr = over arr off u.cells.toList := by
          have := foldl_over u.cells.toList arr off 0 (by simpa using hfit)
          rw [Nat.add_zero] at this
          rw [← this]
          rw [← Array.foldl_toList]
          simp
        have hput : VRs S ρ (putL cells off v.cells) (over arr off u.cells.toList).toList := by
          rw [over_toList _ _ _ hfit]
          exact h2.put hcl off
        obtain ⟨arr', g1, g2, g3, g4⟩ := fill_ok hpl' e q2 hput (by
          rw [over_toList _ _ _ hfit]
          intro z hz
          simp only [List.mem_append] at hz
          rcases hz with (hz | hz) | hz
          · exact h3 z (List.mem_of_mem_take hz)
          · exact hone z hz
          · exact h3 z (List.mem_of_mem_drop hz))
        refine ⟨arr', ?_, g2, g3, by rw [g4]; simp⟩
        simp only [List.map_cons, List.zip_cons_cons, Instr.fill, hpl' _ _ hpl]
        rw [if_neg (by simp only [Bool.or_eq_true, decide_eq_true_eq, not_or]; omega), hov]
        exact g1

theorem zip_parts (ps : List (Nat × Operand)) : (ps.map (·.1)).zip (ps.map fun p => a.eval p.2) = ps.map fun p => (p.1, a.eval p.2) := by
  induction ps with
  | nil => rfl
  | cons p ps ih => simp [ih]

theorem fields_mapM (w : World) : ∀ (l : List Field) (acc : Array (Nat × Nat)), (∀ f ∈ l, ∃ j, P.info? f.type = some j) →
    (l.foldlM (fun bs f => bs.push <$> (do pure (f.offset, ← Go.sizeOf f.type) : Sem (Nat × Nat))) acc).run P w = .ok (acc ++ (l.map fun f => (f.offset, P.cellsOf f.type)).toArray) w
  | [], acc, _ => by simp
  | f :: l, acc, h => by
    obtain ⟨j, hj⟩ := h f (by simp)
    rw [List.foldlM_cons, Sem.run_bind]
    have : (acc.push <$> (do pure (f.offset, ← Go.sizeOf f.type) : Sem (Nat × Nat))).run P w = .ok (acc.push (f.offset, P.cellsOf f.type)) w := by
      rw [map_eq_pure_bind, Sem.run_bind, Sem.run_bind]
      simp [Go.sizeOf, typeInfo, hj, Program.cellsOf]
    rw [this, Result.andThen_ok, fields_mapM w l _ (fun g hg => h g (by simp [hg]))]
    simp

end
end Go.Ex

namespace Go.Ex
open Go.Own (A Still cellAt Rep Reps Lies)

section
variable {P : Program} {tt : ET} {C : Ctx} {N n hi : Nat} {ρ : Pl} {st : St} {a : Act} {w : World} {Ds : List Nat} {o : Oper}

theorem size_cellsOf (hT : ETok P tt) {t : Nat} {i : EI} (h : tt t = some i) : P.cellsOf t = i.size := by
  obtain ⟨f, f1, f2, _⟩ := (hT _ _ h).info
  simp [Program.cellsOf, f1, f2]

theorem build_ok (hT : ETok P tt) (h : Sim C N ρ st a w Ds) {hi t : Nat} {ps : Array (Nat × Operand)} {qs : List (Nat × V)} {R : List Key} {U : Ups} (e : parts ps.toList st = some (qs, R, U)) {v : V} (hv : buildV tt t qs = some v) (ho : o.op = .build t ps) :
    U = [] ∧ Res P C N n hi o ρ a w Ds v st := by
  obtain ⟨rfl, q1, q2⟩ := parts_ok h e
  refine ⟨rfl, ?_⟩
  have hparts : (ps.map fun (i, x) => (i, a.eval x)).toList = (qs.map (·.1)).zip (ps.toList.map fun p => a.eval p.2) := by
    rw [q1, zip_parts]; simp
  unfold buildV at hv
  split at hv
  · rename_i i ht
    split at hv
    · rename_i z hz
      obtain ⟨zv, z1, z2, z3, z4, z5⟩ := zero_some (w := w) hT ht hz
      split at hv
      · rename_i fs hk
        obtain ⟨cs', hf, rfl⟩ := Option.map_eq_some_iff.1 hv
        obtain ⟨fields, g1, g2, g3⟩ : EKindOk P t (.struct fs) := by rw [← hk]; exact (hT _ _ ht).kind
        have hm := fields_mapM (P := P) w fields.toList #[] g3
        have hplaces : (fields.mapM fun f => do pure (f.offset, ← Go.sizeOf f.type) : Sem (Array (Nat × Nat))).run P w = .ok (fields.toList.map fun f => (f.offset, P.cellsOf f.type)).toArray w := by
          rw [Array.mapM_eq_foldlM]
          rw [← Array.foldlM_toList]
          rw [hm]; simp
        obtain ⟨arr', f1, f2, f3, f4⟩ := fill_ok (S := C.S) (pl' := fun j => (fields.toList.map fun f => (f.offset, P.cellsOf f.type)).toArray[j]?) (arr := zv.cells) (by
          intro j x hx
          obtain ⟨off, sz⟩ := x
          obtain ⟨ft, jj, d1, d2, d3⟩ := offOf_some hT hx
          rw [← g2, List.getElem?_map] at d1
          obtain ⟨f, d4, d5⟩ := Option.map_eq_some_iff.1 d1
          cases d5
          simp only [List.getElem?_toArray, List.getElem?_map, d4, Option.map_some, size_cellsOf hT d2, d3]) hf q2 (by rw [z2]; exact VRs.lits z) (by rw [z2]; exact z3)
        refine Res.here h (cv := .agg arr') ?_ ?_
        · simp only [execOp, ho, Instr.build, Sem.run_bind, z1, Result.andThen_ok, run_underlying g1, hplaces, hparts, f1, Sem.run_pure]
        · simp only [VR]; exact ⟨arr'.toList, f2, by simp⟩
      · rename_i m el hk
        split at hv
        · rename_i ie hie
          obtain ⟨cs', hf, rfl⟩ := Option.map_eq_some_iff.1 hv
          have hkk : P.underlying t = some (.array m el) := by
            have : EKindOk P t (.array m el) := by rw [← hk]; exact (hT _ _ ht).kind
            exact this
          obtain ⟨arr', f1, f2, f3, f4⟩ := fill_ok (S := C.S) (fun _ _ hx => hx) (arr := zv.cells) hf q2 (by rw [z2]; exact VRs.lits z) (by rw [z2]; exact z3)
          refine Res.here h (cv := .agg arr') ?_ ?_
          · simp only [execOp, ho, Instr.build, Sem.run_bind, z1, Result.andThen_ok, run_underlying hkk, run_sizeOf hT hie, hparts, f1, Sem.run_pure]
          · simp only [VR]; exact ⟨arr'.toList, f2, by simp⟩
        · cases hv
      · cases hv
    · cases hv
  · cases hv

theorem buildSlice_ok (hT : ETok P tt) (h : Sim C N ρ st a w Ds) (hn : ρ n = none) {t len : Nat} {ps : Array (Nat × Operand)} {qs : List (Nat × V)} {R1 : List Key} {U1 : Ups} (e1 : parts ps.toList st = some (qs, R1, U1)) {v : V} {R : List Key} {U : Ups}
    (e : buildSliceV tt n t len qs st = some (v, R, U)) (ho : o.op = .buildSlice t len ps) : U1 = [] ∧ Res P C N n (n + 1) o ρ a w Ds v (applyU U st) := by
  obtain ⟨rfl, q1, q2⟩ := parts_ok h e1
  refine ⟨rfl, ?_⟩
  have hparts : (ps.map fun (i, x) => (i, a.eval x)).toList = (qs.map (·.1)).zip (ps.toList.map fun p => a.eval p.2) := by
    rw [q1, zip_parts]; simp
  unfold buildSliceV at e
  obtain ⟨⟨el, i⟩, R1, U1, R2, U2, g1, g2, rfl, rfl⟩ := bind_some e
  obtain ⟨hsl, rfl, rfl⟩ := ofO_some g1
  obtain ⟨z, R3, U3, R4, U4, g3, g4, rfl, rfl⟩ := bind_some g2
  obtain ⟨hz, rfl, rfl⟩ := ofO_some g3
  simp only [applyU, List.nil_append] at g4 ⊢
  obtain ⟨hel, hi⟩ := slElem_some hT hsl
  split at g4
  · rename_i hlim
    obtain ⟨cs', R5, U5, R6, U6, g5, g6, rfl, rfl⟩ := bind_some g4
    obtain ⟨hf, rfl, rfl⟩ := ofO_some g5
    simp only [applyU, List.nil_append] at g6 ⊢
    obtain ⟨u7, R7, U7, R8, U8, g7, g8, rfl, rfl⟩ := bind_some g6
    obtain ⟨rfl, rfl, rfl⟩ := pure_some g8
    simp only [List.append_nil]
    obtain ⟨zv, z1, z2, z3, z4, z5⟩ := zero_some (w := w) hT hi hz
    have hzs : zv.cells.size = i.size := by rw [← z4, ← z2]; simp
    let arr : Array Value := (List.replicate len z).flatten.toArray
    obtain ⟨arr', f1, f2, f3, f4⟩ := fill_ok (S := C.S) (fun _ _ hx => hx) (arr := arr) hf q2 (VRs.flat (VRs.lits z) len) (flat_one z3 len)
    have hnew := new_ok h hn f2 f3 true arr' (List.take_of_length_le (Nat.le_refl _)) (by intro _; simp) el g7
    refine ⟨_, _, .slice (some ⟨w.heap.size, 0, none⟩) len len, ?_, Ext.set _ hn (Nat.lt_succ_self _), hnew, ?_⟩
    · have hl : ¬ (len * i.size > 2 ^ 24) := by unfold lim at hlim; omega
      have harr : ∀ zc : Array Value, zc.toList = z → (Array.range (len * i.size)).map (zc[· % zc.size]!) = arr := by
        intro zc hzc
        have : zc = zv.cells := by rw [← Array.toArray_toList (xs := zc), hzc, ← z2]
        subst this
        show madeCells zv.cells (len * i.size) = arr
        rw [← hzs, made_eq, z2]
      by_cases h0 : len * i.size = 0
      · have : (Array.range (len * i.size)).map ((#[] : Array Value)[· % (#[] : Array Value).size]!) = arr := by
          rw [h0]
          have : arr.size = 0 := by
            have : arr = madeCells zv.cells (len * i.size) := by rw [← hzs, made_eq, z2]
            rw [this, size_madeCells, h0]
          apply Array.ext_getElem?
          intro k
          rw [Array.getElem?_eq_none (by simp), Array.getElem?_eq_none (by omega)]
        simp only [execOp, ho, Instr.buildSlice, Sem.run_bind, run_underlying hel, Result.andThen_ok, run_sizeOf hT hi, h0, if_true, Sem.run_pure, hparts, gt_iff_lt, Nat.not_lt_zero, if_false]
        rw [h0] at this
        simp only [this, f1, newRow, Sem.run_bind, run_newObj_alloc, Result.andThen_ok, Sem.run_pure]
      · simp only [execOp, ho, Instr.buildSlice, Sem.run_bind, run_underlying hel, Result.andThen_ok, run_sizeOf hT hi, hl, if_false, h0, z1, Sem.run_pure, hparts, harr zv.cells z2, f1, newRow, run_newObj_alloc]
    · simp only [VR]
      exact ⟨_, 0, len, setP_same _ _ _, rfl, Nat.le_refl _, fun _ => rfl, rfl⟩
  · exact (efail_some g4).elim

/-! ### append -/

theorem run_append_zero {t ty e : TypeId} {i : TypeInfo} (ht : P.underlying t = some (.slice e)) (hi : P.info? e = some i) (p q : Option Addr) (n c m : Nat) (hn : n ≤ c) (w : World) :
    (Builtin.append_ #[t, t] ty #[.slice p n c, .slice q 0 m]).run P w = .ok (.slice p n c) w := by
  cases p <;> cases q <;> simp [Builtin.append_, run_underlying ht, Go.sizeOf, typeInfo, hi, Builtin.lenOf, hn, Builtin.firstCells, loadCells, loadCellsFrom, storeCells]

theorem run_append_room {t ty e bty : TypeId} {i : TypeInfo} (ht : P.underlying t = some (.slice e)) (hi : P.info? e = some i) (w : World)
    (g q n c : Nat) (cur : Array Value) (hg : w.heap[g]? = some (.cells cur bty (0, 0)))
    (a : Addr) (m d : Nat) (news : List Value) (hl : news.length = m * i.size) (hnews : ∀ j u, news[j]? = some u → w.cell? (a.add j) = some u) (h1 : ∀ u ∈ news, u.oneCell' = true)
    (hroom : n + m ≤ c) (hfit : q + n * i.size + news.length ≤ cur.size) :
    (Builtin.append_ #[t, t] ty #[.slice (some ⟨g, q, none⟩) n c, .slice (some a) m d]).run P w = .ok (.slice (some ⟨g, q, none⟩) (n + m) c) (w.setRow g (over cur (q + n * i.size) news)) := by
  have hf := run_firstCells_some (P := P) w i.size m a m d news hl hnews
  have hst := run_storeCells_at P g (q + n * i.size) bty news 0 cur w hg (by simpa using hfit) h1
  simp only [Nat.add_zero] at hst
  rw [setRow_take_over hfit] at hst
  simp [Builtin.append_, run_underlying ht, Go.sizeOf, typeInfo, hi, Builtin.lenOf, hroom, hf, Addr.add_lit, hst]

theorem size_zeroCells' (z : Array Value) (k : Nat) : (Builtin.zeroCells z k).size = k * z.size := by simp [Builtin.zeroCells]

/-- The source of an append: so many elements, their cells in memory. -/
def Src (C : Ctx) (ρ : Pl) (w : World) (z m : Nat) (ys : List V) (u : Value) : Prop :=
  ∃ p d cs, u = .slice p m d ∧ VRs C.S ρ ys cs ∧ cs.length = m * z ∧ (∀ v ∈ cs, v.oneCell' = true) ∧ (m = 0 ∨ ∃ ad, p = some ad ∧ ∀ (j : Nat) (v : Value), cs[j]? = some v → w.cell? (ad.add j) = some v)

theorem reps_one {S : Still} : ∀ {as : List A} {cs : List Value}, Reps S as cs → ∀ u ∈ cs, u.oneCell' = true := fun h => h.one

theorem elems_ok (h : Sim C N ρ st a w Ds) {z m : Nat} {x : V} {ys : List V} {R : List Key} {U : Ups} (e : elems z x st = some ((m, ys), R, U)) {u : Value} (hx : VR C.S ρ x u) : U = [] ∧ Src C ρ w z m ys u := by
  unfold elems at e
  split at e
  · obtain ⟨q, rfl, rfl⟩ := pure_some e
    cases q
    simp only [VR] at hx
    subst hx
    exact ⟨rfl, none, 0, [], rfl, by simp [VRs], by simp, by simp, .inl rfl⟩
  · rename_i b q z' ll c
    obtain ⟨k, R1, U1, R2, U2, g1, g2, rfl, rfl⟩ := bind_some e
    obtain ⟨rfl, hk⟩ := rdB_some g1
    simp only [applyU] at g2
    split at g2
    · rename_i hc
      obtain ⟨q', rfl, rfl⟩ := pure_some g2
      cases q'
      obtain ⟨rfl, hfit⟩ := hc
      simp only [VR] at hx
      obtain ⟨p, o', c', hp, rfl, h1, h2, h3⟩ := hx
      obtain ⟨cs, c1, c2, c3, c4⟩ := blk_part h.h hk hp q (m * z') hfit
      refine ⟨rfl, some ⟨p.B, o', none⟩, c', cs, rfl, c1, c2, c3, ?_⟩
      by_cases hl : m = 0
      · exact .inl hl
      · have ho := h2 (by omega)
        subst ho
        refine .inr ⟨_, rfl, ?_⟩
        intro j v hj
        rw [Addr.add_lit, cell?_eq]
        exact c4 j v hj
    · exact (efail_some g2).elim
  · rename_i z' tg xs
    obtain ⟨cs, R1, U1, R2, U2, g1, g2, rfl, rfl⟩ := bind_some e
    obtain ⟨hcs, rfl, rfl⟩ := ofO_some g1
    simp only [applyU] at g2
    split at g2
    · rename_i hc
      obtain ⟨q', rfl, rfl⟩ := pure_some g2
      cases q'
      obtain ⟨rfl, hlen⟩ := hc
      simp only [VR, Rep] at hx
      obtain ⟨p, c, hl, q1, q2, q3, q4⟩ := hx
      simp only [List.cons.injEq, and_true] at hl
      subst hl
      rcases q4 with rfl | ⟨b, q, l, rfl, r1, r2⟩
      · simp only [cellsAs, Option.some.injEq] at hcs; subst hcs
        exact ⟨rfl, p, c, [], rfl, by simp [VRs], by simp, by simp, .inl rfl⟩
      · have hv := cellsAs_ok (ρ := ρ) hcs r1
        refine ⟨rfl, _, c, l, rfl, hv, by rw [hv.len, hlen], reps_one r1, .inr ⟨_, rfl, ?_⟩⟩
        intro j v hj
        rw [Addr.add_lit, cell?_eq]
        exact h.h.still _ _ _ (r2 j v hj)
    · exact (efail_some g2).elim
  · exact (efail_some e).elim

/-- A row that an append has made. -/
theorem grown_ok (h : Sim C N ρ st a w Ds) (hn : ρ n = none) {z m cap : Nat} {xs : List V} {cs : List Value} (hr : VRs C.S ρ xs cs) (h1 : ∀ u ∈ cs, u.oneCell' = true) (hl : cs.length = m * z) (hcap : m ≤ cap) (zs : Array Value) (hz : zs.size = z) (ty : TypeId)
    {v : V} {R : List Key} {U : Ups} (e : grow n z m xs st = some (v, R, U)) :
    ∃ ρ', Ext n (n + 1) ρ ρ' ∧ Sim C N ρ' (applyU U st) a (w.drew.alloc (.cells (cs.toArray ++ Builtin.zeroCells zs (cap - m)) ty)) Ds ∧ VR C.S ρ' v (.slice (some ⟨w.heap.size, 0, none⟩) m cap) := by
  unfold grow at e
  obtain ⟨u7, R7, U7, R8, U8, g7, g8, rfl, rfl⟩ := bind_some e
  obtain ⟨rfl, rfl, rfl⟩ := pure_some g8
  simp only [List.append_nil]
  have hsz : (cs.toArray ++ Builtin.zeroCells zs (cap - m)).size = cap * z := by
    simp only [Array.size_append, List.size_toArray, size_zeroCells', hz, hl, ← Nat.add_mul]
    congr 1; omega
  have hnew := new_ok h.drew hn hr h1 false (cs.toArray ++ Builtin.zeroCells zs (cap - m)) (by
    rw [Array.toList_append]; exact List.take_left) (by simp) ty g7
  refine ⟨_, Ext.set _ hn (Nat.lt_succ_self _), hnew, ?_⟩
  simp only [VR]
  refine ⟨_, 0, cap, setP_same _ _ _, rfl, hcap, fun _ => rfl, ?_⟩
  simp only [Nat.zero_add, Nat.add_zero]
  exact hsz.symm

theorem roomV_ok {c : Option Nat} {q c' : Nat} (h : roomV c q = true) (hc : match c with | some k => c' = k | none => True) : c ≠ none → q ≤ c' := by
  intro hne
  cases c with
  | none => exact absurd rfl hne
  | some r => simp only [roomV, decide_eq_true_eq] at h; simp only at hc; omega

theorem putL_end (l xs : List V) {q : Nat} (h : l.length = q) : putL l q xs = l ++ xs := by subst h; simp [putL]

theorem append_ok (hT : ETok P tt) (h : Sim C N ρ st a w Ds) (hn : ρ n = none) {t : Nat} {s x : Operand} {sv xv v : V} {R : List Key} {U : Ups} (e : appendV tt n t sv xv st = some (v, R, U)) (hs : VR C.S ρ sv (a.eval s)) (hx : VR C.S ρ xv (a.eval x))
    (ho : o.op = .call { callee := .builtin .append, args := #[s, x], argTypes := #[t, t] }) : Res P C N n (n + 1) o ρ a w Ds v (applyU U st) := by
  unfold appendV at e
  obtain ⟨⟨el, i⟩, R1, U1, R2, U2, g1, g2, rfl, rfl⟩ := bind_some e
  obtain ⟨hsl, rfl, rfl⟩ := ofO_some g1
  simp only [applyU, List.nil_append] at g2 ⊢
  obtain ⟨hel, hi⟩ := slElem_some hT hsl
  obtain ⟨f, f1, f2, f3, f4⟩ := (hT _ _ hi).info
  split at g2
  · rename_i hcond
    obtain ⟨cb, csz, czs⟩ := hcond
    obtain ⟨z, hz⟩ := Option.isSome_iff_exists.1 czs
    obtain ⟨zv, v1, v2, v3, v4, v5⟩ := f4 z hz
    have hzs : zv.cells.size = i.size := by rw [← v4, ← v2]; simp
    obtain ⟨⟨m, ys⟩, R3, U3, R4, U4, g3, g4, rfl, rfl⟩ := bind_some g2
    obtain ⟨rfl, p, d, cs, exv, y1, y2, y3, y4⟩ := elems_ok h g3 hx
    simp only [applyU, List.nil_append] at g4 ⊢
    have fin : ∀ {w' : World} {cv : Value}, (Builtin.append_ #[t, t] o.type #[a.eval s, a.eval x]).run P w = .ok cv w' → (execOp a.eval o).run P w = .ok (.value cv) w' := by
      intro w' cv hr
      simp [execOp, ho, resolve, invoke, builtin, hr]
    have lit : ∀ q, q ≤ lim → q ≤ 16777216 := fun q hq => hq
    have bytes : ∀ q, q ≤ lim → q * f.bytes ≤ 140737488355328 := by
      intro q hq
      have : q * f.bytes ≤ 16777216 * 4096 := Nat.mul_le_mul (lit q hq) (by omega)
      omega
    split at g4
    · -- onto nil
      simp only [VR] at hs
      by_cases hm : m = 0
      · subst hm
        simp only [if_true] at g4
        obtain ⟨rfl, rfl, rfl⟩ := pure_some g4
        refine Res.here h (fin ?_) (vlit _)
        rw [exv, hs]
        exact run_append_zero hel f1 none p 0 0 d (Nat.le_refl _) w
      · rw [if_neg hm] at g4
        split at g4
        · rename_i hlim
          rcases y4 with y4 | ⟨ad, rfl, y4⟩
          · exact absurd y4 hm
          · have hr := run_append_nil (P := P) w t o.type el f zv hel f1 v1 ad m d cs (by rw [f2]; exact y2) y4 (by omega) (by have := lit m hlim; omega) (by have := bytes m hlim; omega)
            obtain ⟨ρ', k1, k2, k3⟩ := grown_ok h hn y1 y3 y2 (grownCap_ge w m 0 el) zv.cells hzs el g4
            exact ⟨ρ', _, _, fin (by rw [exv, hs]; exact hr), k1, k2, k3⟩
        · exact (efail_some g4).elim
    · -- onto still data
      rename_i z' xs
      obtain ⟨cx, R5, U5, R6, U6, g5, g6, rfl, rfl⟩ := bind_some g4
      obtain ⟨hcx, rfl, rfl⟩ := ofO_some g5
      simp only [applyU, List.nil_append] at g6 ⊢
      split at g6
      · rename_i hc
        obtain ⟨rfl, hm, hlim⟩ := hc
        simp only [VR, Rep] at hs
        obtain ⟨pp, c, hl, q1, q2, q3, q4⟩ := hs
        simp only [List.cons.injEq, and_true] at hl
        have hcc := q1 trivial
        subst hcc
        rcases y4 with y4 | ⟨ad, rfl, y4⟩
        · exact absurd y4 hm
        · rcases q4 with rfl | ⟨b, q, l, rfl, r1, r2⟩
          · simp only [cellsAs, Option.some.injEq] at hcx; subst hcx
            simp only [List.length_nil, Nat.zero_add, List.nil_append] at g6 hlim hl
            cases pp with
            | none =>
              have hr := run_append_nil (P := P) w t o.type el f zv hel f1 v1 ad m d cs (by rw [f2]; exact y2) y4 (by omega) (by have := lit m hlim; omega) (by have := bytes m hlim; omega)
              obtain ⟨ρ', k1, k2, k3⟩ := grown_ok h hn y1 y3 y2 (grownCap_ge w m 0 el) zv.cells hzs el g6
              exact ⟨ρ', _, _, fin (by rw [exv, hl]; exact hr), k1, k2, k3⟩
            | some pa =>
              have hr := run_append_grow (P := P) w t o.type el f zv hel f1 v1 pa 0 0 [] (by simp) (by simp) ad m d cs (by rw [f2]; exact y2) y4 (by omega) (by have := lit m hlim; omega) (growslice_fits (by omega) (by have := bytes m hlim; simpa using this))
              simp only [Nat.zero_add] at hr
              obtain ⟨ρ', k1, k2, k3⟩ := grown_ok h hn y1 y3 y2 (grownCap_ge w m 0 el) zv.cells hzs el g6
              exact ⟨ρ', _, _, fin (by rw [exv, hl]; simpa using hr), k1, k2, k3⟩
          · have hv := cellsAs_ok (ρ := ρ) hcx r1
            have hll : l.length = xs.length * i.size := by rw [r1.len, A.sizes_const q3]
            have hr := run_append_grow (P := P) w t o.type el f zv hel f1 v1 ⟨b, q, none⟩ xs.length xs.length l (by rw [f2]; exact hll) (fun j u hj => by rw [Addr.add_lit, cell?_eq]; exact h.h.still _ _ _ (r2 j u hj)) ad m d cs (by rw [f2]; exact y2) y4 (by omega) (by have := lit _ hlim; omega) (growslice_fits (by omega) (bytes _ hlim))
            obtain ⟨ρ', k1, k2, k3⟩ := grown_ok h hn (hv.append y1) (by intro u hu; rcases List.mem_append.1 hu with hu | hu; exact reps_one r1 u hu; exact y3 u hu) (by rw [List.length_append, hll, y2, Nat.add_mul]) (grownCap_ge w (xs.length + m) xs.length el) zv.cells hzs el g6
            refine ⟨ρ', _, _, fin (by rw [exv, hl]; exact hr), k1, ?_, k3⟩
            simpa using k2
      · exact (efail_some g6).elim
    · -- onto a slice of the call's own
      rename_i b q z' l c
      simp only [VR] at hs
      obtain ⟨pl, o', c', hpl, es, s1, s2, s3⟩ := hs
      by_cases hm : m = 0
      · subst hm
        simp only [if_true] at g4
        obtain ⟨rfl, rfl, rfl⟩ := pure_some g4
        refine Res.here h (fin ?_) (by simp only [VR]; exact ⟨pl, o', c', hpl, es, s1, s2, s3⟩)
        rw [exv, es]
        exact run_append_zero hel f1 _ p l c' d s1 w
      · rw [if_neg hm] at g4
        rcases y4 with y4 | ⟨ad, rfl, y4⟩
        · exact absurd y4 hm
        split at g4
        · rename_i hc
          obtain ⟨rfl, hlim⟩ := hc
          unfold appendSl at g4
          obtain ⟨k, R5, U5, R6, U6, g5, g6, rfl, rfl⟩ := bind_some g4
          obtain ⟨rfl, hk⟩ := rdB_some g5
          simp only [applyU, List.nil_append] at g6 ⊢
          obtain ⟨p', arr, ty, t1, t2, t3, t4, t5, t6⟩ := blk_get (h := h.h) hk
          rw [hpl] at t1; cases t1
          have hlm : (l + m) * i.size = l * i.size + m * i.size := Nat.add_mul _ _ _
          have hmpos : 0 < m * i.size := Nat.mul_pos (by omega) csz
          split at g6
          · -- there is room
            rename_i hroom
            obtain ⟨hr1, hr2⟩ := hroom
            obtain ⟨u7, R7, U7, R8, U8, g7, g8, rfl, rfl⟩ := bind_some g6
            obtain ⟨rfl, rfl, rfl⟩ := pure_some g8
            simp only [List.append_nil]
            have hle : l + m ≤ c' := by
              cases c with
              | some r =>
                simp only at s3
                subst s3
                simpa [roomV] using hr2
              | none =>
                simp only at s3
                have h1 : (l + m) * i.size ≤ c' * i.size := by omega
                exact Nat.le_of_mul_le_mul_right h1 csz
            have ho' := s2 (by omega)
            subst ho'
            obtain ⟨p', arr', ty', d1, d2, d3, d4⟩ := putB_ok h g7 y1 y3
            rw [hpl] at d1; cases d1
            have hrun := run_append_room (ty := o.type) hel f1 w pl.B (pl.O + q) l c' arr' d2 ad m d cs (by rw [f2]; exact y2) y4 y3 hle (by rw [f2]; omega)
            refine ⟨ρ, _, _, fin (by rw [exv, es]; exact hrun), Ext.refl _ _ _, ?_, ?_⟩
            · rw [f2, Nat.add_assoc pl.O q (l * i.size)]; exact d4
            · simp only [VR]; exact ⟨pl, _, c', hpl, rfl, hle, fun _ => rfl, s3⟩
          · split at g6
            · -- there is none
              rename_i hfull
              obtain ⟨hr1, hr2⟩ := hfull
              cases c with
              | none => simp [fullV] at hr2
              | some r =>
                simp only at s3
                subst s3
                have hlt : c' < l + m := by simpa [fullV] using hr2
                obtain ⟨olds, c1, c2, c3, c4⟩ := blk_part h.h hk hpl q (l * i.size) hr1
                have hr := run_append_grow (P := P) w t o.type el f zv hel f1 v1 ⟨pl.B, o', none⟩ l c' olds (by rw [f2]; exact c2) (fun j u hj => by
                  have hlp : l ≠ 0 := by
                    rintro rfl
                    have := (List.getElem?_eq_some_iff.1 hj).1
                    rw [c2] at this; simp at this
                  have ho' := s2 (by omega)
                  subst ho'
                  rw [Addr.add_lit, cell?_eq]; exact c4 j u hj) ad m d cs (by rw [f2]; exact y2) y4 hlt (by have := lit _ hlim; omega) (growslice_fits hlt (bytes _ hlim))
                obtain ⟨ρ', k1, k2, k3⟩ := grown_ok h hn (c1.append y1) (by intro u hu; rcases List.mem_append.1 hu with hu | hu; exact c3 u hu; exact y3 u hu) (by rw [List.length_append, c2, y2, Nat.add_mul]) (grownCap_ge w (l + m) c' el) zv.cells hzs el g6
                refine ⟨ρ', _, _, fin (by rw [exv, es]; exact hr), k1, ?_, k3⟩
                simpa using k2
            · split at g6
              · -- not known
                rename_i hmove
                obtain ⟨hr1, rfl, hex⟩ := hmove
                simp only at s3
                unfold moveV at g6
                obtain ⟨fl, R7, U7, R8, U8, g7, g8, rfl, rfl⟩ := bind_some g6
                have hfn : k.fam ≤ n := by
                  rcases Nat.lt_or_ge n k.fam with h1 | h1
                  · rw [if_neg (by omega)] at g7; exact (efail_some g7).elim
                  · exact h1
                rw [if_pos hfn] at g7
                obtain ⟨rfl, hfl⟩ := rdF_some g7
                obtain ⟨u8, R8', U8', R8'', U8'', g8', g80, rfl, rfl⟩ := bind_some g8
                have htop : fl.top ≤ n + 1 := by
                  rcases Nat.lt_or_ge (n + 1) fl.top with h1 | h1
                  · rw [if_neg (by omega)] at g8'; exact (efail_some g8').elim
                  · exact h1
                rw [if_pos htop] at g8'
                obtain ⟨_, rfl, rfl⟩ := pure_some g8'
                simp only [applyU, List.nil_append] at g80 ⊢
                obtain ⟨u9, R9, U9, R10, U10, g9, g10, rfl, rfl⟩ := bind_some g80
                obtain ⟨rfl, rfl⟩ := wrX_some g9
                obtain ⟨u11, R11, U11, R12, U12, g11, g12, rfl, rfl⟩ := bind_some g10
                obtain ⟨rfl, rfl⟩ := wrX_some g11
                obtain ⟨u13, R13, U13, R14, U14, g13, g14, rfl, rfl⟩ := bind_some g12
                obtain ⟨u15, R15, U15, R16, U16, g15, g16, rfl, rfl⟩ := bind_some g14
                obtain ⟨rfl, rfl⟩ := wrX_some g15
                obtain ⟨rfl, rfl, rfl⟩ := pure_some g16
                simp only [List.append_nil, List.cons_append, List.nil_append, applyU, applyU_append] at g13 ⊢
                obtain ⟨tk1, tk2, tk3⟩ := touch_ok n _ _ _ fl.l g13
                have hbn : b ≠ n := by rintro rfl; rw [hn] at hpl; cases hpl
                obtain ⟨n0, hn0⟩ : ∃ n0 : Blk, n0 = ⟨(k.cells.drop q).take (l * i.size), false, k.fam, k.foff + q⟩ := ⟨_, rfl⟩
                have hlen0 : n0.cells.length = l * i.size := by
                  rw [hn0]; simp only [List.length_take, List.length_drop]; omega
                obtain ⟨st1, hst1⟩ : ∃ st1 : St, st1 = upd (upd st (.b n) (.k ⟨(k.cells.drop q).take (l * i.size), false, k.fam, k.foff + q⟩)) (.f k.fam) (.m ⟨n + 1, n :: fl.l⟩) := ⟨_, rfl⟩
                rw [← hst1] at g13 tk1 tk2 tk3 ⊢
                have hb1 : ∀ j, st1 (.b j) = if j = n then .k n0 else st (.b j) := by
                  intro j
                  rw [hst1, upd_ne _ _ (by simp), hn0]
                  by_cases e : j = n
                  · subst e; simp [upd_same]
                  · rw [upd_ne _ _ (by simpa using e)]; simp [e]
                have hf1 : ∀ j, st1 (.f j) = if j = k.fam then .m ⟨n + 1, n :: fl.l⟩ else st (.f j) := by
                  intro j
                  rw [hst1]
                  by_cases e : j = k.fam
                  · subst e; simp [upd_same]
                  · rw [upd_ne _ _ (by simpa using e), upd_ne _ _ (by simp)]; simp [e]
                have hs1 : ∀ j, st1 (.s j) = st (.s j) := by
                  intro j
                  rw [hst1, upd_ne _ _ (by simp), upd_ne _ _ (by simp)]
                have hall : (⟨(k.cells.drop q).take (l * i.size) ++ ys, false, k.fam, k.foff + q⟩ : Blk) = { n0 with cells := putL n0.cells (l * i.size) ys } := by
                  rw [hn0]
                  have : ((k.cells.drop q).take (l * i.size)).length = l * i.size := by simp only [List.length_take, List.length_drop]; omega
                  simp only [Blk.mk.injEq, and_true]
                  exact (putL_end _ _ this).symm
                rw [hall]
                by_cases hcap : l + m ≤ c'
                · -- in place
                  have ho' := s2 (by omega)
                  subst ho'
                  have hfit : pl.O + q + (l + m) * i.size ≤ arr.size := by
                    have : (l + m) * i.size ≤ c' * i.size := Nat.mul_le_mul_right _ hcap
                    omega
                  have hal := h.alias hn hk hpl hfl hfn htop q (l * i.size) hr1
                  rw [← hst1] at hal
                  have hs2 := hal.weak tk1
                  have hstore := hs2.store (b := n) (k := n0) (p := ⟨pl.B, pl.O + q, pl.Z⟩) (by rw [tk2, hb1]; simp) (setP_same _ _ _) (arr := arr) (ty := ty) t2 (o := l * i.size) (xs := ys) (cs := cs) (by omega) (by show pl.O + q + l * i.size + cs.length ≤ _; omega) (by rw [hn0]; simp) (y1.mono (setP_le _ hn)) y3 (by
                    intro mm km hmn hkm hf i' x' hx' e1 e2
                    obtain ⟨km0, j1, j2⟩ := tk1.blk hkm
                    rw [hb1] at j1
                    simp only [hmn, if_false] at j1
                    obtain ⟨_, l', j3, j4⟩ := h.h.fam mm km0 j1
                    have hfam : km.fam = k.fam := by rw [hf, hn0]
                    rw [← j2.1, hfam, hfl] at j3
                    cases j3
                    have hfo : n0.foff = k.foff + q := by rw [hn0]
                    rw [hfo] at e1 e2
                    exact tk3 mm j4.1 hmn km hkm hfam i' x' hx' e1 e2)
                  have hrun := run_append_room (ty := o.type) hel f1 w pl.B (pl.O + q) l c' arr t2 ad m d cs (by rw [f2]; exact y2) y4 y3 hcap (by rw [f2]; omega)
                  refine ⟨setP ρ n ⟨pl.B, pl.O + q, pl.Z⟩, _, _, fin (by rw [exv, es]; exact hrun), Ext.set _ hn (Nat.lt_succ_self _), ?_, ?_⟩
                  · rw [f2]; exact hstore
                  · simp only [VR]
                    exact ⟨_, pl.O + q, c', setP_same _ _ _, rfl, hcap, fun _ => rfl, by simp only [Nat.add_zero]; exact s3⟩
                · -- in a new row
                  have hlt : c' < l + m := by omega
                  obtain ⟨olds, c1, c2, c3, c4⟩ := blk_part h.h hk hpl q (l * i.size) hr1
                  have hr := run_append_grow (P := P) w t o.type el f zv hel f1 v1 ⟨pl.B, o', none⟩ l c' olds (by rw [f2]; exact c2) (fun j u hj => by
                    have hlp : l ≠ 0 := by
                      rintro rfl
                      have := (List.getElem?_eq_some_iff.1 hj).1
                      rw [c2] at this; simp at this
                    have ho' := s2 (by omega)
                    subst ho'
                    rw [Addr.add_lit, cell?_eq]; exact c4 j u hj) ad m d cs (by rw [f2]; exact y2) y4 hlt (by have := lit _ hlim; omega) (growslice_fits hlt (bytes _ hlim))
                  have hge := grownCap_ge w (l + m) c' el
                  obtain ⟨cap, hcapd⟩ : ∃ cap, cap = grownCap w (l + m) c' el := ⟨_, rfl⟩
                  rw [← hcapd] at hr hge
                  obtain ⟨row, hrow⟩ : ∃ row : Array Value, row = olds.toArray ++ cs.toArray ++ Builtin.zeroCells zv.cells (cap - (l + m)) := ⟨_, rfl⟩
                  rw [← hrow] at hr
                  have hrsz : row.size = cap * i.size := by
                    rw [hrow]
                    simp only [Array.size_append, List.size_toArray, size_zeroCells', hzs, c2, y2, ← Nat.add_mul]
                    congr 1; omega
                  obtain ⟨stW, hstW⟩ : ∃ stW : St, stW = fun key => match key with | .b j => if j = n then st (.b n) else (applyU U13 st1) (.b j) | key => st key := ⟨_, rfl⟩
                  have hwk : Weak st stW := by
                    rw [hstW]
                    refine ⟨fun _ => rfl, fun _ => rfl, fun j => ?_⟩
                    by_cases e : j = n
                    · subst e; left; simp
                    · simp only [e, if_false]
                      rcases tk1.b j with d1 | ⟨k1, k2, d1, d2, d3⟩
                      · left; rw [d1, hb1]; simp [e]
                      · right; rw [hb1] at d1; simp only [e, if_false] at d1; exact ⟨k1, k2, d1, d2, d3⟩
                  have hsW := h.drew.weak hwk
                  have hnew := hsW.new hn (.cells row el) (.k { n0 with cells := putL n0.cells (l * i.size) ys }) row.size (by
                    refine ⟨row, el, World.alloc_heap_new _ _, rfl, ?_, ?_, ?_⟩
                    · simp only [Nat.zero_add, putL_length (show l * i.size ≤ n0.cells.length by omega), y1.len.symm, y2, hrsz, hlen0]
                      have : (l + m) * i.size ≤ cap * i.size := Nat.mul_le_mul_right _ hge
                      omega
                    · rw [hn0]; simp
                    · intro j x hx
                      have hxx : (VRs C.S ρ ((k.cells.drop q).take (l * i.size) ++ ys) (olds ++ cs)) := c1.append y1
                      have hx2 : ((k.cells.drop q).take (l * i.size) ++ ys)[j]? = some x := by
                        have := congrArg Blk.cells hall
                        simp only at this
                        rw [this]; exact hx
                      obtain ⟨vv, e1, e2⟩ := hxx.get hx2
                      refine ⟨vv, ?_, e2.mono (setP_le _ hn), ?_⟩
                      · rw [Nat.zero_add, hrow, ← Array.getElem?_toList]
                        simp only [Array.toList_append]
                        rw [List.getElem?_append_left (by have := (List.getElem?_eq_some_iff.1 e1).1; simpa using this)]
                        exact e1
                      · rcases List.mem_append.1 (List.mem_of_getElem? e1) with hu | hu
                        · exact c3 _ hu
                        · exact y3 _ hu) (st' := upd (applyU U13 st1) (.b n) (.k { n0 with cells := putL n0.cells (l * i.size) ys }))
                    (by
                      intro j
                      by_cases e : j = n
                      · subst e; simp [upd_same]
                      · rw [upd_ne _ _ (by simpa using e), hstW]; simp [e])
                    (by intro j; rw [upd_ne _ _ (by simp), tk1.s, hs1, hstW])
                    (by
                      intro b' k' hk'
                      obtain ⟨_, l', j3, j4⟩ := hsW.h.fam b' k' hk'
                      rw [upd_ne _ _ (by simp), tk1.f, hf1]
                      have j3' : st (.f k'.fam) = .m l' := by rw [hstW] at j3; exact j3
                      by_cases e : k'.fam = k.fam
                      · rw [e, hfl] at j3'; cases j3'
                        exact ⟨⟨n + 1, n :: fl.l⟩, by simp [e], by simp [j4.1], by have := j4.2; show b' < n + 1; omega⟩
                      · exact ⟨l', by simp [e, j3'], j4⟩)
                    (by
                      intro k' hk'
                      cases hk'
                      obtain ⟨⟨⟨pf, hpf⟩, _⟩, _⟩ := h.h.fam b k hk
                      have hfam : n0.fam = k.fam := by rw [hn0]
                      refine ⟨⟨⟨pf, ?_⟩, by simp only [hfam]; exact hfn⟩, ⟨n + 1, n :: fl.l⟩, ?_, by simp [Fam.has]⟩
                      · simp only [hfam]; exact setP_le _ hn _ _ hpf
                      · simp only [hfam]; rw [upd_ne _ _ (by simp), tk1.f, hf1]; simp)
                  refine ⟨_, _, _, fin (by rw [exv, es]; exact hr), Ext.set _ hn (Nat.lt_succ_self _), hnew, ?_⟩
                  simp only [VR]
                  exact ⟨_, 0, cap, setP_same _ _ _, rfl, hge, fun _ => rfl, by simp only [Nat.zero_add]; exact hrsz.symm⟩
              · exact (efail_some g6).elim
        · exact (efail_some g4).elim
    · exact (efail_some g4).elim
  · exact (efail_some g2).elim

end
end Go.Ex
