/- Loops, scopes, records of loops, marks: what the evaluation of code rests on. -/
import Derived.Test.YtdnenbcldibnoaaExG
import Derived.RangeFuncCalls
namespace Go.Ex
open Go.Own (A Still cellAt Rep Reps Lies)

/-- Code, or a loop or a scope that is under way. -/
inductive Cd where
  | code (c : Code)
  | again (c : Code)
  | within (c rest : Code)

def Cd.items : Cd → List Item
  | .code c => [.code c]
  | .again c => [.code c, .inLoop c]
  | .within c rest => [.code rest, .inScope c]

def Cd.wpI (F : Fence) (n : Nat) (P : Program) (d : Cd) (Q : Exit → Act → World → Prop) (a : Act) (w : World) : Prop :=
  ∀ (b : Frame) (k : List Item) (cs : List Frame), b.roundOf = F.round → F.fn b.fn → F.room (cs.length + 1 + n) →
    ∃ e a' w', Q e a' w' ∧ ArrivesIn (Machine.fenced P F) P (lone (b.atR a (d.items ++ k)) cs w) b k cs e a' w'

def Exit.atScope (c : Code) (J : Code → Act → World → Prop) (Q : Exit → Act → World → Prop) : Exit → Act → World → Prop
  | .goto l, a, w => match findLabel c l with
    | some rest => J rest a w
    | none => Q (.goto l) a w
  | e, a, w => Q e a w

section
variable {F : Fence} {n : Nat} {P : Program} {Q : Exit → Act → World → Prop} {a : Act} {w : World}

theorem wpI_code {c : Code} : (Cd.code c).wpI F n P Q a w ↔ c.wpIn F n P Q a w := Iff.rfl

theorem wpI_loop {c : Code} (h : (Cd.again c).wpI F n P Q a w) : (Code.loop c).wpIn F n P Q a w := by
  intro b k cs hro hb hr
  obtain ⟨e, a', w', hq, harr⟩ := h b k cs hro hb hr
  exact ⟨e, a', w', hq, .of_steps (.one (fenced_calm hb hr rfl) stepR_loop) harr⟩

theorem wpI_again {c : Code} (h : c.wpIn F n P (Exit.then ((Cd.again c).wpI F n P Q) Q) a w) : (Cd.again c).wpI F n P Q a w := by
  intro b k cs hro hb hr
  obtain ⟨e, a₁, w₁, hq, harr⟩ := h b (.inLoop c :: k) cs hro hb hr
  cases e with
  | normal =>
    obtain ⟨e₂, a₂, w₂, hq₂, harr₂⟩ := hq b k cs hro hb hr
    exact ⟨e₂, a₂, w₂, hq₂, .of_steps (StepsIn.trans harr (.one (fenced_calm hb hr rfl) stepR_inLoop)) harr₂⟩
  | exit id => exact ⟨_, a₁, w₁, hq, .pass (x := .inLoop c) rfl (fun _ _ => .inl (by simp)) harr⟩
  | goto l => exact ⟨_, a₁, w₁, hq, .pass (x := .inLoop c) rfl (fun _ _ => .inl (by simp)) harr⟩
  | ret => exact ⟨_, a₁, w₁, hq, .pass (x := .inLoop c) rfl (fun _ _ => .inl (by simp)) harr⟩
  | panic ch => exact ⟨_, a₁, w₁, hq, .pass (x := .inLoop c) rfl (fun _ _ => .inl (by simp)) harr⟩
  | outgrown => exact ⟨_, a₁, w₁, hq, .pass (x := .inLoop c) rfl (fun _ _ => .inl (by simp)) harr⟩

theorem stepR_scope {b : Frame} {k : List Item} {cs : List Frame} {c : Code} : step P (lone (b.atR a (.code (.scope c) :: k)) cs w) = .next (lone (b.atR a (.code c :: .inScope c :: k)) cs w) :=
  step_lone_go (by simp [Go.stepG, Go.stepG.exec, Frame.atR])
theorem stepR_inScope {b : Frame} {k : List Item} {cs : List Frame} {c : Code} : step P (lone (b.atR a (.inScope c :: k)) cs w) = .next (lone (b.atR a k) cs w) :=
  step_lone_go (by simp [Go.stepG, Go.stepG.exec, Frame.atR])

theorem wpI_scope {c : Code} (h : (Cd.within c c).wpI F n P Q a w) : (Code.scope c).wpIn F n P Q a w := by
  intro b k cs hro hb hr
  obtain ⟨e, a', w', hq, harr⟩ := h b k cs hro hb hr
  exact ⟨e, a', w', hq, .of_steps (.one (fenced_calm hb hr rfl) stepR_scope) harr⟩

theorem wpI_within {c rest : Code} (h : rest.wpIn F n P (Exit.atScope c (fun r => (Cd.within c r).wpI F n P Q) Q) a w) : (Cd.within c rest).wpI F n P Q a w := by
  intro b k cs hro hb hr
  obtain ⟨e, a₁, w₁, hq, harr⟩ := h b (.inScope c :: k) cs hro hb hr
  cases e with
  | normal => exact ⟨.normal, a₁, w₁, hq, StepsIn.trans harr (.one (fenced_calm hb hr rfl) stepR_inScope)⟩
  | exit id => exact ⟨.exit id, a₁, w₁, hq, fun k' hk => harr.1 k' hk, fun hr' hk => harr.2 hr' hk⟩
  | goto l =>
    cases hf : findLabel c l with
    | some r =>
      simp only [Exit.atScope, hf] at hq
      obtain ⟨e₂, a₂, w₂, hq₂, harr₂⟩ := hq b k cs hro hb hr
      have hg : gotoIn l (.inScope c :: k) = some (.code r :: .inScope c :: k) := by simp [gotoIn, hf]
      exact ⟨e₂, a₂, w₂, hq₂, .of_steps (harr.1 _ hg) harr₂⟩
    | none =>
      simp only [Exit.atScope, hf] at hq
      have hg : gotoIn l (.inScope c :: k) = gotoIn l k := by simp [gotoIn, hf]
      exact ⟨.goto l, a₁, w₁, hq, fun k' hk => harr.1 k' (by rw [hg]; exact hk), fun hr' hk => harr.2 hr' (by rw [hg]; exact hk)⟩
  | ret => exact ⟨_, a₁, w₁, hq, harr⟩
  | panic ch => exact ⟨_, a₁, w₁, hq, harr⟩
  | outgrown => exact ⟨_, a₁, w₁, hq, harr⟩

end

/-! ### Memory: objects beside the blocks of the state -/

theorem Kept.putObj {M : Nat → Prop} {a w : World} (h : Kept M a w) {L : Nat} (hM : M L) (o : Obj) : Kept M a (w.putObj L o) :=
  h.trans ⟨rfl, rfl, rfl, by simp, fun k hk => World.putObj_heap_other (by rintro rfl; exact hk hM)⟩

theorem HSim.alloc {C : Ctx} {ρ : Pl} {st : St} {w : World} (h : HSim C ρ st w) (o : Obj) : HSim C ρ st (w.alloc o) where
  ent := fun b q => let ⟨p, h1, h2⟩ := h.ent b q; ⟨p, h1, h2.mem_world (hao w o _ (h.lt b p h1))⟩
  dis := h.dis
  fam := h.fam
  base := h.base
  lt := fun b p q => by have := h.lt b p q; simp; omega
  still := fun B o' v hB => cell_alloc (h.still B o' v hB) o
  sfree := h.sfree
  kept := h.kept.alloc (h.mine _ h.kept.size) o
  mine := h.mine

/-- Entering an outermost loop over an iterator: the block for deferred calls, and its mark. -/
theorem Sim.mark {C : Ctx} {N : Nat} {ρ : Pl} {st : St} {a : Act} {w : World} {Ds : List Nat} (h : Sim C N ρ st a w Ds) : Sim C N ρ st { a with defers := [mark w.heap.size] ++ a.defers } (w.alloc (.deferred (some []))) (w.heap.size :: Ds) := by
  refine ⟨h.h.alloc _, ⟨h.f.size, h.f.slot, ?_, ?_, ?_, ?_⟩⟩
  · simp [h.f.defers]
  · rw [List.nodup_cons]
    exact ⟨fun hm => by have := h.f.lt hm; omega, h.f.dn⟩
  · intro D hD
    rcases List.mem_cons.1 hD with rfl | hD
    · exact ⟨h.h.mine _ h.h.kept.size, World.alloc_heap_new w _⟩
    · exact ⟨(h.f.dm D hD).1, by rw [hao w _ D (h.f.lt hD)]; exact (h.f.dm D hD).2⟩
  · intro D hD b p q hp
    rcases List.mem_cons.1 hD with rfl | hD
    · have := h.h.lt b p hp; omega
    · exact h.f.dx D hD b p q hp

theorem cell_put {w : World} {B o L : Nat} {v : Value} (h : cellAt w.heap B o = some v) (hne : B ≠ L) (x : Obj) : cellAt (w.putObj L x).heap B o = some v := by
  unfold cellAt at h ⊢
  rw [World.putObj_heap_other hne]; exact h

/-- A block of the call's own that no block of the state lies in. -/
theorem HSim.putFree {C : Ctx} {ρ : Pl} {st : St} {w : World} (h : HSim C ρ st w) {L : Nat} (hM : C.M L) (hx : ∀ b p, (st (.b b)).mem = true → ρ b = some p → p.B ≠ L) (o : Obj) : HSim C ρ st (w.putObj L o) where
  ent := fun b q => let ⟨p, h1, h2⟩ := h.ent b q; ⟨p, h1, h2.mem_world (World.putObj_heap_other (hx b p q h1))⟩
  dis := h.dis
  fam := h.fam
  base := h.base
  lt := fun b p q => by have := h.lt b p q; simpa using this
  still := fun B o' v hB => cell_put (h.still B o' v hB) (by rintro rfl; exact h.sfree _ _ _ hB hM) o
  sfree := h.sfree
  kept := h.kept.putObj hM o
  mine := h.mine

def Ctx.put (C : Ctx) (L : Nat) (o : Obj) : Ctx := ⟨C.w0.putObj L o, C.S, C.M⟩

/-- A record that is not of the call's own: it turns before the call's eyes. -/
theorem HSim.rebase {C : Ctx} {ρ : Pl} {st : St} {w : World} (h : HSim C ρ st w) {L : Nat} (hM : ¬ C.M L) {q : Loop} (hL : w.heap[L]? = some (.loop q)) (o : Obj) : HSim (C.put L o) ρ st (w.putObj L o) where
  ent := fun b q => let ⟨p, h1, h2⟩ := h.ent b q; ⟨p, h1, h2.mem_world (World.putObj_heap_other (by intro e; exact hM (e ▸ h.base b p q h1)))⟩
  dis := h.dis
  fam := h.fam
  base := h.base
  lt := fun b p q => by have := h.lt b p q; simpa using this
  still := fun B o' v hB => cell_put (h.still B o' v hB) (by rintro rfl; have := h.still _ _ _ hB; unfold cellAt at this; rw [hL] at this; cases this) o
  sfree := h.sfree
  kept := by
    refine ⟨h.kept.os, h.kept.tape, h.kept.output, by simpa [Ctx.put] using h.kept.size, fun k hk => ?_⟩
    by_cases e : k = L
    · subst e
      have hlt : k < w.heap.size := (Array.getElem?_eq_some_iff.1 hL).1
      have hlt0 : k < C.w0.heap.size := by
        have := h.kept.block k hM
        rw [hL] at this
        exact (Array.getElem?_eq_some_iff.1 this.symm).1
      rw [World.putObj_heap_same hlt]
      exact (World.putObj_heap_same hlt0).symm
    · rw [World.putObj_heap_other e]
      exact (h.kept.block k hk).trans (World.putObj_heap_other e).symm
  mine := fun B hB => h.mine B (by simpa [Ctx.put] using hB)

theorem FSim.rebase {C : Ctx} {N : Nat} {ρ : Pl} {st : St} {a : Act} {w : World} {Ds : List Nat} (h : FSim C N ρ st a w Ds) {L : Nat} (hM : ¬ C.M L) (o : Obj) : FSim (C.put L o) N ρ st a (w.putObj L o) Ds where
  size := h.size
  slot := h.slot
  defers := h.defers
  dn := h.dn
  dm := fun D hD => ⟨(h.dm D hD).1, by rw [World.putObj_heap_other (by rintro rfl; exact hM (h.dm _ hD).1)]; exact (h.dm D hD).2⟩
  dx := h.dx

theorem HSim.ctx {C C' : Ctx} {ρ : Pl} {st : St} {w : World} (h : HSim C ρ st w) (hS : C'.S = C.S) (sub : ∀ B, C.M B → C'.M B) (hf : ∀ B o v, C'.S B o = some v → ¬ C'.M B) (hk : Kept C'.M C'.w0 w) (hm : ∀ B, C'.w0.heap.size ≤ B → C'.M B) : HSim C' ρ st w where
  ent := fun b q => by rw [hS]; exact h.ent b q
  dis := h.dis
  fam := h.fam
  base := fun b p q hp => sub _ (h.base b p q hp)
  lt := h.lt
  still := fun B o v hB => h.still B o v (by rw [← hS]; exact hB)
  sfree := hf
  kept := hk
  mine := hm

/-- A loop's record is taken out of the state. -/
theorem HSim.dropLp {C : Ctx} {ρ : Pl} {st : St} {w : World} (h : HSim C ρ st w) {l : Nat} : HSim C ρ (upd st (.b l) .z) w where
  ent := fun b q => by
    by_cases e : b = l
    · subst e; rw [upd_same] at q; cases q
    · rw [upd_ne _ _ (by simpa using e)] at q ⊢; exact h.ent b q
  dis := fun b b' p p' hbb h1 h2 => by
    by_cases e : b = l
    · subst e; rw [upd_same] at h1; cases h1
    · by_cases e' : b' = l
      · subst e'; rw [upd_same] at h2; cases h2
      · rw [upd_ne _ _ (by simpa using e)] at h1 ⊢
        rw [upd_ne _ _ (by simpa using e')] at h2 ⊢
        exact h.dis b b' p p' hbb h1 h2
  fam := fun b k q => by
    by_cases e : b = l
    · subst e; rw [upd_same] at q; cases q
    · rw [upd_ne _ _ (by simpa using e)] at q
      obtain ⟨h1, l', h2, h3⟩ := h.fam b k q
      exact ⟨h1, l', by rw [upd_ne _ _ (by simp)]; exact h2, h3⟩
  base := fun b p q => by
    by_cases e : b = l
    · subst e; rw [upd_same] at q; cases q
    · rw [upd_ne _ _ (by simpa using e)] at q; exact h.base b p q
  lt := h.lt
  still := h.still
  sfree := h.sfree
  kept := h.kept
  mine := h.mine

/-- No other block lies where a loop's record lies. -/
theorem HSim.lpFree {C : Ctx} {ρ : Pl} {st : St} {w : World} (h : HSim C ρ st w) {l : Nat} {r : Lp} (hl : st (.b l) = .lp r) {p : Loc} (hp : ρ l = some p) : ∀ b q, (upd st (.b l) .z (.b b)).mem = true → ρ b = some q → q.B ≠ p.B := by
  intro b q hb hq e
  by_cases eb : b = l
  · subst eb; rw [upd_same] at hb; cases hb
  · rw [upd_ne _ _ (by simpa using eb)] at hb
    obtain ⟨k, k', _, h2, _⟩ := h.dis b l q p eb hb (by rw [hl]; rfl) hq hp e
    rw [hl] at h2; cases h2

/-- ... and put back. -/
theorem HSim.addLp {C : Ctx} {ρ : Pl} {st : St} {w : World} (h : HSim C ρ st w) {l : Nat} {r : Lp} {p : Loc} (hp : ρ l = some p) (hM : C.M p.B) (hr : LpOk C.S ρ w.heap r p) (hx : ∀ b q, b ≠ l → (st (.b b)).mem = true → ρ b = some q → q.B ≠ p.B) : HSim C ρ (upd st (.b l) (.lp r)) w where
  ent := fun b q => by
    by_cases e : b = l
    · subst e; rw [upd_same]; exact ⟨p, hp, hr⟩
    · rw [upd_ne _ _ (by simpa using e)] at q ⊢; exact h.ent b q
  dis := fun b b' q q' hbb h1 h2 h3 h4 h5 => by
    by_cases e : b = l
    · subst e
      rw [hp] at h3; cases h3
      rw [upd_ne _ _ (by simpa using Ne.symm hbb)] at h2
      exact absurd h5.symm (hx b' q' (Ne.symm hbb) h2 h4)
    · by_cases e' : b' = l
      · subst e'
        rw [hp] at h4; cases h4
        rw [upd_ne _ _ (by simpa using e)] at h1
        exact absurd h5 (hx b q e h1 h3)
      · rw [upd_ne _ _ (by simpa using e)] at h1 ⊢
        rw [upd_ne _ _ (by simpa using e')] at h2 ⊢
        exact h.dis b b' q q' hbb h1 h2 h3 h4 h5
  fam := fun b k q => by
    by_cases e : b = l
    · subst e; rw [upd_same] at q; cases q
    · rw [upd_ne _ _ (by simpa using e)] at q
      obtain ⟨h1, l', h2, h3⟩ := h.fam b k q
      exact ⟨h1, l', by rw [upd_ne _ _ (by simp)]; exact h2, h3⟩
  base := fun b q hb hq => by
    by_cases e : b = l
    · subst e; rw [hp] at hq; cases hq; exact hM
    · rw [upd_ne _ _ (by simpa using e)] at hb; exact h.base b q hb hq
  lt := h.lt
  still := h.still
  sfree := h.sfree
  kept := h.kept
  mine := h.mine

/-- On the way out: the marks are come to, one after the other; then the results. -/
theorem leaves_ok {P : Program} {F : Fence} {m : Nat} {fn : Func} {tmps : Array Value} {R : Ending → World → Prop} {C : Ctx} {ρ : Pl} {st : St} (hres : ∀ w, HSim C ρ st w → ∃ v, (results fn tmps).run P w = .ok v w ∧ R (.returned v) w) :
    ∀ (Ds : List Nat) (w : World), HSim C ρ st w → Ds.Nodup → (∀ D ∈ Ds, C.M D ∧ w.heap[D]? = some (.deferred (some []))) → (∀ D ∈ Ds, ∀ b p, (st (.b b)).mem = true → ρ b = some p → p.B ≠ D) → LeavesInM F m P fn tmps R (Ds.map mark) .returning w
  | [], w, h, _, _, _ => hres w h
  | D :: Ds, w, h, hn, hd, hx => by
    rw [List.nodup_cons] at hn
    have hD := hd D (by simp)
    refine ⟨by simp, .inl ⟨D, _, rfl, run_takeDeferred hD.2, leaves_ok hres Ds _ (h.putFree hD.1 (hx D (by simp)) _) hn.2 ?_ (fun D' hD' => hx D' (by simp [hD']))⟩⟩
    intro D' hD'
    refine ⟨(hd D' (by simp [hD'])).1, ?_⟩
    rw [World.putObj_heap_other (by rintro rfl; exact hn.1 hD')]
    exact (hd D' (by simp [hD'])).2

end Go.Ex

namespace Go.Ex
noncomputable section
open Go.Own (A Still cellAt Rep Reps Lies)

inductive Ex where
  | norm
  | ex (id : Nat)
  | gt (l : Nat)
  | ret

def Ex.toExit : Ex → Exit
  | .norm => .normal
  | .ex i => .exit i
  | .gt l => .goto l
  | .ret => .ret
def Ex.pend : Ex → Option Code
  | .norm => none
  | .ex i => some (.exit i)
  | .gt l => some (.goto l)
  | .ret => some .ret
def Ex.isNorm : Ex → Bool
  | .norm => true
  | _ => false
def jumpOf : Option Code → Option Ex
  | none => some .norm
  | some .ret => some .ret
  | some (.exit i) => some (.ex i)
  | some (.goto l) => some (.gt l)
  | _ => none

def frameL (N : Nat) (fr : Tr) : List V := (List.range N).map fun t => (fr.get t).val

def rangeE (orc : Orc) (N : Nat) (g : Operand) (ps : Array Tmp) (assign body : Code) (s : S) : Option (S × Ex) :=
  match opV g (view s) with
  | some (.fn f caps, _, _) =>
    match orc (.fn f caps) [.yl s.n] ⟨s.hb.put s.n (.lp ⟨frameL N s.fr, ps.toList, assign, body, true, none⟩), s.hf, s.n + 1⟩ with
    | some (_, h', ws) =>
      match h'.hb.get s.n with
      | .lp r =>
        match jumpOf r.pend with
        | some x => some (⟨s.fr, h'.hb.put s.n .z, h'.hf, h'.n, .b s.n :: ws ++ s.ws⟩, x)
        | none => none
      | _ => none
    | none => none
  | _ => none

/-- Which pairs of a region's operations no edge orders: found once and for all. -/
def freeP (os : List Oper) : List (Nat × Nat) := (List.range os.length).flatMap fun j => ((List.range j).filter fun i => !((ancsL os []).getD j 0).testBit i).map fun i => (i, j)

def drawF (os : List Oper) (ls : List Log) : Bool :=
  edgesOk os && (Nat.beq ls.length os.length && (freeP os).all fun p => match ls[p.1]? with
    | some L => match ls[p.2]? with
      | some L' => apart L L'
      | none => false
    | none => false)

theorem drawF_ok {os : List Oper} {ls : List Log} (h : drawF os ls = true) : drawOk os ls = true := by
  unfold drawF at h
  unfold drawOk
  rw [Bool.and_eq_true, Bool.and_eq_true] at h
  obtain ⟨h1, h2, h3⟩ := h
  have hl := Nat.eq_of_beq_eq_true h2
  rw [Bool.and_eq_true]
  refine ⟨h1, List.all_eq_true.2 fun b hb => List.all_eq_true.2 fun a ha => ?_⟩
  obtain ⟨L', j⟩ := b
  obtain ⟨L, i⟩ := a
  rw [List.mem_zipIdx_iff_getElem?] at ha hb
  simp only [Bool.or_eq_true]
  rcases Nat.lt_or_ge i j with c | c
  · cases hbit : ((ancsL os []).getD j 0).testBit i with
    | true => exact .inl (.inr rfl)
    | false =>
      right
      have hj : j < ls.length := (List.getElem?_eq_some_iff.1 hb).1
      have hm : (i, j) ∈ freeP os := by
        unfold freeP
        rw [List.mem_flatMap]
        refine ⟨j, List.mem_range.2 (by omega), ?_⟩
        rw [List.mem_map]
        refine ⟨i, ?_, rfl⟩
        rw [List.mem_filter]
        exact ⟨List.mem_range.2 c, by rw [hbit]; rfl⟩
      have := List.all_eq_true.1 h3 _ hm
      simp only at ha hb
      simp only [ha, hb] at this
      exact this
  · exact .inl (.inl (by rw [Nat.ble_eq]; exact c))

def regionE (orc : Orc) (tt : ET) (N : Nat) (ops : Array Oper) (draw : Bool) (s : S) : Option (S × Ex) :=
  match draw with
  | true =>
    match runD orc tt N ops ops.toList s with
    | some (s', ls) => match drawF ops.toList ls with | true => some (s', .norm) | false => none
    | none => none
  | false =>
    match runL orc tt N ops ops.toList s with
    | some s' => some (s', .norm)
    | none => none

def evalC (orc : Orc) (tt : ET) (N : Nat) : Nat → Cd → S → Option (S × Ex)
  | 0, _, _ => none
  | f + 1, .again c, s =>
    match evalC orc tt N f (.code c) s with
    | some (s1, .norm) => evalC orc tt N f (.again c) s1
    | r => r
  | f + 1, .within c rest, s =>
    match evalC orc tt N f (.code rest) s with
    | some (s1, .gt l) =>
      match findLabel c l with
      | some r => evalC orc tt N f (.within c r) s1
      | none => some (s1, .gt l)
    | r => r
  | _ + 1, .code .skip, s => some (s, .norm)
  | _ + 1, .code (.label _), s => some (s, .norm)
  | _ + 1, .code (.exit id), s => some (s, .ex id)
  | _ + 1, .code (.goto l), s => some (s, .gt l)
  | _ + 1, .code .ret, s => some (s, .ret)
  | f + 1, .code (.seq x y), s =>
    match evalC orc tt N f (.code x) s with
    | some (s1, .norm) => evalC orc tt N f (.code y) s1
    | r => r
  | f + 1, .code (.cond c x y), s =>
    match opV c (view s) with
    | some (.lit (.bool true), _, _) => evalC orc tt N f (.code x) s
    | some (.lit (.bool false), _, _) => evalC orc tt N f (.code y) s
    | _ => none
  | f + 1, .code (.block id c), s =>
    match evalC orc tt N f (.code c) s with
    | some (s1, .ex i) => if Nat.beq i id = true then some (s1, .norm) else some (s1, .ex i)
    | r => r
  | f + 1, .code (.loop c), s => evalC orc tt N f (.again c) s
  | f + 1, .code (.scope c), s => evalC orc tt N f (.within c c) s
  | _ + 1, .code (.region _ ops draw), s => regionE orc tt N ops draw s
  | _ + 1, .code (.rangeFunc g ps assign body), s => rangeE orc N g ps assign body s
  | _ + 1, .code (.refuse _), _ => none

def RdOk (C : Ctx) (rd : Option Nat) : Prop := ∀ L, rd = some L → ¬ C.M L ∧ ∃ q, C.w0.heap[L]? = some (.loop q)

def Sound (P : Program) (N : Nat) (d : Cd) (s s' : S) (x : Ex) : Prop :=
  Grows s s' ∧ ∀ (C : Ctx) (ρ : Pl) (a : Act) (w : World) (Ds : List Nat) (rd : Option Nat) (m : Nat) (Q : Exit → Act → World → Prop),
    Fresh (view s) s.n → Sim C N ρ (view s) a w Ds → (∀ i, s.n ≤ i → i < s'.n → ρ i = none) → RdOk C rd →
    (∀ ρ' a' w' Ds', Ext s.n s'.n ρ ρ' → Sim C N ρ' (view s') a' w' Ds' → Q x.toExit a' w') → d.wpI (fen rd) m P Q a w

section
variable {P : Program} {orc : Orc} {tt : ET} {N : Nat}

theorem Sound.one {d : Cd} {s : S} {x : Ex} (h : ∀ (rd : Option Nat) (m : Nat) (Q : Exit → Act → World → Prop) (a : Act) (w : World), Q x.toExit a w → d.wpI (fen rd) m P Q a w) : Sound P N d s s x :=
  ⟨Grows.refl s, fun _ ρ a w Ds rd m Q _ hs _ _ hQ => h rd m Q a w (hQ ρ a w Ds (Ext.refl _ _ _) hs)⟩

/-- One part after the other. -/
theorem Sound.comp {d d1 d2 : Cd} {s s1 s2 : S} {x1 x2 : Ex} (h1 : Sound P N d1 s s1 x1) (h2 : Sound P N d2 s1 s2 x2)
    (h : ∀ (rd : Option Nat) (m : Nat) (Q : Exit → Act → World → Prop) (a : Act) (w : World), d1.wpI (fen rd) m P (fun e a w => e = x1.toExit ∧ d2.wpI (fen rd) m P Q a w) a w → d.wpI (fen rd) m P Q a w) : Sound P N d s s2 x2 := by
  refine ⟨h1.1.trans h2.1, ?_⟩
  intro C ρ a w Ds rd m Q hf hs hn hrd hQ
  refine h rd m Q a w (h1.2 C ρ a w Ds rd m _ hf hs (fun i q1 q2 => hn i q1 (by have := h2.1.n; omega)) hrd ?_)
  intro ρ1 a1 w1 Ds1 hx1 hs1
  refine ⟨rfl, h2.2 C ρ1 a1 w1 Ds1 rd m Q (h1.1.fresh hf) hs1 ?_ hrd ?_⟩
  · intro i q1 q2
    rw [hx1.2 i (.inr q1)]
    exact hn i (by have := h1.1.n; omega) q2
  · intro ρ2 a2 w2 Ds2 hx2 hs2
    exact hQ ρ2 a2 w2 Ds2 ((hx1.mono (Nat.le_refl _) h2.1.n).trans (hx2.mono h1.1.n (Nat.le_refl _))) hs2

theorem Sound.weaken {d d1 : Cd} {s s1 : S} {x1 x : Ex} (h1 : Sound P N d1 s s1 x1)
    (h : ∀ (rd : Option Nat) (m : Nat) (Q : Exit → Act → World → Prop) (a : Act) (w : World), d1.wpI (fen rd) m P (fun e a w => e = x1.toExit ∧ Q x.toExit a w) a w → d.wpI (fen rd) m P Q a w) : Sound P N d s s1 x := by
  refine ⟨h1.1, ?_⟩
  intro C ρ a w Ds rd m Q hf hs hn hrd hQ
  exact h rd m Q a w (h1.2 C ρ a w Ds rd m _ hf hs hn hrd fun ρ' a' w' Ds' hx hs' => ⟨rfl, hQ ρ' a' w' Ds' hx hs'⟩)

theorem wpI_mono {F : Fence} {n : Nat} {d : Cd} {Q Q' : Exit → Act → World → Prop} {a : Act} {w : World} (h : d.wpI F n P Q a w) (hq : ∀ e a w, Q e a w → Q' e a w) : d.wpI F n P Q' a w :=
  fun b k cs hro hb hr => let ⟨e, a', w', q, r⟩ := h b k cs hro hb hr; ⟨e, a', w', hq _ _ _ q, r⟩

theorem run_enterLoop_inner {w : World} {L : Nat} {q : Loop} (h : w.heap[L]? = some (.loop q)) (fn : FuncId) (tmps : Array Value) (ps : Array Tmp) (assign body : Code) :
    (Instr.enterLoop fn tmps ps assign body (some L)).run P w =
      .ok (w.heap.size, []) (w.alloc (.loop { state := .ready, pending := none, fn, tmps, params := ps, assign, body, defers := q.defers })) := by
  unfold Instr.enterLoop
  simp only [Sem.run_bind, run_getLoop h, run_newObj_alloc, Result.andThen, Sem.run_pure]

/-- Entering a loop over an iterator, outermost or not. -/
theorem enter_ok {C : Ctx} {ρ : Pl} {st : St} {a : Act} {w : World} {Ds : List Nat} (h : Sim C N ρ st a w Ds) {rd : Option Nat} (hrd : RdOk C rd) (fn : FuncId) (ps : Array Tmp) (assign body : Code) :
    ∃ mk wA Ds' dq, (Instr.enterLoop fn a.tmps ps assign body (fen rd).round).run P w = .ok (wA.heap.size, mk) (wA.alloc (.loop { state := .ready, pending := none, fn, tmps := a.tmps, params := ps, assign, body, defers := dq })) ∧
      Sim C N ρ st { a with defers := mk ++ a.defers } wA Ds' := by
  cases rd with
  | none =>
    refine ⟨_, w.alloc (.deferred (some [])), _, w.heap.size, ?_, h.mark⟩
    have := run_enterLoop_outer (P := P) (w := w) fn a.tmps ps assign body
    simp only [World.size_alloc]
    exact this
  | some L =>
    obtain ⟨h1, q, h2⟩ := hrd L rfl
    rw [← h.h.kept.block L h1] at h2
    exact ⟨[], w, Ds, q.defers, run_enterLoop_inner h2 fn a.tmps ps assign body, h⟩

theorem frameL_ok {C : Ctx} {ρ : Pl} {s : S} {a : Act} {w : World} {Ds : List Nat} (h : Sim C N ρ (view s) a w Ds) : VRs C.S ρ (frameL N s.fr) a.tmps.toList := by
  unfold frameL
  refine VRs.of_get (by simp [h.f.size]) fun i x hx => ?_
  have hlt : i < N := by
    have := (List.getElem?_eq_some_iff.1 hx).1
    simpa using this
  rw [List.getElem?_map, List.getElem?_range hlt] at hx
  cases hx
  refine ⟨Act.tv a i, ?_, h.f.slot i⟩
  rw [← h.f.size] at hlt
  simp [Act.tv, Array.getD_eq_getD_getElem?, hlt]

theorem jump_some {c : Option Code} {x : Ex} (h : jumpOf c = some x) : c = x.pend := by
  unfold jumpOf at h
  split at h <;> first | (cases h; rfl) | cases h

theorem rangeE_ok (hO : OrcOk P orc) {g : Operand} {ps : Array Tmp} {assign body : Code} {s s' : S} {x : Ex} (e : rangeE orc N g ps assign body s = some (s', x)) : Sound P N (.code (.rangeFunc g ps assign body)) s s' x := by
  unfold rangeE at e
  split at e
  case h_2 => cases e
  rename_i f caps R0 U0 hg
  split at e
  case h_2 => cases e
  rename_i v h' ws hor
  split at e
  case h_2 => cases e
  rename_i r hl
  split at e
  case h_2 => cases e
  rename_i x' hj
  simp only [Option.some.injEq, Prod.mk.injEq] at e
  obtain ⟨rfl, rfl⟩ := e
  obtain ⟨o1, o2, o3, o4, o5⟩ := hO _ _ _ _ _ _ hor
  generalize hh1 : (⟨s.hb.put s.n (.lp ⟨frameL N s.fr, ps.toList, assign, body, true, none⟩), s.hf, s.n + 1⟩ : H) = h1 at o1 o2 o3 o5
  have hn1 : h1.n = s.n + 1 := by rw [← hh1]
  have hv1 : ∀ k, k.isH = true → hview h1 k = if k = .b s.n then .lp ⟨frameL N s.fr, ps.toList, assign, body, true, none⟩ else view s k := by
    intro k hk
    rw [← hh1]
    cases k with
    | s t => cases hk
    | b i => simp [hview, Tr.get_put, view]
    | f i => simp [hview, view]
  have hv2 : ∀ k, view ⟨s.fr, h'.hb.put s.n .z, h'.hf, h'.n, .b s.n :: ws ++ s.ws⟩ k = if k.isH = true then (if k = .b s.n then .z else hview h' k) else view s k := by
    intro k
    cases k with
    | s t => simp [view, Key.isH]
    | b i => simp [hview, Tr.get_put, view, Key.isH]
    | f i => simp [hview, view, Key.isH]
  have hfr1 : Fresh (view s) s.n → Fresh (hview h1) h1.n := by
    intro hf
    refine ⟨fun i hi => ?_, fun f l hl => ?_⟩
    · rw [hv1 _ rfl, hv1 _ rfl, if_neg (by simp; omega), if_neg (by simp)]
      exact hf.1 i (by omega)
    · rw [hv1 _ rfl, if_neg (by simp)] at hl
      have := hf.2 f l hl
      omega
  refine ⟨⟨by show s.n ≤ h'.n; omega, ?_, ?_, ?_⟩, ?_⟩
  · intro hf
    have := o2 (hfr1 hf)
    refine ⟨fun i hi => ?_, fun f l hl' => ?_⟩
    · rw [hv2, hv2]
      simp only [Key.isH, if_true]
      refine ⟨?_, ?_⟩
      · split
        · rfl
        · exact (this.1 i hi).1
      · rw [if_neg (by simp)]; exact (this.1 i hi).2
    · rw [hv2] at hl'
      simp only [Key.isH, if_true] at hl'
      rw [if_neg (by simp)] at hl'
      exact this.2 f l hl'
  · intro k hk hnot
    simp only [List.cons_append, List.mem_cons, List.mem_append, not_or] at hnot
    rw [hv2, if_pos hk, if_neg hnot.1, o3 k hk hnot.2.1, hv1 k hk, if_neg hnot.1]
    exact ⟨hnot.2.2, rfl⟩
  · intro hgd k hk
    simp only [List.cons_append, List.mem_cons, List.mem_append] at hk
    rcases hk with rfl | hk | hk
    · refine ⟨rfl, fun i hi => ?_⟩
      simp only [Key.id, Option.some.injEq] at hi
      subst hi
      show s.n < h'.n
      omega
    · exact o4 k hk
    · obtain ⟨q1, q2⟩ := hgd k hk
      exact ⟨q1, fun i hi => by have := q2 i hi; show i < h'.n; omega⟩
  · intro C ρ a w Ds rd m Q hf hs hnone hrd hQ
    refine wpI_code.2 (wpIn_rangeFunc ?_)
    intro fn hfn
    obtain ⟨rfl, hgv⟩ := opV_ok hs hg
    obtain ⟨mk, wA, Ds', dq, en1, en2⟩ := enter_ok (P := P) hs hrd fn ps assign body
    obtain ⟨obj, hobj⟩ : ∃ q : Loop, q = { state := .ready, pending := none, fn, tmps := a.tmps, params := ps, assign, body, defers := dq } := ⟨_, rfl⟩
    rw [← hobj] at en1
    have hnn : ρ s.n = none := hnone s.n (Nat.le_refl _) (by show s.n < h'.n; omega)
    have hle := setP_le (ρ := ρ) (⟨wA.heap.size, 0, 0⟩ : Loc) hnn
    have hs1 : Sim C N (setP ρ s.n ⟨wA.heap.size, 0, 0⟩) (fun k => if k = .b s.n then .lp ⟨frameL N s.fr, ps.toList, assign, body, true, none⟩ else view s k) { a with defers := mk ++ a.defers } (wA.alloc (.loop obj)) Ds' := by
      refine en2.new hnn (.loop obj) (.lp ⟨frameL N s.fr, ps.toList, assign, body, true, none⟩) 0 ?_ ?_ ?_ ?_ ?_
      · refine ⟨obj, World.alloc_heap_new wA _, ?_, ?_⟩
        · rw [hobj]; exact (frameL_ok en2).mono hle
        · rw [hobj]; exact ⟨rfl, rfl, rfl, rfl, rfl⟩
      · intro i; simp
      · intro t; simp
      · intro b k hk
        obtain ⟨_, l, q1, q2⟩ := en2.h.fam b k hk
        exact ⟨l, by simpa using q1, q2⟩
      · intro k hk; cases hk
    have hag : ∀ k i, k.id = some i → i < h1.n → (fun k => if k = .b s.n then X.lp ⟨frameL N s.fr, ps.toList, assign, body, true, none⟩ else view s k) k = hview h1 k := by
      intro k i hi hlt
      exact (hv1 k (Key.isH_id.2 ⟨i, hi⟩)).symm
    have hdrop : HSim C (setP ρ s.n ⟨wA.heap.size, 0, 0⟩) (hview h1) (wA.alloc (.loop obj)) := hs1.h.drop (n := h1.n) (fun k i hi hlt => (hag k i hi hlt).symm) (fun i hi => by rw [((hfr1 hf).1 i hi).1]; rfl)
    have hgv1 : VR C.S (setP ρ s.n ⟨wA.heap.size, 0, 0⟩) (.fn f caps) (a.eval g) := hgv.mono hle
    have hyl : VRs C.S (setP ρ s.n ⟨wA.heap.size, 0, 0⟩) [.yl s.n] [.func (.yield wA.heap.size) #[] #[]] := by
      simp only [VRs, VR]
      exact ⟨_, [], rfl, ⟨_, setP_same _ _ _, rfl⟩, rfl⟩
    have hact := o5 C _ _ _ _ (hfr1 hf) hdrop hgv1 hyl (fun i q1 q2 => by rw [setP_ne _ _ (by omega)]; exact hnone i (by omega) q2)
    obtain ⟨k, cs, fn', a1, a2, a3, a4, a5⟩ := hact.resolve_right (by
      rintro ⟨L, q, a1, _⟩
      simp only [VR] at hgv1
      obtain ⟨vs, _, hgv1⟩ := hgv1
      rw [hgv1] at a1
      cases a1)
    refine ⟨wA.heap.size, mk, wA.alloc (.loop obj), { target := .fn (.func k) cs, args := #[.func (.yield wA.heap.size) #[] #[]] }, wA.alloc (.loop obj), k, #[.func (.yield wA.heap.size) #[] #[]] ++ cs, wA.alloc (.loop obj), en1, ?_, fun _ _ => trivial, ?_, fun h => (by cases h), ?_⟩
    · simp only [resolve, a1]
      simp [go_sem]
    · simp only [invoke]
      exact run_callee a2 a3 a4 _ _
    · refine (calls_fen a5 rd (m - 1)).mono ?_
      rintro e w' ⟨v', rfl, ρ', x1, x2, x3⟩
      have hm := hs1.merge hag (fun k i hi q1 q2 => by
        rw [hn1] at q1
        show (if k = Key.b s.n then _ else view s k) = X.z
        rw [if_neg (by rintro rfl; simp only [Key.id, Option.some.injEq] at hi; omega)]
        exact hf.key hi (by omega)) (hfr1 hf) o1 x1 x2
      have hlt : s.n < h'.n := by omega
      have hpl : ρ' s.n = some ⟨wA.heap.size, 0, 0⟩ := x1.1 _ _ (setP_same _ _ _)
      have hlp : after h'.n (hview h') (fun k => if k = .b s.n then X.lp ⟨frameL N s.fr, ps.toList, assign, body, true, none⟩ else view s k) (.b s.n) = .lp r := by
        rw [after_lt rfl hlt]; exact hl
      obtain ⟨p, hp, hent⟩ := hm.h.ent s.n (by rw [hlp]; rfl)
      rw [hpl] at hp; cases hp
      rw [hlp] at hent
      obtain ⟨q, q1, q2, q3, q4, q5, q6, q7⟩ := hent
      have hbase : C.M wA.heap.size := hm.h.base s.n _ (by rw [hlp]; rfl) hpl
      refine ⟨q.pending, _, run_endLoop q1 (by rw [q7]; split <;> simp), ?_⟩
      have hfin : ∀ o, Sim C N ρ' (view ⟨s.fr, h'.hb.put s.n .z, h'.hf, h'.n, .b s.n :: ws ++ s.ws⟩) { a with defers := mk ++ a.defers } (w'.putObj wA.heap.size o) Ds' := by
        intro o
        have hd := hm.h.dropLp (l := s.n)
        have hfree := hm.h.lpFree hlp hpl
        have hd2 := hd.putFree hbase hfree o
        have hcong : ∀ k, k.isH = true → view ⟨s.fr, h'.hb.put s.n .z, h'.hf, h'.n, .b s.n :: ws ++ s.ws⟩ k = upd (after h'.n (hview h') (fun k => if k = .b s.n then X.lp ⟨frameL N s.fr, ps.toList, assign, body, true, none⟩ else view s k)) (.b s.n) .z k := by
          intro k hk
          obtain ⟨i, hi⟩ := Key.isH_id.1 hk
          rw [hv2, if_pos hk]
          unfold upd
          split
          · rfl
          · rename_i hne
            rcases Nat.lt_or_ge i h'.n with c | c
            · rw [after_lt hi c]
            · rw [after_ge hi c]
              show _ = (if k = Key.b s.n then _ else view s k)
              rw [if_neg hne, (o2 (hfr1 hf)).key hi c]
              exact (hf.key hi (by omega)).symm
        refine ⟨hd2.congr (fun i => hcong _ rfl) (fun i => hcong _ rfl), ?_⟩
        refine hm.f.step (Pl.le_refl _) ?_ ?_ ?_
        · intro t
          rw [hv2, after_s]
          simp [Key.isH]
        · intro D hD
          exact World.putObj_heap_other (fun e => hm.f.dx D hD s.n _ (by rw [hlp]; rfl) hpl e.symm)
        · intro D hD b p hb hp
          rw [hcong _ rfl] at hb
          refine hm.f.dx D hD b p ?_ hp
          by_cases e : b = s.n
          · subst e; rw [upd_same] at hb; cases hb
          · rwa [upd_ne _ _ (by simpa using e)] at hb
      have hQ' := hQ ρ' _ _ Ds' ⟨Pl.le_trans hle x1.1, fun i hi => by
        have hi' : i < s.n ∨ h'.n ≤ i := hi
        rw [x1.2 i (by omega), setP_ne _ _ (by omega)]⟩ (hfin (.loop { q with state := .exhausted }))
      have hp6 : q.pending = x'.pend := q6.trans (jump_some hj)
      generalize w'.putObj wA.heap.size (.loop { q with state := .exhausted }) = W4 at hQ' ⊢
      rw [hp6]
      cases x' with
      | norm => exact hQ'
      | ex i => exact wpIn_exit hQ'
      | gt l => exact wpIn_goto hQ'
      | ret => exact wpIn_ret hQ'

theorem regionE_ok (hT : ETok P tt) (hO : OrcOk P orc) (hmx : P.follows .mixedOrders = true) {id : Nat} {ops : Array Oper} {draw : Bool} {s s' : S} {x : Ex} (e : regionE orc tt N ops draw s = some (s', x)) : Sound P N (.code (.region id ops draw)) s s' x := by
  unfold regionE at e
  split at e
  · split at e
    · rename_i s1 ls hr
      split at e
      · rename_i hd
        simp only [Option.some.injEq, Prod.mk.injEq] at e
        obtain ⟨rfl, rfl⟩ := e
        refine ⟨(runD_run (C := ⟨default, fun _ _ => none, fun _ => True⟩) hT hO hr).1, ?_⟩
        intro C ρ a w Ds rd m Q hf hs hn hrd hQ
        exact wpI_code.2 (runD_ok hT hO hmx hr (drawF_ok hd) hf hs hn fun ρ' a' w' hx hs' => hQ ρ' a' w' Ds hx hs')
      · cases e
    · cases e
  · split at e
    · rename_i s1 hr
      simp only [Option.some.injEq, Prod.mk.injEq] at e
      obtain ⟨rfl, rfl⟩ := e
      refine ⟨runL_grows hT hO hr, ?_⟩
      intro C ρ a w Ds rd m Q hf hs hn hrd hQ
      exact wpI_code.2 (wpIn_region_list (runL_ok hT hO hr hf hs hn fun ρ' a' w' hx hs' => hQ ρ' a' w' Ds hx hs'))
    · cases e

theorem cond_val {C : Ctx} {ρ : Pl} {st : St} {a : Act} {w : World} {Ds : List Nat} (h : Sim C N ρ st a w Ds) {c : Operand} {t : Bool} {R : List Key} {U : Ups} (e : opV c st = some (.lit (.bool t), R, U)) : a.eval c = .bool t := by
  have := (opV_ok h e).2
  simpa only [VR] using this

theorem evalC_ok (hT : ETok P tt) (hO : OrcOk P orc) (hmx : P.follows .mixedOrders = true) : ∀ (f : Nat) (d : Cd) (s s' : S) (x : Ex), evalC orc tt N f d s = some (s', x) → Sound P N d s s' x := by
  intro f
  induction f with
  | zero => intro d s s' x e; simp [evalC] at e
  | succ f ih =>
    intro d s s' x e
    -- what a part's other ends come to
    have pass : ∀ {c : Code} {s1 : S} {x1 : Ex} {d : Cd}, evalC orc tt N f (.code c) s = some (s1, x1) → (∀ (rd : Option Nat) (m : Nat) (Q : Exit → Act → World → Prop) (a : Act) (w : World), c.wpIn (fen rd) m P (fun e a w => e = x1.toExit ∧ Q x1.toExit a w) a w → d.wpI (fen rd) m P Q a w) → Sound P N d s s1 x1 :=
      fun h1 h2 => (ih _ _ _ _ h1).weaken h2
    cases d with
    | again c =>
      simp only [evalC] at e
      cases h1 : evalC orc tt N f (.code c) s with
      | none => simp [h1] at e
      | some q =>
        obtain ⟨s1, x1⟩ := q
        simp only [h1] at e
        cases x1 with
        | norm =>
          simp only at e
          refine (ih _ _ _ _ h1).comp (ih _ _ _ _ e) fun rd m Q a w h => wpI_again (wpIn_mono h ?_)
          rintro _ a w ⟨rfl, h⟩
          exact h
        | _ =>
          simp only [Option.some.injEq, Prod.mk.injEq] at e
          obtain ⟨rfl, rfl⟩ := e
          refine pass h1 fun rd m Q a w h => wpI_again (wpIn_mono h ?_)
          rintro _ a w ⟨rfl, h⟩
          exact h
    | within c rest =>
      simp only [evalC] at e
      cases h1 : evalC orc tt N f (.code rest) s with
      | none => simp [h1] at e
      | some q =>
        obtain ⟨s1, x1⟩ := q
        simp only [h1] at e
        cases x1 with
        | gt l =>
          simp only at e
          cases hfl : findLabel c l with
          | some r =>
            simp only [hfl] at e
            refine (ih _ _ _ _ h1).comp (ih _ _ _ _ e) fun rd m Q a w h => wpI_within (wpIn_mono h ?_)
            rintro _ a w ⟨rfl, h⟩
            simp only [Ex.toExit, Exit.atScope, hfl]
            exact h
          | none =>
            simp only [hfl, Option.some.injEq, Prod.mk.injEq] at e
            obtain ⟨rfl, rfl⟩ := e
            refine pass h1 fun rd m Q a w h => wpI_within (wpIn_mono h ?_)
            rintro _ a w ⟨rfl, h⟩
            simp only [Ex.toExit, Exit.atScope, hfl]
            exact h
        | _ =>
          simp only [Option.some.injEq, Prod.mk.injEq] at e
          obtain ⟨rfl, rfl⟩ := e
          refine pass h1 fun rd m Q a w h => wpI_within (wpIn_mono h ?_)
          rintro _ a w ⟨rfl, h⟩
          exact h
    | code c =>
      cases c with
      | skip =>
        simp only [evalC, Option.some.injEq, Prod.mk.injEq] at e
        obtain ⟨rfl, rfl⟩ := e
        exact .one fun rd m Q a w h => wpIn_skip h
      | label l =>
        simp only [evalC, Option.some.injEq, Prod.mk.injEq] at e
        obtain ⟨rfl, rfl⟩ := e
        exact .one fun rd m Q a w h => wpIn_label h
      | exit id =>
        simp only [evalC, Option.some.injEq, Prod.mk.injEq] at e
        obtain ⟨rfl, rfl⟩ := e
        exact .one fun rd m Q a w h => wpIn_exit h
      | goto l =>
        simp only [evalC, Option.some.injEq, Prod.mk.injEq] at e
        obtain ⟨rfl, rfl⟩ := e
        exact .one fun rd m Q a w h => wpIn_goto h
      | ret =>
        simp only [evalC, Option.some.injEq, Prod.mk.injEq] at e
        obtain ⟨rfl, rfl⟩ := e
        exact .one fun rd m Q a w h => wpIn_ret h
      | seq x1 y =>
        simp only [evalC] at e
        cases h1 : evalC orc tt N f (.code x1) s with
        | none => simp [h1] at e
        | some q =>
          obtain ⟨s1, x1⟩ := q
          simp only [h1] at e
          cases x1 with
          | norm =>
            simp only at e
            refine (ih _ _ _ _ h1).comp (ih _ _ _ _ e) fun rd m Q a w h => wpI_code.2 (wpIn_seq (wpIn_mono h ?_))
            rintro _ a w ⟨rfl, h⟩
            exact h
          | _ =>
            simp only [Option.some.injEq, Prod.mk.injEq] at e
            obtain ⟨rfl, rfl⟩ := e
            refine pass h1 fun rd m Q a w h => wpI_code.2 (wpIn_seq (wpIn_mono h ?_))
            rintro _ a w ⟨rfl, h⟩
            exact h
      | cond c x1 y =>
        simp only [evalC] at e
        split at e
        · rename_i hc
          have h1 := ih _ _ _ _ e
          refine ⟨h1.1, fun C ρ a w Ds rd m Q hf hs hn hrd hQ => wpI_code.2 (wpIn_cond_true (cond_val hs hc) (h1.2 C ρ a w Ds rd m Q hf hs hn hrd hQ))⟩
        · rename_i hc
          have h1 := ih _ _ _ _ e
          refine ⟨h1.1, fun C ρ a w Ds rd m Q hf hs hn hrd hQ => wpI_code.2 (wpIn_cond_false (cond_val hs hc) (h1.2 C ρ a w Ds rd m Q hf hs hn hrd hQ))⟩
        · cases e
      | block id c =>
        simp only [evalC] at e
        cases h1 : evalC orc tt N f (.code c) s with
        | none => simp [h1] at e
        | some q =>
          obtain ⟨s1, x1⟩ := q
          simp only [h1] at e
          cases x1 with
          | ex i =>
            simp only at e
            split at e
            · rename_i hi
              have hi := Nat.eq_of_beq_eq_true hi
              simp only [Option.some.injEq, Prod.mk.injEq] at e
              obtain ⟨rfl, rfl⟩ := e
              refine (ih _ _ _ _ h1).weaken fun rd m Q a w h => wpI_code.2 (wpIn_block (wpIn_mono h ?_))
              rintro _ a w ⟨rfl, h⟩
              simp only [Ex.toExit, Exit.inBlock, hi, if_true]
              exact h
            · rename_i hi
              simp only [Option.some.injEq, Prod.mk.injEq] at e
              obtain ⟨rfl, rfl⟩ := e
              refine pass h1 fun rd m Q a w h => wpI_code.2 (wpIn_block (wpIn_mono h ?_))
              rintro _ a w ⟨rfl, h⟩
              simp only [Ex.toExit, Exit.inBlock]
              rw [if_neg (by rintro rfl; exact hi (Nat.beq_refl _))]
              exact h
          | _ =>
            simp only [Option.some.injEq, Prod.mk.injEq] at e
            obtain ⟨rfl, rfl⟩ := e
            refine pass h1 fun rd m Q a w h => wpI_code.2 (wpIn_block (wpIn_mono h ?_))
            rintro _ a w ⟨rfl, h⟩
            exact h
      | loop c =>
        simp only [evalC] at e
        have h1 := ih _ _ _ _ e
        exact ⟨h1.1, fun C ρ a w Ds rd m Q hf hs hn hrd hQ => wpI_code.2 (wpI_loop (h1.2 C ρ a w Ds rd m Q hf hs hn hrd hQ))⟩
      | scope c =>
        simp only [evalC] at e
        have h1 := ih _ _ _ _ e
        exact ⟨h1.1, fun C ρ a w Ds rd m Q hf hs hn hrd hQ => wpI_code.2 (wpI_scope (h1.2 C ρ a w Ds rd m Q hf hs hn hrd hQ))⟩
      | region id ops draw => simp only [evalC] at e; exact regionE_ok hT hO hmx e
      | rangeFunc g ps assign body => simp only [evalC] at e; exact rangeE_ok hO e
      | refuse why => simp [evalC] at e


/-! ### The same, the code looked at once and for all: what is run -/

structure Dn where
  run : Orc → S → Option (S × Ex)

def seqD (a b : Dn) : Dn := ⟨fun orc s => match a.run orc s with | some (s1, .norm) => b.run orc s1 | r => r⟩
def condD (c : Operand) (a b : Dn) : Dn :=
  ⟨fun orc s => match opV c (view s) with
    | some (.lit (.bool t), _, _) => (match t with | true => a.run orc s | false => b.run orc s)
    | _ => none⟩
def blockD (id : Nat) (a : Dn) : Dn :=
  ⟨fun orc s => match a.run orc s with
    | some (s1, .ex i) => (match Nat.beq i id with | true => some (s1, .norm) | false => some (s1, .ex i))
    | r => r⟩
def loopR (a : Dn) (orc : Orc) : Nat → S → Option (S × Ex)
  | 0, _ => none
  | f + 1, s => match a.run orc s with
    | some (s1, .norm) => loopR a orc f s1
    | r => r

def den (tt : ET) (N fuel : Nat) : Code → Dn
  | .skip => ⟨fun _ s => some (s, .norm)⟩
  | .label _ => ⟨fun _ s => some (s, .norm)⟩
  | .exit id => ⟨fun _ s => some (s, .ex id)⟩
  | .goto l => ⟨fun _ s => some (s, .gt l)⟩
  | .ret => ⟨fun _ s => some (s, .ret)⟩
  | .seq x y => seqD (den tt N fuel x) (den tt N fuel y)
  | .cond c x y => condD c (den tt N fuel x) (den tt N fuel y)
  | .block id c => blockD id (den tt N fuel c)
  | .loop c => ⟨fun orc s => loopR (den tt N fuel c) orc fuel s⟩
  | .scope c => ⟨fun orc s => evalC orc tt N fuel (.code (.scope c)) s⟩
  | .region _ ops draw => ⟨fun orc s => regionE orc tt N ops draw s⟩
  | .rangeFunc g ps assign body => ⟨fun orc s => rangeE orc N g ps assign body s⟩
  | .refuse _ => ⟨fun _ _ => none⟩

theorem loopR_ok {c : Code} {a : Dn} (h : ∀ s s' x, a.run orc s = some (s', x) → Sound P N (.code c) s s' x) : ∀ (f : Nat) (s s' : S) (x : Ex), loopR a orc f s = some (s', x) → Sound P N (.again c) s s' x
  | 0, s, s', x, e => by simp [loopR] at e
  | f + 1, s, s', x, e => by
    simp only [loopR] at e
    cases h1 : a.run orc s with
    | none => simp [h1] at e
    | some q =>
      obtain ⟨s1, x1⟩ := q
      simp only [h1] at e
      cases x1 with
      | norm =>
        simp only at e
        refine (h _ _ _ h1).comp (loopR_ok h f _ _ _ e) fun rd m Q a w h => wpI_again (wpIn_mono h ?_)
        rintro _ a w ⟨rfl, h⟩
        exact h
      | _ =>
        simp only [Option.some.injEq, Prod.mk.injEq] at e
        obtain ⟨rfl, rfl⟩ := e
        refine (h _ _ _ h1).weaken fun rd m Q a w h => wpI_again (wpIn_mono h ?_)
        rintro _ a w ⟨rfl, h⟩
        exact h

theorem den_ok (hT : ETok P tt) (hO : OrcOk P orc) (hmx : P.follows .mixedOrders = true) {fuel : Nat} : ∀ (c : Code) (s s' : S) (x : Ex), (den tt N fuel c).run orc s = some (s', x) → Sound P N (.code c) s s' x := by
  intro c
  induction c with
  | skip =>
    intro s s' x e
    simp only [den, Option.some.injEq, Prod.mk.injEq] at e
    obtain ⟨rfl, rfl⟩ := e
    exact .one fun rd m Q a w h => wpIn_skip h
  | label l =>
    intro s s' x e
    simp only [den, Option.some.injEq, Prod.mk.injEq] at e
    obtain ⟨rfl, rfl⟩ := e
    exact .one fun rd m Q a w h => wpIn_label h
  | exit id =>
    intro s s' x e
    simp only [den, Option.some.injEq, Prod.mk.injEq] at e
    obtain ⟨rfl, rfl⟩ := e
    exact .one fun rd m Q a w h => wpIn_exit h
  | goto l =>
    intro s s' x e
    simp only [den, Option.some.injEq, Prod.mk.injEq] at e
    obtain ⟨rfl, rfl⟩ := e
    exact .one fun rd m Q a w h => wpIn_goto h
  | ret =>
    intro s s' x e
    simp only [den, Option.some.injEq, Prod.mk.injEq] at e
    obtain ⟨rfl, rfl⟩ := e
    exact .one fun rd m Q a w h => wpIn_ret h
  | seq c1 c2 ih1 ih2 =>
    intro s s' x e
    simp only [den, seqD] at e
    cases h1 : (den tt N fuel c1).run orc s with
    | none => simp [h1] at e
    | some q =>
      obtain ⟨s1, x1⟩ := q
      simp only [h1] at e
      cases x1 with
      | norm =>
        simp only at e
        refine (ih1 _ _ _ h1).comp (ih2 _ _ _ e) fun rd m Q a w h => wpI_code.2 (wpIn_seq (wpIn_mono h ?_))
        rintro _ a w ⟨rfl, h⟩
        exact h
      | _ =>
        simp only [Option.some.injEq, Prod.mk.injEq] at e
        obtain ⟨rfl, rfl⟩ := e
        refine (ih1 _ _ _ h1).weaken fun rd m Q a w h => wpI_code.2 (wpIn_seq (wpIn_mono h ?_))
        rintro _ a w ⟨rfl, h⟩
        exact h
  | cond c c1 c2 ih1 ih2 =>
    intro s s' x e
    simp only [den, condD] at e
    split at e
    · rename_i t _ _ hc
      cases t with
      | true =>
        have h1 := ih1 _ _ _ e
        exact ⟨h1.1, fun C ρ a w Ds rd m Q hf hs hn hrd hQ => wpI_code.2 (wpIn_cond_true (cond_val hs hc) (h1.2 C ρ a w Ds rd m Q hf hs hn hrd hQ))⟩
      | false =>
        have h1 := ih2 _ _ _ e
        exact ⟨h1.1, fun C ρ a w Ds rd m Q hf hs hn hrd hQ => wpI_code.2 (wpIn_cond_false (cond_val hs hc) (h1.2 C ρ a w Ds rd m Q hf hs hn hrd hQ))⟩
    · cases e
  | block id c ih =>
    intro s s' x e
    simp only [den, blockD] at e
    cases h1 : (den tt N fuel c).run orc s with
    | none => simp [h1] at e
    | some q =>
      obtain ⟨s1, x1⟩ := q
      simp only [h1] at e
      cases x1 with
      | ex i =>
        simp only at e
        split at e
        · rename_i hi
          have hi := Nat.eq_of_beq_eq_true hi
          simp only [Option.some.injEq, Prod.mk.injEq] at e
          obtain ⟨rfl, rfl⟩ := e
          refine (ih _ _ _ h1).weaken fun rd m Q a w h => wpI_code.2 (wpIn_block (wpIn_mono h ?_))
          rintro _ a w ⟨rfl, h⟩
          simp only [Ex.toExit, Exit.inBlock, hi, if_true]
          exact h
        · rename_i hi
          simp only [Option.some.injEq, Prod.mk.injEq] at e
          obtain ⟨rfl, rfl⟩ := e
          refine (ih _ _ _ h1).weaken fun rd m Q a w h => wpI_code.2 (wpIn_block (wpIn_mono h ?_))
          rintro _ a w ⟨rfl, h⟩
          simp only [Ex.toExit, Exit.inBlock]
          rw [if_neg (by rintro rfl; rw [Nat.beq_refl] at hi; cases hi)]
          exact h
      | _ =>
        simp only [Option.some.injEq, Prod.mk.injEq] at e
        obtain ⟨rfl, rfl⟩ := e
        refine (ih _ _ _ h1).weaken fun rd m Q a w h => wpI_code.2 (wpIn_block (wpIn_mono h ?_))
        rintro _ a w ⟨rfl, h⟩
        exact h
  | loop c ih =>
    intro s s' x e
    simp only [den] at e
    have h1 := loopR_ok ih _ _ _ _ e
    exact ⟨h1.1, fun C ρ a w Ds rd m Q hf hs hn hrd hQ => wpI_code.2 (wpI_loop (h1.2 C ρ a w Ds rd m Q hf hs hn hrd hQ))⟩
  | scope c ih => intro s s' x e; simp only [den] at e; exact evalC_ok hT hO hmx _ _ _ _ _ e
  | region id ops draw => intro s s' x e; simp only [den] at e; exact regionE_ok hT hO hmx e
  | rangeFunc g ps assign body ih1 ih2 => intro s s' x e; simp only [den] at e; exact rangeE_ok hO e
  | refuse why => intro s s' x e; simp [den] at e

end
end
end Go.Ex
