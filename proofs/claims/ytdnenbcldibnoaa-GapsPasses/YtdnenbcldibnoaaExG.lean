/- Calls: the memory that is handed over, and what comes back. -/
import Derived.Test.YtdnenbcldibnoaaExF
namespace Go.Ex
open Go.Own (A Still cellAt Rep Reps Lies)

def Key.isH : Key → Bool
  | .s _ => false
  | _ => true

theorem Key.isH_id {k : Key} : k.isH = true ↔ ∃ i, k.id = some i := by cases k <;> simp [Key.isH, Key.id]

/-- Where a call begins: it may turn what it is handed, and what is new. -/
def Ctx.enter (C : Ctx) (ρ : Pl) (st : St) (w : World) : Ctx := ⟨w, C.S, fun B => (∃ b p, (st (.b b)).mem = true ∧ ρ b = some p ∧ p.B = B) ∨ w.heap.size ≤ B⟩

theorem cell_lt {w : World} {B o : Nat} {v : Value} (h : cellAt w.heap B o = some v) : B < w.heap.size := by
  unfold cellAt at h
  rcases Nat.lt_or_ge B w.heap.size with h1 | h1
  · exact h1
  · rw [Array.getElem?_eq_none h1] at h; cases h

theorem HSim.enter {C : Ctx} {ρ : Pl} {st : St} {w : World} (h : HSim C ρ st w) : HSim (C.enter ρ st w) ρ st w where
  ent := h.ent
  dis := h.dis
  fam := h.fam
  base := fun b p q r => .inl ⟨b, p, q, r, rfl⟩
  lt := h.lt
  still := h.still
  sfree := by
    rintro B o v hS (⟨b, p, h1, h2, rfl⟩ | h1)
    · exact h.sfree _ _ _ hS (h.base b p h1 h2)
    · have := cell_lt (h.still B o v hS); omega
  kept := Kept.refl _ _
  mine := fun B hB => .inr hB

theorem HSim.drop {C : Ctx} {ρ : Pl} {st st' : St} {w : World} {n : Nat} (h : HSim C ρ st w) (hk : ∀ k i, k.id = some i → i < n → st' k = st k) (hz : ∀ i, n ≤ i → (st' (.b i)).mem = false) : HSim C ρ st' w := by
  have lt : ∀ b, (st' (.b b)).mem = true → b < n := by
    intro b hb
    rcases Nat.lt_or_ge b n with h1 | h1
    · exact h1
    · rw [hz b h1] at hb; cases hb
  have eq : ∀ b, b < n → st' (.b b) = st (.b b) := fun b hb => hk (.b b) b rfl hb
  refine ⟨?_, ?_, ?_, ?_, h.lt, h.still, h.sfree, h.kept, h.mine⟩
  · intro b q
    have e1 := eq b (lt b q)
    rw [e1] at q ⊢
    exact h.ent b q
  · intro b b' p p' h1 h2 h3 h4 h5 h6
    have e1 := eq b (lt b h2)
    have e2 := eq b' (lt b' h3)
    rw [e1] at h2 ⊢
    rw [e2] at h3 ⊢
    exact h.dis b b' p p' h1 h2 h3 h4 h5 h6
  · intro b k q
    have hb := lt b (by rw [q]; rfl)
    rw [eq b hb] at q
    obtain ⟨⟨h1, h2⟩, l, h3, h4⟩ := h.fam b k q
    exact ⟨⟨h1, h2⟩, l, by rw [hk (.f k.fam) k.fam rfl (by omega)]; exact h3, h4⟩
  · intro b p q
    have e1 := eq b (lt b q)
    rw [e1] at q
    exact h.base b p q

/-- Behind a call: what it has left, and beside it what it was not handed. -/
def after (n' : Nat) (hv' st : St) : St := fun k => match k.id with | some i => if i < n' then hv' k else st k | none => st k

theorem after_s (n' : Nat) (hv' st : St) (t : Nat) : after n' hv' st (.s t) = st (.s t) := rfl
theorem after_lt {n' : Nat} {hv' st : St} {k : Key} {i : Nat} (hk : k.id = some i) (hi : i < n') : after n' hv' st k = hv' k := by
  simp only [after, hk, hi, if_true]
theorem after_ge {n' : Nat} {hv' st : St} {k : Key} {i : Nat} (hk : k.id = some i) (hi : n' ≤ i) : after n' hv' st k = st k := by
  simp only [after, hk, show ¬ i < n' by omega, if_false]

theorem Sim.merge {C : Ctx} {N : Nat} {ρ ρ' : Pl} {st hv hv' : St} {a : Act} {w w' : World} {Ds : List Nat} {n n' : Nat} (h : Sim C N ρ st a w Ds) (hk : ∀ k i, k.id = some i → i < n → st k = hv k) (hz : ∀ k i, k.id = some i → n ≤ i → i < n' → st k = .z) (hfr : Fresh hv n) (hn : n ≤ n')
    (hx : Ext n n' ρ ρ') (h1 : HSim (C.enter ρ hv w) ρ' hv' w') : Sim C N ρ' (after n' hv' st) a w' Ds := by
  have big : ∀ b, (after n' hv' st (.b b)).mem = true → n' ≤ b → (st (.b b)).mem = true ∧ ρ' b = ρ b := by
    intro b hb hnb
    rw [after_ge rfl hnb] at hb
    exact ⟨hb, hx.2 b (.inr hnb)⟩
  have small : ∀ b, (after n' hv' st (.b b)).mem = true → b < n' → (hv' (.b b)).mem = true := by
    intro b hb hnb
    rwa [after_lt rfl hnb] at hb
  -- a block that was not handed over lies apart
  have apart : ∀ b p, n' ≤ b → (st (.b b)).mem = true → ρ b = some p → ¬ (C.enter ρ hv w).M p.B := by
    rintro b p hnb hb hp (⟨b0, p0, q1, q2, q3⟩ | q)
    · have hb0 : b0 < n := by
        rcases Nat.lt_or_ge b0 n with h2 | h2
        · exact h2
        · rw [(hfr.1 b0 h2).1] at q1; cases q1
      have e0 : st (.b b0) = hv (.b b0) := hk (.b b0) b0 rfl hb0
      rw [← e0] at q1
      obtain ⟨k, k', d1, d2, d3, _⟩ := h.h.dis b b0 p p0 (by omega) hb q1 hp q2 q3.symm
      obtain ⟨⟨_, f1⟩, _⟩ := h.h.fam b0 k' d2
      obtain ⟨_, l, f2, f3⟩ := h.h.fam b k d1
      have hfn : k.fam < n := by omega
      rw [hk (.f k.fam) k.fam rfl hfn] at f2
      have := hfr.2 _ _ f2
      have := f3.2
      omega
    · have := h.h.lt b p hp
      have q : w.heap.size ≤ p.B := q
      omega
  have sub : ∀ B, (C.enter ρ hv w).M B → C.M B := by
    rintro B (⟨b0, p0, q1, q2, rfl⟩ | q)
    · have hb0 : b0 < n := by
        rcases Nat.lt_or_ge b0 n with h2 | h2
        · exact h2
        · rw [(hfr.1 b0 h2).1] at q1; cases q1
      rw [← hk (.b b0) b0 rfl hb0] at q1
      exact h.h.base b0 p0 q1 q2
    · exact h.h.mine B (Nat.le_trans h.h.kept.size q)
  have dsafe : ∀ D ∈ Ds, ¬ (C.enter ρ hv w).M D := by
    rintro D hD (⟨b0, p0, q1, q2, q3⟩ | q)
    · have hb0 : b0 < n := by
        rcases Nat.lt_or_ge b0 n with h2 | h2
        · exact h2
        · rw [(hfr.1 b0 h2).1] at q1; cases q1
      rw [← hk (.b b0) b0 rfl hb0] at q1
      exact h.f.dx D hD b0 p0 q1 q2 q3
    · have := h.f.lt hD
      have q : w.heap.size ≤ D := q
      omega
  refine ⟨⟨?_, ?_, ?_, ?_, h1.lt, h1.still, h.h.sfree, h.h.kept.trans (h1.kept.mono sub), h.h.mine⟩, ?_⟩
  · intro b q
    rcases Nat.lt_or_ge b n' with c | c
    · have q' := small b q c
      rw [after_lt rfl c]
      exact h1.ent b q'
    · obtain ⟨q1, q2⟩ := big b q c
      rw [after_ge rfl c]
      obtain ⟨p, d1, d2⟩ := h.h.ent b q1
      exact ⟨p, by rw [q2]; exact d1, (d2.mono hx.1).mem_world (h1.kept.block _ (apart b p c q1 d1))⟩
  · intro b b' p p' e1 e2 e3 e4 e5 e6
    have mix : ∀ b b' p p', n' ≤ b → b' < n' → (after n' hv' st (.b b)).mem = true → (after n' hv' st (.b b')).mem = true → ρ' b = some p → ρ' b' = some p' → p.B ≠ p'.B := by
      intro b b' p p' c c' f1 f2 f3 f4 f5
      obtain ⟨q1, q2⟩ := big b f1 c
      rw [q2] at f3
      refine apart b p c q1 f3 ?_
      rw [f5]
      exact h1.base b' p' (small b' f2 c') f4
    rcases Nat.lt_or_ge b n' with c | c <;> rcases Nat.lt_or_ge b' n' with c' | c'
    · have f2 := small b e2 c
      have f3 := small b' e3 c'
      rw [after_lt rfl c, after_lt rfl c']
      exact h1.dis b b' p p' e1 f2 f3 e4 e5 e6
    · exact absurd e6.symm (mix b' b p' p c' c e3 e2 e5 e4)
    · exact absurd e6 (mix b b' p p' c c' e2 e3 e4 e5)
    · obtain ⟨f2, g2⟩ := big b e2 c
      obtain ⟨f3, g3⟩ := big b' e3 c'
      rw [after_ge rfl c, after_ge rfl c']
      rw [g2] at e4
      rw [g3] at e5
      exact h.h.dis b b' p p' e1 f2 f3 e4 e5 e6
  · intro b k q
    rcases Nat.lt_or_ge b n' with c | c
    · rw [after_lt rfl c] at q
      obtain ⟨⟨d1, d2⟩, l, d3, d4⟩ := h1.fam b k q
      exact ⟨⟨d1, d2⟩, l, by rw [after_lt (i := k.fam) rfl (by omega)]; exact d3, d4⟩
    · rw [after_ge rfl c] at q
      obtain ⟨⟨⟨p, d1⟩, d2⟩, l, d3, d4⟩ := h.h.fam b k q
      refine ⟨⟨⟨p, hx.1 _ _ d1⟩, d2⟩, l, ?_, d4⟩
      have hge : n' ≤ k.fam := by
        rcases Nat.lt_or_ge k.fam n' with e | e
        · exfalso
          rcases Nat.lt_or_ge k.fam n with e2 | e2
          · rw [hk (.f k.fam) k.fam rfl e2] at d3
            have := hfr.2 _ _ d3
            have := d4.2
            omega
          · rw [hz (.f k.fam) k.fam rfl e2 e] at d3; cases d3
        · exact e
      rw [after_ge (i := k.fam) rfl hge]
      exact d3
  · intro b p q hp
    rcases Nat.lt_or_ge b n' with c | c
    · exact sub _ (h1.base b p (small b q c) hp)
    · obtain ⟨q1, q2⟩ := big b q c
      rw [q2] at hp
      exact h.h.base b p q1 hp
  · refine h.f.step hx.1 (fun t => rfl) (fun D hD => h1.kept.block D (dsafe D hD)) ?_
    intro D hD b p q hp hBD
    rcases Nat.lt_or_ge b n' with c | c
    · exact dsafe D hD (hBD ▸ h1.base b p (small b q c) hp)
    · obtain ⟨q1, q2⟩ := big b q c
      rw [q2] at hp
      exact h.f.dx D hD b p q1 hp hBD

end Go.Ex

namespace Go.Ex
noncomputable section
open Go.Own (A Still cellAt Rep Reps Lies)

/-- Memory that is handed to a call: blocks, families, the next id. -/
structure H where
  hb : Tr
  hf : Tr
  n : Nat

def hview (h : H) : St
  | .s _ => .z
  | .b i => h.hb.get i
  | .f i => h.hf.get i

/-- What a call comes to: its value, the memory, what has been written. -/
abbrev Orc := V → List V → H → Option (V × H × List Key)

def callOf (o : Oper) : Option (Operand × List Operand) :=
  match o.op with
  | .call ⟨.value f, args, _⟩ => some (f, args.toList)
  | _ => none

def wantE (ops : Array Oper) (o : Oper) : EM Bool :=
  match o.guard with
  | none => pure true
  | some (j, want) =>
    match (ops[j]?).bind (·.dst) with
    | some g => do
      let b ← rdS g
      match b with
      | .lit (.bool b) => pure (b == want)
      | _ => efail
    | none => efail

def headE (ops : Array Oper) (o : Oper) (f : Operand) (args : List Operand) : EM (Option (V × List V)) := do
  let b ← wantE ops o
  if b = true then do
    let fv ← opV f
    let vs ← opVs args
    pure (some (fv, vs))
  else pure none

def keysH (U : Ups) : List Key := (U.map (·.1)).filter Key.isH

def opC (orc : Orc) (N : Nat) (ops : Array Oper) (o : Oper) (f : Operand) (args : List Operand) (s : S) : Option (S × Log) :=
  match headE ops o f args (view s) with
  | some (none, R, _) =>
    match wrS N o.dst .un (view s) with
    | some (_, _, U) => some (applyT U s, ⟨R, U.map (·.1), 0, s.n, s.n⟩)
    | none => none
  | some (some (fv, vs), R, _) =>
    match orc fv vs ⟨s.hb, s.hf, s.n⟩ with
    | some (v, h', ws) =>
      match wrS N o.dst v (view s) with
      | some (_, _, U) => some (⟨(applyT U s).fr, h'.hb, h'.hf, h'.n, ws ++ s.ws⟩, ⟨R, U.map (·.1) ++ ws, s.n, s.n, h'.n⟩)
      | none => none
    | none => none
  | none => none

def opP (tt : ET) (N : Nat) (ops : Array Oper) (o : Oper) (s : S) : Option (S × Log) :=
  match (copG tt N ops o).run s.n (view s) with
  | some (_, R, U) =>
    if okU (nx o s.n) U = true then
      match applyT U s with
      | ⟨fr, hb, hf, _, ws⟩ => some (⟨fr, hb, hf, nx o s.n, keysH U ++ ws⟩, ⟨R, U.map (·.1), 0, s.n, nx o s.n⟩)
    else none
  | none => none

def opE (orc : Orc) (tt : ET) (N : Nat) (ops : Array Oper) (o : Oper) (s : S) : Option (S × Log) :=
  match callOf o with
  | some (f, args) => opC orc N ops o f args s
  | none => opP tt N ops o s

/-- An operation that calls no function, without logs. -/
def opPD (tt : ET) (N : Nat) (ops : Array Oper) (o : Oper) (s : S) : Option S :=
  (D.copG tt N ops o).run s.n (fun _ s' => some s') ⟨s.fr, s.hb, s.hf, (match allocs o with | true => Nat.succ s.n | false => s.n), s.ws⟩

def opD (orc : Orc) (tt : ET) (N : Nat) (ops : Array Oper) (o : Oper) (s : S) : Option S :=
  match callOf o with
  | some (f, args) =>
    match opC orc N ops o f args s with
    | some (s', _) => some s'
    | none => none
  | none => opPD tt N ops o s

def runL (orc : Orc) (tt : ET) (N : Nat) (ops : Array Oper) : List Oper → S → Option S
  | [], s => some s
  | o :: os, s =>
    match opD orc tt N ops o s with
    | some s' => runL orc tt N ops os s'
    | none => none

def runD (orc : Orc) (tt : ET) (N : Nat) (ops : Array Oper) : List Oper → S → Option (S × List Log)
  | [], s => some (s, [])
  | o :: os, s =>
    match opE orc tt N ops o s with
    | some (s', L) =>
      match runD orc tt N ops os s' with
      | some (s2, ls) => some (s2, L :: ls)
      | none => none
    | none => none

/-! ### What a call must do -/

def Acts (P : Program) (fvv : Value) (avs : List Value) (w : World) (R : Value → World → Prop) : Prop :=
  (∃ k caps fn, fvv = .func (.func k) #[] caps ∧ P.funcs[k]? = some fn ∧ (fn.name == "runtime.NumGoroutine") = false ∧ fn.body.isNone = false ∧ Calls P k (avs.toArray ++ caps) w (fun e w' => ∃ v, e = .returned v ∧ R v w')) ∨
  (∃ L q, fvv = .func (.yield L) #[] #[] ∧ w.heap[L]? = some (.loop q) ∧ avs.length = q.params.size ∧
    ∀ rd m, RoundIn (fen rd) m P L q.fn ((q.params.zip avs.toArray).foldl (fun tmps (t, a) => tmps.setIfInBounds t a) q.tmps) q.assign q.body w (fun e w' => ∃ v, e = .returned v ∧ R v w'))

theorem run_callee {P : Program} {k : Nat} {fn : Func} (h1 : P.funcs[k]? = some fn) (h2 : (fn.name == "runtime.NumGoroutine") = false) (h3 : fn.body.isNone = false) (args : Array Value) (w : World) : (callFunc k args).run P w = .ok (.enter k args) w := by
  simp only [callFunc, Sem.run_bind, program, Sem.run, Result.andThen_ok, h1, h2, h3, Bool.false_eq_true, if_false, Sem.run_pure]

theorem act_ok {P : Program} {o : Oper} {a : Act} {w : World} {f : Operand} {args : List Operand} (ho : callOf o = some (f, args)) {R : Value → World → Prop} (h : Acts P (a.eval f) (args.map a.eval) w R) (rd : Option Nat) (m : Nat) (K : Act → World → Prop)
    (Q : Exit → Act → World → Prop) (hK : ∀ v w', R v w' → K (a.put o.dst v) w') : o.wpIn (fen rd) m P a w K Q := by
  unfold callOf at ho
  split at ho
  · rename_i f' args' tys hop
    cases ho
    rcases h with ⟨k, caps, fn, h1, h2, h3, h4, h5⟩ | ⟨L, q, h1, h2, h3, h4⟩
    · have hexec : (execOp a.eval o).run P w = .ok (.enter k ((args'.toList.map a.eval).toArray ++ caps)) w := by
        have hc := run_callee (P := P) h2 h3 h4 (args'.map a.eval ++ caps) w
        simp only [execOp, hop, resolve, h1, Deferred.ofValue, Sem.run_bind, Sem.run_pure, Result.andThen_ok, invoke, Array.empty_append]
        rw [hc]
        congr 2
        apply Array.ext'
        simp
      refine ⟨fun _ _ => trivial, ?_⟩
      rw [run_semAt hexec (by simp), Oper.uponIn_enter]
      refine ⟨fun h => (by cases h), CallsIn.mono (calls_fen h5 rd (m - 1)) ?_⟩
      rintro e w' ⟨v, rfl, hr⟩
      exact hK v w' hr
    · have hexec : (execOp a.eval o).run P w = .ok (.round L q.fn ((q.params.zip (args'.toList.map a.eval).toArray).foldl (fun tmps (t, a) => tmps.setIfInBounds t a) q.tmps) q.assign q.body) w := by
        have hy := run_yield (P := P) (args := args'.map a.eval) h2 (by simpa using h3)
        simp only [execOp, hop, resolve, h1, Deferred.ofValue, Sem.run_bind, Sem.run_pure, Result.andThen_ok, invoke, Array.empty_append]
        have e2 : args'.map a.eval = (args'.toList.map a.eval).toArray := by apply Array.ext'; simp
        rw [hy, e2]
      refine ⟨fun _ _ => trivial, ?_⟩
      rw [run_semAt hexec (by simp), Oper.uponIn_round]
      refine ⟨fun h => (by cases h), (h4 rd (m - 1)).mono ?_⟩
      rintro e w' ⟨v, rfl, hr⟩
      exact hK v w' hr
  · cases ho

structure OrcR (P : Program) (fv : V) (args : List V) (h : H) (v : V) (h' : H) (ws : List Key) : Prop where
  n : h.n ≤ h'.n
  fresh : Fresh (hview h) h.n → Fresh (hview h') h'.n
  same : ∀ k, k.isH = true → k ∉ ws → hview h' k = hview h k
  wsH : ∀ k ∈ ws, k.isH = true ∧ ∀ i, k.id = some i → i < h'.n
  run : ∀ (C : Ctx) (ρ : Pl) (w : World) (fvv : Value) (avs : List Value), Fresh (hview h) h.n → HSim C ρ (hview h) w → VR C.S ρ fv fvv → VRs C.S ρ args avs → (∀ i, h.n ≤ i → i < h'.n → ρ i = none) →
    Acts P fvv avs w (fun v' w' => ∃ ρ', Ext h.n h'.n ρ ρ' ∧ HSim (C.enter ρ (hview h) w) ρ' (hview h') w' ∧ VR C.S ρ' v v')

def OrcOk (P : Program) (orc : Orc) : Prop := ∀ fv args h v h' ws, orc fv args h = some (v, h', ws) → OrcR P fv args h v h' ws

/-! ### Growth -/

def GoodK (n : Nat) (k : Key) : Prop := k.isH = true ∧ ∀ i, k.id = some i → i < n

structure Grows (s s' : S) : Prop where
  n : s.n ≤ s'.n
  fresh : Fresh (view s) s.n → Fresh (view s') s'.n
  same : ∀ k, k.isH = true → k ∉ s'.ws → k ∉ s.ws ∧ view s' k = view s k
  good : (∀ k ∈ s.ws, GoodK s.n k) → ∀ k ∈ s'.ws, GoodK s'.n k

theorem Grows.refl (s : S) : Grows s s := ⟨Nat.le_refl _, id, fun _ _ h => ⟨h, rfl⟩, fun h => h⟩
theorem Grows.trans {a b c : S} (h : Grows a b) (h' : Grows b c) : Grows a c :=
  ⟨Nat.le_trans h.n h'.n, fun q => h'.fresh (h.fresh q), fun k hk hc => let ⟨h1, h2⟩ := h'.same k hk hc; let ⟨h3, h4⟩ := h.same k hk h1; ⟨h3, h2.trans h4⟩, fun q => h'.good (h.good q)⟩

structure OpF (P : Program) (N : Nat) (ops : Array Oper) (o : Oper) (s s' : S) (L : Log) : Prop where
  g : Grows s s'
  ok : Fresh (view s) s.n → ∀ C, OpOk P C N ops o s s' L
  same : ∀ k, L.wB k = false → view s' k = view s k
  lo : L.lo = s.n
  hi : L.hi = s'.n
  ids : ∀ k i, k.id = some i → L.w k → i < s'.n

theorem view_mk (s : S) (n : Nat) (ws : List Key) : view ⟨s.fr, s.hb, s.hf, n, ws⟩ = view s := by funext k; cases k <;> rfl

theorem applyT_n : ∀ (U : Ups) (s : S), (applyT U s).n = s.n ∧ (applyT U s).ws = s.ws
  | [], _ => ⟨rfl, rfl⟩
  | u :: U, s => by
    simp only [applyT]
    obtain ⟨h1, h2⟩ := applyT_n U (put1 s u.1 u.2)
    rw [h1, h2]
    cases u.1 <;> exact ⟨rfl, rfl⟩

theorem wB_false {L : Log} {k : Key} (h : L.wB k = false) : ¬ L.w k := fun q => by rw [Log.wB_iff.2 q] at h; cases h

theorem nx_le (o : Oper) (n : Nat) : n ≤ nx o n := by unfold nx; split <;> omega

section
variable {P : Program} {orc : Orc} {tt : ET} {N : Nat} {ops : Array Oper} {o : Oper} {s s' : S} {L : Log}

theorem opP_ok (hT : ETok P tt) (e : opP tt N ops o s = some (s', L)) : OpF P N ops o s s' L := by
  unfold opP at e
  rw [copG_run] at e
  cases hs : stepG tt N s.n ops o (view s) with
  | none => simp [hs] at e
  | some q =>
    obtain ⟨u, R, U⟩ := q
    simp only [hs] at e
    split at e
    · rename_i hok
      simp only [Option.some.injEq, Prod.mk.injEq] at e
      obtain ⟨rfl, rfl⟩ := e
      have hv : view ⟨(applyT U s).fr, (applyT U s).hb, (applyT U s).hf, nx o s.n, keysH U ++ (applyT U s).ws⟩ = applyU U (view s) := by rw [view_mk, view_applyT]
      have hkeep : ∀ k, k ∉ U.map (·.1) → applyU U (view s) k = view s k := fun k hk => applyU_ne (fun u hu e => hk (List.mem_map.2 ⟨u, hu, e⟩))
      refine ⟨⟨nx_le o s.n, ?_, ?_, ?_⟩, ?_, ?_, rfl, rfl, ?_⟩
      · intro hf; rw [hv]; exact hf.apply (nx_le o s.n) hok
      · intro k hk hnot
        rw [hv]
        simp only [(applyT_n U s).2, List.mem_append, not_or] at hnot
        refine ⟨hnot.2, hkeep k fun hm => hnot.1 (List.mem_filter.2 ⟨hm, hk⟩)⟩
      · intro hg k hk
        simp only [(applyT_n U s).2, List.mem_append] at hk
        rcases hk with hk | hk
        · obtain ⟨h1, h2⟩ := List.mem_filter.1 hk
          obtain ⟨u, hu, rfl⟩ := List.mem_map.1 h1
          exact ⟨h2, okK_lt (okU_mem hok hu).1⟩
        · obtain ⟨h1, h2⟩ := hg k hk
          exact ⟨h1, fun i hi => Nat.lt_of_lt_of_le (h2 i hi) (nx_le o s.n)⟩
      · intro hfr C st ρ a w Ds hsim hread hnone hz
        have hst := LocE.stepG tt N s.n ops o (view s) st u R U hs (fun k hk => hread k (.inl hk))
        have hgood := stepG_ok hT hsim (fun ha => hnone s.n (Nat.le_refl _) (by simp [nx, ha])) hst
        have heq : applyU U st = fun k => if Log.wB ⟨R, U.map (·.1), 0, s.n, nx o s.n⟩ k = true then view ⟨(applyT U s).fr, (applyT U s).hb, (applyT U s).hf, nx o s.n, keysH U ++ (applyT U s).ws⟩ k else st k := by
          funext k
          rw [hv]
          split
          · rename_i hw
            by_cases hm : k ∈ U.map (·.1)
            · obtain ⟨u', hu', e'⟩ := List.mem_map.1 hm
              exact applyU_in ⟨u', hu', e'⟩
            · rw [hkeep k hm, applyU_ne (fun u hu e => hm (List.mem_map.2 ⟨u, hu, e⟩))]
              rcases Log.wB_iff.1 hw with hw | ⟨i, hi, h1, h2⟩
              · exact absurd hw hm
              · rw [hz k i hi h1 h2, hfr.key hi h1]
          · rename_i hw
            exact applyU_ne (fun u hu e => hw (Log.wB_iff.2 (.inl (List.mem_map.2 ⟨u, hu, e⟩))))
        rw [← heq]
        exact hgood
      · intro k hk
        rw [hv]
        exact hkeep k fun hm => wB_false hk (.inl hm)
      · rintro k i hi (hw | ⟨j, hj, h1, h2⟩)
        · obtain ⟨u, hu, rfl⟩ := List.mem_map.1 hw
          exact okK_lt (okU_mem hok hu).1 i hi
        · rw [hi] at hj; cases hj; exact h2
    · cases e

theorem LocE.wantE (ops : Array Oper) (o : Oper) : LocE (wantE ops o) := by
  unfold Go.Ex.wantE
  split
  · exact LocE.pure _
  · split
    · refine LocE.bind (LocE.rdS _) fun b => ?_
      split <;> first | exact LocE.pure _ | exact LocE.fail
    · exact LocE.fail
theorem LocE.headE (ops : Array Oper) (o : Oper) (f : Operand) (args : List Operand) : LocE (headE ops o f args) :=
  LocE.bind (LocE.wantE _ _) fun _ => LocE.ite (LocE.bind (LocE.opV _) fun _ => LocE.bind (LocE.opVs _) fun _ => LocE.pure _) (LocE.pure _)

theorem head_ok {C : Ctx} {ρ : Pl} {st : St} {a : Act} {w : World} {Ds : List Nat} (h : Sim C N ρ st a w Ds) {f : Operand} {args : List Operand} {r : Option (V × List V)} {R : List Key} {U : Ups} (e : headE ops o f args st = some (r, R, U)) :
    match r with
    | none => Region.wanted o (yielded ops a.tmps) = false
    | some (fv, vs) => Region.wanted o (yielded ops a.tmps) = true ∧ VR C.S ρ fv (a.eval f) ∧ VRs C.S ρ vs (args.map a.eval) := by
  unfold headE at e
  obtain ⟨b, R1, U1, R2, U2, h1, h2, rfl, rfl⟩ := bind_some e
  have hw : U1 = [] ∧ Region.wanted o (yielded ops a.tmps) = b := by
    unfold wantE at h1
    cases hg : o.guard with
    | none =>
      simp only [hg] at h1
      obtain ⟨rfl, rfl, rfl⟩ := pure_some h1
      exact ⟨rfl, by simp [Region.wanted, hg]⟩
    | some q =>
      obtain ⟨j, want⟩ := q
      simp only [hg] at h1
      cases hd : (ops[j]?).bind (·.dst) with
      | none => simp only [hd] at h1; exact (efail_some h1).elim
      | some g =>
        simp only [hd] at h1
        obtain ⟨b', R3, U3, R4, U4, h3, h4, rfl, rfl⟩ := bind_some h1
        obtain ⟨rfl, hb⟩ := rdS_ok h h3
        simp only [applyU] at h4
        split at h4
        · obtain ⟨rfl, rfl, rfl⟩ := pure_some h4
          exact ⟨rfl, guard_ok hg hd hb⟩
        · exact (efail_some h4).elim
  obtain ⟨rfl, hw⟩ := hw
  simp only [applyU] at h2
  split at h2
  · rename_i hb
    obtain ⟨fv, R3, U3, R4, U4, h3, h4, rfl, rfl⟩ := bind_some h2
    obtain ⟨rfl, q1⟩ := opV_ok h h3
    obtain ⟨vs, R5, U5, R6, U6, h5, h6, rfl, rfl⟩ := bind_some h4
    obtain ⟨rfl, q2⟩ := opVs_ok h h5
    obtain ⟨rfl, rfl, rfl⟩ := pure_some h6
    exact ⟨by rw [hw, hb], q1, q2⟩
  · rename_i hb
    obtain ⟨rfl, rfl, rfl⟩ := pure_some h2
    simpa [hw] using hb

/-- What 'wrS' writes: the slot, and nothing but it. -/
theorem wrS_keys {dst : Option Nat} {x : V} {st : St} {u : Unit} {R : List Key} {U : Ups} (e : wrS N dst x st = some (u, R, U)) : (dst = none ∧ U = []) ∨ ∃ k, dst = some k ∧ k < N ∧ U = [(.s k, .v x)] := by
  unfold wrS at e
  cases dst with
  | none => obtain ⟨_, _, rfl⟩ := pure_some e; exact .inl ⟨rfl, rfl⟩
  | some k =>
    simp only at e
    split at e
    · rename_i hk
      obtain ⟨rfl, rfl⟩ := wrX_some e
      exact .inr ⟨k, rfl, hk, rfl⟩
    · exact (efail_some e).elim

theorem put_dst {C : Ctx} {ρ : Pl} {st : St} {a : Act} {w : World} {Ds : List Nat} (h : Sim C N ρ st a w Ds) {dst : Option Nat} {x : V} {v : Value} (hx : VR C.S ρ x v) {U : Ups} (hU : (dst = none ∧ U = []) ∨ ∃ k, dst = some k ∧ k < N ∧ U = [(.s k, .v x)]) :
    Sim C N ρ (applyU U st) (a.put dst v) w Ds := by
  rcases hU with ⟨rfl, rfl⟩ | ⟨k, rfl, hk, rfl⟩
  · exact h
  · exact h.put hk hx

theorem U_notH {dst : Option Nat} {x : V} {U : Ups} (hU : (dst = none ∧ U = []) ∨ ∃ k, dst = some k ∧ k < N ∧ U = [(.s k, .v x)]) {k : Key} (hk : k ∈ U.map (·.1)) : k.isH = false := by
  rcases hU with ⟨_, rfl⟩ | ⟨q, _, _, rfl⟩
  · simp at hk
  · simp at hk; subst hk; rfl

theorem opC_ok (hO : OrcOk P orc) {f : Operand} {args : List Operand} (ho : callOf o = some (f, args)) (e : opC orc N ops o f args s = some (s', L)) : OpF P N ops o s s' L := by
  unfold opC at e
  cases hh : headE ops o f args (view s) with
  | none => simp [hh] at e
  | some q =>
    obtain ⟨r, R, U0⟩ := q
    simp only [hh] at e
    cases r with
    | none =>
      simp only at e
      cases hw : wrS N o.dst .un (view s) with
      | none => simp [hw] at e
      | some q =>
        obtain ⟨u, R2, U⟩ := q
        simp only [hw, Option.some.injEq, Prod.mk.injEq] at e
        obtain ⟨rfl, rfl⟩ := e
        have hU := wrS_keys hw
        have hn := applyT_n U s
        have hkeep : ∀ k, k ∉ U.map (·.1) → applyU U (view s) k = view s k := fun k hk => applyU_ne (fun u hu e => hk (List.mem_map.2 ⟨u, hu, e⟩))
        have hH : ∀ k, k.isH = true → applyU U (view s) k = view s k := fun k hk => hkeep k fun hm => by rw [U_notH hU hm] at hk; cases hk
        refine ⟨⟨by rw [hn.1]; exact Nat.le_refl _, ?_, ?_, ?_⟩, ?_, ?_, rfl, hn.1.symm, ?_⟩
        · intro hf
          rw [view_applyT, hn.1]
          refine ⟨fun i hi => ?_, fun f l hl => ?_⟩
          · rw [hH _ rfl, hH _ rfl]; exact hf.1 i hi
          · rw [hH _ rfl] at hl; exact hf.2 f l hl
        · intro k hk hnot
          rw [hn.2] at hnot
          rw [view_applyT]
          exact ⟨hnot, hH k hk⟩
        · intro hg k hk
          rw [hn.2] at hk
          rw [hn.1]
          exact hg k hk
        · intro hfr C st ρ a w Ds hsim hread hnone hz
          have hst := LocE.headE ops o f args (view s) st none R U0 hh (fun k hk => hread k (.inl hk))
          have hwant := head_ok hsim hst
          simp only at hwant
          intro rd m K Q hK
          rw [if_neg (by rw [hwant]; simp)]
          refine ⟨fun _ _ => trivial, hK ρ _ _ (Ext.refl _ _ _) ?_⟩
          have := put_dst hsim (x := .un) (v := undef) (by simp only [VR]) hU
          have heq : applyU U st = fun k => if Log.wB ⟨R, U.map (·.1), 0, s.n, s.n⟩ k = true then view (applyT U s) k else st k := by
            funext k
            rw [view_applyT]
            split
            · rename_i hw2
              rcases Log.wB_iff.1 hw2 with hw2 | ⟨i, hi, h1, h2⟩
              · obtain ⟨u', hu', e'⟩ := List.mem_map.1 hw2
                exact applyU_in ⟨u', hu', e'⟩
              · simp only at h1 h2; omega
            · rename_i hw2
              exact applyU_ne (fun u hu e => hw2 (Log.wB_iff.2 (.inl (List.mem_map.2 ⟨u, hu, e⟩))))
          rw [← heq]
          exact this
        · intro k hk
          rw [view_applyT]
          exact hkeep k fun hm => wB_false hk (.inl hm)
        · rintro k i hi (hw2 | ⟨j, hj, h1, h2⟩)
          · have := U_notH hU hw2
            rw [Key.isH_id.2 ⟨i, hi⟩] at this; cases this
          · simp only at h1 h2; omega
    | some q =>
      obtain ⟨fv, vs⟩ := q
      simp only at e
      cases hor : orc fv vs ⟨s.hb, s.hf, s.n⟩ with
      | none => simp [hor] at e
      | some q =>
        obtain ⟨v, h', ws⟩ := q
        simp only [hor] at e
        cases hw : wrS N o.dst v (view s) with
        | none => simp [hw] at e
        | some q =>
          obtain ⟨u, R2, U⟩ := q
          simp only [hw, Option.some.injEq, Prod.mk.injEq] at e
          obtain ⟨rfl, rfl⟩ := e
          have hU := wrS_keys hw
          obtain ⟨o1, o2, o3, o4, o5⟩ := hO _ _ _ _ _ _ hor
          -- the new state's view
          have hvH : ∀ k, k.isH = true → view ⟨(applyT U s).fr, h'.hb, h'.hf, h'.n, ws ++ s.ws⟩ k = hview h' k := by
            intro k hk; cases k <;> first | rfl | simp [Key.isH] at hk
          have hvS : ∀ k, k.isH = false → view ⟨(applyT U s).fr, h'.hb, h'.hf, h'.n, ws ++ s.ws⟩ k = applyU U (view s) k := by
            intro k hk
            rw [← view_applyT]
            cases k <;> first | rfl | simp [Key.isH] at hk
          have hin : ∀ k, k.isH = true → hview ⟨s.hb, s.hf, s.n⟩ k = view s k := by
            intro k hk; cases k <;> first | rfl | simp [Key.isH] at hk
          have hinF : Fresh (view s) s.n → Fresh (hview ⟨s.hb, s.hf, s.n⟩) s.n := by
            intro hf
            refine ⟨fun i hi => ?_, fun f l hl => hf.2 f l hl⟩
            exact hf.1 i hi
          refine ⟨⟨o1, ?_, ?_, ?_⟩, ?_, ?_, rfl, rfl, ?_⟩
          · intro hf
            have := o2 (hinF hf)
            refine ⟨fun i hi => ?_, fun f l hl => ?_⟩
            · rw [hvH _ rfl, hvH _ rfl]; exact this.1 i hi
            · rw [hvH _ rfl] at hl; exact this.2 f l hl
          · intro k hk hnot
            simp only [List.mem_append, not_or] at hnot
            rw [hvH k hk, o3 k hk hnot.1, hin k hk]
            exact ⟨hnot.2, rfl⟩
          · intro hg k hk
            rcases List.mem_append.1 hk with hk | hk
            · exact o4 k hk
            · obtain ⟨h1, h2⟩ := hg k hk
              exact ⟨h1, fun i hi => Nat.lt_of_lt_of_le (h2 i hi) o1⟩
          · intro hfr C st ρ a w Ds hsim hread hnone hz
            have hst := LocE.headE ops o f args (view s) st _ R U0 hh (fun k hk => hread k (.inl hk))
            obtain ⟨hwant, q1, q2⟩ := head_ok hsim hst
            have hag : ∀ k i, k.id = some i → i < s.n → st k = hview ⟨s.hb, s.hf, s.n⟩ k := by
              intro k i hi hlt
              rw [hread k (.inr ⟨i, hi, hlt⟩), hin k (Key.isH_id.2 ⟨i, hi⟩)]
            have hfrh := hinF hfr
            have hdrop : HSim C ρ (hview ⟨s.hb, s.hf, s.n⟩) w := hsim.h.drop (n := s.n) (fun k i hi hlt => (hag k i hi hlt).symm) (fun i hi => by rw [(hfrh.1 i hi).1]; rfl)
            have hact := o5 C ρ w _ _ hfrh hdrop q1 q2 hnone
            intro rd m K Q hK
            rw [if_pos hwant]
            refine act_ok ho hact rd m K Q ?_
            rintro v' w' ⟨ρ', x1, x2, x3⟩
            refine hK ρ' _ _ x1 ?_
            have hm := hsim.merge hag hz hfrh o1 x1 x2
            have hp := put_dst hm x3 hU
            have heq : applyU U (after h'.n (hview h') st) = fun k => if Log.wB ⟨R, U.map (·.1) ++ ws, s.n, s.n, h'.n⟩ k = true then view ⟨(applyT U s).fr, h'.hb, h'.hf, h'.n, ws ++ s.ws⟩ k else st k := by
              funext k
              cases hkH : k.isH with
              | false =>
                rw [hvS k hkH]
                have hst' : after h'.n (hview h') st k = st k := by
                  cases k <;> first | rfl | simp [Key.isH] at hkH
                split
                · rename_i hw2
                  rcases Log.wB_iff.1 hw2 with hw2 | ⟨i, hi, h1, h2⟩
                  · rcases List.mem_append.1 hw2 with hw2 | hw2
                    · obtain ⟨u', hu', e'⟩ := List.mem_map.1 hw2
                      exact applyU_in ⟨u', hu', e'⟩
                    · have := (o4 k hw2).1; rw [hkH] at this; cases this
                  · have := Key.isH_id.2 ⟨i, hi⟩; rw [hkH] at this; cases this
                · rename_i hw2
                  rw [applyU_ne (fun u hu e => hw2 (Log.wB_iff.2 (.inl (List.mem_append.2 (.inl (List.mem_map.2 ⟨u, hu, e⟩)))))), hst']
              | true =>
                rw [hvH k hkH, applyU_ne (fun u hu e => by have := U_notH hU (List.mem_map.2 ⟨u, hu, e⟩); rw [hkH] at this; cases this)]
                obtain ⟨i, hi⟩ := Key.isH_id.1 hkH
                split
                · rename_i hw2
                  rcases Log.wB_iff.1 hw2 with hw2 | ⟨j, hj, h1, h2⟩
                  · rcases List.mem_append.1 hw2 with hw2 | hw2
                    · have := U_notH hU hw2; rw [hkH] at this; cases this
                    · exact after_lt hi ((o4 k hw2).2 i hi)
                  · exact after_lt hj h2
                · rename_i hw2
                  have hnw : k ∉ ws := fun hm2 => hw2 (Log.wB_iff.2 (.inl (List.mem_append.2 (.inr hm2))))
                  rcases Nat.lt_or_ge i h'.n with c | c
                  · rw [after_lt hi c, o3 k hkH hnw]
                    rcases Nat.lt_or_ge i s.n with c2 | c2
                    · exact (hag k i hi c2).symm
                    · exact absurd (Log.wB_iff.2 (.inr ⟨i, hi, c2, c⟩)) hw2
                  · exact after_ge hi c
            rw [← heq]
            exact hp
          · intro k hk
            have hnot := wB_false hk
            cases hkH : k.isH with
            | false =>
              rw [hvS k hkH]
              exact applyU_ne (fun u hu e => hnot (.inl (List.mem_append.2 (.inl (List.mem_map.2 ⟨u, hu, e⟩)))))
            | true =>
              rw [hvH k hkH, o3 k hkH (fun hm => hnot (.inl (List.mem_append.2 (.inr hm)))), hin k hkH]
          · rintro k i hi (hw2 | ⟨j, hj, h1, h2⟩)
            · rcases List.mem_append.1 hw2 with hw2 | hw2
              · have := U_notH hU hw2
                rw [Key.isH_id.2 ⟨i, hi⟩] at this; cases this
              · exact (o4 k hw2).2 i hi
            · rw [hi] at hj; cases hj; exact h2

theorem opE_ok (hT : ETok P tt) (hO : OrcOk P orc) (e : opE orc tt N ops o s = some (s', L)) : OpF P N ops o s s' L := by
  unfold opE at e
  cases hc : callOf o with
  | none => simp only [hc] at e; exact opP_ok hT e
  | some q => obtain ⟨f, args⟩ := q; simp only [hc] at e; exact opC_ok hO hc e

theorem opD_ok (e : opD orc tt N ops o s = some s') : ∃ s1 L, opE orc tt N ops o s = some (s1, L) ∧ view s' = view s1 ∧ s'.n = s1.n ∧ ∀ k, k ∈ s'.ws ↔ k ∈ s1.ws := by
  unfold opD at e
  unfold opE
  cases hc : callOf o with
  | some q =>
    obtain ⟨f, args⟩ := q
    simp only [hc] at e ⊢
    cases h : opC orc N ops o f args s with
    | none => simp [h] at e
    | some q =>
      obtain ⟨s1, L⟩ := q
      simp only [h, Option.some.injEq] at e
      subst e
      exact ⟨s1, L, rfl, rfl, rfl, fun _ => Iff.rfl⟩
  | none =>
    simp only [hc] at e ⊢
    unfold opPD at e
    obtain ⟨r, R, U, h1, h2, h3⟩ := Ag.copG tt N s.n ops o _ _ _ e
    have hn : (match allocs o with | true => Nat.succ s.n | false => s.n) = nx o s.n := by
      unfold nx
      cases allocs o <;> simp
    rw [hn] at h1 h2 h3
    rw [view_mk] at h1
    simp only [Option.some.injEq] at h3
    subst h3
    refine ⟨⟨(applyT U s).fr, (applyT U s).hb, (applyT U s).hf, nx o s.n, keysH U ++ (applyT U s).ws⟩, ⟨R, U.map (·.1), 0, s.n, nx o s.n⟩, ?_, ?_, ?_, ?_⟩
    · unfold opP
      rw [h1]
      simp only [h2, if_true]
    · rw [view_applyW, view_mk]
      exact (view_applyT U s).symm.trans (view_mk (applyT U s) _ _).symm
    · rw [applyW_n]
    · intro k
      rw [applyW_ws]
      simp only [(applyT_n U s).2, List.mem_append, keysH, List.mem_filter]
      have : k.heap = k.isH := by cases k <;> rfl
      rw [this]

theorem Grows.like {s s1 s' : S} (h : Grows s s1) (hv : view s' = view s1) (hn : s'.n = s1.n) (hw : ∀ k, k ∈ s'.ws ↔ k ∈ s1.ws) : Grows s s' :=
  ⟨by rw [hn]; exact h.n, fun q => by rw [hn, hv]; exact h.fresh q, fun k hk hc => by rw [hv]; exact h.same k hk (fun q => hc ((hw k).2 q)), fun q k hk => by rw [hn]; exact h.good q k ((hw k).1 hk)⟩

theorem runL_grows (hT : ETok P tt) (hO : OrcOk P orc) : ∀ {l : List Oper} {s s' : S}, runL orc tt N ops l s = some s' → Grows s s'
  | [], s, s', e => by simp only [runL, Option.some.injEq] at e; subst e; exact Grows.refl _
  | o :: os, s, s', e => by
    simp only [runL] at e
    split at e
    · rename_i s1 h1
      obtain ⟨s2, L, h2, h3, h4, h5⟩ := opD_ok h1
      exact ((opE_ok hT hO h2).g.like h3 h4 h5).trans (runL_grows hT hO e)
    · cases e

theorem runL_ok (hT : ETok P tt) (hO : OrcOk P orc) {C : Ctx} {Ds : List Nat} {rd : Option Nat} {m : Nat} {Q : Exit → Act → World → Prop} : ∀ {l : List Oper} {s s' : S} {ρ : Pl} {a : Act} {w : World}, runL orc tt N ops l s = some s' → Fresh (view s) s.n → Sim C N ρ (view s) a w Ds →
    (∀ i, s.n ≤ i → i < s'.n → ρ i = none) → (∀ ρ' a' w', Ext s.n s'.n ρ ρ' → Sim C N ρ' (view s') a' w' Ds → Q .normal a' w') → wpListIn (fen rd) m P ops Q l a w
  | [], s, s', ρ, a, w, e, hf, hs, hn, hQ => by
    simp only [runL, Option.some.injEq] at e; subst e
    exact hQ ρ a w (Ext.refl _ _ _) hs
  | o :: os, s, s', ρ, a, w, e, hf, hs, hn, hQ => by
    simp only [runL] at e
    split at e
    · rename_i s1 h1
      obtain ⟨s2, L, h2, h3, h4, h5⟩ := opD_ok h1
      have hop := opE_ok hT hO h2
      have hgr := hop.g.like h3 h4 h5
      have hg2 := runL_grows hT hO e
      have hgood := hop.ok hf C (view s) ρ a w Ds hs (fun _ _ => rfl) (fun i h1 h2 => hn i h1 (by have := hg2.n; rw [h4] at this; omega)) (fun k i hk h1 _ => hf.key hk h1)
      have heq : (fun k => if L.wB k = true then view s2 k else view s k) = view s1 := by
        rw [h3]
        funext k
        split
        · rfl
        · rename_i hk
          exact (hop.same k (by simpa using hk)).symm
      rw [heq] at hgood
      refine wpListIn_step fun K hK => ?_
      rw [← h4] at hgood
      refine hgood rd m K Q ?_
      intro ρ' a' w' hx hs'
      refine hK _ _ (runL_ok hT hO e (hgr.fresh hf) hs' ?_ ?_)
      · intro i h1 h2
        rw [hx.2 i (.inr h1)]
        exact hn i (by have := hgr.n; omega) h2
      · intro ρ2 a2 w2 hx2 hs2
        exact hQ ρ2 a2 w2 ((hx.mono (Nat.le_refl _) hg2.n).trans (hx2.mono hgr.n (Nat.le_refl _))) hs2
    · cases e

theorem runD_run (hT : ETok P tt) (hO : OrcOk P orc) {C : Ctx} : ∀ {l : List Oper} {s s' : S} {ls : List Log}, runD orc tt N ops l s = some (s', ls) → Grows s s' ∧ (Fresh (view s) s.n → ∃ tr, Run P C N ops l s tr s' ∧ tr.map (·.1) = ls ∧ ∀ (i : Nat) (L : Log) (t t1 : S), tr[i]? = some (L, t, t1) → L.lo = t.n ∧ L.hi = t1.n)
  | [], s, s', ls, e => by
    simp only [runD, Option.some.injEq, Prod.mk.injEq] at e
    obtain ⟨rfl, rfl⟩ := e
    exact ⟨Grows.refl _, fun _ => ⟨[], .nil _, rfl, fun i L t t1 h => by simp at h⟩⟩
  | o :: os, s, s', ls, e => by
    simp only [runD] at e
    split at e
    · rename_i s1 L h1
      split at e
      · rename_i s2 ls2 h2
        simp only [Option.some.injEq, Prod.mk.injEq] at e
        obtain ⟨rfl, rfl⟩ := e
        have hop := opE_ok hT hO h1
        obtain ⟨g1, g2⟩ := runD_run hT hO (C := C) h2
        refine ⟨hop.g.trans g1, fun hf => ?_⟩
        obtain ⟨tr, r1, r2, r3⟩ := g2 (hop.g.fresh hf)
        refine ⟨(L, s, s1) :: tr, .cons (hop.ok hf C) hop.same hop.g.n hop.ids r1, by simp [r2], ?_⟩
        intro i L' t t1 hi
        cases i with
        | zero =>
          simp only [List.getElem?_cons_zero, Option.some.injEq, Prod.mk.injEq] at hi
          obtain ⟨rfl, rfl, rfl⟩ := hi
          exact ⟨hop.lo, hop.hi⟩
        | succ i => simp only [List.getElem?_cons_succ] at hi; exact r3 i L' t t1 hi
      · cases e
    · cases e

theorem runD_ok (hT : ETok P tt) (hO : OrcOk P orc) (hm : P.follows .mixedOrders = true) {C : Ctx} {Ds : List Nat} {rd : Option Nat} {m id : Nat} {Q : Exit → Act → World → Prop} {s s' : S} {ls : List Log} {ρ : Pl} {a : Act} {w : World} (e : runD orc tt N ops ops.toList s = some (s', ls)) (hd : drawOk ops.toList ls = true)
    (hf : Fresh (view s) s.n) (hs : Sim C N ρ (view s) a w Ds) (hn : ∀ i, s.n ≤ i → i < s'.n → ρ i = none) (hQ : ∀ ρ' a' w', Ext s.n s'.n ρ ρ' → Sim C N ρ' (view s') a' w' Ds → Q .normal a' w') : (Code.region id ops true).wpIn (fen rd) m P Q a w := by
  obtain ⟨_, g2⟩ := runD_run hT hO (C := C) e
  obtain ⟨tr, r1, r2, r3⟩ := g2 hf
  refine wpIn_region_any hm (draw_ok r1 (by rw [r2]; exact hd) hf r3 (fun ρ' a' w' hx hs' => hQ ρ' a' w' hx hs') ops.size _ a _ ρ (view s) ?_ ?_ hs.drew (Ext.refl _ _ _) ?_ ?_)
  · unfold leftN
    exact Nat.le_trans (List.length_filter_le _ _) (by simp)
  · intro j o hj hl
    exfalso
    have : j < ops.size := (Array.getElem?_eq_some_iff.1 hj).1
    simp [Array.getD_eq_getD_getElem?, this] at hl
  · intro j L t t1 hj _ i h1 h2
    obtain ⟨hlen, hget⟩ := r1.get
    have hlt : j < ops.toList.length := by rw [← hlen]; exact (List.getElem?_eq_some_iff.1 hj).1
    obtain ⟨L', t', t1', d1, _, _, _, d5, d6, _⟩ := hget j ops.toList[j] (List.getElem?_eq_getElem hlt)
    rw [hj] at d1; cases d1
    exact hn i (by omega) (by omega)
  · intro k
    refine .inr ⟨?_, rfl⟩
    intro j L u u1 hl hj
    exfalso
    have : j < ops.size := by
      have := (List.getElem?_eq_some_iff.1 hj).1
      rw [r1.get.1] at this
      simpa using this
    simp [Array.getD_eq_getD_getElem?, this] at hl

end
end
end Go.Ex
