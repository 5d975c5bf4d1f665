/- Functions, rounds, calls to a depth. -/
import Derived.Test.YtdnenbcldibnoaaExH
import Derived.Test.YtdnenbcldibnoaaExD
namespace Go.Ex
noncomputable section
open Go.Own (A Still cellAt Rep Reps Lies)

structure FnI where
  ntmps : Nat
  body : Code
  rs : List (Nat × Option Nat)

def toRV (r : Nat × Option Nat) : ResultVar := match r.2 with | none => .tmp r.1 | some t => .cell r.1 t

def FnOk (P : Program) (k : Nat) (fi : FnI) : Prop :=
  ∃ fn, P.funcs[k]? = some fn ∧ (fn.name == "runtime.NumGoroutine") = false ∧ fn.body = some fi.body ∧ fn.ntmps = fi.ntmps ∧ fn.results = (fi.rs.map toRV).toArray

def ofL : List V → Nat → Tr → Tr
  | [], _, t => t
  | x :: xs, i, t => ofL xs (i + 1) (t.put i (.v x))

def setPs : List (Nat × V) → Tr → Tr
  | [], t => t
  | (i, x) :: l, t => setPs l (t.put i (.v x))

def retE (tt : ET) : List (Nat × Option Nat) → EM (List V)
  | [] => pure []
  | (t, none) :: rs => do
    let x ← rdS t
    let xs ← retE tt rs
    pure (x :: xs)
  | (t, some ty) :: rs => do
    let p ← rdS t
    let x ← loadV tt ty p
    let xs ← retE tt rs
    pure (x :: xs)

def oneOr : List V → V
  | [x] => x
  | xs => .tup xs

def runRV (a : Act) (r : ResultVar) : Sem Value := match r with | .tmp t => pure (a.tmps.getD t undef) | .cell b t => do loadVar t (← asAddr (a.tmps.getD b undef))

def All2 {α β : Type} (R : α → β → Prop) : List α → List β → Prop
  | [], [] => True
  | a :: as, b :: bs => R a b ∧ All2 R as bs
  | _, _ => False

theorem run_foldAll {P : Program} {w : World} {α : Type} (g : α → Sem Value) : ∀ (l : List α) (vs : List Value) (acc : Array Value), All2 (fun r v => (g r).run P w = .ok v w) l vs → (l.foldlM (fun bs a => bs.push <$> g a) acc).run P w = .ok (acc ++ vs.toArray) w
  | [], [], acc, _ => by simp
  | r :: l, v :: vs, acc, h => by
    rw [List.foldlM_cons, Sem.run_bind]
    have : (acc.push <$> g r : Sem (Array Value)).run P w = .ok (acc.push v) w := by
      rw [map_eq_pure_bind, Sem.run_bind, h.1]
      simp
    rw [this, Result.andThen_ok, run_foldAll g l vs _ h.2]
    simp
  | [], _ :: _, _, h => h.elim
  | _ :: _, [], _, h => h.elim

abbrev FT := Nat → Option FnI

def evalFn (orc : Orc) (tt : ET) (ft : FT) (fuel k : Nat) (args : List V) (h : H) : Option (V × H × List Key) :=
  match ft k with
  | some fi =>
    match Nat.ble args.length fi.ntmps with
    | true =>
      match (den tt fi.ntmps fuel fi.body).run orc ⟨ofL args 0 .nil, h.hb, h.hf, h.n, []⟩ with
      | some (s', .norm) =>
        match retE tt fi.rs (view s') with
        | some (xs, _, _) => some (oneOr xs, ⟨s'.hb, s'.hf, s'.n⟩, s'.ws)
        | none => none
      | some (s', .ret) =>
        match retE tt fi.rs (view s') with
        | some (xs, _, _) => some (oneOr xs, ⟨s'.hb, s'.hf, s'.n⟩, s'.ws)
        | none => none
      | _ => none
    | false => none
  | none => none

def evalRound (orc : Orc) (tt : ET) (fuel l : Nat) (args : List V) (h : H) : Option (V × H × List Key) :=
  match h.hb.get l with
  | .lp r =>
    match Nat.blt l h.n && r.ready && Nat.beq args.length r.params.length && r.params.all (fun p => Nat.blt p r.fr.length) with
    | true =>
      match (den tt r.fr.length fuel r.assign).run orc ⟨setPs (r.params.zip args) (ofL r.fr 0 .nil), h.hb.put l .z, h.hf, h.n, []⟩ with
      | some (s1, .norm) =>
        match (den tt r.fr.length fuel r.body).run orc s1 with
        | some (s2, x) => some (.lit (.bool x.isNorm), ⟨s2.hb.put l (.lp { r with ready := x.isNorm, pend := x.pend }), s2.hf, s2.n⟩, .b l :: s2.ws)
        | none => none
      | _ => none
    | false => none
  | _ => none

def callD (tt : ET) (ft : FT) (fuel : Nat) : Nat → Orc
  | 0 => fun _ _ _ => none
  | d + 1 => fun fv args h =>
    match fv with
    | .fn k caps => evalFn (callD tt ft fuel d) tt ft fuel k (args ++ caps) h
    | .yl l => evalRound (callD tt ft fuel d) tt fuel l args h
    | _ => none

theorem ofL_get : ∀ (xs : List V) (i : Nat) (t : Tr) (j : Nat), (ofL xs i t).get j = if i ≤ j ∧ j < i + xs.length then .v (xs.getD (j - i) .un) else t.get j
  | [], i, t, j => by simp only [ofL, List.length_nil]; rw [if_neg (by omega)]
  | x :: xs, i, t, j => by
    simp only [ofL]
    rw [ofL_get xs (i + 1) _ j, Tr.get_put]
    simp only [List.length_cons]
    by_cases h : i + 1 ≤ j ∧ j < i + 1 + xs.length
    · rw [if_pos h, if_pos (by omega)]
      rw [show j - i = (j - (i + 1)) + 1 from by omega, List.getD_cons_succ]
    · rw [if_neg h]
      by_cases e : j = i
      · subst e; simp
      · rw [if_neg e, if_neg (by omega)]

section
variable {P : Program} {orc : Orc} {tt : ET} {S : Still} {ρ : Pl}

theorem slots_ofL {xs : List V} {vs : List Value} (h : VRs S ρ xs vs) (T : Array Value) (hT : ∀ i, i < xs.length → T.getD i undef = vs.getD i undef) (t : Nat) : VR S ρ ((ofL xs 0 .nil).get t).val (T.getD t undef) := by
  rw [ofL_get]
  split
  · rename_i hc
    simp only [X.val, Nat.sub_zero]
    rw [hT t (by omega)]
    obtain ⟨v, h1, h2⟩ := h.get (i := t) (List.getElem?_eq_getElem (show t < xs.length by omega))
    rw [List.getD_eq_getElem?_getD, List.getElem?_eq_getElem (show t < xs.length by omega), List.getD_eq_getElem?_getD, h1]
    exact h2
  · rw [Tr.get_nil]; simp only [X.val, VR]

theorem setPs_ok : ∀ {ps : List Nat} {xs : List V} {vs : List Value} {fr : Tr} {T : Array Value}, VRs S ρ xs vs → (∀ p ∈ ps, p < T.size) → (∀ t, VR S ρ (fr.get t).val (T.getD t undef)) →
    ∀ t, VR S ρ ((setPs (ps.zip xs) fr).get t).val (((ps.zip vs).foldl (fun tmps (t, a) => tmps.setIfInBounds t a) T).getD t undef) ∧ ((ps.zip vs).foldl (fun tmps (t, a) => tmps.setIfInBounds t a) T).size = T.size
  | [], _, _, fr, T, _, _, h3, t => by simpa [setPs] using h3 t
  | p :: ps, [], vs, fr, T, h1, _, h3, t => by
    simp only [VRs] at h1; subst h1
    simpa [setPs] using h3 t
  | p :: ps, x :: xs, vs, fr, T, h1, h2, h3, t => by
    simp only [VRs] at h1
    obtain ⟨v, us, rfl, g1, g2⟩ := h1
    simp only [List.zip_cons_cons, setPs, List.foldl_cons]
    have := setPs_ok (ps := ps) (fr := fr.put p (.v x)) (T := T.setIfInBounds p v) g2 (fun q hq => by simpa using h2 q (by simp [hq])) ?_ t
    · simpa using this
    · intro j
      rw [Tr.get_put]
      by_cases e : j = p
      · subst e
        have := h2 j (by simp)
        simp [X.val, Array.getD_eq_getD_getElem?, this, g1]
      · simp only [e, if_false]
        have := h3 j
        rw [Array.getD_eq_getD_getElem?, Array.getElem?_setIfInBounds_ne (Ne.symm e), ← Array.getD_eq_getD_getElem?]
        exact this

theorem loadV_addr {t : Nat} {x v : V} {st : St} {R : List Key} {U : Ups} (e : loadV tt t x st = some (v, R, U)) {xu : Value} (hx : VR S ρ x xu) : ∃ B o, xu = .pointer (some ⟨B, o, none⟩) := by
  unfold loadV at e
  obtain ⟨i, R1, U1, R2, U2, g1, g2, rfl, rfl⟩ := bind_some e
  split at g2
  · simp only [VR] at hx
    obtain ⟨p, hp, rfl⟩ := hx
    exact ⟨_, _, rfl⟩
  · simp only [VR, Rep] at hx
    obtain ⟨b, q, l, hl, r1, r2⟩ := hx
    simp only [List.cons.injEq, and_true] at hl
    exact ⟨b, q, hl⟩
  · exact (efail_some g2).elim

theorem retE_ok (hT : ETok P tt) {C : Ctx} {N : Nat} {st : St} {a : Act} {w : World} {Ds : List Nat} (h : Sim C N ρ st a w Ds) : ∀ {rs : List (Nat × Option Nat)} {xs : List V} {R : List Key} {U : Ups}, retE tt rs st = some (xs, R, U) →
    U = [] ∧ ∀ w', HSim C ρ st w' → ∃ vs, VRs C.S ρ xs vs ∧ All2 (fun r v => (runRV a r).run P w' = .ok v w') (rs.map toRV) vs
  | [], xs, R, U, e => by
    simp only [retE] at e
    obtain ⟨rfl, rfl, rfl⟩ := pure_some e
    exact ⟨rfl, fun w' _ => ⟨[], by simp [VRs], trivial⟩⟩
  | (t, none) :: rs, xs, R, U, e => by
    simp only [retE] at e
    obtain ⟨x, R1, U1, R2, U2, g1, g2, rfl, rfl⟩ := bind_some e
    obtain ⟨rfl, q1⟩ := rdS_ok h g1
    obtain ⟨ys, R3, U3, R4, U4, g3, g4, rfl, rfl⟩ := bind_some g2
    simp only [applyU] at g3 g4
    obtain ⟨rfl, q2⟩ := retE_ok hT h g3
    obtain ⟨rfl, rfl, rfl⟩ := pure_some g4
    refine ⟨rfl, fun w' hw => ?_⟩
    obtain ⟨vs, d1, d2⟩ := q2 w' hw
    refine ⟨Act.tv a t :: vs, ?_, ?_, d2⟩
    · simp only [VRs]; exact ⟨_, _, rfl, q1, d1⟩
    · simp only [toRV, runRV]; exact Sem.run_pure ..
  | (t, some ty) :: rs, xs, R, U, e => by
    simp only [retE] at e
    obtain ⟨x, R1, U1, R2, U2, g1, g2, rfl, rfl⟩ := bind_some e
    obtain ⟨rfl, q1⟩ := rdS_ok h g1
    obtain ⟨y, R3, U3, R4, U4, g3, g4, rfl, rfl⟩ := bind_some g2
    simp only [applyU] at g3 g4
    obtain ⟨rfl, _⟩ := load_ok hT h g3 q1
    obtain ⟨B, o, haddr⟩ := loadV_addr g3 q1
    obtain ⟨ys, R5, U5, R6, U6, g5, g6, rfl, rfl⟩ := bind_some g4
    simp only [applyU] at g5 g6
    obtain ⟨rfl, q2⟩ := retE_ok hT h g5
    obtain ⟨rfl, rfl, rfl⟩ := pure_some g6
    refine ⟨rfl, fun w' hw => ?_⟩
    obtain ⟨vs, d1, d2⟩ := q2 w' hw
    have hs' : Sim C N ρ st ⟨a.tmps, []⟩ w' [] := ⟨hw, ⟨h.f.size, h.f.slot, rfl, by simp, fun D hD => by simp at hD, fun D hD => by simp at hD⟩⟩
    obtain ⟨_, vu, e1, e2⟩ := load_ok hT hs' g3 q1
    refine ⟨vu :: vs, ?_, ?_, d2⟩
    · simp only [VRs]; exact ⟨_, _, rfl, e2, d1⟩
    · simp only [toRV, runRV]
      have hv : a.tmps.getD t undef = .pointer (some ⟨B, o, none⟩) := haddr
      rw [hv]
      rw [haddr] at e1
      simp only [Instr.loadAt, Instr.sureAddr, Sem.run_bind, Sem.run_pure, Result.andThen_ok] at e1
      simp only [asAddr, Sem.run_bind, Sem.run_pure, Result.andThen_ok]
      exact e1

theorem oneOr_ok {xs : List V} {vs : List Value} (h : VRs S ρ xs vs) : VR S ρ (oneOr xs) (if h : vs.toArray.size = 1 then vs.toArray[0] else .tuple vs.toArray) := by
  rcases xs with _ | ⟨x, _ | ⟨x2, l⟩⟩
  · simp only [VRs] at h
    subst h
    simp only [oneOr, VR]
    exact ⟨[], by simp [VRs], rfl⟩
  · simp only [VRs] at h
    obtain ⟨v, us, rfl, h1, rfl⟩ := h
    exact h1
  · have hl := h.len
    rcases vs with _ | ⟨v, _ | ⟨v2, l2⟩⟩
    · simp at hl
    · simp at hl
    · simp only [oneOr, VR]
      exact ⟨_, h, by simp⟩

theorem results_run {fn : Func} {rs : List (Nat × Option Nat)} (hr : fn.results = (rs.map toRV).toArray) {a : Act} {w : World} {vs : List Value}
    (h : All2 (fun r v => (runRV a r).run P w = .ok v w) (rs.map toRV) vs) :
    (results fn a.tmps).run P w = .ok (if h : vs.toArray.size = 1 then vs.toArray[0] else .tuple vs.toArray) w := by
  unfold results
  rw [hr, Array.mapM_eq_foldlM, List.foldlM_toArray, Sem.run_bind]
  have := run_foldAll (P := P) (w := w) (runRV a) _ vs #[] h
  rw [Array.empty_append] at this
  exact (congrArg (fun r => Result.andThen r (fun q w' => Sem.run P (pure (if h : q.size = 1 then q[0] else Value.tuple q)) w')) this).trans rfl


def FTok (P : Program) (ft : FT) : Prop := ∀ k fi, ft k = some fi → FnOk P k fi

theorem hview_view (fr hb hf : Tr) (n : Nat) (ws : List Key) (m : Nat) : ∀ k, k.isH = true → view ⟨fr, hb, hf, n, ws⟩ k = hview ⟨hb, hf, m⟩ k := by
  intro k hk
  cases k with
  | s t => cases hk
  | b i => rfl
  | f i => rfl

theorem Fresh.heap {st st' : St} {n : Nat} (h : Fresh st n) (he : ∀ k, k.isH = true → st' k = st k) : Fresh st' n :=
  ⟨fun i hi => ⟨(he _ rfl).trans (h.1 i hi).1, (he _ rfl).trans (h.1 i hi).2⟩, fun f l hl => h.2 f l (by rw [← he _ rfl]; exact hl)⟩

theorem evalFn_some {ft : FT} {fuel k : Nat} {args : List V} {h h' : H} {v : V} {ws : List Key} (e : evalFn orc tt ft fuel k args h = some (v, h', ws)) :
    ∃ fi s' x xs R U, ft k = some fi ∧ args.length ≤ fi.ntmps ∧ (den tt fi.ntmps fuel fi.body).run orc ⟨ofL args 0 .nil, h.hb, h.hf, h.n, []⟩ = some (s', x) ∧ (x = .norm ∨ x = .ret) ∧ retE tt fi.rs (view s') = some (xs, R, U) ∧ v = oneOr xs ∧ h' = ⟨s'.hb, s'.hf, s'.n⟩ ∧ ws = s'.ws := by
  unfold evalFn at e
  cases hk : ft k with
  | none => simp [hk] at e
  | some fi =>
    simp only [hk] at e
    split at e
    · rename_i hle
      have hle := Nat.le_of_ble_eq_true hle
      cases hc : (den tt fi.ntmps fuel fi.body).run orc ⟨ofL args 0 .nil, h.hb, h.hf, h.n, []⟩ with
      | none => simp [hc] at e
      | some q =>
        obtain ⟨s', x⟩ := q
        simp only [hc] at e
        cases x with
        | norm =>
          simp only at e
          cases hr : retE tt fi.rs (view s') with
          | none => simp [hr] at e
          | some q =>
            obtain ⟨xs, R, U⟩ := q
            simp only [hr, Option.some.injEq, Prod.mk.injEq] at e
            obtain ⟨rfl, rfl, rfl⟩ := e
            exact ⟨fi, s', .norm, xs, R, U, rfl, hle, hc, .inl rfl, hr, rfl, rfl, rfl⟩
        | ret =>
          simp only at e
          cases hr : retE tt fi.rs (view s') with
          | none => simp [hr] at e
          | some q =>
            obtain ⟨xs, R, U⟩ := q
            simp only [hr, Option.some.injEq, Prod.mk.injEq] at e
            obtain ⟨rfl, rfl, rfl⟩ := e
            exact ⟨fi, s', .ret, xs, R, U, rfl, hle, hc, .inr rfl, hr, rfl, rfl, rfl⟩
        | _ => simp at e
    · cases e

theorem evalFn_ok (hT : ETok P tt) (hO : OrcOk P orc) (hmx : P.follows .mixedOrders = true) {ft : FT} (hF : FTok P ft) {fuel k : Nat} {args caps : List V} {h h' : H} {v : V} {ws : List Key} (e : evalFn orc tt ft fuel k (args ++ caps) h = some (v, h', ws)) :
    OrcR P (.fn k caps) args h v h' ws := by
  obtain ⟨fi, s', x, xs, R, U, e1, e2, e3, e4, e5, rfl, rfl, rfl⟩ := evalFn_some e
  obtain ⟨g, hs⟩ := den_ok hT hO hmx _ _ _ _ e3
  have hv0 : ∀ k, k.isH = true → view ⟨ofL (args ++ caps) 0 .nil, h.hb, h.hf, h.n, []⟩ k = hview h k := fun k hk => hview_view _ _ _ _ _ h.n k hk
  have hv1 : ∀ k, k.isH = true → hview ⟨s'.hb, s'.hf, s'.n⟩ k = view s' k := fun k hk => (hview_view s'.fr s'.hb s'.hf s'.n s'.ws s'.n k hk).symm
  refine ⟨g.n, fun hf => (g.fresh (hf.heap hv0)).heap hv1, ?_, ?_, ?_⟩
  · intro k hk hnot
    rw [hv1 k hk, (g.same k hk hnot).2, hv0 k hk]
  · exact fun k hk => g.good (fun k hk => by simp at hk) k hk
  · intro C ρ w fvv avs hfr hsim hfv havs hnone
    simp only [VR] at hfv
    obtain ⟨cs, hcs, rfl⟩ := hfv
    obtain ⟨fn, f1, f2, f3, f4, f5⟩ := hF _ _ e1
    refine .inl ⟨k, cs.toArray, fn, rfl, f1, f2, by rw [f3]; rfl, ?_⟩
    refine (callsIn_wide (n := 0)).1 (callsIn_of_wp_marks f1 f3 trivial ?_ rfl)
    have hlen := VRs.append havs hcs
    have hsz : (avs ++ cs).length = (args ++ caps).length := hlen.len
    simp only [List.length_append] at hsz e2
    refine hs (C.enter ρ (hview h) w) ρ _ w [] none 0 _ (hfr.heap hv0) ⟨(hsim.enter).congr (fun i => hv0 _ rfl) (fun i => hv0 _ rfl), ?_⟩ hnone (fun L hL => by cases hL) ?_
    · refine ⟨?_, ?_, rfl, by simp, fun D hD => by simp at hD, fun D hD => by simp at hD⟩
      · simp only [Array.size_append, Array.size_replicate, List.size_toArray]
        omega
      · intro t
        refine slots_ofL hlen _ ?_ t
        intro i hi
        simp only [List.length_append] at hi
        rw [Array.getD_eq_getD_getElem?, List.getD_eq_getElem?_getD, Array.getElem?_append_left (by simp; omega)]
        simp
    · intro ρ' a' w' Ds' hx hs'
      have fin : LeavesInM Fence.wide 0 P fn a'.tmps (fun e w' => ∃ v', e = .returned v' ∧ ∃ ρ', Ext h.n s'.n ρ ρ' ∧ HSim (C.enter ρ (hview h) w) ρ' (hview ⟨s'.hb, s'.hf, s'.n⟩) w' ∧ VR C.S ρ' (oneOr xs) v') a'.defers .returning w' := by
        rw [hs'.f.defers]
        refine leaves_ok (C := C.enter ρ (hview h) w) (ρ := ρ') (st := view s') ?_ Ds' w' hs'.h hs'.f.dn hs'.f.dm hs'.f.dx
        intro w2 hw2
        obtain ⟨vs, d1, d2⟩ := (retE_ok hT hs' e5).2 w2 hw2
        exact ⟨_, results_run f5 d2, _, rfl, ρ', hx, hw2.congr (fun i => hv1 _ rfl) (fun i => hv1 _ rfl), oneOr_ok d1⟩
      rcases e4 with rfl | rfl
      · exact fin
      · exact fin

theorem evalRound_some {fuel l : Nat} {args : List V} {h h' : H} {v : V} {ws : List Key} (e : evalRound orc tt fuel l args h = some (v, h', ws)) :
    ∃ r s1 s2 x, h.hb.get l = .lp r ∧ l < h.n ∧ r.ready = true ∧ args.length = r.params.length ∧ (∀ p ∈ r.params, p < r.fr.length) ∧
      (den tt r.fr.length fuel r.assign).run orc ⟨setPs (r.params.zip args) (ofL r.fr 0 .nil), h.hb.put l .z, h.hf, h.n, []⟩ = some (s1, .norm) ∧ (den tt r.fr.length fuel r.body).run orc s1 = some (s2, x) ∧
      v = .lit (.bool x.isNorm) ∧ h' = ⟨s2.hb.put l (.lp { r with ready := x.isNorm, pend := x.pend }), s2.hf, s2.n⟩ ∧ ws = .b l :: s2.ws := by
  unfold evalRound at e
  cases hl : h.hb.get l with
  | lp r =>
    simp only [hl] at e
    split at e
    · rename_i hc
      rw [Bool.and_eq_true, Bool.and_eq_true, Bool.and_eq_true] at hc
      obtain ⟨⟨⟨c0, c1⟩, c2⟩, c3⟩ := hc
      split at e
      · rename_i s1 h1
        cases h2 : (den tt r.fr.length fuel r.body).run orc s1 with
        | none => simp [h2] at e
        | some q =>
          obtain ⟨s2, x⟩ := q
          simp only [h2, Option.some.injEq, Prod.mk.injEq] at e
          obtain ⟨rfl, rfl, rfl⟩ := e
          refine ⟨r, s1, s2, x, rfl, by simpa [Nat.blt_eq] using c0, c1, Nat.eq_of_beq_eq_true c2, fun p hp => ?_, h1, h2, rfl, rfl, rfl⟩
          have := List.all_eq_true.1 c3 p hp
          simpa [Nat.blt_eq] using this
      · cases e
    · cases e
  | _ => simp [hl] at e

theorem evalRound_ok (hT : ETok P tt) (hO : OrcOk P orc) (hmx : P.follows .mixedOrders = true) {fuel l : Nat} {args : List V} {h h' : H} {v : V} {ws : List Key} (e : evalRound orc tt fuel l args h = some (v, h', ws)) : OrcR P (.yl l) args h v h' ws := by
  obtain ⟨r, s1, s2, x, e1, e0, e2, e3, e4, e5, e6, rfl, rfl, rfl⟩ := evalRound_some e
  obtain ⟨g1, hs1⟩ := den_ok hT hO hmx _ _ _ _ e5
  obtain ⟨g2, hs2⟩ := den_ok hT hO hmx _ _ _ _ e6
  have g := g1.trans g2
  generalize hq : (⟨setPs (r.params.zip args) (ofL r.fr 0 .nil), h.hb.put l .z, h.hf, h.n, []⟩ : S) = s0 at g1 hs1 g
  have hn0 : s0.n = h.n := by rw [← hq]
  have hws0 : s0.ws = [] := by rw [← hq]
  have hv0 : ∀ k, k.isH = true → view s0 k = upd (hview h) (.b l) .z k := by
    intro k hk
    rw [← hq]
    cases k with
    | s t => cases hk
    | b i => simp [view, upd, hview, Tr.get_put]
    | f i => simp [view, upd, hview]
  have hv1 : ∀ k, k.isH = true → hview ⟨s2.hb.put l (.lp { r with ready := x.isNorm, pend := x.pend }), s2.hf, s2.n⟩ k = upd (view s2) (.b l) (.lp { r with ready := x.isNorm, pend := x.pend }) k := by
    intro k hk
    cases k with
    | s t => cases hk
    | b i => simp [view, upd, hview, Tr.get_put]
    | f i => simp [view, upd, hview]
  have hf0 : Fresh (hview h) h.n → Fresh (view s0) s0.n := by
    intro hf
    rw [hn0]
    refine Fresh.heap (st := upd (hview h) (.b l) .z) ⟨fun i hi => ?_, fun f q hq => ?_⟩ hv0
    · refine ⟨?_, by rw [upd_ne _ _ (by simp)]; exact (hf.1 i hi).2⟩
      unfold upd; split
      · rfl
      · exact (hf.1 i hi).1
    · rw [upd_ne _ _ (by simp)] at hq; exact hf.2 f q hq
  have hn : h.n ≤ s2.n := by rw [← hn0]; exact g.n
  refine ⟨hn, ?_, ?_, ?_, ?_⟩
  · intro hf
    have h2 := g.fresh (hf0 hf)
    have hl := e0
    refine Fresh.heap (st := upd (view s2) (.b l) (.lp { r with ready := x.isNorm, pend := x.pend })) ⟨fun i hi => ?_, fun f q hq => ?_⟩ hv1
    · have hi : s2.n ≤ i := hi
      rw [upd_ne _ _ (by simp; omega), upd_ne _ _ (by simp)]
      exact h2.1 i hi
    · rw [upd_ne _ _ (by simp)] at hq; exact h2.2 f q hq
  · intro k hk hnot
    simp only [List.mem_cons, not_or] at hnot
    rw [hv1 k hk, upd_ne _ _ hnot.1, (g.same k hk hnot.2).2, hv0 k hk, upd_ne _ _ hnot.1]
  · intro k hk
    rcases List.mem_cons.1 hk with rfl | hk
    · refine ⟨rfl, fun i hi => ?_⟩
      simp only [Key.id, Option.some.injEq] at hi
      subst hi
      exact Nat.lt_of_lt_of_le e0 hn
    · exact g.good (by rw [hws0]; simp) k hk
  · intro C ρ w fvv avs hfr hsim hfv havs hnone
    simp only [VR] at hfv
    obtain ⟨p, hp, rfl⟩ := hfv
    have hlst : hview h (.b l) = .lp r := e1
    obtain ⟨p', hp', hent⟩ := hsim.ent l (by rw [hlst]; rfl)
    rw [hp] at hp'; cases hp'
    rw [hlst] at hent
    obtain ⟨q, q1, q2, q3, q4, q5, q6, q7⟩ := hent
    rw [if_pos e2] at q7
    refine .inr ⟨p.B, q, rfl, q1, ?_, ?_⟩
    · rw [havs.len, e3, ← q3]; simp
    intro rd m
    have hfree := hsim.lpFree hlst hp
    have hCs : HSim (C.enter ρ (upd (hview h) (.b l) .z) w) ρ (view s0) w := ((hsim.dropLp (l := l)).enter).congr (fun i => hv0 _ rfl) (fun i => hv0 _ rfl)
    have hnM : ¬ (C.enter ρ (upd (hview h) (.b l) .z) w).M p.B := by
      rintro (⟨b, p2, z1, z2, z3⟩ | z)
      · exact hfree b p2 z1 z2 z3
      · have := hsim.lt l p hp
        have z : w.heap.size ≤ p.B := z
        omega
    have hT0 : (q.params.zip avs.toArray).foldl (fun tmps (t, a) => tmps.setIfInBounds t a) q.tmps = (r.params.zip avs).foldl (fun tmps (t, a) => tmps.setIfInBounds t a) q.tmps := by
      rw [← Array.foldl_toList, Array.toList_zip, q3]
    have hsize : r.fr.length = q.tmps.size := by have := q2.len; simpa using this.symm
    have hset : ∀ t, _ := setPs_ok (T := q.tmps) (fr := ofL r.fr 0 .nil) havs (by rw [← hsize]; exact e4) (fun t => slots_ofL q2 q.tmps (fun i hi => by simp [Array.getD_eq_getD_getElem?, List.getD_eq_getElem?_getD]) t)
    have hsim0 : Sim (C.enter ρ (upd (hview h) (.b l) .z) w) r.fr.length ρ (view s0) ⟨(r.params.zip avs).foldl (fun tmps (t, a) => tmps.setIfInBounds t a) q.tmps, []⟩ w [] := by
      refine ⟨hCs, ⟨?_, ?_, rfl, by simp, fun D hD => by simp at hD, fun D hD => by simp at hD⟩⟩
      · rw [hsize]; exact (hset 0).2
      · intro t
        have := (hset t).1
        rw [← hq]
        exact this
    refine roundIn_of_wpIn (F := fen rd) trivial ?_
    rw [hT0]
    have hinr : (fen rd).inRound p.B = fen (some p.B) := rfl
    rw [hinr, q4, q5]
    refine hs1 _ ρ _ w [] (some p.B) m _ (hf0 hfr) hsim0 (fun i z1 z2 => hnone i (by omega) (by have := g2.n; show i < s2.n; omega)) ?_ ?_
    · rintro L hL
      cases hL
      exact ⟨hnM, q, q1⟩
    · intro ρ1 a1 w1 Ds1 hx1 hsim1
      have hb1 : w1.heap[p.B]? = some (.loop q) := (hsim1.h.kept.block _ hnM).trans q1
      refine ⟨_, run_beginRound hb1 q7, ?_⟩
      have hsim2 : Sim ((C.enter ρ (upd (hview h) (.b l) .z) w).put p.B (.loop { q with state := .busy })) r.fr.length ρ1 (view s1) a1 (w1.putObj p.B (.loop { q with state := .busy })) Ds1 :=
        ⟨hsim1.h.rebase hnM hb1 _, hsim1.f.rebase hnM _⟩
      have hw0L : ((C.enter ρ (upd (hview h) (.b l) .z) w).put p.B (.loop { q with state := .busy })).w0.heap[p.B]? = some (.loop { q with state := .busy }) := World.putObj_heap_same (hsim.lt l p hp)
      refine hs2 _ ρ1 a1 _ Ds1 (some p.B) m _ (g1.fresh (hf0 hfr)) hsim2 (fun i z1 z2 => ?_) ?_ ?_
      · rw [hx1.2 i (.inr z1)]
        exact hnone i (by have := g1.n; omega) z2
      · rintro L hL
        cases hL
        exact ⟨hnM, _, hw0L⟩
      · intro ρ2 a2 w2 Ds2 hx2 hsim3
        have hb2 : w2.heap[p.B]? = some (.loop { q with state := .busy }) := (hsim3.h.kept.block _ hnM).trans hw0L
        have hx : Ext h.n s2.n ρ ρ2 := by
          have z1 := hx1.mono (lo' := h.n) (hi' := s2.n) (by omega) g2.n
          have z2 := hx2.mono (lo' := h.n) (hi' := s2.n) (by have := g1.n; omega) (Nat.le_refl _)
          exact z1.trans z2
        have hMl : (C.enter ρ (hview h) w).M p.B := .inl ⟨l, p, by rw [hlst]; rfl, hp, rfl⟩
        have hsub : ∀ B, (C.enter ρ (upd (hview h) (.b l) .z) w).M B → (C.enter ρ (hview h) w).M B := by
          rintro B (⟨b, p2, z1, z2, z3⟩ | z)
          · refine .inl ⟨b, p2, ?_, z2, z3⟩
            by_cases eb : b = l
            · subst eb; rw [upd_same] at z1; cases z1
            · rwa [upd_ne _ _ (by simpa using eb)] at z1
          · exact .inr z
        have hfin : ∀ j : Option Code, j = x.pend → (x.isNorm = j.isNone) → ∃ v w', (Instr.endRound p.B j).run P w2 = .ok v w' ∧ ∃ v', Ending.returned v = .returned v' ∧ ∃ ρ', Ext h.n s2.n ρ ρ' ∧ HSim (C.enter ρ (hview h) w) ρ' (hview ⟨s2.hb.put l (.lp { r with ready := x.isNorm, pend := x.pend }), s2.hf, s2.n⟩) w' ∧ VR C.S ρ' (.lit (.bool x.isNorm)) v' := by
          intro j hj hjn
          refine ⟨_, _, run_endRound j hb2, _, rfl, ρ2, hx, ?_, by simp only [VR]; rw [hjn]⟩
          have z1 : HSim (C.enter ρ (hview h) w) ρ2 (view s2) w2 := by
            refine hsim3.h.ctx rfl hsub (hsim.enter).sfree ?_ (hsim.enter).mine
            have k1 : Kept (C.enter ρ (hview h) w).M w (w.putObj p.B (.loop { q with state := .busy })) := (Kept.refl _ _).putObj hMl _
            exact k1.trans (hsim3.h.kept.mono hsub)
          have hnot : ∀ b p2, (view s2 (.b b)).mem = true → ρ2 b = some p2 → p2.B ≠ p.B := by
            intro b p2 y1 y2 y3
            exact hnM (y3 ▸ hsim3.h.base b p2 y1 y2)
          have z2 := z1.putFree hMl hnot (.loop { q with state := if j.isNone then .ready else .done, pending := j })
          have z3 := z2.addLp (l := l) (r := { r with ready := x.isNorm, pend := x.pend }) (hx.1 _ _ hp) hMl (by
            refine ⟨_, World.putObj_heap_same (Array.getElem?_eq_some_iff.1 hb2).1, q2.mono hx.1, q3, q4, q5, hj, ?_⟩
            simp only [hjn]) (fun b p2 _ y1 y2 => hnot b p2 y1 y2)
          exact z3.congr (fun i => hv1 _ rfl) (fun i => hv1 _ rfl)
        cases x with
        | norm => exact hfin none rfl rfl
        | ex i => exact hfin (some (.exit i)) rfl rfl
        | gt t => exact hfin (some (.goto t)) rfl rfl
        | ret => exact hfin (some .ret) rfl rfl

theorem callD_ok (hT : ETok P tt) (hmx : P.follows .mixedOrders = true) {ft : FT} (hF : FTok P ft) {fuel : Nat} : ∀ d, OrcOk P (callD tt ft fuel d)
  | 0 => fun fv args h v h' ws e => by simp [callD] at e
  | d + 1 => fun fv args h v h' ws e => by
    have ih := callD_ok hT hmx hF (fuel := fuel) d
    cases fv with
    | fn k caps => simp only [callD] at e; exact evalFn_ok hT ih hmx hF e
    | yl l => simp only [callD] at e; exact evalRound_ok hT ih hmx e
    | _ => simp [callD] at e

end
end
end Go.Ex

namespace Go.Ex

inductive TrT (α : Type) where
  | nil
  | node (v : Option α) (l r : TrT α)

def TrT.get0 {α : Type} : TrT α → Nat → Option α
  | .nil, _ => none
  | .node v _ _, 0 => v
  | .node _ l r, k + 1 => match k % 2 with
    | 0 => l.get0 (k / 2)
    | _ => r.get0 (k / 2)

noncomputable def TrT.get {α : Type} (t : TrT α) : Nat → Option α :=
  TrT.rec (motive := fun _ => Nat → Option α) (fun _ => none) (fun v _ _ gl gr k => Nat.rec (motive := fun _ => Option α) v (fun k _ => Bool.rec (motive := fun _ => Option α) (gl (Nat.div k 2)) (gr (Nat.div k 2)) (Nat.beq (Nat.mod k 2) 1)) k) t

theorem TrT.get_eq {α : Type} : ∀ (t : TrT α) (k : Nat), t.get k = t.get0 k
  | .nil, k => by cases k <;> rfl
  | .node v l r, 0 => rfl
  | .node v l r, k + 1 => by
    show (Bool.rec (l.get (Nat.div k 2)) (r.get (Nat.div k 2)) (Nat.beq (Nat.mod k 2) 1) : Option α) = TrT.get0 (.node v l r) (k + 1)
    have e1 := TrT.get_eq l (Nat.div k 2)
    have e2 := TrT.get_eq r (Nat.div k 2)
    rw [e1, e2]
    have h0 : Nat.mod k 2 = k % 2 := rfl
    rcases Nat.mod_two_eq_zero_or_one k with h | h
    · simp only [TrT.get0, h, h0]; rfl
    · simp only [TrT.get0, h, h0]; rfl

inductive TrT.All {α : Type} (p : Nat → α → Prop) : TrT α → (Nat → Nat) → Prop
  | nil {f : Nat → Nat} : All p .nil f
  | some {f : Nat → Nat} {a : α} {l r : TrT α} (h : p (f 0) a) (hl : All p l (fun k => f (2 * k + 1))) (hr : All p r (fun k => f (2 * k + 2))) : All p (.node (some a) l r) f
  | none {f : Nat → Nat} {l r : TrT α} (hl : All p l (fun k => f (2 * k + 1))) (hr : All p r (fun k => f (2 * k + 2))) : All p (.node none l r) f

theorem TrT.All.get' {α : Type} {p : Nat → α → Prop} {t : TrT α} {f : Nat → Nat} (h : t.All p f) : ∀ (k : Nat) {a : α}, t.get0 k = Option.some a → p (f k) a := by
  have step : ∀ {v : Option α} {l r : TrT α} {f : Nat → Nat}, (∀ (k : Nat) {a : α}, l.get0 k = Option.some a → p (f (2 * k + 1)) a) → (∀ (k : Nat) {a : α}, r.get0 k = Option.some a → p (f (2 * k + 2)) a) → ∀ (k : Nat) {a : α}, (TrT.node v l r).get0 (k + 1) = Option.some a → p (f (k + 1)) a := by
    intro v l r f hl hr k a e
    simp only [TrT.get0] at e
    rcases Nat.mod_two_eq_zero_or_one k with h0 | h0
    · simp only [h0] at e
      have := hl _ e
      rwa [show 2 * (k / 2) + 1 = k + 1 from by omega] at this
    · simp only [h0] at e
      have := hr _ e
      rwa [show 2 * (k / 2) + 2 = k + 1 from by omega] at this
  induction h with
  | nil => intro k a e; cases k <;> simp [TrT.get0] at e
  | some h hl hr ihl ihr =>
    intro k a e
    cases k with
    | zero => simp only [TrT.get0, Option.some.injEq] at e; subst e; exact h
    | succ k => exact step ihl ihr k e
  | none hl hr ihl ihr =>
    intro k a e
    cases k with
    | zero => simp [TrT.get0] at e
    | succ k => exact step ihl ihr k e

theorem TrT.All.get {α : Type} {p : Nat → α → Prop} {t : TrT α} (h : t.All p (fun k => k)) (k : Nat) {a : α} (e : t.get k = Option.some a) : p k a := h.get' k (by rw [← TrT.get_eq]; exact e)

theorem allOne {z : List Value} (h : z.all (·.oneCell') = true) : ∀ u ∈ z, u.oneCell' = true := List.all_eq_true.1 h

end Go.Ex

namespace Go.Ex
open Go.Own (A Still cellAt Rep Reps Lies)

def isTrue (r : Option (V × H × List Key)) : Bool := match r with | some (.lit (.bool b), _) => b | _ => false

theorem isTrue_some {r : Option (V × H × List Key)} (h : isTrue r = true) : ∃ h' ws, r = some (.lit (.bool true), h', ws) := by
  unfold isTrue at h
  split at h
  · rename_i b q
    obtain ⟨h', ws⟩ := q
    subst h
    exact ⟨h', ws, rfl⟩
  · cases h

def ctx0 (w : World) : Ctx := ⟨w, fun _ _ => none, fun B => w.heap.size ≤ B⟩

theorem hsim0 (w : World) {st : St} (hz : ∀ b, st (.b b) = .z) : HSim (ctx0 w) (fun _ => none) st w where
  ent := fun b q => by rw [hz] at q; cases q
  dis := fun b b' p p' _ h => by rw [hz] at h; cases h
  fam := fun b k q => by rw [hz] at q; cases q
  base := fun b p q => by rw [hz] at q; cases q
  lt := fun b p q => by cases q
  still := fun B o v q => by cases q
  sfree := fun B o v q => by cases q
  kept := Kept.refl _ _
  mine := fun B hB => hB

theorem nil_z (n : Nat) (b : Nat) : hview ⟨.nil, .nil, n⟩ (.b b) = .z := Tr.get_nil b

theorem closed_calls {P : Program} {orc : Orc} (hO : OrcOk P orc) {k : Nat} {v : V} {h' : H} {ws : List Key} (e : orc (.fn k []) [] ⟨.nil, .nil, 0⟩ = some (v, h', ws)) (w : World) :
    Calls P k #[] w (fun e w' => ∃ v' ρ', e = .returned v' ∧ VR (fun _ _ => none) ρ' v v' ∧ Kept (fun B => w.heap.size ≤ B) w w') := by
  have hr := hO _ _ _ _ _ _ e
  have hfr : Fresh (hview ⟨.nil, .nil, 0⟩) 0 := ⟨fun i _ => ⟨Tr.get_nil i, Tr.get_nil i⟩, fun f l hl => by
    have : hview ⟨.nil, .nil, 0⟩ (.f f) = .z := Tr.get_nil f
    rw [this] at hl; cases hl⟩
  have := hr.run (ctx0 w) (fun _ => none) w (.func (.func k) #[] #[]) [] hfr (hsim0 w (nil_z 0)) (by simp only [VR]; exact ⟨[], by simp [VRs], rfl⟩) (by simp [VRs]) (fun _ _ _ => rfl)
  rcases this with ⟨k', caps, fn, h1, _, _, _, h2⟩ | ⟨L, q, h1, _⟩
  · cases h1
    refine Calls.mono h2 ?_
    rintro e w' ⟨v', rfl, ρ', _, h3, h4⟩
    refine ⟨v', ρ', rfl, h4, ?_⟩
    refine h3.kept.mono ?_
    rintro B (⟨b, p, q, _⟩ | q)
    · rw [nil_z] at q; cases q
    · exact q
  · cases h1

theorem closed_true {P : Program} {orc : Orc} (hO : OrcOk P orc) {k : Nat} (e : isTrue (orc (.fn k []) [] ⟨.nil, .nil, 0⟩) = true) (w : World) :
    Calls P k #[] w (fun e w' => e = .returned (.bool true) ∧ Kept (fun B => w.heap.size ≤ B) w w') := by
  obtain ⟨h', ws, e⟩ := isTrue_some e
  refine Calls.mono (closed_calls hO e w) ?_
  rintro e w' ⟨v', ρ', rfl, h1, h2⟩
  simp only [VR] at h1
  subst h1
  exact ⟨rfl, h2⟩

end Go.Ex
