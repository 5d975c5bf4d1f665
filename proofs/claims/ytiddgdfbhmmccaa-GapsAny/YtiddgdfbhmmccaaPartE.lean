/- -/
import Derived.Test.YtiddgdfbhmmccaaPartD
import Derived.RangeFuncCalls
set_option linter.unusedVariables false
set_option linter.unusedSimpArgs false
namespace Go.Ex
variable {C : Ctx}{st : St}{Ds : List Nat}{ρ : Pl}{a : Act}{P : Program}{args : List Operand}{Q : Exit → Act → World → Prop}{R : List Key}{U : Ups}{dst : Option Nat}{rd : Option Nat}{f : Operand}{fn : Func}{ls : List Log}{x : V}
noncomputable section
open Go.Own (A z8 zu Rep zV kY)
structure H where
 hb : Tr
 hf : Tr
 n : Nat
def yi (h : H) : St
 | .s _ => .z
 | .b i => h.hb.get i
 | .f i => h.hf.get i
abbrev Orc := V → List V → H → Option (V × H × List Key)
def V1 (o : Oper) : Option (Operand × List Operand) :=
 match o.op with
 | .call ⟨.value f, args, _⟩ => some (f, args.toList)
 | _ => none
def wantE (ops : Array Oper) (o : Oper) : EM Bool :=
 match o.guard with
 | none => pure true
 | some (j, want) =>
  match (ops[j]?).bind (·.dst) with
  | some g => do
   let b ← rdS g
   match b with
   | .lit (.bool b) => pure (b == want)
   | _ => efail
  | none => efail
def headE (ops : Array Oper) (o : Oper) (f : Operand) (args : List Operand) : EM (Option (V × List V)) := do
 let b ← wantE ops o
 if b = true then do
  let fv ← opV f
  let vs ← opVs args
  pure (some (fv, vs))
 else pure none
def z2G (U : Ups) : List Key := (U.map (·.1)).filter Key.isH
def opC (orc : Orc) (N : Nat) (ops : Array Oper) (o : Oper) (f : Operand) (args : List Operand) (s : S) : Option (S × Log) :=
 match headE ops o f args (y6 s) with
 | some (none, R, _) =>
  match wrS N o.dst .un (y6 s) with
  | some (_, _, U) => some (xy U s, ⟨R, U.map (·.1), 0, s.n, s.n⟩)
  | none => none
 | some (some (fv, vs), R, _) =>
  match orc fv vs ⟨s.hb, s.hf, s.n⟩ with
  | some (v, h', ws) =>
   match wrS N o.dst v (y6 s) with
   | some (_, _, U) => some (⟨(xy U s).fr, h'.hb, h'.hf, h'.n, ws ++ s.ws⟩, ⟨R, U.map (·.1) ++ ws, s.n, s.n, h'.n⟩)
   | none => none
  | none => none
 | none => none
def opP (tt : ET) (N : Nat) (ops : Array Oper) (o : Oper) (s : S) : Option (S × Log) :=
 match (copG tt N ops o).run s.n (y6 s) with
 | some (_, R, U) =>
  if okU (nx o s.n) U = true then
   match xy U s with
   | ⟨fr, hb, hf, _, ws⟩ => some (⟨fr, hb, hf, nx o s.n, z2G U ++ ws⟩, ⟨R, U.map (·.1), 0, s.n, nx o s.n⟩)
  else none
 | none => none
def opE (orc : Orc) (tt : ET) (N : Nat) (ops : Array Oper) (o : Oper) (s : S) : Option (S × Log) :=
 match V1 o with
 | some (f, args) => opC orc N ops o f args s
 | none => opP tt N ops o s
def zdQ (tt : ET) (N : Nat) (ops : Array Oper) (o : Oper) (s : S) : Option S :=
 (D.copG tt N ops o).run s.n (fun _ s' => some s') ⟨s.fr, s.hb, s.hf, (match wj o with | true => Nat.succ s.n | false => s.n), s.ws⟩
def opD (orc : Orc) (tt : ET) (N : Nat) (ops : Array Oper) (o : Oper) (s : S) : Option S :=
 match V1 o with
 | some (f, args) =>
  match opC orc N ops o f args s with
  | some (s', _) => some s'
  | none => none
 | none => zdQ tt N ops o s
def Kn (orc : Orc) (tt : ET) (N : Nat) (ops : Array Oper) : List Oper → S → Option S
 | [], s => some s
 | o :: os, s =>
  match opD orc tt N ops o s with
  | some s' => Kn orc tt N ops os s'
  | none => none
def z8w (orc : Orc) (tt : ET) (N : Nat) (ops : Array Oper) : List Oper → S → Option (S × List Log)
 | [], s => some (s, [])
 | o :: os, s =>
  match opE orc tt N ops o s with
  | some (s', L) =>
   match z8w orc tt N ops os s' with
   | some (s2, ls) => some (s2, L :: ls)
   | none => none
  | none => none
def zco (P : Program) (fvv : Value) (avs : List Value) (w : World) (R : Value → World → Prop) : Prop :=
 (∃ k caps fn, fvv = .func (.func k) #[] caps ∧ P.funcs[k]? = some fn ∧ (fn.name == "runtime.NumGoroutine") = false ∧ fn.body.isNone = false ∧ Calls P k (avs.toArray ++ caps) w (fun e w' => ∃ v, e = .returned v ∧ R v w')) ∨
 (∃ L q, fvv = .func (.yield L) #[] #[] ∧ w.heap[L]? = some (.loop q) ∧ avs.length = q.params.size ∧
  ∀ rd m, RoundIn (fen rd) m P L q.fn ((q.params.zip avs.toArray).foldl (fun tmps (t, a) => tmps.setIfInBounds t a) q.tmps) q.assign q.body w (fun e w' => ∃ v, e = .returned v ∧ R v w'))
theorem uP {k : Nat}  (h1 : P.funcs[k]? = some fn) (h2 : (fn.name == "runtime.NumGoroutine") = false) (h3 : fn.body.isNone = false) (args : Array Value) (w : World) : (callFunc k args).run P w = .ok (.enter k args) w := by
 simp only [callFunc, Sem.run_bind, program, Sem.run, Result.andThen_ok, h1, h2, h3, Bool.false_eq_true, if_false, Sem.run_pure]
theorem z3s {P : Program} {o : Oper}  {w : World}  {args : List Operand} (ho : V1 o = some (f, args)) {R : Value → World → Prop} (h : zco P (a.eval f) (args.map a.eval) w R) (rd : Option Nat) (m : Nat) (K : Act → World → Prop)
  (Q : Exit → Act → World → Prop) (hK : ∀ v w', R v w' → K (a.put o.dst v) w') : o.wpIn (fen rd) m P a w K Q := by
 unfold V1 at ho
 split at ho
 ·rename_i f' args' tys hop
  cases ho
  rcases h with ⟨k, caps, fn, h1, h2, h3, h4, h5⟩ | ⟨L, q, h1, h2, h3, h4⟩
  ·have hexec : (execOp a.eval o).run P w = .ok (.enter k ((args'.toList.map a.eval).toArray ++ caps)) w := by
    have hc := uP (P := P) h2 h3 h4 (args'.map a.eval ++ caps) w
    simp only [execOp, hop, resolve, h1, Deferred.ofValue, Sem.run_bind, Sem.run_pure, Result.andThen_ok, invoke, Array.empty_append]
    rw [hc]
    congr 2
    apply Array.ext'
    simp
   refine ⟨fun _ _ => trivial, ?_⟩
   rw [xZ hexec (by simp), Oper.uponIn_enter]
   refine ⟨fun h => (by cases h), CallsIn.mono (qD h5 rd (m - 1)) ?_⟩
   rintro e w' ⟨v, rfl, hr⟩
   exact hK v w' hr
  ·have hexec : (execOp a.eval o).run P w = .ok (.round L q.fn ((q.params.zip (args'.toList.map a.eval).toArray).foldl (fun tmps (t, a) => tmps.setIfInBounds t a) q.tmps) q.assign q.body) w := by
    have hy := run_yield (P := P) (args := args'.map a.eval) h2 (by simpa using h3)
    simp only [execOp, hop, resolve, h1, Deferred.ofValue, Sem.run_bind, Sem.run_pure, Result.andThen_ok, invoke, Array.empty_append]
    have e2 : args'.map a.eval = (args'.toList.map a.eval).toArray := by apply Array.ext'; simp
    rw [hy, e2]
   refine ⟨fun _ _ => trivial, ?_⟩
   rw [xZ hexec (by simp), Oper.uponIn_round]
   refine ⟨fun h => (by cases h), (h4 rd (m - 1)).mono ?_⟩
   rintro e w' ⟨v, rfl, hr⟩
   exact hK v w' hr
 ·cases ho
structure zdb (P : Program) (fv : V) (args : List V) (h : H) (v : V) (h' : H) (ws : List Key) : Prop where
 n : h.n ≤ h'.n
 fresh : vw (yi h) h.n → vw (yi h') h'.n
 same : ∀ k, k.isH = true → k ∉ ws → yi h' k = yi h k
 wsH : ∀ k ∈ ws, k.isH = true ∧ ∀ i, k.id = some i → i < h'.n
 run : ∀ (C : Ctx) (ρ : Pl) (w : World) (fvv : Value) (avs : List Value), vw (yi h) h.n → vN C ρ (yi h) w → VR C.S ρ fv fvv → VRs C.S ρ args avs → (∀ i, h.n ≤ i → i < h'.n → ρ i = none) →
  zco P fvv avs w (fun v' w' => ∃ ρ', Ext h.n h'.n ρ ρ' ∧ vN (cEn C ρ (yi h) w) ρ' (yi h') w' ∧ VR C.S ρ' v v')
def Yc (P : Program) (orc : Orc) : Prop := ∀ fv args h v h' ws, orc fv args h = some (v, h', ws) → zdb P fv args h v h' ws
def zcm (n : Nat) (k : Key) : Prop := k.isH = true ∧ ∀ i, k.id = some i → i < n
structure Zz (s s' : S) : Prop where
 n : s.n ≤ s'.n
 fresh : vw (y6 s) s.n → vw (y6 s') s'.n
 same : ∀ k, k.isH = true → k ∉ s'.ws → k ∉ s.ws ∧ y6 s' k = y6 s k
 good : (∀ k ∈ s.ws, zcm s.n k) → ∀ k ∈ s'.ws, zcm s'.n k
theorem Zz.refl (s : S) : Zz s s := ⟨Nat.le_refl _, id, fun _ _ h => ⟨h, rfl⟩, fun h => h⟩
theorem Zz.trans {a b c : S} (h : Zz a b) (h' : Zz b c) : Zz a c :=
 ⟨Nat.le_trans h.n h'.n, fun q => h'.fresh (h.fresh q), fun k hk hc => let ⟨h1, h2⟩ := h'.same k hk hc; let ⟨h3, h4⟩ := h.same k hk h1; ⟨h3, h2.trans h4⟩, fun q => h'.good (h.good q)⟩
structure OpF (P : Program) (N : Nat) (ops : Array Oper) (o : Oper) (s s' : S) (L : Log) : Prop where
 g : Zz s s'
 ok : vw (y6 s) s.n → ∀ C, zdc P C N ops o s s' L
 same : ∀ k, L.wB k = false → y6 s' k = y6 s k
 lo : L.lo = s.n
 hi : L.hi = s'.n
 ids : ∀ k i, k.id = some i → L.w k → i < s'.n
theorem Uz (s : S) (n : Nat) (ws : List Key) : y6 ⟨s.fr, s.hb, s.hf, n, ws⟩ = y6 s := by funext k; cases k <;> rfl
theorem YM : ∀ (U : Ups) (s : S), (xy U s).n = s.n ∧ (xy U s).ws = s.ws
 | [], _ => ⟨rfl, rfl⟩
 | u :: U, s => by
  simp only [xy]
  obtain ⟨h1, h2⟩ := YM U (zcu s u.1 u.2)
  rw [h1, h2]
  cases u.1 <;> exact ⟨rfl, rfl⟩
theorem Uy {L : Log} {k : Key} (h : L.wB k = false) : ¬ L.w k := fun q => by rw [Log.wB_iff.2 q] at h; cases h
theorem z79 (o : Oper) (n : Nat) : n ≤ nx o n := by unfold nx; split <;> omega
section
variable {P : Program} {orc : Orc} {tt : ET} {N : Nat} {ops : Array Oper} {o : Oper} {s s' : S} {L : Log}
theorem z9d (hT : ue P tt) (e : opP tt N ops o s = some (s', L)) : OpF P N ops o s s' L := by
 unfold opP at e
 rw [z52] at e
 cases hs : stepG tt N s.n ops o (y6 s) with
 | none => simp [hs] at e
 | some q =>
  obtain ⟨u, R, U⟩ := q
  simp only [hs] at e
  split at e
  ·rename_i hok
   simp only [Option.some.injEq, Prod.mk.injEq] at e
   obtain ⟨rfl, rfl⟩ := e
   have hv : y6 ⟨(xy U s).fr, (xy U s).hb, (xy U s).hf, nx o s.n, z2G U ++ (xy U s).ws⟩ = z7 U (y6 s) := by rw [Uz, xT]
   have hkeep : ∀ k, k ∉ U.map (·.1) → z7 U (y6 s) k = y6 s k := fun k hk => wc (fun u hu e => hk (List.mem_map.2 ⟨u, hu, e⟩))
   refine ⟨⟨z79 o s.n, ?_, ?_, ?_⟩, ?_, ?_, rfl, rfl, ?_⟩
   ·intro hf; rw [hv]; exact hf.apply (z79 o s.n) hok
   ·intro k hk hnot
    rw [hv]
    simp only [(YM U s).2, List.mem_append, not_or] at hnot
    refine ⟨hnot.2, hkeep k fun hm => hnot.1 (List.mem_filter.2 ⟨hm, hk⟩)⟩
   ·intro hg k hk
    simp only [(YM U s).2, List.mem_append] at hk
    rcases hk with hk | hk
    ·obtain ⟨h1, h2⟩ := List.mem_filter.1 hk
     obtain ⟨u, hu, rfl⟩ := List.mem_map.1 h1
     exact ⟨h2, z2q (UZ hok hu).1⟩
    ·obtain ⟨h1, h2⟩ := hg k hk
     exact ⟨h1, fun i hi => Nat.lt_of_lt_of_le (h2 i hi) (z79 o s.n)⟩
   ·intro hfr C st ρ a w Ds hsim hread hnone hz
    have hst := z9.stepG tt N s.n ops o (y6 s) st u R U hs (fun k hk => hread k (.inl hk))
    have hgood := XI hT hsim (fun ha => hnone s.n (Nat.le_refl _) (by simp [nx, ha])) hst
    have heq : z7 U st = fun k => if Log.wB ⟨R, U.map (·.1), 0, s.n, nx o s.n⟩ k = true then y6 ⟨(xy U s).fr, (xy U s).hb, (xy U s).hf, nx o s.n, z2G U ++ (xy U s).ws⟩ k else st k := by
     funext k
     rw [hv]
     split
     ·rename_i hw
      by_cases hm : k ∈ U.map (·.1)
      ·obtain ⟨u', hu', e'⟩ := List.mem_map.1 hm
       exact V4 ⟨u', hu', e'⟩
      ·rw [hkeep k hm, wc (fun u hu e => hm (List.mem_map.2 ⟨u, hu, e⟩))]
       rcases Log.wB_iff.1 hw with hw | ⟨i, hi, h1, h2⟩
       ·exact absurd hw hm
       ·rw [hz k i hi h1 h2, hfr.key hi h1]
     ·rename_i hw
      exact wc (fun u hu e => hw (Log.wB_iff.2 (.inl (List.mem_map.2 ⟨u, hu, e⟩))))
    rw [← heq]
    exact hgood
   ·intro k hk
    rw [hv]
    exact hkeep k fun hm => Uy hk (.inl hm)
   ·rintro k i hi (hw | ⟨j, hj, h1, h2⟩)
    ·obtain ⟨u, hu, rfl⟩ := List.mem_map.1 hw
     exact z2q (UZ hok hu).1 i hi
    ·rw [hi] at hj; cases hj; exact h2
  ·cases e
theorem z9.wantE (ops : Array Oper) (o : Oper) : z9 (wantE ops o) := by
 unfold Go.Ex.wantE
 split
 ·exact z9.pure _
 ·split
  ·refine z9.bind (z9.rdS _) fun b => ?_
   split <;> first | exact z9.pure _ | exact z9.fail
  ·exact z9.fail
theorem z9.headE (ops : Array Oper) (o : Oper) (f : Operand) (args : List Operand) : z9 (headE ops o f args) :=
 z9.bind (z9.wantE _ _) fun _ => z9.ite (z9.bind (z9.opV _) fun _ => z9.bind (z9.opVs _) fun _ => z9.pure _) (z9.pure _)
theorem z2L {w : World}  (h : Sim C N ρ st a w Ds)   {r : Option (V × List V)}   (e : headE ops o f args st = some (r, R, U)) :
  match r with
  | none => Region.wanted o (yielded ops a.tmps) = false
  | some (fv, vs) => Region.wanted o (yielded ops a.tmps) = true ∧ VR C.S ρ fv (a.eval f) ∧ VRs C.S ρ vs (args.map a.eval) := by
 unfold headE at e
 obtain ⟨b, R1, U1, R2, U2, h1, h2, rfl, rfl⟩ := bind_some e
 have hw : U1 = [] ∧ Region.wanted o (yielded ops a.tmps) = b := by
  unfold wantE at h1
  cases hg : o.guard with
  | none =>
   simp only [hg] at h1
   obtain ⟨rfl, rfl, rfl⟩ := zf h1
   exact ⟨rfl, by simp [Region.wanted, hg]⟩
  | some q =>
   obtain ⟨j, want⟩ := q
   simp only [hg] at h1
   cases hd : (ops[j]?).bind (·.dst) with
   | none => simp only [hd] at h1; exact (zn h1).elim
   | some g =>
    simp only [hd] at h1
    obtain ⟨b', R3, U3, R4, U4, h3, h4, rfl, rfl⟩ := bind_some h1
    obtain ⟨rfl, hb⟩ := Jc h h3
    simp only [z7] at h4
    split at h4
    ·obtain ⟨rfl, rfl, rfl⟩ := zf h4
     exact ⟨rfl, z0H hg hd hb⟩
    ·exact (zn h4).elim
 obtain ⟨rfl, hw⟩ := hw
 simp only [z7] at h2
 split at h2
 ·rename_i hb
  obtain ⟨fv, R3, U3, R4, U4, h3, h4, rfl, rfl⟩ := bind_some h2
  obtain ⟨rfl, q1⟩ := y5 h h3
  obtain ⟨vs, R5, U5, R6, U6, h5, h6, rfl, rfl⟩ := bind_some h4
  obtain ⟨rfl, q2⟩ := WH h h5
  obtain ⟨rfl, rfl, rfl⟩ := zf h6
  exact ⟨by rw [hw, hb], q1, q2⟩
 ·rename_i hb
  obtain ⟨rfl, rfl, rfl⟩ := zf h2
  simpa [hw] using hb
theorem KS {u : Unit}   (e : wrS N dst x st = some (u, R, U)) : (dst = none ∧ U = []) ∨ ∃ k, dst = some k ∧ k < N ∧ U = [(.s k, .v x)] := by
 unfold wrS at e
 cases dst with
 | none => obtain ⟨_, _, rfl⟩ := zf e; exact .inl ⟨rfl, rfl⟩
 | some k =>
  simp only at e
  split at e
  ·rename_i hk
   obtain ⟨rfl, rfl⟩ := wd e
   exact .inr ⟨k, rfl, hk, rfl⟩
  ·exact (zn e).elim
theorem z2e {w : World}  (h : Sim C N ρ st a w Ds)   {v : Value} (hx : VR C.S ρ x v)  (hU : (dst = none ∧ U = []) ∨ ∃ k, dst = some k ∧ k < N ∧ U = [(.s k, .v x)]) :
  Sim C N ρ (z7 U st) (a.put dst v) w Ds := by
 rcases hU with ⟨rfl, rfl⟩ | ⟨k, rfl, hk, rfl⟩
 ·exact h
 ·exact h.put hk hx
theorem K2 (hU : (dst = none ∧ U = []) ∨ ∃ k, dst = some k ∧ k < N ∧ U = [(.s k, .v x)]) {k : Key} (hk : k ∈ U.map (·.1)) : k.isH = false := by
 rcases hU with ⟨_, rfl⟩ | ⟨q, _, _, rfl⟩
 ·simp at hk
 ·simp at hk; subst hk; rfl
theorem z9e (hO : Yc P orc)   (ho : V1 o = some (f, args)) (e : opC orc N ops o f args s = some (s', L)) : OpF P N ops o s s' L := by
 unfold opC at e
 cases hh : headE ops o f args (y6 s) with
 | none => simp [hh] at e
 | some q =>
  obtain ⟨r, R, U0⟩ := q
  simp only [hh] at e
  cases r with
  | none =>
   simp only at e
   cases hw : wrS N o.dst .un (y6 s) with
   | none => simp [hw] at e
   | some q =>
    obtain ⟨u, R2, U⟩ := q
    simp only [hw, Option.some.injEq, Prod.mk.injEq] at e
    obtain ⟨rfl, rfl⟩ := e
    have hU := KS hw
    have hn := YM U s
    have hkeep : ∀ k, k ∉ U.map (·.1) → z7 U (y6 s) k = y6 s k := fun k hk => wc (fun u hu e => hk (List.mem_map.2 ⟨u, hu, e⟩))
    have hH : ∀ k, k.isH = true → z7 U (y6 s) k = y6 s k := fun k hk => hkeep k fun hm => by rw [K2 hU hm] at hk; cases hk
    refine ⟨⟨by rw [hn.1]; exact Nat.le_refl _, ?_, ?_, ?_⟩, ?_, ?_, rfl, hn.1.symm, ?_⟩
    ·intro hf
     rw [xT, hn.1]
     refine ⟨fun i hi => ?_, fun f l hl => ?_⟩
     ·rw [hH _ rfl, hH _ rfl]; exact hf.1 i hi
     ·rw [hH _ rfl] at hl; exact hf.2 f l hl
    ·intro k hk hnot
     rw [hn.2] at hnot
     rw [xT]
     exact ⟨hnot, hH k hk⟩
    ·intro hg k hk
     rw [hn.2] at hk
     rw [hn.1]
     exact hg k hk
    ·intro hfr C st ρ a w Ds hsim hread hnone hz
     have hst := z9.headE ops o f args (y6 s) st none R U0 hh (fun k hk => hread k (.inl hk))
     have hwant := z2L hsim hst
     simp only at hwant
     intro rd m K Q hK
     rw [if_neg (by rw [hwant]; simp)]
     refine ⟨fun _ _ => trivial, hK ρ _ _ (Ext.refl _ _ _) ?_⟩
     have := z2e hsim (x := .un) (v := undef) (by simp only [VR]) hU
     have heq : z7 U st = fun k => if Log.wB ⟨R, U.map (·.1), 0, s.n, s.n⟩ k = true then y6 (xy U s) k else st k := by
      funext k
      rw [xT]
      split
      ·rename_i hw2
       rcases Log.wB_iff.1 hw2 with hw2 | ⟨i, hi, h1, h2⟩
       ·obtain ⟨u', hu', e'⟩ := List.mem_map.1 hw2
        exact V4 ⟨u', hu', e'⟩
       ·simp only at h1 h2; omega
      ·rename_i hw2
       exact wc (fun u hu e => hw2 (Log.wB_iff.2 (.inl (List.mem_map.2 ⟨u, hu, e⟩))))
     rw [← heq]
     exact this
    ·intro k hk
     rw [xT]
     exact hkeep k fun hm => Uy hk (.inl hm)
    ·rintro k i hi (hw2 | ⟨j, hj, h1, h2⟩)
     ·have := K2 hU hw2
      rw [Key.isH_id.2 ⟨i, hi⟩] at this; cases this
     ·simp only at h1 h2; omega
  | some q =>
   obtain ⟨fv, vs⟩ := q
   simp only at e
   cases hor : orc fv vs ⟨s.hb, s.hf, s.n⟩ with
   | none => simp [hor] at e
   | some q =>
    obtain ⟨v, h', ws⟩ := q
    simp only [hor] at e
    cases hw : wrS N o.dst v (y6 s) with
    | none => simp [hw] at e
    | some q =>
     obtain ⟨u, R2, U⟩ := q
     simp only [hw, Option.some.injEq, Prod.mk.injEq] at e
     obtain ⟨rfl, rfl⟩ := e
     have hU := KS hw
     obtain ⟨o1, o2, o3, o4, o5⟩ := hO _ _ _ _ _ _ hor
     have hvH : ∀ k, k.isH = true → y6 ⟨(xy U s).fr, h'.hb, h'.hf, h'.n, ws ++ s.ws⟩ k = yi h' k := by
      intro k hk; cases k <;> first | rfl | simp [Key.isH] at hk
     have hvS : ∀ k, k.isH = false → y6 ⟨(xy U s).fr, h'.hb, h'.hf, h'.n, ws ++ s.ws⟩ k = z7 U (y6 s) k := by
      intro k hk
      rw [← xT]
      cases k <;> first | rfl | simp [Key.isH] at hk
     have hin : ∀ k, k.isH = true → yi ⟨s.hb, s.hf, s.n⟩ k = y6 s k := by
      intro k hk; cases k <;> first | rfl | simp [Key.isH] at hk
     have hinF : vw (y6 s) s.n → vw (yi ⟨s.hb, s.hf, s.n⟩) s.n := by
      intro hf
      refine ⟨fun i hi => ?_, fun f l hl => hf.2 f l hl⟩
      exact hf.1 i hi
     refine ⟨⟨o1, ?_, ?_, ?_⟩, ?_, ?_, rfl, rfl, ?_⟩
     ·intro hf
      have := o2 (hinF hf)
      refine ⟨fun i hi => ?_, fun f l hl => ?_⟩
      ·rw [hvH _ rfl, hvH _ rfl]; exact this.1 i hi
      ·rw [hvH _ rfl] at hl; exact this.2 f l hl
     ·intro k hk hnot
      simp only [List.mem_append, not_or] at hnot
      rw [hvH k hk, o3 k hk hnot.1, hin k hk]
      exact ⟨hnot.2, rfl⟩
     ·intro hg k hk
      rcases List.mem_append.1 hk with hk | hk
      ·exact o4 k hk
      ·obtain ⟨h1, h2⟩ := hg k hk
       exact ⟨h1, fun i hi => Nat.lt_of_lt_of_le (h2 i hi) o1⟩
     ·intro hfr C st ρ a w Ds hsim hread hnone hz
      have hst := z9.headE ops o f args (y6 s) st _ R U0 hh (fun k hk => hread k (.inl hk))
      obtain ⟨hwant, q1, q2⟩ := z2L hsim hst
      have hag : ∀ k i, k.id = some i → i < s.n → st k = yi ⟨s.hb, s.hf, s.n⟩ k := by
       intro k i hi hlt
       rw [hread k (.inr ⟨i, hi, hlt⟩), hin k (Key.isH_id.2 ⟨i, hi⟩)]
      have hfrh := hinF hfr
      have hdrop : vN C ρ (yi ⟨s.hb, s.hf, s.n⟩) w := hsim.h.drop (n := s.n) (fun k i hi hlt => (hag k i hi hlt).symm) (fun i hi => by rw [(hfrh.1 i hi).1]; rfl)
      have hact := o5 C ρ w _ _ hfrh hdrop q1 q2 hnone
      intro rd m K Q hK
      rw [if_pos hwant]
      refine z3s ho hact rd m K Q ?_
      rintro v' w' ⟨ρ', x1, x2, x3⟩
      refine hK ρ' _ _ x1 ?_
      have hm := hsim.merge hag hz hfrh o1 x1 x2
      have hp := z2e hm x3 hU
      have heq : z7 U (after h'.n (yi h') st) = fun k => if Log.wB ⟨R, U.map (·.1) ++ ws, s.n, s.n, h'.n⟩ k = true then y6 ⟨(xy U s).fr, h'.hb, h'.hf, h'.n, ws ++ s.ws⟩ k else st k := by
       funext k
       cases hkH : k.isH with
       | false =>
        rw [hvS k hkH]
        have hst' : after h'.n (yi h') st k = st k := by
         cases k <;> first | rfl | simp [Key.isH] at hkH
        split
        ·rename_i hw2
         rcases Log.wB_iff.1 hw2 with hw2 | ⟨i, hi, h1, h2⟩
         ·rcases List.mem_append.1 hw2 with hw2 | hw2
          ·obtain ⟨u', hu', e'⟩ := List.mem_map.1 hw2
           exact V4 ⟨u', hu', e'⟩
          ·have := (o4 k hw2).1; rw [hkH] at this; cases this
         ·have := Key.isH_id.2 ⟨i, hi⟩; rw [hkH] at this; cases this
        ·rename_i hw2
         rw [wc (fun u hu e => hw2 (Log.wB_iff.2 (.inl (List.mem_append.2 (.inl (List.mem_map.2 ⟨u, hu, e⟩)))))), hst']
       | true =>
        rw [hvH k hkH, wc (fun u hu e => by have := K2 hU (List.mem_map.2 ⟨u, hu, e⟩); rw [hkH] at this; cases this)]
        obtain ⟨i, hi⟩ := Key.isH_id.1 hkH
        split
        ·rename_i hw2
         rcases Log.wB_iff.1 hw2 with hw2 | ⟨j, hj, h1, h2⟩
         ·rcases List.mem_append.1 hw2 with hw2 | hw2
          ·have := K2 hU hw2; rw [hkH] at this; cases this
          ·exact vt hi ((o4 k hw2).2 i hi)
         ·exact vt hj h2
        ·rename_i hw2
         have hnw : k ∉ ws := fun hm2 => hw2 (Log.wB_iff.2 (.inl (List.mem_append.2 (.inr hm2))))
         rcases Nat.lt_or_ge i h'.n with c | c
         ·rw [vt hi c, o3 k hkH hnw]
          rcases Nat.lt_or_ge i s.n with c2 | c2
          ·exact (hag k i hi c2).symm
          ·exact absurd (Log.wB_iff.2 (.inr ⟨i, hi, c2, c⟩)) hw2
         ·exact qV hi c
      rw [← heq]
      exact hp
     ·intro k hk
      have hnot := Uy hk
      cases hkH : k.isH with
      | false =>
       rw [hvS k hkH]
       exact wc (fun u hu e => hnot (.inl (List.mem_append.2 (.inl (List.mem_map.2 ⟨u, hu, e⟩)))))
      | true =>
       rw [hvH k hkH, o3 k hkH (fun hm => hnot (.inl (List.mem_append.2 (.inr hm)))), hin k hkH]
     ·rintro k i hi (hw2 | ⟨j, hj, h1, h2⟩)
      ·rcases List.mem_append.1 hw2 with hw2 | hw2
       ·have := K2 hU hw2
        rw [Key.isH_id.2 ⟨i, hi⟩] at this; cases this
       ·exact (o4 k hw2).2 i hi
      ·rw [hi] at hj; cases hj; exact h2
theorem z2o (hT : ue P tt) (hO : Yc P orc) (e : opE orc tt N ops o s = some (s', L)) : OpF P N ops o s s' L := by
 unfold opE at e
 cases hc : V1 o with
 | none => simp only [hc] at e; exact z9d hT e
 | some q => obtain ⟨f, args⟩ := q; simp only [hc] at e; exact z9e hO hc e
theorem z5N (e : opD orc tt N ops o s = some s') : ∃ s1 L, opE orc tt N ops o s = some (s1, L) ∧ y6 s' = y6 s1 ∧ s'.n = s1.n ∧ ∀ k, k ∈ s'.ws ↔ k ∈ s1.ws := by
 unfold opD at e
 unfold opE
 cases hc : V1 o with
 | some q =>
  obtain ⟨f, args⟩ := q
  simp only [hc] at e ⊢
  cases h : opC orc N ops o f args s with
  | none => simp [h] at e
  | some q =>
   obtain ⟨s1, L⟩ := q
   simp only [h, Option.some.injEq] at e
   subst e
   exact ⟨s1, L, rfl, rfl, rfl, fun _ => Iff.rfl⟩
 | none =>
  simp only [hc] at e ⊢
  unfold zdQ at e
  obtain ⟨r, R, U, h1, h2, h3⟩ := Ag.copG tt N s.n ops o _ _ _ e
  have hn : (match wj o with | true => Nat.succ s.n | false => s.n) = nx o s.n := by
   unfold nx
   cases wj o <;> simp
  rw [hn] at h1 h2 h3
  rw [Uz] at h1
  simp only [Option.some.injEq] at h3
  subst h3
  refine ⟨⟨(xy U s).fr, (xy U s).hb, (xy U s).hf, nx o s.n, z2G U ++ (xy U s).ws⟩, ⟨R, U.map (·.1), 0, s.n, nx o s.n⟩, ?_, ?_, ?_, ?_⟩
  ·unfold opP
   rw [h1]
   simp only [h2, if_true]
  ·rw [ZS, Uz]
   exact (xT U s).symm.trans (Uz (xy U s) _ _).symm
  ·rw [Qh]
  ·intro k
   rw [K0]
   simp only [(YM U s).2, List.mem_append, z2G, List.mem_filter]
   have : k.heap = k.isH := by cases k <;> rfl
   rw [this]
theorem Zz.like {s s1 s' : S} (h : Zz s s1) (hv : y6 s' = y6 s1) (hn : s'.n = s1.n) (hw : ∀ k, k ∈ s'.ws ↔ k ∈ s1.ws) : Zz s s' :=
 ⟨by rw [hn]; exact h.n, fun q => by rw [hn, hv]; exact h.fresh q, fun k hk hc => by rw [hv]; exact h.same k hk (fun q => hc ((hw k).2 q)), fun q k hk => by rw [hn]; exact h.good q k ((hw k).1 hk)⟩
theorem X2 (hT : ue P tt) (hO : Yc P orc) : ∀ {l : List Oper} {s s' : S}, Kn orc tt N ops l s = some s' → Zz s s'
 | [], s, s', e => by simp only [Kn, Option.some.injEq] at e; subst e; exact Zz.refl _
 | o :: os, s, s', e => by
  simp only [Kn] at e
  split at e
  ·rename_i s1 h1
   obtain ⟨s2, L, h2, h3, h4, h5⟩ := z5N h1
   exact ((z2o hT hO h2).g.like h3 h4 h5).trans (X2 hT hO e)
  ·cases e
theorem Ws (hT : ue P tt) (hO : Yc P orc)   {rd : Option Nat} {m : Nat} {Q : Exit → Act → World → Prop} : ∀ {l : List Oper} {s s' : S} {ρ : Pl} {a : Act} {w : World}, Kn orc tt N ops l s = some s' → vw (y6 s) s.n → Sim C N ρ (y6 s) a w Ds →
  (∀ i, s.n ≤ i → i < s'.n → ρ i = none) → (∀ ρ' a' w', Ext s.n s'.n ρ ρ' → Sim C N ρ' (y6 s') a' w' Ds → Q .normal a' w') → wpListIn (fen rd) m P ops Q l a w
 | [], s, s', ρ, a, w, e, hf, hs, hn, hQ => by
  simp only [Kn, Option.some.injEq] at e; subst e
  exact hQ ρ a w (Ext.refl _ _ _) hs
 | o :: os, s, s', ρ, a, w, e, hf, hs, hn, hQ => by
  simp only [Kn] at e
  split at e
  ·rename_i s1 h1
   obtain ⟨s2, L, h2, h3, h4, h5⟩ := z5N h1
   have hop := z2o hT hO h2
   have hgr := hop.g.like h3 h4 h5
   have hg2 := X2 hT hO e
   have hgood := hop.ok hf C (y6 s) ρ a w Ds hs (fun _ _ => rfl) (fun i h1 h2 => hn i h1 (by have := hg2.n; rw [h4] at this; omega)) (fun k i hk h1 _ => hf.key hk h1)
   have heq : (fun k => if L.wB k = true then y6 s2 k else y6 s k) = y6 s1 := by
    rw [h3]
    funext k
    split
    ·rfl
    ·rename_i hk
     exact (hop.same k (by simpa using hk)).symm
   rw [heq] at hgood
   refine wpListIn_step fun K hK => ?_
   rw [← h4] at hgood
   refine hgood rd m K Q ?_
   intro ρ' a' w' hx hs'
   refine hK _ _ (Ws hT hO e (hgr.fresh hf) hs' ?_ ?_)
   ·intro i h1 h2
    rw [hx.2 i (.inr h1)]
    exact hn i (by have := hgr.n; omega) h2
   ·intro ρ2 a2 w2 hx2 hs2
    exact hQ ρ2 a2 w2 ((hx.mono (Nat.le_refl _) hg2.n).trans (hx2.mono hgr.n (Nat.le_refl _))) hs2
  ·cases e
theorem UL (hT : ue P tt) (hO : Yc P orc) {C : Ctx} : ∀ {l : List Oper} {s s' : S} {ls : List Log}, z8w orc tt N ops l s = some (s', ls) → Zz s s' ∧ (vw (y6 s) s.n → ∃ tr, Run P C N ops l s tr s' ∧ tr.map (·.1) = ls ∧ ∀ (i : Nat) (L : Log) (t t1 : S), tr[i]? = some (L, t, t1) → L.lo = t.n ∧ L.hi = t1.n)
 | [], s, s', ls, e => by
  simp only [z8w, Option.some.injEq, Prod.mk.injEq] at e
  obtain ⟨rfl, rfl⟩ := e
  exact ⟨Zz.refl _, fun _ => ⟨[], .nil _, rfl, fun i L t t1 h => by simp at h⟩⟩
 | o :: os, s, s', ls, e => by
  simp only [z8w] at e
  split at e
  ·rename_i s1 L h1
   split at e
   ·rename_i s2 ls2 h2
    simp only [Option.some.injEq, Prod.mk.injEq] at e
    obtain ⟨rfl, rfl⟩ := e
    have hop := z2o hT hO h1
    obtain ⟨g1, g2⟩ := UL hT hO (C := C) h2
    refine ⟨hop.g.trans g1, fun hf => ?_⟩
    obtain ⟨tr, r1, r2, r3⟩ := g2 (hop.g.fresh hf)
    refine ⟨(L, s, s1) :: tr, .cons (hop.ok hf C) hop.same hop.g.n hop.ids r1, by simp [r2], ?_⟩
    intro i L' t t1 hi
    cases i with
    | zero =>
     simp only [List.getElem?_cons_zero, Option.some.injEq, Prod.mk.injEq] at hi
     obtain ⟨rfl, rfl, rfl⟩ := hi
     exact ⟨hop.lo, hop.hi⟩
    | succ i => simp only [List.getElem?_cons_succ] at hi; exact r3 i L' t t1 hi
   ·cases e
  ·cases e
theorem z6V (hT : ue P tt) (hO : Yc P orc) (hm : P.follows .mixedOrders = true) {C : Ctx} {Ds : List Nat} {rd : Option Nat} {m id : Nat} {Q : Exit → Act → World → Prop} {s s' : S}  {ρ : Pl} {a : Act} {w : World} (e : z8w orc tt N ops ops.toList s = some (s', ls)) (hd : jp ops.toList ls = true)
  (hf : vw (y6 s) s.n) (hs : Sim C N ρ (y6 s) a w Ds) (hn : ∀ i, s.n ≤ i → i < s'.n → ρ i = none) (hQ : ∀ ρ' a' w', Ext s.n s'.n ρ ρ' → Sim C N ρ' (y6 s') a' w' Ds → Q .normal a' w') : (Code.region id ops true).wpIn (fen rd) m P Q a w := by
 obtain ⟨_, g2⟩ := UL hT hO (C := C) e
 obtain ⟨tr, r1, r2, r3⟩ := g2 hf
 refine wpIn_region_any hm (KK r1 (by rw [r2]; exact hd) hf r3 (fun ρ' a' w' hx hs' => hQ ρ' a' w' hx hs') ops.size _ a _ ρ (y6 s) ?_ ?_ hs.drew (Ext.refl _ _ _) ?_ ?_)
 ·unfold XB
  exact Nat.le_trans (List.length_filter_le _ _) (by simp)
 ·intro j o hj hl
  exfalso
  have : j < ops.size := (Array.getElem?_eq_some_iff.1 hj).1
  simp [Array.getD_eq_getD_getElem?, this] at hl
 ·intro j L t t1 hj _ i h1 h2
  obtain ⟨hlen, hget⟩ := r1.get
  have hlt : j < ops.toList.length := by rw [← hlen]; exact (List.getElem?_eq_some_iff.1 hj).1
  obtain ⟨L', t', t1', d1, _, _, _, d5, d6, _⟩ := hget j ops.toList[j] (List.getElem?_eq_getElem hlt)
  rw [hj] at d1; cases d1
  exact hn i (by omega) (by omega)
 ·intro k
  refine .inr ⟨?_, rfl⟩
  intro j L u u1 hl hj
  exfalso
  have : j < ops.size := by
   have := (List.getElem?_eq_some_iff.1 hj).1
   rw [r1.get.1] at this
   simpa using this
  simp [Array.getD_eq_getD_getElem?, this] at hl
end
end
open Go.Own (A z8 zu Rep zV kY)
inductive Cd where
 | code (c : Code)
 | again (c : Code)
 | within (c rest : Code)
def Cd.items : Cd → List Item
 | .code c => [.code c]
 | .again c => [.code c, .inLoop c]
 | .within c rest => [.code rest, .inScope c]
def Cd.wpI (F : Fence) (n : Nat) (P : Program) (d : Cd) (Q : Exit → Act → World → Prop) (a : Act) (w : World) : Prop :=
 ∀ (b : Frame) (k : List Item) (cs : List Frame), b.roundOf = F.round → F.fn b.fn → F.room (cs.length + 1 + n) →
  ∃ e a' w', Q e a' w' ∧ ArrivesIn (Machine.fenced P F) P (lone (b.atR a (d.items ++ k)) cs w) b k cs e a' w'
def Exit.atScope (c : Code) (J : Code → Act → World → Prop) (Q : Exit → Act → World → Prop) : Exit → Act → World → Prop
 | .goto l, a, w => match findLabel c l with
  | some rest => J rest a w
  | none => Q (.goto l) a w
 | e, a, w => Q e a w
variable {c : Code}{cs : List Frame}{k : List Item}{b : Frame}
section
variable {F : Fence} {n : Nat} {P : Program} {Q : Exit → Act → World → Prop} {a : Act} {w : World}
theorem yx : (Cd.code c).wpI F n P Q a w ↔ c.wpIn F n P Q a w := Iff.rfl
theorem KT (h : (Cd.again c).wpI F n P Q a w) : (Code.loop c).wpIn F n P Q a w := by
 intro b k cs hro hb hr
 obtain ⟨e, a', w', hq, harr⟩ := h b k cs hro hb hr
 exact ⟨e, a', w', hq, .of_steps (.one (fenced_calm hb hr rfl) stepR_loop) harr⟩
theorem Yg (h : c.wpIn F n P (Exit.then ((Cd.again c).wpI F n P Q) Q) a w) : (Cd.again c).wpI F n P Q a w := by
 intro b k cs hro hb hr
 obtain ⟨e, a₁, w₁, hq, harr⟩ := h b (.inLoop c :: k) cs hro hb hr
 cases e with
 | normal =>
  obtain ⟨e₂, a₂, w₂, hq₂, harr₂⟩ := hq b k cs hro hb hr
  exact ⟨e₂, a₂, w₂, hq₂, .of_steps (StepsIn.trans harr (.one (fenced_calm hb hr rfl) stepR_inLoop)) harr₂⟩
 | exit id => exact ⟨_, a₁, w₁, hq, .pass (x := .inLoop c) rfl (fun _ _ => .inl (by simp)) harr⟩
 | goto l => exact ⟨_, a₁, w₁, hq, .pass (x := .inLoop c) rfl (fun _ _ => .inl (by simp)) harr⟩
 | ret => exact ⟨_, a₁, w₁, hq, .pass (x := .inLoop c) rfl (fun _ _ => .inl (by simp)) harr⟩
 | panic ch => exact ⟨_, a₁, w₁, hq, .pass (x := .inLoop c) rfl (fun _ _ => .inl (by simp)) harr⟩
 | outgrown => exact ⟨_, a₁, w₁, hq, .pass (x := .inLoop c) rfl (fun _ _ => .inl (by simp)) harr⟩
theorem Kc : step P (lone (b.atR a (.code (.scope c) :: k)) cs w) = .next (lone (b.atR a (.code c :: .inScope c :: k)) cs w) :=
 step_lone_go (by simp [Go.stepG, Go.stepG.exec, Frame.atR])
theorem UC : step P (lone (b.atR a (.inScope c :: k)) cs w) = .next (lone (b.atR a k) cs w) :=
 step_lone_go (by simp [Go.stepG, Go.stepG.exec, Frame.atR])
theorem z1B (h : (Cd.within c c).wpI F n P Q a w) : (Code.scope c).wpIn F n P Q a w := by
 intro b k cs hro hb hr
 obtain ⟨e, a', w', hq, harr⟩ := h b k cs hro hb hr
 exact ⟨e, a', w', hq, .of_steps (.one (fenced_calm hb hr rfl) Kc) harr⟩
theorem YQ {c rest : Code} (h : rest.wpIn F n P (Exit.atScope c (fun r => (Cd.within c r).wpI F n P Q) Q) a w) : (Cd.within c rest).wpI F n P Q a w := by
 intro b k cs hro hb hr
 obtain ⟨e, a₁, w₁, hq, harr⟩ := h b (.inScope c :: k) cs hro hb hr
 cases e with
 | normal => exact ⟨.normal, a₁, w₁, hq, StepsIn.trans harr (.one (fenced_calm hb hr rfl) UC)⟩
 | exit id => exact ⟨.exit id, a₁, w₁, hq, fun k' hk => harr.1 k' hk, fun hr' hk => harr.2 hr' hk⟩
 | goto l =>
  cases hf : findLabel c l with
  | some r =>
   simp only [Exit.atScope, hf] at hq
   obtain ⟨e₂, a₂, w₂, hq₂, harr₂⟩ := hq b k cs hro hb hr
   have hg : gotoIn l (.inScope c :: k) = some (.code r :: .inScope c :: k) := by simp [gotoIn, hf]
   exact ⟨e₂, a₂, w₂, hq₂, .of_steps (harr.1 _ hg) harr₂⟩
  | none =>
   simp only [Exit.atScope, hf] at hq
   have hg : gotoIn l (.inScope c :: k) = gotoIn l k := by simp [gotoIn, hf]
   exact ⟨.goto l, a₁, w₁, hq, fun k' hk => harr.1 k' (by rw [hg]; exact hk), fun hr' hk => harr.2 hr' (by rw [hg]; exact hk)⟩
 | ret => exact ⟨_, a₁, w₁, hq, harr⟩
 | panic ch => exact ⟨_, a₁, w₁, hq, harr⟩
 | outgrown => exact ⟨_, a₁, w₁, hq, harr⟩
end
variable {L : Nat}
theorem wK.putObj {M : Nat → Prop} {a w : World} (h : wK M a w)  (hM : M L) (o : Obj) : wK M a (w.putObj L o) :=
 h.trans ⟨rfl, rfl, rfl, Nat.le_refl _, by simp, fun k hk => World.putObj_heap_other (by rintro rfl; exact hk hM)⟩
theorem vN.alloc {w : World} (h : vN C ρ st w) (o : Obj) : vN C ρ st (w.alloc o) := {
 ent := fun b q => let ⟨p, h1, h2⟩ := h.ent b q; ⟨p, h1, h2.mem_world (hao w o _ (h.lt b p h1))⟩
 dis := h.dis
 fam := h.fam
 base := h.base
 lt := fun b p q => by have := h.lt b p q; simp; omega
 still := fun B o' v hB => VY (h.still B o' v hB) o
 sfree := h.sfree
 kept := h.kept.alloc (h.mine _ h.kept.size) o
 mine := h.mine }
variable {N : Nat}
theorem Sim.mark {w : World}  (h : Sim C N ρ st a w Ds) : Sim C N ρ st { a with defers := [mark w.heap.size] ++ a.defers } (w.alloc (.deferred (some []))) (w.heap.size :: Ds) := by
 refine ⟨h.h.alloc _, ⟨h.f.size, h.f.slot, ?_, ?_, ?_, ?_⟩⟩
 ·simp [h.f.defers]
 ·rw [List.nodup_cons]
  exact ⟨fun hm => by have := h.f.lt hm; omega, h.f.dn⟩
 ·intro D hD
  rcases List.mem_cons.1 hD with rfl | hD
  ·exact ⟨h.h.mine _ h.h.kept.size, World.alloc_heap_new w _⟩
  ·exact ⟨(h.f.dm D hD).1, by rw [hao w _ D (h.f.lt hD)]; exact (h.f.dm D hD).2⟩
 ·intro D hD b p q hp
  rcases List.mem_cons.1 hD with rfl | hD
  ·have := h.h.lt b p hp; omega
  ·exact h.f.dx D hD b p q hp
theorem z0X {w : World} {B o L : Nat} {v : Value} (h : zu w.heap B o = some v) (hne : B ≠ L) (x : Obj) : zu (w.putObj L x).heap B o = some v := by
 unfold zu at h ⊢
 rw [World.putObj_heap_other hne]; exact h
theorem vN.putFree {w : World} (h : vN C ρ st w)  (hM : C.M L) (hx : ∀ b p, (st (.b b)).mem = true → ρ b = some p → p.B ≠ L) (o : Obj) : vN C ρ st (w.putObj L o) := {
 ent := fun b q => let ⟨p, h1, h2⟩ := h.ent b q; ⟨p, h1, h2.mem_world (World.putObj_heap_other (hx b p q h1))⟩
 dis := h.dis
 fam := h.fam
 base := h.base
 lt := fun b p q => by have := h.lt b p q; simpa using this
 still := fun B o' v hB => z0X (h.still B o' v hB) (by rintro rfl; exact h.sfree _ _ _ hB hM) o
 sfree := h.sfree
 kept := h.kept.putObj hM o
 mine := h.mine }
def Ctx.put (C : Ctx) (L : Nat) (o : Obj) : Ctx := ⟨C.w0.putObj L o, C.S, C.M⟩
theorem vN.rebase {w : World} (h : vN C ρ st w)  (hM : ¬ C.M L) {q : Loop} (hL : w.heap[L]? = some (.loop q)) (o : Obj) : vN (C.put L o) ρ st (w.putObj L o) := {
 ent := fun b q => let ⟨p, h1, h2⟩ := h.ent b q; ⟨p, h1, h2.mem_world (World.putObj_heap_other (by intro e; exact hM (e ▸ h.base b p q h1)))⟩
 dis := h.dis
 fam := h.fam
 base := h.base
 lt := fun b p q => by have := h.lt b p q; simpa using this
 still := fun B o' v hB => z0X (h.still B o' v hB) (by rintro rfl; have := h.still _ _ _ hB; unfold zu at this; rw [hL] at this; cases this) o
 sfree := h.sfree
 kept := by
  refine ⟨h.kept.os, h.kept.tape, h.kept.output, h.kept.drawn, by simpa [Ctx.put] using h.kept.size, fun k hk => ?_⟩
  by_cases e : k = L
  ·subst e
   have hlt : k < w.heap.size := (Array.getElem?_eq_some_iff.1 hL).1
   have hlt0 : k < C.w0.heap.size := by
    have := h.kept.block k hM
    rw [hL] at this
    exact (Array.getElem?_eq_some_iff.1 this.symm).1
   rw [World.putObj_heap_same hlt]
   exact (World.putObj_heap_same hlt0).symm
  ·rw [World.putObj_heap_other e]
   exact (h.kept.block k hk).trans (World.putObj_heap_other e).symm
 mine := fun B hB => h.mine B (by simpa [Ctx.put] using hB) }
theorem z5t.rebase {w : World}  (h : z5t C N ρ st a w Ds)  (hM : ¬ C.M L) (o : Obj) : z5t (C.put L o) N ρ st a (w.putObj L o) Ds := {
 size := h.size
 slot := h.slot
 defers := h.defers
 dn := h.dn
 dm := fun D hD => ⟨(h.dm D hD).1, by rw [World.putObj_heap_other (by rintro rfl; exact hM (h.dm _ hD).1)]; exact (h.dm D hD).2⟩
 dx := h.dx }
theorem vN.ctx {C C' : Ctx}   {w : World} (h : vN C ρ st w) (hS : C'.S = C.S) (sub : ∀ B, C.M B → C'.M B) (hf : ∀ B o v, C'.S B o = some v → ¬ C'.M B) (hk : wK C'.M C'.w0 w) (hm : ∀ B, C'.w0.heap.size ≤ B → C'.M B) : vN C' ρ st w := {
 ent := fun b q => by rw [hS]; exact h.ent b q
 dis := h.dis
 fam := h.fam
 base := fun b p q hp => sub _ (h.base b p q hp)
 lt := h.lt
 still := fun B o v hB => h.still B o v (by rw [← hS]; exact hB)
 sfree := hf
 kept := hk
 mine := hm }
variable {l : Nat}
theorem vN.dropLp {w : World} (h : vN C ρ st w)  : vN C ρ (upd st (.b l) .z) w := {
 ent := fun b q => by
  by_cases e : b = l
  ·subst e; rw [zC] at q; cases q
  ·rw [zt _ _ (by simpa using e)] at q ⊢; exact h.ent b q
 dis := fun b b' p p' hbb h1 h2 => by
  by_cases e : b = l
  ·subst e; rw [zC] at h1; cases h1
  ·by_cases e' : b' = l
   ·subst e'; rw [zC] at h2; cases h2
   ·rw [zt _ _ (by simpa using e)] at h1 ⊢
    rw [zt _ _ (by simpa using e')] at h2 ⊢
    exact h.dis b b' p p' hbb h1 h2
 fam := fun b k q => by
  by_cases e : b = l
  ·subst e; rw [zC] at q; cases q
  ·rw [zt _ _ (by simpa using e)] at q
   obtain ⟨h1, l', h2, h3⟩ := h.fam b k q
   exact ⟨h1, l', by rw [zt _ _ (by simp)]; exact h2, h3⟩
 base := fun b p q => by
  by_cases e : b = l
  ·subst e; rw [zC] at q; cases q
  ·rw [zt _ _ (by simpa using e)] at q; exact h.base b p q
 lt := h.lt
 still := h.still
 sfree := h.sfree
 kept := h.kept
 mine := h.mine }
theorem vN.lpFree {w : World} (h : vN C ρ st w)  {r : Lp} (hl : st (.b l) = .lp r) {p : Loc} (hp : ρ l = some p) : ∀ b q, (upd st (.b l) .z (.b b)).mem = true → ρ b = some q → q.B ≠ p.B := by
 intro b q hb hq e
 by_cases eb : b = l
 ·subst eb; rw [zC] at hb; cases hb
 ·rw [zt _ _ (by simpa using eb)] at hb
  obtain ⟨k, k', _, h2, _⟩ := h.dis b l q p eb hb (by rw [hl]; rfl) hq hp e
  rw [hl] at h2; cases h2
theorem vN.addLp {w : World} (h : vN C ρ st w)  {r : Lp} {p : Loc} (hp : ρ l = some p) (hM : C.M p.B) (hr : zcB C.S ρ w.heap r p) (hx : ∀ b q, b ≠ l → (st (.b b)).mem = true → ρ b = some q → q.B ≠ p.B) : vN C ρ (upd st (.b l) (.lp r)) w := {
 ent := fun b q => by
  by_cases e : b = l
  ·subst e; rw [zC]; exact ⟨p, hp, hr⟩
  ·rw [zt _ _ (by simpa using e)] at q ⊢; exact h.ent b q
 dis := fun b b' q q' hbb h1 h2 h3 h4 h5 => by
  by_cases e : b = l
  ·subst e
   rw [hp] at h3; cases h3
   rw [zt _ _ (by simpa using Ne.symm hbb)] at h2
   exact absurd h5.symm (hx b' q' (Ne.symm hbb) h2 h4)
  ·by_cases e' : b' = l
   ·subst e'
    rw [hp] at h4; cases h4
    rw [zt _ _ (by simpa using e)] at h1
    exact absurd h5 (hx b q e h1 h3)
   ·rw [zt _ _ (by simpa using e)] at h1 ⊢
    rw [zt _ _ (by simpa using e')] at h2 ⊢
    exact h.dis b b' q q' hbb h1 h2 h3 h4 h5
 fam := fun b k q => by
  by_cases e : b = l
  ·subst e; rw [zC] at q; cases q
  ·rw [zt _ _ (by simpa using e)] at q
   obtain ⟨h1, l', h2, h3⟩ := h.fam b k q
   exact ⟨h1, l', by rw [zt _ _ (by simp)]; exact h2, h3⟩
 base := fun b q hb hq => by
  by_cases e : b = l
  ·subst e; rw [hp] at hq; cases hq; exact hM
  ·rw [zt _ _ (by simpa using e)] at hb; exact h.base b q hb hq
 lt := h.lt
 still := h.still
 sfree := h.sfree
 kept := h.kept
 mine := h.mine }
theorem JB {F : Fence} {m : Nat}  {tmps : Array Value} {R : Ending → World → Prop}    (hres : ∀ w, vN C ρ st w → ∃ v, (results fn tmps).run P w = .ok v w ∧ R (.returned v) w) :
  ∀ (Ds : List Nat) (w : World), vN C ρ st w → Ds.Nodup → (∀ D ∈ Ds, C.M D ∧ w.heap[D]? = some (.deferred (some []))) → (∀ D ∈ Ds, ∀ b p, (st (.b b)).mem = true → ρ b = some p → p.B ≠ D) → LeavesInM F m P fn tmps R (Ds.map mark) .returning w
 | [], w, h, _, _, _ => hres w h
 | D :: Ds, w, h, hn, hd, hx => by
  rw [List.nodup_cons] at hn
  have hD := hd D (by simp)
  refine ⟨by simp, .inl ⟨D, _, rfl, run_takeDeferred hD.2, JB hres Ds _ (h.putFree hD.1 (hx D (by simp)) _) hn.2 ?_ (fun D' hD' => hx D' (by simp [hD']))⟩⟩
  intro D' hD'
  refine ⟨(hd D' (by simp [hD'])).1, ?_⟩
  rw [World.putObj_heap_other (by rintro rfl; exact hn.1 hD')]
  exact (hd D' (by simp [hD'])).2
noncomputable section
open Go.Own (A z8 zu Rep zV kY)
inductive Ex where
 | norm
 | ex (id : Nat)
 | gt (l : Nat)
 | ret
def Ex.toExit : Ex → Exit
 | .norm => .normal
 | .ex i => .exit i
 | .gt l => .goto l
 | .ret => .ret
def Ex.pend : Ex → Option Code
 | .norm => none
 | .ex i => some (.exit i)
 | .gt l => some (.goto l)
 | .ret => some .ret
def Ex.isNorm : Ex → Bool
 | .norm => true
 | _ => false
def WS : Option Code → Option Ex
 | none => some .norm
 | some .ret => some .ret
 | some (.exit i) => some (.ex i)
 | some (.goto l) => some (.gt l)
 | _ => none
def ZM (N : Nat) (fr : Tr) : List V := (List.range N).map fun t => (fr.get t).val
def z0h (orc : Orc) (N : Nat) (g : Operand) (ps : Array Tmp) (assign body : Code) (s : S) : Option (S × Ex) :=
 match opV g (y6 s) with
 | some (.fn f caps, _, _) =>
  match orc (.fn f caps) [.yl s.n] ⟨s.hb.put s.n (.lp ⟨ZM N s.fr, ps.toList, assign, body, true, none⟩), s.hf, s.n + 1⟩ with
  | some (_, h', ws) =>
   match h'.hb.get s.n with
   | .lp r =>
    match WS r.pend with
    | some x => some (⟨s.fr, h'.hb.put s.n .z, h'.hf, h'.n, .b s.n :: ws ++ s.ws⟩, x)
    | none => none
   | _ => none
  | none => none
 | _ => none
def z7T (os : List Oper) : List (Nat × Nat) := (List.range os.length).flatMap fun j => ((List.range j).filter fun i => !((jZ os []).getD j 0).testBit i).map fun i => (i, j)
def z80 (os : List Oper) (ls : List Log) : Bool :=
 Xi os && (Nat.beq ls.length os.length && (z7T os).all fun p => match ls[p.1]? with
  | some L => match ls[p.2]? with
   | some L' => apart L L'
   | none => false
  | none => false)
theorem z50 {os : List Oper}  (h : z80 os ls = true) : jp os ls = true := by
 unfold z80 at h
 unfold jp
 rw [Bool.and_eq_true, Bool.and_eq_true] at h
 obtain ⟨h1, h2, h3⟩ := h
 have hl := Nat.eq_of_beq_eq_true h2
 rw [Bool.and_eq_true]
 refine ⟨h1, List.all_eq_true.2 fun b hb => List.all_eq_true.2 fun a ha => ?_⟩
 obtain ⟨L', j⟩ := b
 obtain ⟨L, i⟩ := a
 rw [List.mem_zipIdx_iff_getElem?] at ha hb
 simp only [Bool.or_eq_true]
 rcases Nat.lt_or_ge i j with c | c
 ·cases hbit : ((jZ os []).getD j 0).testBit i with
  | true => exact .inl (.inr rfl)
  | false =>
   right
   have hj : j < ls.length := (List.getElem?_eq_some_iff.1 hb).1
   have hm : (i, j) ∈ z7T os := by
    unfold z7T
    rw [List.mem_flatMap]
    refine ⟨j, List.mem_range.2 (by omega), ?_⟩
    rw [List.mem_map]
    refine ⟨i, ?_, rfl⟩
    rw [List.mem_filter]
    exact ⟨List.mem_range.2 c, by rw [hbit]; rfl⟩
   have := List.all_eq_true.1 h3 _ hm
   simp only at ha hb
   simp only [ha, hb] at this
   exact this
 ·exact .inl (.inl (by rw [Nat.ble_eq]; exact c))
def UO (orc : Orc) (tt : ET) (N : Nat) (ops : Array Oper) (draw : Bool) (s : S) : Option (S × Ex) :=
 match draw with
 | true =>
  match z8w orc tt N ops ops.toList s with
  | some (s', ls) => match z80 ops.toList ls with | true => some (s', .norm) | false => none
  | none => none
 | false =>
  match Kn orc tt N ops ops.toList s with
  | some s' => some (s', .norm)
  | none => none
def wh (orc : Orc) (tt : ET) (N : Nat) : Nat → Cd → S → Option (S × Ex)
 | 0, _, _ => none
 | f + 1, .again c, s =>
  match wh orc tt N f (.code c) s with
  | some (s1, .norm) => wh orc tt N f (.again c) s1
  | r => r
 | f + 1, .within c rest, s =>
  match wh orc tt N f (.code rest) s with
  | some (s1, .gt l) =>
   match findLabel c l with
   | some r => wh orc tt N f (.within c r) s1
   | none => some (s1, .gt l)
  | r => r
 | _ + 1, .code .skip, s => some (s, .norm)
 | _ + 1, .code (.label _), s => some (s, .norm)
 | _ + 1, .code (.exit id), s => some (s, .ex id)
 | _ + 1, .code (.goto l), s => some (s, .gt l)
 | _ + 1, .code .ret, s => some (s, .ret)
 | f + 1, .code (.seq x y), s =>
  match wh orc tt N f (.code x) s with
  | some (s1, .norm) => wh orc tt N f (.code y) s1
  | r => r
 | f + 1, .code (.cond c x y), s =>
  match opV c (y6 s) with
  | some (.lit (.bool true), _, _) => wh orc tt N f (.code x) s
  | some (.lit (.bool false), _, _) => wh orc tt N f (.code y) s
  | _ => none
 | f + 1, .code (.block id c), s =>
  match wh orc tt N f (.code c) s with
  | some (s1, .ex i) => if Nat.beq i id = true then some (s1, .norm) else some (s1, .ex i)
  | r => r
 | f + 1, .code (.loop c), s => wh orc tt N f (.again c) s
 | f + 1, .code (.scope c), s => wh orc tt N f (.within c c) s
 | _ + 1, .code (.region _ ops draw), s => UO orc tt N ops draw s
 | _ + 1, .code (.rangeFunc g ps assign body), s => z0h orc N g ps assign body s
 | _ + 1, .code (.refuse _), _ => none
def zes (C : Ctx) (rd : Option Nat) : Prop := ∀ L, rd = some L → ¬ C.M L ∧ ∃ q, C.w0.heap[L]? = some (.loop q)
def Zy (P : Program) (N : Nat) (d : Cd) (s s' : S) (x : Ex) : Prop :=
 Zz s s' ∧ ∀ (C : Ctx) (ρ : Pl) (a : Act) (w : World) (Ds : List Nat) (rd : Option Nat) (m : Nat) (Q : Exit → Act → World → Prop),
  vw (y6 s) s.n → Sim C N ρ (y6 s) a w Ds → (∀ i, s.n ≤ i → i < s'.n → ρ i = none) → zes C rd →
  (∀ ρ' a' w' Ds', Ext s.n s'.n ρ ρ' → Sim C N ρ' (y6 s') a' w' Ds' → Q x.toExit a' w') → d.wpI (fen rd) m P Q a w
section
variable {P : Program} {orc : Orc} {tt : ET} {N : Nat}
theorem Zy.one {d : Cd} {s : S} {x : Ex} (h : ∀ (rd : Option Nat) (m : Nat) (Q : Exit → Act → World → Prop) (a : Act) (w : World), Q x.toExit a w → d.wpI (fen rd) m P Q a w) : Zy P N d s s x :=
 ⟨Zz.refl s, fun _ ρ a w Ds rd m Q _ hs _ _ hQ => h rd m Q a w (hQ ρ a w Ds (Ext.refl _ _ _) hs)⟩
theorem Zy.comp {d d1 d2 : Cd} {s s1 s2 : S} {x1 x2 : Ex} (h1 : Zy P N d1 s s1 x1) (h2 : Zy P N d2 s1 s2 x2)
  (h : ∀ (rd : Option Nat) (m : Nat) (Q : Exit → Act → World → Prop) (a : Act) (w : World), d1.wpI (fen rd) m P (fun e a w => e = x1.toExit ∧ d2.wpI (fen rd) m P Q a w) a w → d.wpI (fen rd) m P Q a w) : Zy P N d s s2 x2 := by
 refine ⟨h1.1.trans h2.1, ?_⟩
 intro C ρ a w Ds rd m Q hf hs hn hrd hQ
 refine h rd m Q a w (h1.2 C ρ a w Ds rd m _ hf hs (fun i q1 q2 => hn i q1 (by have := h2.1.n; omega)) hrd ?_)
 intro ρ1 a1 w1 Ds1 hx1 hs1
 refine ⟨rfl, h2.2 C ρ1 a1 w1 Ds1 rd m Q (h1.1.fresh hf) hs1 ?_ hrd ?_⟩
 ·intro i q1 q2
  rw [hx1.2 i (.inr q1)]
  exact hn i (by have := h1.1.n; omega) q2
 ·intro ρ2 a2 w2 Ds2 hx2 hs2
  exact hQ ρ2 a2 w2 Ds2 ((hx1.mono (Nat.le_refl _) h2.1.n).trans (hx2.mono h1.1.n (Nat.le_refl _))) hs2
theorem Zy.weaken {d d1 : Cd} {s s1 : S} {x1 x : Ex} (h1 : Zy P N d1 s s1 x1)
  (h : ∀ (rd : Option Nat) (m : Nat) (Q : Exit → Act → World → Prop) (a : Act) (w : World), d1.wpI (fen rd) m P (fun e a w => e = x1.toExit ∧ Q x.toExit a w) a w → d.wpI (fen rd) m P Q a w) : Zy P N d s s1 x := by
 refine ⟨h1.1, ?_⟩
 intro C ρ a w Ds rd m Q hf hs hn hrd hQ
 exact h rd m Q a w (h1.2 C ρ a w Ds rd m _ hf hs hn hrd fun ρ' a' w' Ds' hx hs' => ⟨rfl, hQ ρ' a' w' Ds' hx hs'⟩)
theorem wF {w : World}  {q : Loop} (h : w.heap[L]? = some (.loop q)) (fn : FuncId) (tmps : Array Value) (ps : Array Tmp) (assign body : Code) :
  (Instr.enterLoop fn tmps ps assign body (some L)).run P w =
   .ok (w.heap.size, []) (w.alloc (.loop { state := .ready, pending := none, fn, tmps, params := ps, assign, body, defers := q.defers })) := by
 unfold Instr.enterLoop
 simp only [Sem.run_bind, run_getLoop h, run_newObj_alloc, Result.andThen, Sem.run_pure]
theorem z4Y {w : World}  (h : Sim C N ρ st a w Ds)  (hrd : zes C rd) (fn : FuncId) (ps : Array Tmp) (assign body : Code) :
  ∃ mk wA Ds' dq, (Instr.enterLoop fn a.tmps ps assign body (fen rd).round).run P w = .ok (wA.heap.size, mk) (wA.alloc (.loop { state := .ready, pending := none, fn, tmps := a.tmps, params := ps, assign, body, defers := dq })) ∧
   Sim C N ρ st { a with defers := mk ++ a.defers } wA Ds' := by
 cases rd with
 | none =>
  refine ⟨_, w.alloc (.deferred (some [])), _, w.heap.size, ?_, h.mark⟩
  have := run_enterLoop_outer (P := P) (w := w) fn a.tmps ps assign body
  simp only [World.size_alloc]
  exact this
 | some L =>
  obtain ⟨h1, q, h2⟩ := hrd L rfl
  rw [← h.h.kept.block L h1] at h2
  exact ⟨[], w, Ds, q.defers, wF h2 fn a.tmps ps assign body, h⟩
theorem z2Q {s : S}  {w : World}  (h : Sim C N ρ (y6 s) a w Ds) : VRs C.S ρ (ZM N s.fr) a.tmps.toList := by
 unfold ZM
 refine VRs.of_get (by simp [h.f.size]) fun i x hx => ?_
 have hlt : i < N := by
  have := (List.getElem?_eq_some_iff.1 hx).1
  simpa using this
 rw [List.getElem?_map, List.getElem?_range hlt] at hx
 cases hx
 refine ⟨Act.tv a i, ?_, h.f.slot i⟩
 rw [← h.f.size] at hlt
 simp [Act.tv, Array.getD_eq_getD_getElem?, hlt]
theorem z2H {c : Option Code} {x : Ex} (h : WS c = some x) : c = x.pend := by
 unfold WS at h
 split at h <;> first | (cases h; rfl) | cases h
theorem Jd (hO : Yc P orc) {g : Operand} {ps : Array Tmp} {assign body : Code} {s s' : S} {x : Ex} (e : z0h orc N g ps assign body s = some (s', x)) : Zy P N (.code (.rangeFunc g ps assign body)) s s' x := by
 unfold z0h at e
 split at e
 case h_2 => cases e
 rename_i f caps R0 U0 hg
 split at e
 case h_2 => cases e
 rename_i v h' ws hor
 split at e
 case h_2 => cases e
 rename_i r hl
 split at e
 case h_2 => cases e
 rename_i x' hj
 simp only [Option.some.injEq, Prod.mk.injEq] at e
 obtain ⟨rfl, rfl⟩ := e
 obtain ⟨o1, o2, o3, o4, o5⟩ := hO _ _ _ _ _ _ hor
 generalize hh1 : (⟨s.hb.put s.n (.lp ⟨ZM N s.fr, ps.toList, assign, body, true, none⟩), s.hf, s.n + 1⟩ : H) = h1 at o1 o2 o3 o5
 have hn1 : h1.n = s.n + 1 := by rw [← hh1]
 have hv1 : ∀ k, k.isH = true → yi h1 k = if k = .b s.n then .lp ⟨ZM N s.fr, ps.toList, assign, body, true, none⟩ else y6 s k := by
  intro k hk
  rw [← hh1]
  cases k with
  | s t => cases hk
  | b i => simp [yi, Tr.get_put, y6]
  | f i => simp [yi, y6]
 have hv2 : ∀ k, y6 ⟨s.fr, h'.hb.put s.n .z, h'.hf, h'.n, .b s.n :: ws ++ s.ws⟩ k = if k.isH = true then (if k = .b s.n then .z else yi h' k) else y6 s k := by
  intro k
  cases k with
  | s t => simp [y6, Key.isH]
  | b i => simp [yi, Tr.get_put, y6, Key.isH]
  | f i => simp [yi, y6, Key.isH]
 have hfr1 : vw (y6 s) s.n → vw (yi h1) h1.n := by
  intro hf
  refine ⟨fun i hi => ?_, fun f l hl => ?_⟩
  ·rw [hv1 _ rfl, hv1 _ rfl, if_neg (by simp; omega), if_neg (by simp)]
   exact hf.1 i (by omega)
  ·rw [hv1 _ rfl, if_neg (by simp)] at hl
   have := hf.2 f l hl
   omega
 refine ⟨⟨by show s.n ≤ h'.n; omega, ?_, ?_, ?_⟩, ?_⟩
 ·intro hf
  have := o2 (hfr1 hf)
  refine ⟨fun i hi => ?_, fun f l hl' => ?_⟩
  ·rw [hv2, hv2]
   simp only [Key.isH, if_true]
   refine ⟨?_, ?_⟩
   ·split
    ·rfl
    ·exact (this.1 i hi).1
   ·rw [if_neg (by simp)]; exact (this.1 i hi).2
  ·rw [hv2] at hl'
   simp only [Key.isH, if_true] at hl'
   rw [if_neg (by simp)] at hl'
   exact this.2 f l hl'
 ·intro k hk hnot
  simp only [List.cons_append, List.mem_cons, List.mem_append, not_or] at hnot
  rw [hv2, if_pos hk, if_neg hnot.1, o3 k hk hnot.2.1, hv1 k hk, if_neg hnot.1]
  exact ⟨hnot.2.2, rfl⟩
 ·intro hgd k hk
  simp only [List.cons_append, List.mem_cons, List.mem_append] at hk
  rcases hk with rfl | hk | hk
  ·refine ⟨rfl, fun i hi => ?_⟩
   simp only [Key.id, Option.some.injEq] at hi
   subst hi
   show s.n < h'.n
   omega
  ·exact o4 k hk
  ·obtain ⟨q1, q2⟩ := hgd k hk
   exact ⟨q1, fun i hi => by have := q2 i hi; show i < h'.n; omega⟩
 ·intro C ρ a w Ds rd m Q hf hs hnone hrd hQ
  refine yx.2 (wpIn_rangeFunc ?_)
  intro fn hfn
  obtain ⟨rfl, hgv⟩ := y5 hs hg
  obtain ⟨mk, wA, Ds', dq, en1, en2⟩ := z4Y (P := P) hs hrd fn ps assign body
  obtain ⟨obj, hobj⟩ : ∃ q : Loop, q = { state := .ready, pending := none, fn, tmps := a.tmps, params := ps, assign, body, defers := dq } := ⟨_, rfl⟩
  rw [← hobj] at en1
  have hnn : ρ s.n = none := hnone s.n (Nat.le_refl _) (by show s.n < h'.n; omega)
  have hle := jz (ρ := ρ) (⟨wA.heap.size, 0, 0⟩ : Loc) hnn
  have hs1 : Sim C N (wT ρ s.n ⟨wA.heap.size, 0, 0⟩) (fun k => if k = .b s.n then .lp ⟨ZM N s.fr, ps.toList, assign, body, true, none⟩ else y6 s k) { a with defers := mk ++ a.defers } (wA.alloc (.loop obj)) Ds' := by
   refine en2.new hnn (.loop obj) (.lp ⟨ZM N s.fr, ps.toList, assign, body, true, none⟩) 0 ?_ ?_ ?_ ?_ ?_
   ·refine ⟨obj, World.alloc_heap_new wA _, ?_, ?_⟩
    ·rw [hobj]; exact (z2Q en2).mono hle
    ·rw [hobj]; exact ⟨rfl, rfl, rfl, rfl, rfl⟩
   ·intro i; simp
   ·intro t; simp
   ·intro b k hk
    obtain ⟨_, l, q1, q2⟩ := en2.h.fam b k hk
    exact ⟨l, by simpa using q1, q2⟩
   ·intro k hk; cases hk
  have hag : ∀ k i, k.id = some i → i < h1.n → (fun k => if k = .b s.n then X.lp ⟨ZM N s.fr, ps.toList, assign, body, true, none⟩ else y6 s k) k = yi h1 k := by
   intro k i hi hlt
   exact (hv1 k (Key.isH_id.2 ⟨i, hi⟩)).symm
  have hdrop : vN C (wT ρ s.n ⟨wA.heap.size, 0, 0⟩) (yi h1) (wA.alloc (.loop obj)) := hs1.h.drop (n := h1.n) (fun k i hi hlt => (hag k i hi hlt).symm) (fun i hi => by rw [((hfr1 hf).1 i hi).1]; rfl)
  have hgv1 : VR C.S (wT ρ s.n ⟨wA.heap.size, 0, 0⟩) (.fn f caps) (a.eval g) := hgv.mono hle
  have hyl : VRs C.S (wT ρ s.n ⟨wA.heap.size, 0, 0⟩) [.yl s.n] [.func (.yield wA.heap.size) #[] #[]] := by
   simp only [VRs, VR]
   exact ⟨_, [], rfl, ⟨_, zS _ _ _, rfl⟩, rfl⟩
  have hact := o5 C _ _ _ _ (hfr1 hf) hdrop hgv1 hyl (fun i q1 q2 => by rw [ZU _ _ (by omega)]; exact hnone i (by omega) q2)
  obtain ⟨k, cs, fn', a1, a2, a3, a4, a5⟩ := hact.resolve_right (by
   rintro ⟨L, q, a1, _⟩
   simp only [VR] at hgv1
   obtain ⟨vs, _, hgv1⟩ := hgv1
   rw [hgv1] at a1
   cases a1)
  refine ⟨wA.heap.size, mk, wA.alloc (.loop obj), { target := .fn (.func k) cs, args := #[.func (.yield wA.heap.size) #[] #[]] }, wA.alloc (.loop obj), k, #[.func (.yield wA.heap.size) #[] #[]] ++ cs, wA.alloc (.loop obj), en1, ?_, fun _ _ => trivial, ?_, fun h => (by cases h), ?_⟩
  ·simp only [resolve, a1]
   simp [go_sem]
  ·simp only [invoke]
   exact uP a2 a3 a4 _ _
  ·refine (qD a5 rd (m - 1)).mono ?_
   rintro e w' ⟨v', rfl, ρ', x1, x2, x3⟩
   have hm := hs1.merge hag (fun k i hi q1 q2 => by
    rw [hn1] at q1
    show (if k = Key.b s.n then _ else y6 s k) = X.z
    rw [if_neg (by rintro rfl; simp only [Key.id, Option.some.injEq] at hi; omega)]
    exact hf.key hi (by omega)) (hfr1 hf) o1 x1 x2
   have hlt : s.n < h'.n := by omega
   have hpl : ρ' s.n = some ⟨wA.heap.size, 0, 0⟩ := x1.1 _ _ (zS _ _ _)
   have hlp : after h'.n (yi h') (fun k => if k = .b s.n then X.lp ⟨ZM N s.fr, ps.toList, assign, body, true, none⟩ else y6 s k) (.b s.n) = .lp r := by
    rw [vt rfl hlt]; exact hl
   obtain ⟨p, hp, hent⟩ := hm.h.ent s.n (by rw [hlp]; rfl)
   rw [hpl] at hp; cases hp
   rw [hlp] at hent
   obtain ⟨q, q1, q2, q3, q4, q5, q6, q7⟩ := hent
   have hbase : C.M wA.heap.size := hm.h.base s.n _ (by rw [hlp]; rfl) hpl
   refine ⟨q.pending, _, run_endLoop q1 (by rw [q7]; split <;> simp), ?_⟩
   have hfin : ∀ o, Sim C N ρ' (y6 ⟨s.fr, h'.hb.put s.n .z, h'.hf, h'.n, .b s.n :: ws ++ s.ws⟩) { a with defers := mk ++ a.defers } (w'.putObj wA.heap.size o) Ds' := by
    intro o
    have hd := hm.h.dropLp (l := s.n)
    have hfree := hm.h.lpFree hlp hpl
    have hd2 := hd.putFree hbase hfree o
    have hcong : ∀ k, k.isH = true → y6 ⟨s.fr, h'.hb.put s.n .z, h'.hf, h'.n, .b s.n :: ws ++ s.ws⟩ k = upd (after h'.n (yi h') (fun k => if k = .b s.n then X.lp ⟨ZM N s.fr, ps.toList, assign, body, true, none⟩ else y6 s k)) (.b s.n) .z k := by
     intro k hk
     obtain ⟨i, hi⟩ := Key.isH_id.1 hk
     rw [hv2, if_pos hk]
     unfold upd
     split
     ·rfl
     ·rename_i hne
      rcases Nat.lt_or_ge i h'.n with c | c
      ·rw [vt hi c]
      ·rw [qV hi c]
       show _ = (if k = Key.b s.n then _ else y6 s k)
       rw [if_neg hne, (o2 (hfr1 hf)).key hi c]
       exact (hf.key hi (by omega)).symm
    refine ⟨hd2.congr (fun i => hcong _ rfl) (fun i => hcong _ rfl), ?_⟩
    refine hm.f.step (Pl.le_refl _) ?_ ?_ ?_
    ·intro t
     rw [hv2, z8n]
     simp [Key.isH]
    ·intro D hD
     exact World.putObj_heap_other (fun e => hm.f.dx D hD s.n _ (by rw [hlp]; rfl) hpl e.symm)
    ·intro D hD b p hb hp
     rw [hcong _ rfl] at hb
     refine hm.f.dx D hD b p ?_ hp
     by_cases e : b = s.n
     ·subst e; rw [zC] at hb; cases hb
     ·rwa [zt _ _ (by simpa using e)] at hb
   have hQ' := hQ ρ' _ _ Ds' ⟨Pl.le_trans hle x1.1, fun i hi => by
    have hi' : i < s.n ∨ h'.n ≤ i := hi
    rw [x1.2 i (by omega), ZU _ _ (by omega)]⟩ (hfin (.loop { q with state := .exhausted }))
   have hp6 : q.pending = x'.pend := q6.trans (z2H hj)
   generalize w'.putObj wA.heap.size (.loop { q with state := .exhausted }) = W4 at hQ' ⊢
   rw [hp6]
   cases x' with
   | norm => exact hQ'
   | ex i => exact wpIn_exit hQ'
   | gt l => exact wpIn_goto hQ'
   | ret => exact wpIn_ret hQ'
theorem VF (hT : ue P tt) (hO : Yc P orc) (hmx : P.follows .mixedOrders = true) {id : Nat} {ops : Array Oper} {draw : Bool} {s s' : S} {x : Ex} (e : UO orc tt N ops draw s = some (s', x)) : Zy P N (.code (.region id ops draw)) s s' x := by
 unfold UO at e
 split at e
 ·split at e
  ·rename_i s1 ls hr
   split at e
   ·rename_i hd
    simp only [Option.some.injEq, Prod.mk.injEq] at e
    obtain ⟨rfl, rfl⟩ := e
    refine ⟨(UL (C := ⟨default, fun _ _ => none, fun _ => True⟩) hT hO hr).1, ?_⟩
    intro C ρ a w Ds rd m Q hf hs hn hrd hQ
    exact yx.2 (z6V hT hO hmx hr (z50 hd) hf hs hn fun ρ' a' w' hx hs' => hQ ρ' a' w' Ds hx hs')
   ·cases e
  ·cases e
 ·split at e
  ·rename_i s1 hr
   simp only [Option.some.injEq, Prod.mk.injEq] at e
   obtain ⟨rfl, rfl⟩ := e
   refine ⟨X2 hT hO hr, ?_⟩
   intro C ρ a w Ds rd m Q hf hs hn hrd hQ
   exact yx.2 (wpIn_region_list (Ws hT hO hr hf hs hn fun ρ' a' w' hx hs' => hQ ρ' a' w' Ds hx hs'))
  ·cases e
theorem XY {w : World}  (h : Sim C N ρ st a w Ds) {c : Operand} {t : Bool}   (e : opV c st = some (.lit (.bool t), R, U)) : a.eval c = .bool t := by
 have := (y5 h e).2
 simpa only [VR] using this
theorem z4V (hT : ue P tt) (hO : Yc P orc) (hmx : P.follows .mixedOrders = true) : ∀ (f : Nat) (d : Cd) (s s' : S) (x : Ex), wh orc tt N f d s = some (s', x) → Zy P N d s s' x := by
 intro f
 induction f with
 | zero => intro d s s' x e; simp [wh] at e
 | succ f ih =>
  intro d s s' x e
  have pass : ∀ {c : Code} {s1 : S} {x1 : Ex} {d : Cd}, wh orc tt N f (.code c) s = some (s1, x1) → (∀ (rd : Option Nat) (m : Nat) (Q : Exit → Act → World → Prop) (a : Act) (w : World), c.wpIn (fen rd) m P (fun e a w => e = x1.toExit ∧ Q x1.toExit a w) a w → d.wpI (fen rd) m P Q a w) → Zy P N d s s1 x1 :=
   fun h1 h2 => (ih _ _ _ _ h1).weaken h2
  cases d with
  | again c =>
   simp only [wh] at e
   cases h1 : wh orc tt N f (.code c) s with
   | none => simp [h1] at e
   | some q =>
    obtain ⟨s1, x1⟩ := q
    simp only [h1] at e
    cases x1 with
    | norm =>
     simp only at e
     refine (ih _ _ _ _ h1).comp (ih _ _ _ _ e) fun rd m Q a w h => Yg (wpIn_mono h ?_)
     rintro _ a w ⟨rfl, h⟩
     exact h
    | _ =>
     simp only [Option.some.injEq, Prod.mk.injEq] at e
     obtain ⟨rfl, rfl⟩ := e
     refine pass h1 fun rd m Q a w h => Yg (wpIn_mono h ?_)
     rintro _ a w ⟨rfl, h⟩
     exact h
  | within c rest =>
   simp only [wh] at e
   cases h1 : wh orc tt N f (.code rest) s with
   | none => simp [h1] at e
   | some q =>
    obtain ⟨s1, x1⟩ := q
    simp only [h1] at e
    cases x1 with
    | gt l =>
     simp only at e
     cases hfl : findLabel c l with
     | some r =>
      simp only [hfl] at e
      refine (ih _ _ _ _ h1).comp (ih _ _ _ _ e) fun rd m Q a w h => YQ (wpIn_mono h ?_)
      rintro _ a w ⟨rfl, h⟩
      simp only [Ex.toExit, Exit.atScope, hfl]
      exact h
     | none =>
      simp only [hfl, Option.some.injEq, Prod.mk.injEq] at e
      obtain ⟨rfl, rfl⟩ := e
      refine pass h1 fun rd m Q a w h => YQ (wpIn_mono h ?_)
      rintro _ a w ⟨rfl, h⟩
      simp only [Ex.toExit, Exit.atScope, hfl]
      exact h
    | _ =>
     simp only [Option.some.injEq, Prod.mk.injEq] at e
     obtain ⟨rfl, rfl⟩ := e
     refine pass h1 fun rd m Q a w h => YQ (wpIn_mono h ?_)
     rintro _ a w ⟨rfl, h⟩
     exact h
  | code c =>
   cases c with
   | skip =>
    simp only [wh, Option.some.injEq, Prod.mk.injEq] at e
    obtain ⟨rfl, rfl⟩ := e
    exact .one fun rd m Q a w h => wpIn_skip h
   | label l =>
    simp only [wh, Option.some.injEq, Prod.mk.injEq] at e
    obtain ⟨rfl, rfl⟩ := e
    exact .one fun rd m Q a w h => wpIn_label h
   | exit id =>
    simp only [wh, Option.some.injEq, Prod.mk.injEq] at e
    obtain ⟨rfl, rfl⟩ := e
    exact .one fun rd m Q a w h => wpIn_exit h
   | goto l =>
    simp only [wh, Option.some.injEq, Prod.mk.injEq] at e
    obtain ⟨rfl, rfl⟩ := e
    exact .one fun rd m Q a w h => wpIn_goto h
   | ret =>
    simp only [wh, Option.some.injEq, Prod.mk.injEq] at e
    obtain ⟨rfl, rfl⟩ := e
    exact .one fun rd m Q a w h => wpIn_ret h
   | seq x1 y =>
    simp only [wh] at e
    cases h1 : wh orc tt N f (.code x1) s with
    | none => simp [h1] at e
    | some q =>
     obtain ⟨s1, x1⟩ := q
     simp only [h1] at e
     cases x1 with
     | norm =>
      simp only at e
      refine (ih _ _ _ _ h1).comp (ih _ _ _ _ e) fun rd m Q a w h => yx.2 (wpIn_seq (wpIn_mono h ?_))
      rintro _ a w ⟨rfl, h⟩
      exact h
     | _ =>
      simp only [Option.some.injEq, Prod.mk.injEq] at e
      obtain ⟨rfl, rfl⟩ := e
      refine pass h1 fun rd m Q a w h => yx.2 (wpIn_seq (wpIn_mono h ?_))
      rintro _ a w ⟨rfl, h⟩
      exact h
   | cond c x1 y =>
    simp only [wh] at e
    split at e
    ·rename_i hc
     have h1 := ih _ _ _ _ e
     refine ⟨h1.1, fun C ρ a w Ds rd m Q hf hs hn hrd hQ => yx.2 (wpIn_cond_true (XY hs hc) (h1.2 C ρ a w Ds rd m Q hf hs hn hrd hQ))⟩
    ·rename_i hc
     have h1 := ih _ _ _ _ e
     refine ⟨h1.1, fun C ρ a w Ds rd m Q hf hs hn hrd hQ => yx.2 (wpIn_cond_false (XY hs hc) (h1.2 C ρ a w Ds rd m Q hf hs hn hrd hQ))⟩
    ·cases e
   | block id c =>
    simp only [wh] at e
    cases h1 : wh orc tt N f (.code c) s with
    | none => simp [h1] at e
    | some q =>
     obtain ⟨s1, x1⟩ := q
     simp only [h1] at e
     cases x1 with
     | ex i =>
      simp only at e
      split at e
      ·rename_i hi
       have hi := Nat.eq_of_beq_eq_true hi
       simp only [Option.some.injEq, Prod.mk.injEq] at e
       obtain ⟨rfl, rfl⟩ := e
       refine (ih _ _ _ _ h1).weaken fun rd m Q a w h => yx.2 (wpIn_block (wpIn_mono h ?_))
       rintro _ a w ⟨rfl, h⟩
       simp only [Ex.toExit, Exit.inBlock, hi, if_true]
       exact h
      ·rename_i hi
       simp only [Option.some.injEq, Prod.mk.injEq] at e
       obtain ⟨rfl, rfl⟩ := e
       refine pass h1 fun rd m Q a w h => yx.2 (wpIn_block (wpIn_mono h ?_))
       rintro _ a w ⟨rfl, h⟩
       simp only [Ex.toExit, Exit.inBlock]
       rw [if_neg (by rintro rfl; exact hi (Nat.beq_refl _))]
       exact h
     | _ =>
      simp only [Option.some.injEq, Prod.mk.injEq] at e
      obtain ⟨rfl, rfl⟩ := e
      refine pass h1 fun rd m Q a w h => yx.2 (wpIn_block (wpIn_mono h ?_))
      rintro _ a w ⟨rfl, h⟩
      exact h
   | loop c =>
    simp only [wh] at e
    have h1 := ih _ _ _ _ e
    exact ⟨h1.1, fun C ρ a w Ds rd m Q hf hs hn hrd hQ => yx.2 (KT (h1.2 C ρ a w Ds rd m Q hf hs hn hrd hQ))⟩
   | scope c =>
    simp only [wh] at e
    have h1 := ih _ _ _ _ e
    exact ⟨h1.1, fun C ρ a w Ds rd m Q hf hs hn hrd hQ => yx.2 (z1B (h1.2 C ρ a w Ds rd m Q hf hs hn hrd hQ))⟩
   | region id ops draw => simp only [wh] at e; exact VF hT hO hmx e
   | rangeFunc g ps assign body => simp only [wh] at e; exact Jd hO e
   | refuse why => simp [wh] at e
structure Dn where
 run : Orc → S → Option (S × Ex)
def zdO (a b : Dn) : Dn := ⟨fun orc s => match a.run orc s with | some (s1, .norm) => b.run orc s1 | r => r⟩
def zc9 (c : Operand) (a b : Dn) : Dn :=
 ⟨fun orc s => match opV c (y6 s) with
  | some (.lit (.bool t), _, _) => (match t with | true => a.run orc s | false => b.run orc s)
  | _ => none⟩
def z60 (id : Nat) (a : Dn) : Dn :=
 ⟨fun orc s => match a.run orc s with
  | some (s1, .ex i) => (match Nat.beq i id with | true => some (s1, .norm) | false => some (s1, .ex i))
  | r => r⟩
def z2B (a : Dn) (orc : Orc) : Nat → S → Option (S × Ex)
 | 0, _ => none
 | f + 1, s => match a.run orc s with
  | some (s1, .norm) => z2B a orc f s1
  | r => r
def den (tt : ET) (N fuel : Nat) : Code → Dn
 | .skip => ⟨fun _ s => some (s, .norm)⟩
 | .label _ => ⟨fun _ s => some (s, .norm)⟩
 | .exit id => ⟨fun _ s => some (s, .ex id)⟩
 | .goto l => ⟨fun _ s => some (s, .gt l)⟩
 | .ret => ⟨fun _ s => some (s, .ret)⟩
 | .seq x y => zdO (den tt N fuel x) (den tt N fuel y)
 | .cond c x y => zc9 c (den tt N fuel x) (den tt N fuel y)
 | .block id c => z60 id (den tt N fuel c)
 | .loop c => ⟨fun orc s => z2B (den tt N fuel c) orc fuel s⟩
 | .scope c => ⟨fun orc s => wh orc tt N fuel (.code (.scope c)) s⟩
 | .region _ ops draw => ⟨fun orc s => UO orc tt N ops draw s⟩
 | .rangeFunc g ps assign body => ⟨fun orc s => z0h orc N g ps assign body s⟩
 | .refuse _ => ⟨fun _ _ => none⟩
theorem z0s {a : Dn} (h : ∀ s s' x, a.run orc s = some (s', x) → Zy P N (.code c) s s' x) : ∀ (f : Nat) (s s' : S) (x : Ex), z2B a orc f s = some (s', x) → Zy P N (.again c) s s' x
 | 0, s, s', x, e => by simp [z2B] at e
 | f + 1, s, s', x, e => by
  simp only [z2B] at e
  cases h1 : a.run orc s with
  | none => simp [h1] at e
  | some q =>
   obtain ⟨s1, x1⟩ := q
   simp only [h1] at e
   cases x1 with
   | norm =>
    simp only at e
    refine (h _ _ _ h1).comp (z0s h f _ _ _ e) fun rd m Q a w h => Yg (wpIn_mono h ?_)
    rintro _ a w ⟨rfl, h⟩
    exact h
   | _ =>
    simp only [Option.some.injEq, Prod.mk.injEq] at e
    obtain ⟨rfl, rfl⟩ := e
    refine (h _ _ _ h1).weaken fun rd m Q a w h => Yg (wpIn_mono h ?_)
    rintro _ a w ⟨rfl, h⟩
    exact h
theorem z33 (hT : ue P tt) (hO : Yc P orc) (hmx : P.follows .mixedOrders = true) {fuel : Nat} : ∀ (c : Code) (s s' : S) (x : Ex), (den tt N fuel c).run orc s = some (s', x) → Zy P N (.code c) s s' x := by
 intro c
 induction c with
 | skip =>
  intro s s' x e
  simp only [den, Option.some.injEq, Prod.mk.injEq] at e
  obtain ⟨rfl, rfl⟩ := e
  exact .one fun rd m Q a w h => wpIn_skip h
 | label l =>
  intro s s' x e
  simp only [den, Option.some.injEq, Prod.mk.injEq] at e
  obtain ⟨rfl, rfl⟩ := e
  exact .one fun rd m Q a w h => wpIn_label h
 | exit id =>
  intro s s' x e
  simp only [den, Option.some.injEq, Prod.mk.injEq] at e
  obtain ⟨rfl, rfl⟩ := e
  exact .one fun rd m Q a w h => wpIn_exit h
 | goto l =>
  intro s s' x e
  simp only [den, Option.some.injEq, Prod.mk.injEq] at e
  obtain ⟨rfl, rfl⟩ := e
  exact .one fun rd m Q a w h => wpIn_goto h
 | ret =>
  intro s s' x e
  simp only [den, Option.some.injEq, Prod.mk.injEq] at e
  obtain ⟨rfl, rfl⟩ := e
  exact .one fun rd m Q a w h => wpIn_ret h
 | seq c1 c2 ih1 ih2 =>
  intro s s' x e
  simp only [den, zdO] at e
  cases h1 : (den tt N fuel c1).run orc s with
  | none => simp [h1] at e
  | some q =>
   obtain ⟨s1, x1⟩ := q
   simp only [h1] at e
   cases x1 with
   | norm =>
    simp only at e
    refine (ih1 _ _ _ h1).comp (ih2 _ _ _ e) fun rd m Q a w h => yx.2 (wpIn_seq (wpIn_mono h ?_))
    rintro _ a w ⟨rfl, h⟩
    exact h
   | _ =>
    simp only [Option.some.injEq, Prod.mk.injEq] at e
    obtain ⟨rfl, rfl⟩ := e
    refine (ih1 _ _ _ h1).weaken fun rd m Q a w h => yx.2 (wpIn_seq (wpIn_mono h ?_))
    rintro _ a w ⟨rfl, h⟩
    exact h
 | cond c c1 c2 ih1 ih2 =>
  intro s s' x e
  simp only [den, zc9] at e
  split at e
  ·rename_i t _ _ hc
   cases t with
   | true =>
    have h1 := ih1 _ _ _ e
    exact ⟨h1.1, fun C ρ a w Ds rd m Q hf hs hn hrd hQ => yx.2 (wpIn_cond_true (XY hs hc) (h1.2 C ρ a w Ds rd m Q hf hs hn hrd hQ))⟩
   | false =>
    have h1 := ih2 _ _ _ e
    exact ⟨h1.1, fun C ρ a w Ds rd m Q hf hs hn hrd hQ => yx.2 (wpIn_cond_false (XY hs hc) (h1.2 C ρ a w Ds rd m Q hf hs hn hrd hQ))⟩
  ·cases e
 | block id c ih =>
  intro s s' x e
  simp only [den, z60] at e
  cases h1 : (den tt N fuel c).run orc s with
  | none => simp [h1] at e
  | some q =>
   obtain ⟨s1, x1⟩ := q
   simp only [h1] at e
   cases x1 with
   | ex i =>
    simp only at e
    split at e
    ·rename_i hi
     have hi := Nat.eq_of_beq_eq_true hi
     simp only [Option.some.injEq, Prod.mk.injEq] at e
     obtain ⟨rfl, rfl⟩ := e
     refine (ih _ _ _ h1).weaken fun rd m Q a w h => yx.2 (wpIn_block (wpIn_mono h ?_))
     rintro _ a w ⟨rfl, h⟩
     simp only [Ex.toExit, Exit.inBlock, hi, if_true]
     exact h
    ·rename_i hi
     simp only [Option.some.injEq, Prod.mk.injEq] at e
     obtain ⟨rfl, rfl⟩ := e
     refine (ih _ _ _ h1).weaken fun rd m Q a w h => yx.2 (wpIn_block (wpIn_mono h ?_))
     rintro _ a w ⟨rfl, h⟩
     simp only [Ex.toExit, Exit.inBlock]
     rw [if_neg (by rintro rfl; rw [Nat.beq_refl] at hi; cases hi)]
     exact h
   | _ =>
    simp only [Option.some.injEq, Prod.mk.injEq] at e
    obtain ⟨rfl, rfl⟩ := e
    refine (ih _ _ _ h1).weaken fun rd m Q a w h => yx.2 (wpIn_block (wpIn_mono h ?_))
    rintro _ a w ⟨rfl, h⟩
    exact h
 | loop c ih =>
  intro s s' x e
  simp only [den] at e
  have h1 := z0s ih _ _ _ _ e
  exact ⟨h1.1, fun C ρ a w Ds rd m Q hf hs hn hrd hQ => yx.2 (KT (h1.2 C ρ a w Ds rd m Q hf hs hn hrd hQ))⟩
 | scope c ih => intro s s' x e; simp only [den] at e; exact z4V hT hO hmx _ _ _ _ _ e
 | region id ops draw => intro s s' x e; simp only [den] at e; exact VF hT hO hmx e
 | rangeFunc g ps assign body ih1 ih2 => intro s s' x e; simp only [den] at e; exact Jd hO e
 | refuse why => intro s s' x e; simp [den] at e
end
end
variable {ws : List Key}{vs : List Value}{h h' : H}{v : V}{xs : List V}
noncomputable section
open Go.Own (A z8 zu Rep zV kY)
structure FnI where
 ntmps : Nat
 body : Code
 rs : List (Nat × Option Nat)
def K4 (r : Nat × Option Nat) : ResultVar := match r.2 with | none => .tmp r.1 | some t => .cell r.1 t
def yP (P : Program) (k : Nat) (fi : FnI) : Prop :=
 ∃ fn, P.funcs[k]? = some fn ∧ (fn.name == "runtime.NumGoroutine") = false ∧ fn.body = some fi.body ∧ fn.ntmps = fi.ntmps ∧ fn.results = (fi.rs.map K4).toArray
def ofL : List V → Nat → Tr → Tr
 | [], _, t => t
 | x :: xs, i, t => ofL xs (i + 1) (t.put i (.v x))
def QN : List (Nat × V) → Tr → Tr
 | [], t => t
 | (i, x) :: l, t => QN l (t.put i (.v x))
def z28 (tt : ET) : List (Nat × Option Nat) → EM (List V)
 | [] => pure []
 | (t, none) :: rs => do
  let x ← rdS t
  let xs ← z28 tt rs
  pure (x :: xs)
 | (t, some ty) :: rs => do
  let p ← rdS t
  let x ← loadV tt ty p
  let xs ← z28 tt rs
  pure (x :: xs)
def Ky : List V → V
 | [x] => x
 | xs => .tup xs
def z26 (a : Act) (r : ResultVar) : Sem Value := match r with | .tmp t => pure (a.tmps.getD t undef) | .cell b t => do loadVar t (← asAddr (a.tmps.getD b undef))
def uV {α β : Type} (R : α → β → Prop) : List α → List β → Prop
 | [], [] => True
 | a :: as_, b :: bs => R a b ∧ uV R as_ bs
 | _, _ => False
theorem vB {w : World} {α : Type} (g : α → Sem Value) : ∀ (l : List α) (vs : List Value) (acc : Array Value), uV (fun r v => (g r).run P w = .ok v w) l vs → (l.foldlM (fun bs a => bs.push <$> g a) acc).run P w = .ok (acc ++ vs.toArray) w
 | [], [], acc, _ => by simp
 | r :: l, v :: vs, acc, h => by
  rw [List.foldlM_cons, Sem.run_bind]
  have : (acc.push <$> g r : Sem (Array Value)).run P w = .ok (acc.push v) w := by
   rw [map_eq_pure_bind, Sem.run_bind, h.1]
   simp
  rw [this, Result.andThen_ok, vB g l vs _ h.2]
  simp
 | [], _ :: _, _, h => h.elim
 | _ :: _, [], _, h => h.elim
abbrev FT := Nat → Option FnI
def z0Q (orc : Orc) (tt : ET) (ft : FT) (fuel k : Nat) (args : List V) (h : H) : Option (V × H × List Key) :=
 match ft k with
 | some fi =>
  match Nat.ble args.length fi.ntmps with
  | true =>
   match (den tt fi.ntmps fuel fi.body).run orc ⟨ofL args 0 .nil, h.hb, h.hf, h.n, []⟩ with
   | some (s', .norm) =>
    match z28 tt fi.rs (y6 s') with
    | some (xs, _, _) => some (Ky xs, ⟨s'.hb, s'.hf, s'.n⟩, s'.ws)
    | none => none
   | some (s', .ret) =>
    match z28 tt fi.rs (y6 s') with
    | some (xs, _, _) => some (Ky xs, ⟨s'.hb, s'.hf, s'.n⟩, s'.ws)
    | none => none
   | _ => none
  | false => none
 | none => none
def YH (orc : Orc) (tt : ET) (fuel l : Nat) (args : List V) (h : H) : Option (V × H × List Key) :=
 match h.hb.get l with
 | .lp r =>
  match Nat.blt l h.n && r.ready && Nat.beq args.length r.params.length && r.params.all (fun p => Nat.blt p r.fr.length) with
  | true =>
   match (den tt r.fr.length fuel r.assign).run orc ⟨QN (r.params.zip args) (ofL r.fr 0 .nil), h.hb.put l .z, h.hf, h.n, []⟩ with
   | some (s1, .norm) =>
    match (den tt r.fr.length fuel r.body).run orc s1 with
    | some (s2, x) => some (.lit (.bool x.isNorm), ⟨s2.hb.put l (.lp { r with ready := x.isNorm, pend := x.pend }), s2.hf, s2.n⟩, .b l :: s2.ws)
    | none => none
   | _ => none
  | false => none
 | _ => none
def JX (tt : ET) (ft : FT) (fuel : Nat) : Nat → Orc
 | 0 => fun _ _ _ => none
 | d + 1 => fun fv args h =>
  match fv with
  | .fn k caps => z0Q (JX tt ft fuel d) tt ft fuel k (args ++ caps) h
  | .yl l => YH (JX tt ft fuel d) tt fuel l args h
  | _ => none
theorem z2s : ∀ (xs : List V) (i : Nat) (t : Tr) (j : Nat), (ofL xs i t).get j = if i ≤ j ∧ j < i + xs.length then .v (xs.getD (j - i) .un) else t.get j
 | [], i, t, j => by simp only [ofL, List.length_nil]; rw [if_neg (by omega)]
 | x :: xs, i, t, j => by
  simp only [ofL]
  rw [z2s xs (i + 1) _ j, Tr.get_put]
  simp only [List.length_cons]
  by_cases h : i + 1 ≤ j ∧ j < i + 1 + xs.length
  ·rw [if_pos h, if_pos (by omega)]
   rw [show j - i = (j - (i + 1)) + 1 from by omega, List.getD_cons_succ]
  ·rw [if_neg h]
   by_cases e : j = i
   ·subst e; simp
   ·rw [if_neg e, if_neg (by omega)]
section
variable {P : Program} {orc : Orc} {tt : ET} {S : z8} {ρ : Pl}
theorem QK (h : VRs S ρ xs vs) (T : Array Value) (hT : ∀ i, i < xs.length → T.getD i undef = vs.getD i undef) (t : Nat) : VR S ρ ((ofL xs 0 .nil).get t).val (T.getD t undef) := by
 rw [z2s]
 split
 ·rename_i hc
  simp only [X.val, Nat.sub_zero]
  rw [hT t (by omega)]
  obtain ⟨v, h1, h2⟩ := h.get (i := t) (List.getElem?_eq_getElem (show t < xs.length by omega))
  rw [List.getD_eq_getElem?_getD, List.getElem?_eq_getElem (show t < xs.length by omega), List.getD_eq_getElem?_getD, h1]
  exact h2
 ·rw [Tr.get_nil]; simp only [X.val, VR]
theorem z04 : ∀ {ps : List Nat} {xs : List V} {vs : List Value} {fr : Tr} {T : Array Value}, VRs S ρ xs vs → (∀ p ∈ ps, p < T.size) → (∀ t, VR S ρ (fr.get t).val (T.getD t undef)) →
  ∀ t, VR S ρ ((QN (ps.zip xs) fr).get t).val (((ps.zip vs).foldl (fun tmps (t, a) => tmps.setIfInBounds t a) T).getD t undef) ∧ ((ps.zip vs).foldl (fun tmps (t, a) => tmps.setIfInBounds t a) T).size = T.size
 | [], _, _, fr, T, _, _, h3, t => by simpa [QN] using h3 t
 | p :: ps, [], vs, fr, T, h1, _, h3, t => by
  simp only [VRs] at h1; subst h1
  simpa [QN] using h3 t
 | p :: ps, x :: xs, vs, fr, T, h1, h2, h3, t => by
  simp only [VRs] at h1
  obtain ⟨v, us, rfl, g1, g2⟩ := h1
  simp only [List.zip_cons_cons, QN, List.foldl_cons]
  have := z04 (ps := ps) (fr := fr.put p (.v x)) (T := T.setIfInBounds p v) g2 (fun q hq => by simpa using h2 q (by simp [hq])) ?_ t
  ·simpa using this
  ·intro j
   rw [Tr.get_put]
   by_cases e : j = p
   ·subst e
    have := h2 j (by simp)
    simp [X.val, Array.getD_eq_getD_getElem?, this, g1]
   ·simp only [e, if_false]
    have := h3 j
    rw [Array.getD_eq_getD_getElem?, Array.getElem?_setIfInBounds_ne (Ne.symm e), ← Array.getD_eq_getD_getElem?]
    exact this
theorem z1h {t : Nat} {x v : V}    (e : loadV tt t x st = some (v, R, U)) {xu : Value} (hx : VR S ρ x xu) : ∃ B o, xu = .pointer (some ⟨B, o, none⟩) := by
 unfold loadV at e
 obtain ⟨i, R1, U1, R2, U2, g1, g2, rfl, rfl⟩ := bind_some e
 split at g2
 ·simp only [VR] at hx
  obtain ⟨p, hp, rfl⟩ := hx
  exact ⟨_, _, rfl⟩
 ·simp only [VR, Rep] at hx
  obtain ⟨b, q, l, hl, r1, r2⟩ := hx
  simp only [List.cons.injEq, and_true] at hl
  exact ⟨b, q, hl⟩
 ·exact (zn g2).elim
theorem Kq (hT : ue P tt)     {w : World}  (h : Sim C N ρ st a w Ds) : ∀ {rs : List (Nat × Option Nat)} {xs : List V} {R : List Key} {U : Ups}, z28 tt rs st = some (xs, R, U) →
  U = [] ∧ ∀ w', vN C ρ st w' → ∃ vs, VRs C.S ρ xs vs ∧ uV (fun r v => (z26 a r).run P w' = .ok v w') (rs.map K4) vs
 | [], xs, R, U, e => by
  simp only [z28] at e
  obtain ⟨rfl, rfl, rfl⟩ := zf e
  exact ⟨rfl, fun w' _ => ⟨[], by simp [VRs], trivial⟩⟩
 | (t, none) :: rs, xs, R, U, e => by
  simp only [z28] at e
  obtain ⟨x, R1, U1, R2, U2, g1, g2, rfl, rfl⟩ := bind_some e
  obtain ⟨rfl, q1⟩ := Jc h g1
  obtain ⟨ys, R3, U3, R4, U4, g3, g4, rfl, rfl⟩ := bind_some g2
  simp only [z7] at g3 g4
  obtain ⟨rfl, q2⟩ := Kq hT h g3
  obtain ⟨rfl, rfl, rfl⟩ := zf g4
  refine ⟨rfl, fun w' hw => ?_⟩
  obtain ⟨vs, d1, d2⟩ := q2 w' hw
  refine ⟨Act.tv a t :: vs, ?_, ?_, d2⟩
  ·simp only [VRs]; exact ⟨_, _, rfl, q1, d1⟩
  ·simp only [K4, z26]; exact Sem.run_pure ..
 | (t, some ty) :: rs, xs, R, U, e => by
  simp only [z28] at e
  obtain ⟨x, R1, U1, R2, U2, g1, g2, rfl, rfl⟩ := bind_some e
  obtain ⟨rfl, q1⟩ := Jc h g1
  obtain ⟨y, R3, U3, R4, U4, g3, g4, rfl, rfl⟩ := bind_some g2
  simp only [z7] at g3 g4
  obtain ⟨rfl, _⟩ := WO hT h g3 q1
  obtain ⟨B, o, haddr⟩ := z1h g3 q1
  obtain ⟨ys, R5, U5, R6, U6, g5, g6, rfl, rfl⟩ := bind_some g4
  simp only [z7] at g5 g6
  obtain ⟨rfl, q2⟩ := Kq hT h g5
  obtain ⟨rfl, rfl, rfl⟩ := zf g6
  refine ⟨rfl, fun w' hw => ?_⟩
  obtain ⟨vs, d1, d2⟩ := q2 w' hw
  have hs' : Sim C N ρ st ⟨a.tmps, []⟩ w' [] := ⟨hw, ⟨h.f.size, h.f.slot, rfl, by simp, fun D hD => by simp at hD, fun D hD => by simp at hD⟩⟩
  obtain ⟨_, vu, e1, e2⟩ := WO hT hs' g3 q1
  refine ⟨vu :: vs, ?_, ?_, d2⟩
  ·simp only [VRs]; exact ⟨_, _, rfl, e2, d1⟩
  ·simp only [K4, z26]
   have hv : a.tmps.getD t undef = .pointer (some ⟨B, o, none⟩) := haddr
   rw [hv]
   rw [haddr] at e1
   simp only [Instr.loadAt, Instr.sureAddr, Sem.run_bind, Sem.run_pure, Result.andThen_ok] at e1
   simp only [asAddr, Sem.run_bind, Sem.run_pure, Result.andThen_ok]
   exact e1
theorem z4s (h : VRs S ρ xs vs) : VR S ρ (Ky xs) (if h : vs.toArray.size = 1 then vs.toArray[0] else .tuple vs.toArray) := by
 rcases xs with _ | ⟨x, _ | ⟨x2, l⟩⟩
 ·simp only [VRs] at h
  subst h
  simp only [Ky, VR]
  exact ⟨[], by simp [VRs], rfl⟩
 ·simp only [VRs] at h
  obtain ⟨v, us, rfl, h1, rfl⟩ := h
  exact h1
 ·have hl := h.len
  rcases vs with _ | ⟨v, _ | ⟨v2, l2⟩⟩
  ·simp at hl
  ·simp at hl
  ·simp only [Ky, VR]
   exact ⟨_, h, by simp⟩
theorem Kr {rs : List (Nat × Option Nat)} (hr : fn.results = (rs.map K4).toArray) {a : Act} {w : World} {vs : List Value}
  (h : uV (fun r v => (z26 a r).run P w = .ok v w) (rs.map K4) vs) :
  (results fn a.tmps).run P w = .ok (if h : vs.toArray.size = 1 then vs.toArray[0] else .tuple vs.toArray) w := by
 unfold results
 rw [hr, Array.mapM_eq_foldlM, List.foldlM_toArray, Sem.run_bind]
 have := vB (P := P) (w := w) (z26 a) _ vs #[] h
 rw [Array.empty_append] at this
 exact (congrArg (fun r => Result.andThen r (fun q w' => Sem.run P (pure (if h : q.size = 1 then q[0] else Value.tuple q)) w')) this).trans rfl
def zdi (P : Program) (ft : FT) : Prop := ∀ k fi, ft k = some fi → yP P k fi
theorem VT (fr hb hf : Tr) (n : Nat) (ws : List Key) (m : Nat) : ∀ k, k.isH = true → y6 ⟨fr, hb, hf, n, ws⟩ k = yi ⟨hb, hf, m⟩ k := by
 intro k hk
 cases k with
 | s t => cases hk
 | b i => rfl
 | f i => rfl
theorem vw.heap {st st' : St} {n : Nat} (h : vw st n) (he : ∀ k, k.isH = true → st' k = st k) : vw st' n :=
 ⟨fun i hi => ⟨(he _ rfl).trans (h.1 i hi).1, (he _ rfl).trans (h.1 i hi).2⟩, fun f l hl => h.2 f l (by rw [← he _ rfl]; exact hl)⟩
theorem KJ {ft : FT} {fuel k : Nat} {args : List V}    (e : z0Q orc tt ft fuel k args h = some (v, h', ws)) :
  ∃ fi s' x xs R U, ft k = some fi ∧ args.length ≤ fi.ntmps ∧ (den tt fi.ntmps fuel fi.body).run orc ⟨ofL args 0 .nil, h.hb, h.hf, h.n, []⟩ = some (s', x) ∧ (x = .norm ∨ x = .ret) ∧ z28 tt fi.rs (y6 s') = some (xs, R, U) ∧ v = Ky xs ∧ h' = ⟨s'.hb, s'.hf, s'.n⟩ ∧ ws = s'.ws := by
 unfold z0Q at e
 cases hk : ft k with
 | none => simp [hk] at e
 | some fi =>
  simp only [hk] at e
  split at e
  ·rename_i hle
   have hle := Nat.le_of_ble_eq_true hle
   cases hc : (den tt fi.ntmps fuel fi.body).run orc ⟨ofL args 0 .nil, h.hb, h.hf, h.n, []⟩ with
   | none => simp [hc] at e
   | some q =>
    obtain ⟨s', x⟩ := q
    simp only [hc] at e
    cases x with
    | norm =>
     simp only at e
     cases hr : z28 tt fi.rs (y6 s') with
     | none => simp [hr] at e
     | some q =>
      obtain ⟨xs, R, U⟩ := q
      simp only [hr, Option.some.injEq, Prod.mk.injEq] at e
      obtain ⟨rfl, rfl, rfl⟩ := e
      exact ⟨fi, s', .norm, xs, R, U, rfl, hle, hc, .inl rfl, hr, rfl, rfl, rfl⟩
    | ret =>
     simp only at e
     cases hr : z28 tt fi.rs (y6 s') with
     | none => simp [hr] at e
     | some q =>
      obtain ⟨xs, R, U⟩ := q
      simp only [hr, Option.some.injEq, Prod.mk.injEq] at e
      obtain ⟨rfl, rfl, rfl⟩ := e
      exact ⟨fi, s', .ret, xs, R, U, rfl, hle, hc, .inr rfl, hr, rfl, rfl, rfl⟩
    | _ => simp at e
  ·cases e
theorem z2W (hT : ue P tt) (hO : Yc P orc) (hmx : P.follows .mixedOrders = true) {ft : FT} (hF : zdi P ft) {fuel k : Nat} {args caps : List V}    (e : z0Q orc tt ft fuel k (args ++ caps) h = some (v, h', ws)) :
  zdb P (.fn k caps) args h v h' ws := by
 obtain ⟨fi, s', x, xs, R, U, e1, e2, e3, e4, e5, rfl, rfl, rfl⟩ := KJ e
 obtain ⟨g, hs⟩ := z33 hT hO hmx _ _ _ _ e3
 have hv0 : ∀ k, k.isH = true → y6 ⟨ofL (args ++ caps) 0 .nil, h.hb, h.hf, h.n, []⟩ k = yi h k := fun k hk => VT _ _ _ _ _ h.n k hk
 have hv1 : ∀ k, k.isH = true → yi ⟨s'.hb, s'.hf, s'.n⟩ k = y6 s' k := fun k hk => (VT s'.fr s'.hb s'.hf s'.n s'.ws s'.n k hk).symm
 refine ⟨g.n, fun hf => (g.fresh (hf.heap hv0)).heap hv1, ?_, ?_, ?_⟩
 ·intro k hk hnot
  rw [hv1 k hk, (g.same k hk hnot).2, hv0 k hk]
 ·exact fun k hk => g.good (fun k hk => by simp at hk) k hk
 ·intro C ρ w fvv avs hfr hsim hfv havs hnone
  simp only [VR] at hfv
  obtain ⟨cs, hcs, rfl⟩ := hfv
  obtain ⟨fn, f1, f2, f3, f4, f5⟩ := hF _ _ e1
  refine .inl ⟨k, cs.toArray, fn, rfl, f1, f2, by rw [f3]; rfl, ?_⟩
  refine (callsIn_wide (n := 0)).1 (callsIn_of_wp_marks f1 f3 trivial ?_ rfl)
  have hlen := VRs.append havs hcs
  have hsz : (avs ++ cs).length = (args ++ caps).length := hlen.len
  simp only [List.length_append] at hsz e2
  refine hs (cEn C ρ (yi h) w) ρ _ w [] none 0 _ (hfr.heap hv0) ⟨(hsim.enter).congr (fun i => hv0 _ rfl) (fun i => hv0 _ rfl), ?_⟩ hnone (fun L hL => by cases hL) ?_
  ·refine ⟨?_, ?_, rfl, by simp, fun D hD => by simp at hD, fun D hD => by simp at hD⟩
   ·simp only [Array.size_append, Array.size_replicate, List.size_toArray]
    omega
   ·intro t
    refine QK hlen _ ?_ t
    intro i hi
    simp only [List.length_append] at hi
    rw [Array.getD_eq_getD_getElem?, List.getD_eq_getElem?_getD, Array.getElem?_append_left (by simp; omega)]
    simp
  ·intro ρ' a' w' Ds' hx hs'
   have fin : LeavesInM Fence.wide 0 P fn a'.tmps (fun e w' => ∃ v', e = .returned v' ∧ ∃ ρ', Ext h.n s'.n ρ ρ' ∧ vN (cEn C ρ (yi h) w) ρ' (yi ⟨s'.hb, s'.hf, s'.n⟩) w' ∧ VR C.S ρ' (Ky xs) v') a'.defers .returning w' := by
    rw [hs'.f.defers]
    refine JB (C := cEn C ρ (yi h) w) (ρ := ρ') (st := y6 s') ?_ Ds' w' hs'.h hs'.f.dn hs'.f.dm hs'.f.dx
    intro w2 hw2
    obtain ⟨vs, d1, d2⟩ := (Kq hT hs' e5).2 w2 hw2
    exact ⟨_, Kr f5 d2, _, rfl, ρ', hx, hw2.congr (fun i => hv1 _ rfl) (fun i => hv1 _ rfl), z4s d1⟩
   rcases e4 with rfl | rfl
   ·exact fin
   ·exact fin
theorem Vo {fuel l : Nat} {args : List V}    (e : YH orc tt fuel l args h = some (v, h', ws)) :
  ∃ r s1 s2 x, h.hb.get l = .lp r ∧ l < h.n ∧ r.ready = true ∧ args.length = r.params.length ∧ (∀ p ∈ r.params, p < r.fr.length) ∧
   (den tt r.fr.length fuel r.assign).run orc ⟨QN (r.params.zip args) (ofL r.fr 0 .nil), h.hb.put l .z, h.hf, h.n, []⟩ = some (s1, .norm) ∧ (den tt r.fr.length fuel r.body).run orc s1 = some (s2, x) ∧
   v = .lit (.bool x.isNorm) ∧ h' = ⟨s2.hb.put l (.lp { r with ready := x.isNorm, pend := x.pend }), s2.hf, s2.n⟩ ∧ ws = .b l :: s2.ws := by
 unfold YH at e
 cases hl : h.hb.get l with
 | lp r =>
  simp only [hl] at e
  split at e
  ·rename_i hc
   rw [Bool.and_eq_true, Bool.and_eq_true, Bool.and_eq_true] at hc
   obtain ⟨⟨⟨c0, c1⟩, c2⟩, c3⟩ := hc
   split at e
   ·rename_i s1 h1
    cases h2 : (den tt r.fr.length fuel r.body).run orc s1 with
    | none => simp [h2] at e
    | some q =>
     obtain ⟨s2, x⟩ := q
     simp only [h2, Option.some.injEq, Prod.mk.injEq] at e
     obtain ⟨rfl, rfl, rfl⟩ := e
     refine ⟨r, s1, s2, x, rfl, by simpa [Nat.blt_eq] using c0, c1, Nat.eq_of_beq_eq_true c2, fun p hp => ?_, h1, h2, rfl, rfl, rfl⟩
     have := List.all_eq_true.1 c3 p hp
     simpa [Nat.blt_eq] using this
   ·cases e
  ·cases e
 | _ => simp [hl] at e
theorem JR (hT : ue P tt) (hO : Yc P orc) (hmx : P.follows .mixedOrders = true) {fuel l : Nat} {args : List V}    (e : YH orc tt fuel l args h = some (v, h', ws)) : zdb P (.yl l) args h v h' ws := by
 obtain ⟨r, s1, s2, x, e1, e0, e2, e3, e4, e5, e6, rfl, rfl, rfl⟩ := Vo e
 obtain ⟨g1, hs1⟩ := z33 hT hO hmx _ _ _ _ e5
 obtain ⟨g2, hs2⟩ := z33 hT hO hmx _ _ _ _ e6
 have g := g1.trans g2
 generalize hq : (⟨QN (r.params.zip args) (ofL r.fr 0 .nil), h.hb.put l .z, h.hf, h.n, []⟩ : S) = s0 at g1 hs1 g
 have hn0 : s0.n = h.n := by rw [← hq]
 have hws0 : s0.ws = [] := by rw [← hq]
 have hv0 : ∀ k, k.isH = true → y6 s0 k = upd (yi h) (.b l) .z k := by
  intro k hk
  rw [← hq]
  cases k with
  | s t => cases hk
  | b i => simp [y6, upd, yi, Tr.get_put]
  | f i => simp [y6, upd, yi]
 have hv1 : ∀ k, k.isH = true → yi ⟨s2.hb.put l (.lp { r with ready := x.isNorm, pend := x.pend }), s2.hf, s2.n⟩ k = upd (y6 s2) (.b l) (.lp { r with ready := x.isNorm, pend := x.pend }) k := by
  intro k hk
  cases k with
  | s t => cases hk
  | b i => simp [y6, upd, yi, Tr.get_put]
  | f i => simp [y6, upd, yi]
 have hf0 : vw (yi h) h.n → vw (y6 s0) s0.n := by
  intro hf
  rw [hn0]
  refine vw.heap (st := upd (yi h) (.b l) .z) ⟨fun i hi => ?_, fun f q hq => ?_⟩ hv0
  ·refine ⟨?_, by rw [zt _ _ (by simp)]; exact (hf.1 i hi).2⟩
   unfold upd; split
   ·rfl
   ·exact (hf.1 i hi).1
  ·rw [zt _ _ (by simp)] at hq; exact hf.2 f q hq
 have hn : h.n ≤ s2.n := by rw [← hn0]; exact g.n
 refine ⟨hn, ?_, ?_, ?_, ?_⟩
 ·intro hf
  have h2 := g.fresh (hf0 hf)
  have hl := e0
  refine vw.heap (st := upd (y6 s2) (.b l) (.lp { r with ready := x.isNorm, pend := x.pend })) ⟨fun i hi => ?_, fun f q hq => ?_⟩ hv1
  ·have hi : s2.n ≤ i := hi
   rw [zt _ _ (by simp; omega), zt _ _ (by simp)]
   exact h2.1 i hi
  ·rw [zt _ _ (by simp)] at hq; exact h2.2 f q hq
 ·intro k hk hnot
  simp only [List.mem_cons, not_or] at hnot
  rw [hv1 k hk, zt _ _ hnot.1, (g.same k hk hnot.2).2, hv0 k hk, zt _ _ hnot.1]
 ·intro k hk
  rcases List.mem_cons.1 hk with rfl | hk
  ·refine ⟨rfl, fun i hi => ?_⟩
   simp only [Key.id, Option.some.injEq] at hi
   subst hi
   exact Nat.lt_of_lt_of_le e0 hn
  ·exact g.good (by rw [hws0]; simp) k hk
 ·intro C ρ w fvv avs hfr hsim hfv havs hnone
  simp only [VR] at hfv
  obtain ⟨p, hp, rfl⟩ := hfv
  have hlst : yi h (.b l) = .lp r := e1
  obtain ⟨p', hp', hent⟩ := hsim.ent l (by rw [hlst]; rfl)
  rw [hp] at hp'; cases hp'
  rw [hlst] at hent
  obtain ⟨q, q1, q2, q3, q4, q5, q6, q7⟩ := hent
  rw [if_pos e2] at q7
  refine .inr ⟨p.B, q, rfl, q1, ?_, ?_⟩
  ·rw [havs.len, e3, ← q3]; simp
  intro rd m
  have hfree := hsim.lpFree hlst hp
  have hCs : vN (cEn C ρ (upd (yi h) (.b l) .z) w) ρ (y6 s0) w := ((hsim.dropLp (l := l)).enter).congr (fun i => hv0 _ rfl) (fun i => hv0 _ rfl)
  have hnM : ¬ (cEn C ρ (upd (yi h) (.b l) .z) w).M p.B := by
   rintro (⟨b, p2, z1, z2, z3⟩ | z)
   ·exact hfree b p2 z1 z2 z3
   ·have := hsim.lt l p hp
    have z : w.heap.size ≤ p.B := z
    omega
  have hT0 : (q.params.zip avs.toArray).foldl (fun tmps (t, a) => tmps.setIfInBounds t a) q.tmps = (r.params.zip avs).foldl (fun tmps (t, a) => tmps.setIfInBounds t a) q.tmps := by
   rw [← Array.foldl_toList, Array.toList_zip, q3]
  have hsize : r.fr.length = q.tmps.size := by have := q2.len; simpa using this.symm
  have hset : ∀ t, _ := z04 (T := q.tmps) (fr := ofL r.fr 0 .nil) havs (by rw [← hsize]; exact e4) (fun t => QK q2 q.tmps (fun i hi => by simp [Array.getD_eq_getD_getElem?, List.getD_eq_getElem?_getD]) t)
  have z7R : Sim (cEn C ρ (upd (yi h) (.b l) .z) w) r.fr.length ρ (y6 s0) ⟨(r.params.zip avs).foldl (fun tmps (t, a) => tmps.setIfInBounds t a) q.tmps, []⟩ w [] := by
   refine ⟨hCs, ⟨?_, ?_, rfl, by simp, fun D hD => by simp at hD, fun D hD => by simp at hD⟩⟩
   ·rw [hsize]; exact (hset 0).2
   ·intro t
    have := (hset t).1
    rw [← hq]
    exact this
  refine roundIn_of_wpIn (F := fen rd) trivial ?_
  rw [hT0]
  have hinr : (fen rd).inRound p.B = fen (some p.B) := rfl
  rw [hinr, q4, q5]
  refine hs1 _ ρ _ w [] (some p.B) m _ (hf0 hfr) z7R (fun i z1 z2 => hnone i (by omega) (by have := g2.n; show i < s2.n; omega)) ?_ ?_
  ·rintro L hL
   cases hL
   exact ⟨hnM, q, q1⟩
  ·intro ρ1 a1 w1 Ds1 hx1 hsim1
   have hb1 : w1.heap[p.B]? = some (.loop q) := (hsim1.h.kept.block _ hnM).trans q1
   refine ⟨_, run_beginRound hb1 q7, ?_⟩
   have hsim2 : Sim ((cEn C ρ (upd (yi h) (.b l) .z) w).put p.B (.loop { q with state := .busy })) r.fr.length ρ1 (y6 s1) a1 (w1.putObj p.B (.loop { q with state := .busy })) Ds1 :=
    ⟨hsim1.h.rebase hnM hb1 _, hsim1.f.rebase hnM _⟩
   have hw0L : ((cEn C ρ (upd (yi h) (.b l) .z) w).put p.B (.loop { q with state := .busy })).w0.heap[p.B]? = some (.loop { q with state := .busy }) := World.putObj_heap_same (hsim.lt l p hp)
   refine hs2 _ ρ1 a1 _ Ds1 (some p.B) m _ (g1.fresh (hf0 hfr)) hsim2 (fun i z1 z2 => ?_) ?_ ?_
   ·rw [hx1.2 i (.inr z1)]
    exact hnone i (by have := g1.n; omega) z2
   ·rintro L hL
    cases hL
    exact ⟨hnM, _, hw0L⟩
   ·intro ρ2 a2 w2 Ds2 hx2 hsim3
    have hb2 : w2.heap[p.B]? = some (.loop { q with state := .busy }) := (hsim3.h.kept.block _ hnM).trans hw0L
    have hx : Ext h.n s2.n ρ ρ2 := by
     have z1 := hx1.mono (lo' := h.n) (hi' := s2.n) (by omega) g2.n
     have z2 := hx2.mono (lo' := h.n) (hi' := s2.n) (by have := g1.n; omega) (Nat.le_refl _)
     exact z1.trans z2
    have hMl : (cEn C ρ (yi h) w).M p.B := .inl ⟨l, p, by rw [hlst]; rfl, hp, rfl⟩
    have hsub : ∀ B, (cEn C ρ (upd (yi h) (.b l) .z) w).M B → (cEn C ρ (yi h) w).M B := by
     rintro B (⟨b, p2, z1, z2, z3⟩ | z)
     ·refine .inl ⟨b, p2, ?_, z2, z3⟩
      by_cases eb : b = l
      ·subst eb; rw [zC] at z1; cases z1
      ·rwa [zt _ _ (by simpa using eb)] at z1
     ·exact .inr z
    have hfin : ∀ j : Option Code, j = x.pend → (x.isNorm = j.isNone) → ∃ v w', (Instr.endRound p.B j).run P w2 = .ok v w' ∧ ∃ v', Ending.returned v = .returned v' ∧ ∃ ρ', Ext h.n s2.n ρ ρ' ∧ vN (cEn C ρ (yi h) w) ρ' (yi ⟨s2.hb.put l (.lp { r with ready := x.isNorm, pend := x.pend }), s2.hf, s2.n⟩) w' ∧ VR C.S ρ' (.lit (.bool x.isNorm)) v' := by
     intro j hj hjn
     refine ⟨_, _, run_endRound j hb2, _, rfl, ρ2, hx, ?_, by simp only [VR]; rw [hjn]⟩
     have z1 : vN (cEn C ρ (yi h) w) ρ2 (y6 s2) w2 := by
      refine hsim3.h.ctx rfl hsub (hsim.enter).sfree ?_ (hsim.enter).mine
      have k1 : wK (cEn C ρ (yi h) w).M w (w.putObj p.B (.loop { q with state := .busy })) := (wK.refl _ _).putObj hMl _
      exact k1.trans (hsim3.h.kept.mono hsub)
     have hnot : ∀ b p2, (y6 s2 (.b b)).mem = true → ρ2 b = some p2 → p2.B ≠ p.B := by
      intro b p2 y1 y2 y3
      exact hnM (y3 ▸ hsim3.h.base b p2 y1 y2)
     have z2 := z1.putFree hMl hnot (.loop { q with state := if j.isNone then .ready else .done, pending := j })
     have z3 := z2.addLp (l := l) (r := { r with ready := x.isNorm, pend := x.pend }) (hx.1 _ _ hp) hMl (by
      refine ⟨_, World.putObj_heap_same (Array.getElem?_eq_some_iff.1 hb2).1, q2.mono hx.1, q3, q4, q5, hj, ?_⟩
      simp only [hjn]) (fun b p2 _ y1 y2 => hnot b p2 y1 y2)
     exact z3.congr (fun i => hv1 _ rfl) (fun i => hv1 _ rfl)
    cases x with
    | norm => exact hfin none rfl rfl
    | ex i => exact hfin (some (.exit i)) rfl rfl
    | gt t => exact hfin (some (.goto t)) rfl rfl
    | ret => exact hfin (some .ret) rfl rfl
theorem z0Y (hT : ue P tt) (hmx : P.follows .mixedOrders = true) {ft : FT} (hF : zdi P ft) {fuel : Nat} : ∀ d, Yc P (JX tt ft fuel d)
 | 0 => fun fv args h v h' ws e => by simp [JX] at e
 | d + 1 => fun fv args h v h' ws e => by
  have ih := z0Y hT hmx hF (fuel := fuel) d
  cases fv with
  | fn k caps => simp only [JX] at e; exact z2W hT ih hmx hF e
  | yl l => simp only [JX] at e; exact JR hT ih hmx e
  | _ => simp [JX] at e
end
end
open Go.Own (A z8 zu Rep zV kY)
def z0D (r : Option (V × H × List Key)) : Bool := match r with | some (.lit (.bool b), _) => b | _ => false
theorem KF {r : Option (V × H × List Key)} (h : z0D r = true) : ∃ h' ws, r = some (.lit (.bool true), h', ws) := by
 unfold z0D at h
 split at h
 ·rename_i b q
  obtain ⟨h', ws⟩ := q
  subst h
  exact ⟨h', ws, rfl⟩
 ·cases h
def zeq (w : World) : Ctx := ⟨w, fun _ _ => none, fun B => w.heap.size ≤ B⟩
theorem z7R (w : World)  (hz : ∀ b, st (.b b) = .z) : vN (zeq w) (fun _ => none) st w := {
 ent := fun b q => by rw [hz] at q; cases q
 dis := fun b b' p p' _ h => by rw [hz] at h; cases h
 fam := fun b k q => by rw [hz] at q; cases q
 base := fun b p q => by rw [hz] at q; cases q
 lt := fun b p q => by cases q
 still := fun B o v q => by cases q
 sfree := fun B o v q => by cases q
 kept := wK.refl _ _
 mine := fun B hB => hB }
theorem z9g (n : Nat) (b : Nat) : yi ⟨.nil, .nil, n⟩ (.b b) = .z := Tr.get_nil b
variable {orc : Orc}
theorem JV (hO : Yc P orc) {k : Nat}  {h' : H}  (e : orc (.fn k []) [] ⟨.nil, .nil, 0⟩ = some (v, h', ws)) (w : World) :
  Calls P k #[] w (fun e w' => ∃ v' ρ', e = .returned v' ∧ VR (fun _ _ => none) ρ' v v' ∧ wK (fun B => w.heap.size ≤ B) w w') := by
 have hr := hO _ _ _ _ _ _ e
 have hfr : vw (yi ⟨.nil, .nil, 0⟩) 0 := ⟨fun i _ => ⟨Tr.get_nil i, Tr.get_nil i⟩, fun f l hl => by
  have : yi ⟨.nil, .nil, 0⟩ (.f f) = .z := Tr.get_nil f
  rw [this] at hl; cases hl⟩
 have := hr.run (zeq w) (fun _ => none) w (.func (.func k) #[] #[]) [] hfr (z7R w (z9g 0)) (by simp only [VR]; exact ⟨[], by simp [VRs], rfl⟩) (by simp [VRs]) (fun _ _ _ => rfl)
 rcases this with ⟨k', caps, fn, h1, _, _, _, h2⟩ | ⟨L, q, h1, _⟩
 ·cases h1
  refine Calls.mono h2 ?_
  rintro e w' ⟨v', rfl, ρ', _, h3, h4⟩
  refine ⟨v', ρ', rfl, h4, ?_⟩
  refine h3.kept.mono ?_
  rintro B (⟨b, p, q, _⟩ | q)
  ·rw [z9g] at q; cases q
  ·exact q
 ·cases h1
theorem KN (hO : Yc P orc) {k : Nat} (e : z0D (orc (.fn k []) [] ⟨.nil, .nil, 0⟩) = true) (w : World) :
  Calls P k #[] w (fun e w' => e = .returned (.bool true) ∧ wK (fun B => w.heap.size ≤ B) w w') := by
 obtain ⟨h', ws, e⟩ := KF e
 refine Calls.mono (JV hO e w) ?_
 rintro e w' ⟨v', ρ', rfl, h1, h2⟩
 simp only [VR] at h1
 subst h1
 exact ⟨rfl, h2⟩
end Go.Ex
