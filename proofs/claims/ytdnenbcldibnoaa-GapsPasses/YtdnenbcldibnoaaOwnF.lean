/- A function's body walked over abstract states gives its contract. -/
import Derived.Test.YtdnenbcldibnoaaOwnE
namespace Go.Own

/-- The state at the call's begin. -/
def ini (as : List A) : St := fun t => match as[t]? with | some a => ⟨mkT a, 0, 0⟩ | none => gone0

def iniL : Nat → List A → List (Nat × T)
  | _, [] => []
  | i, a :: as => (i, mkT a) :: iniL (i + 1) as

theorem ini_eq (as : List A) : ini as = ofL (iniL 0 as) := by
  have gen : ∀ (as : List A) (i t : Nat), ofL (iniL i as) t = if i ≤ t then (match as[t - i]? with | some a => ⟨mkT a, 0, 0⟩ | none => gone0) else gone0 := by
    intro as
    induction as with
    | nil => intro i t; simp [iniL, ofL]
    | cons a as ih =>
      intro i t
      simp only [iniL, ofL]
      by_cases h : t = i
      · subst h; simp
      · rw [if_neg h, ih]
        by_cases h1 : i ≤ t
        · have h2 : i + 1 ≤ t := by omega
          simp only [h1, h2, if_true]
          rw [show t - i = (t - (i + 1)) + 1 from by omega, List.getElem?_cons_succ]
        · have h2 : ¬ i + 1 ≤ t := by omega
          simp only [h1, h2, if_false]
  funext t
  rw [gen]
  simp [ini]

/-- What is given back: left the call's own where 'keep' says so and it is one value; else written no more from now on. -/
def retA (tt : TT) (keep : Bool) : List Nat → SM A
  | [t] => do
    let e ← rdE t
    match e.t with
    | .d (.tup _) => sfail
    | .d a => pure a
    | .own a => if keep = true then pure a else do
        let xs ← shutArgs tt [(.tmp t, 0)]
        match xs with
        | [x] => pure x
        | _ => sfail
    | _ => sfail
  | [] => pure (.tup [])
  | [t, u] => do
    let xs ← shutArgs tt [(.tmp t, 0), (.tmp u, 0)]
    pure (.tup xs)
  | [t, u, v] => do
    let xs ← shutArgs tt [(.tmp t, 0), (.tmp u, 0), (.tmp v, 0)]
    pure (.tup xs)
  | [t, u, v, x] => do
    let xs ← shutArgs tt [(.tmp t, 0), (.tmp u, 0), (.tmp v, 0), (.tmp x, 0)]
    pure (.tup xs)
  | _ => sfail

def retV (tv : Nat → Value) : List Nat → Value
  | [t] => tv t
  | ts => .tuple (ts.map tv).toArray

section
variable {C : Ctx} {S : Still} {Fp : Nat → List Nat} {X : List Nat} {st : St} {a : Act} {w : World}

theorem run_results {P : Program} {fn : Func} {ts : List Nat} (hr : fn.results = (ts.map ResultVar.tmp).toArray) (hl : ts.length ≤ 4) (a : Act) (w : World) :
    (results fn a.tmps).run P w = .ok (retV (Act.tv a) ts) w := by
  unfold results
  rw [hr]
  rcases ts with _ | ⟨t, _ | ⟨u, _ | ⟨v, _ | ⟨x, _ | ⟨y, l⟩⟩⟩⟩⟩ <;> first | (simp [Act.tv, retV]; done) | (simp at hl; done)

theorem retA_ok {tt : TT} {keep : Bool} {ts : List Nat} (h : Sim C S Fp [] st a w) {x : A} {R : List Nat} {U : List (Nat × Ent)} (e : retA tt keep ts st = some (x, R, U)) :
    ts.length ≤ 4 ∧ ∃ S' F', (∀ b o u, S b o = some u → S' b o = some u) ∧ (∀ b o, ¬ C.M b → S' b o = C.S0 b o) ∧ StillOk S' w ∧ Has S' w.heap x (retV (Act.tv a) ts) F' ∧ F'.Nodup ∧ ∀ k ∈ F', C.M k := by
  have many : ∀ (us : List Nat) {x : A} {R : List Nat} {U : List (Nat × Ent)}, (do let xs ← shutArgs tt (us.map fun t => (Operand.tmp t, 0)); pure (A.tup xs) : SM A) st = some (x, R, U) →
      ∃ S' F', (∀ b o u, S b o = some u → S' b o = some u) ∧ (∀ b o, ¬ C.M b → S' b o = C.S0 b o) ∧ StillOk S' w ∧ Has S' w.heap x (.tuple (us.map (Act.tv a)).toArray) F' ∧ F'.Nodup ∧ ∀ k ∈ F', C.M k := by
    intro us x R U e
    obtain ⟨xs, R1, U1, R2, U2, h1, e1, rfl, rfl⟩ := bind_some e
    obtain ⟨rfl, rfl, rfl⟩ := pure_some e1
    obtain ⟨S1, Fp1, g1, g2, _, g3⟩ := shutArgs_ok h h1
    have hm : (us.map fun t => (Operand.tmp t, 0)).map (fun p => a.eval p.1) = us.map (Act.tv a) := by rw [List.map_map]; rfl
    rw [hm] at g3
    refine ⟨S1, [], g2, g1.sbase, g1.still, .inl ⟨?_, rfl⟩, by simp, by simp⟩
    simp only [RepV]
    exact ⟨_, rfl, g3⟩
  rcases ts with _ | ⟨t, _ | ⟨u, _ | ⟨v, _ | ⟨y, _ | ⟨z, l⟩⟩⟩⟩⟩
  · obtain ⟨rfl, rfl, rfl⟩ := pure_some e
    refine ⟨by simp, S, [], fun _ _ _ h => h, h.sbase, h.still, .inl ⟨?_, rfl⟩, by simp, by simp⟩
    simp only [RepV]
    exact ⟨[], rfl, trivial⟩
  · refine ⟨by simp, ?_⟩
    simp only [retA] at e
    obtain ⟨en, R1, U1, R2, U2, h1, e1, rfl, rfl⟩ := bind_some e
    obtain ⟨rfl, rfl, rfl⟩ := rdE_some h1
    simp only [applyU] at e1
    have q := h.ent t
    unfold EntOk at q
    cases ht : (st t).t with
    | d y =>
      simp only [ht] at e1 q
      by_cases hy : ∃ fs, y = .tup fs
      · obtain ⟨fs, rfl⟩ := hy; exact (sfail_some e1).elim
      · have e2 : (pure y : SM A) st = some (x, R2, U2) := by
          cases y <;> first | exact e1 | exact absurd ⟨_, rfl⟩ hy
        obtain ⟨rfl, rfl, rfl⟩ := pure_some e2
        exact ⟨S, [], fun _ _ _ h => h, h.sbase, h.still, .inl ⟨q.1, rfl⟩, by simp, by simp⟩
    | own y =>
      simp only [ht] at e1 q
      split at e1
      · obtain ⟨rfl, rfl, rfl⟩ := pure_some e1
        exact ⟨S, Fp t, fun _ _ _ h => h, h.sbase, h.still, .inr (by obtain ⟨cs, q1, q2, q3⟩ := q; exact ⟨cs, q1, q2, q3⟩), (by obtain ⟨cs, q1, q2, q3⟩ := q; exact q2), h.base t⟩
      · obtain ⟨xs, R3, U3, R4, U4, h3, e2, rfl, rfl⟩ := bind_some e1
        obtain ⟨S1, Fp1, g1, g2, _, g3⟩ := shutArgs_ok h h3
        rcases xs with _ | ⟨x1, _ | ⟨x2, l⟩⟩
        · exact (sfail_some e2).elim
        · obtain ⟨rfl, rfl, rfl⟩ := pure_some e2
          exact ⟨S1, [], g2, g1.sbase, g1.still, .inl ⟨g3.1.repV, rfl⟩, by simp, by simp⟩
        · exact (sfail_some e2).elim
    | gone => simp only [ht] at e1; exact (sfail_some e1).elim
    | als _ _ _ _ => simp only [ht] at e1; exact (sfail_some e1).elim
    | ptr _ _ _ _ => simp only [ht] at e1; exact (sfail_some e1).elim
  · exact ⟨by simp, many [t, u] e⟩
  · exact ⟨by simp, many [t, u, v] e⟩
  · exact ⟨by simp, many [t, u, v, y] e⟩
  · exact (sfail_some (st := st) e).elim

end

/-- The arguments' footprints, one by one. -/
theorem hass_split {S : Still} {h : Array Obj} : ∀ {as : List A} {vs : List Value} {F : List Nat}, Hass S h as vs F → F.Nodup →
    ∃ f : Nat → List Nat, (∀ j y, as[j]? = some y → ∃ v, vs[j]? = some v ∧ Has S h y v (f j)) ∧ (∀ j, as[j]? = none → f j = []) ∧ (∀ j k, k ∈ f j → k ∈ F) ∧ (∀ i j k, k ∈ f i → k ∈ f j → i = j)
  | [], [], F, _, _ => ⟨fun _ => [], by simp, by simp, by simp, by simp⟩
  | a :: as, v :: vs, F, q, hn => by
    obtain ⟨F1, F2, rfl, q1, q2⟩ := q
    rw [List.nodup_append] at hn
    obtain ⟨f, f1, f2, f3, f4⟩ := hass_split q2 hn.1
    refine ⟨fun j => match j with | 0 => F1 | j + 1 => f j, ?_, ?_, ?_, ?_⟩
    · intro j y hj
      cases j with
      | zero => simp at hj; subst hj; exact ⟨v, by simp, q1⟩
      | succ j => simp at hj; obtain ⟨u, h1, h2⟩ := f1 j y hj; exact ⟨u, by simpa using h1, h2⟩
    · intro j hj
      cases j with
      | zero => simp at hj
      | succ j => simp at hj; exact f2 j (by simpa using hj)
    · intro j k hk
      cases j with
      | zero => exact List.mem_append.2 (.inr hk)
      | succ j => exact List.mem_append.2 (.inl (f3 j k hk))
    · intro i j k hi hj
      cases i with
      | zero =>
        cases j with
        | zero => rfl
        | succ j => exact absurd rfl (hn.2.2 k (f3 j k hj) k hi)
      | succ i =>
        cases j with
        | zero => exact absurd rfl (hn.2.2 k (f3 i k hi) k hj)
        | succ j => rw [f4 i j k hi hj]
  | [], _ :: _, _, q, _ => q.elim
  | _ :: _, [], _, q, _ => q.elim

theorem ini_sim {S : Still} {w : World} {as : List A} {vs : List Value} {F : List Nat} {n : Fr} (pv : Value) (hpin : ∀ i, n.pin = some i → vs[i]? = some pv) (hS : StillOk S w) (hq : Hass S w.heap as vs F) (hF : F.Nodup) (hn : as.length ≤ n.size) :
    ∃ Fp, Sim ⟨n, pv, w, S, fun k => w.heap.size ≤ k ∨ k ∈ F⟩ S Fp [] (ini as) { tmps := vs.toArray ++ Array.replicate (n.size - vs.toArray.size) undef, defers := [] } w := by
  obtain ⟨f, f1, f2, f3, f4⟩ := hass_split hq hF
  have hl := hq.nil
  have htv : ∀ t v, vs[t]? = some v → Act.tv { tmps := vs.toArray ++ Array.replicate (n.size - vs.toArray.size) undef, defers := [] } t = v := by
    intro t v h1
    have hlt := (List.getElem?_eq_some_iff.1 h1).1
    simp only [Act.tv, Array.getD_eq_getD_getElem?]
    rw [Array.getElem?_append_left (by simpa using hlt)]
    simp [h1]
  refine ⟨f, { size := by simp; omega, pin := fun i hi => htv i _ (hpin i hi), defers := rfl, below := Kept.refl _ _, mine := fun k hk => .inl hk, still := hS, sinc := fun _ _ _ h => h, sbase := fun _ _ _ => rfl, ent := ?_, disj := f4, base := fun t k hk => .inr (f3 t k hk), xn := by simp, xd := by simp, xb := by simp }⟩
  intro t
  unfold ini
  cases ht : as[t]? with
  | none =>
    rw [f2 t ht]
    rfl
  | some y =>
    obtain ⟨v, h1, h2⟩ := f1 t y ht
    have hv : Act.tv { tmps := vs.toArray ++ Array.replicate (n.size - vs.toArray.size) undef, defers := [] } t = v := by
      have hlt := (List.getElem?_eq_some_iff.1 h1).1
      simp only [Act.tv, Array.getD_eq_getD_getElem?]
      rw [Array.getElem?_append_left (by simpa using hlt)]
      simp [h1]
    rw [hv]
    dsimp only
    unfold EntOk
    rcases h2.mkT with ⟨e, q1, q2⟩ | ⟨e, q⟩
    · simp only [e]; exact ⟨q1, q2⟩
    · simp only [e]; exact q

/-- A FUNCTION's CONTRACT from a walk through its body. -/
theorem callOk_of {P : Program} {tt : TT} {k : Nat} {n : Fr} {fn : Func} {body : Code} {ts : List Nat} {keep lo : Bool} {args : List A} {r : A} (hf : P.funcs[k]? = some fn) (hnm : (fn.name == "runtime.NumGoroutine") = false) (hb : fn.body = some body)
    (hn : n = ⟨fn.ntmps, none⟩) (hr : fn.results = (ts.map ResultVar.tmp).toArray) (ha : args.length ≤ fn.ntmps)
    (h : AWP P n body (ini args) (fun ex st => (ex = .normal ∨ ex = .ret) ∧ runR (retA tt keep ts) st [] [] (fun x _ _ _ => (if lo = true then x.loose else x) = r))) : CallOk P k args r := by
  refine ⟨⟨fn, hf, hnm, by rw [hb]; rfl⟩, ?_⟩
  intro S w vs F hS hq hF
  refine calls_of_wp hf hb ?_
  subst hn
  obtain ⟨Fp, hs⟩ := ini_sim (n := ⟨fn.ntmps, none⟩) undef (by simp) hS hq hF ha
  refine (wpIn_wide (n := 0)).1 (wpIn_mono (h none 0 undef w S _ S Fp _ w hs) ?_)
  rintro ex a' w' ⟨st', S', Fp', h1, h2, h3⟩
  unfold runR at h3
  cases he : retA tt keep ts st' with
  | none => simp [he] at h3
  | some q =>
    obtain ⟨x, R, U⟩ := q
    simp only [he] at h3
    obtain ⟨hl, S2, F', g1, g2, g3, g4, g5, g6⟩ := retA_ok h1 he
    have hres := run_results (P := P) hr hl a' w'
    have fin : a'.defers = [] ∧ ∃ v, (results fn a'.tmps).run P w' = .ok v w' ∧ ∃ v' S' F', Ending.returned v = .returned v' ∧ Kept (fun k => w.heap.size ≤ k ∨ k ∈ F) w w' ∧ (∀ b o u, S b o = some u → S' b o = some u) ∧ (∀ b o, b < w.heap.size → b ∉ F → S' b o = S b o) ∧ StillOk S' w' ∧ Has S' w'.heap r v' F' ∧ F'.Nodup ∧
      ∀ k ∈ F', w.heap.size ≤ k ∨ k ∈ F := by
      refine ⟨h1.defers, _, hres, _, S2, F', rfl, h1.below, fun b o u hu => g1 _ _ _ (h1.sinc _ _ _ hu), ?_, g3, (by rw [← h3]; split <;> first | exact g4.loose | exact g4), g5, g6⟩
      intro b o hb' hbF
      exact g2 b o (by rintro (hq | hq) <;> first | omega | exact hbF hq)
    rcases h2 with rfl | rfl
    · exact fin
    · exact fin

end Go.Own

namespace Go.Own

section
variable {α β : Type} {st : St} {R W : List Nat}

theorem runR_pure (x : α) (K : α → St → List Nat → List Nat → Prop) : runR (pure x : SM α) st R W K = K x st R W := by
  show (K x (applyU [] st) (R ++ []) (W ++ [].map _)) = _
  simp [applyU]

theorem runR_bind (m : SM α) (f : α → SM β) (K : β → St → List Nat → List Nat → Prop) : runR (m >>= f) st R W K = runR m st R W (fun x st' R' W' => runR (f x) st' R' W' K) := by
  show (match SM.bind m f st with | some (x, r, u) => K x (applyU u st) (R ++ r) (W ++ u.map Prod.fst) | none => False) = _
  unfold SM.bind runR
  cases m st with
  | none => rfl
  | some q =>
    obtain ⟨x, r, u⟩ := q
    dsimp only
    cases f x (applyU u st) with
    | none => rfl
    | some q =>
      obtain ⟨y, r', u'⟩ := q
      simp [applyU_append, List.append_assoc]

theorem runR_rdE (k : Nat) (K : Ent → St → List Nat → List Nat → Prop) : runR (rdE k) st R W K = K (st k) st (R ++ [k]) W := by
  show K (st k) (applyU [] st) (R ++ [k]) (W ++ [].map _) = _
  simp [applyU]

theorem runR_wrE (k : Nat) (e : Ent) (K : Unit → St → List Nat → List Nat → Prop) : runR (wrE k e) st R W K = K () (upd st k e) R (W ++ [k]) := by
  show K () (applyU [(k, e)] st) (R ++ []) (W ++ [(k, e)].map _) = _
  simp [applyU]

theorem runR_some (x : α) (K : α → St → List Nat → List Nat → Prop) : runR (ofO (some x)) st R W K = K x st R W := runR_pure x K
theorem runR_none (K : α → St → List Nat → List Nat → Prop) : runR (ofO none) st R W K = False := rfl
theorem runR_fail (K : α → St → List Nat → List Nat → Prop) : runR (sfail : SM α) st R W K = False := rfl

theorem runR_ghost (m : SM α) (K : α → St → List Nat → List Nat → Prop) : runR (ghost m) st R W K = runR m st R W (fun x _ R' _ => K x st R' W) := by
  unfold runR ghost
  cases m st with
  | none => rfl
  | some q => obtain ⟨x, r, u⟩ := q; simp [applyU]

@[congr] theorem runR_congr {m m' : SM α} {K : α → St → List Nat → List Nat → Prop} (h : m = m') : runR m st R W K = runR m' st R W K := by rw [h]

theorem runR_if {c : Prop} [Decidable c] {m m' : SM α} {K : α → St → List Nat → List Nat → Prop} (h : c) : runR (if c then m else m') st R W K = runR m st R W K := by rw [if_pos h]

end

section
variable {tt : TT} {ctr : Ctr} {n : Fr} {ops : Array Oper} {st : St}

theorem seqR_nil (K : St → Prop) : seqR tt ctr n ops [] st K = K st := rfl
theorem seqR_cons (o : Oper) (os : List Oper) (K : St → Prop) : seqR tt ctr n ops (o :: os) st K = runR (stepG tt ctr n ops o) st [] [] fun _ st' _ _ => seqR tt ctr n ops os st' K := rfl
theorem drawR_cons (o : Oper) (os : List Oper) (logs : List (List Nat × List Nat)) (K : St → Prop) : drawR tt ctr n ops (o :: os) st logs K = runR (stepG tt ctr n ops o) st [] [] fun _ st' R W => drawR tt ctr n ops os st' (logs ++ [(R, W)]) K := rfl

theorem stepG_none (d : Option Nat) (op : Op) (t : Nat) (pos : String) (af : Array Edge) : stepG tt ctr n ops ⟨d, op, t, pos, af, none⟩ = stepO tt ctr n ⟨d, op, t, pos, af, none⟩ := rfl
theorem stepG_some (d : Option Nat) (op : Op) (t : Nat) (pos : String) (af : Array Edge) (j : Nat) (want : Bool) {g : Nat} (hg : (ops[j]?).bind (·.dst) = some g) : stepG tt ctr n ops ⟨d, op, t, pos, af, some (j, want)⟩ = (do
    let e ← rdE g
    match e.t with
    | .d (.atom (.bool b)) => if b = want then stepO tt ctr n ⟨d, op, t, pos, af, some (j, want)⟩ else wrT n d (.d (.tup []))
    | .d (.tup []) => wrT n d (.d (.tup []))
    | _ => sfail) := by
  unfold stepG
  simp only [hg]
  rfl

section
variable (d : Option Nat) (t : Nat) (pos : String) (af : Array Edge) (g : Option (Nat × Bool))
theorem stepO_move (x : Operand) : stepO tt ctr n ⟨d, .move x, t, pos, af, g⟩ = moveA n d x := rfl
theorem stepO_assign (x : Operand) : stepO tt ctr n ⟨d, .assign x, t, pos, af, g⟩ = assignA tt n d t x := rfl
theorem stepO_binOp (op : BinOp) (xt yt : Nat) (x y : Operand) : stepO tt ctr n ⟨d, .binOp op xt x y yt, t, pos, af, g⟩ = binOpA tt n d op xt x y := rfl
theorem stepO_unOp (op : UnOp) (xt : Nat) (x : Operand) : stepO tt ctr n ⟨d, .unOp op xt x, t, pos, af, g⟩ = unOpA n d op x := rfl
theorem stepO_convert (s u : Nat) (x : Operand) : stepO tt ctr n ⟨d, .convert s u x, t, pos, af, g⟩ = convA tt n d s u x := rfl
theorem stepO_pick (c x y : Operand) : stepO tt ctr n ⟨d, .pick c x y, t, pos, af, g⟩ = pickA n d c x y := rfl
theorem stepO_extract (x : Operand) (i : Nat) : stepO tt ctr n ⟨d, .extract x i, t, pos, af, g⟩ = extractA n d x i := rfl
theorem stepO_nilCheck (x : Operand) : stepO tt ctr n ⟨d, .nilCheck x, t, pos, af, g⟩ = nilCheckO n d x := rfl
theorem stepO_slice (u : Nat) (x : Operand) (lo hi mx : Option Operand) : stepO tt ctr n ⟨d, .slice u x lo hi mx, t, pos, af, g⟩ = sliceO tt n d u x lo hi mx := rfl
theorem stepO_load (u : Nat) (x : Operand) : stepO tt ctr n ⟨d, .load u x, t, pos, af, g⟩ = loadO tt n d u x := rfl
theorem stepO_store (u : Nat) (x v : Operand) : stepO tt ctr n ⟨d, .store u x v, t, pos, af, g⟩ = storeO tt d u x v := rfl
theorem stepO_fieldAddr (u : Nat) (x : Operand) (i : Nat) : stepO tt ctr n ⟨d, .fieldAddr u x i, t, pos, af, g⟩ = fieldAddrO tt n d u i x := rfl
theorem stepO_indexAddr (u : Nat) (x i : Operand) : stepO tt ctr n ⟨d, .indexAddr u x i, t, pos, af, g⟩ = indexAddrO tt n d u x i := rfl
theorem stepO_alloc (u : Nat) : stepO tt ctr n ⟨d, .alloc u, t, pos, af, g⟩ = allocO tt n d u := rfl
theorem stepO_box (u : Nat) (x : Operand) : stepO tt ctr n ⟨d, .box u x, t, pos, af, g⟩ = boxO tt n d u x := rfl
theorem stepO_makeSlice (u : Nat) (l c : Operand) : stepO tt ctr n ⟨d, .makeSlice u l c, t, pos, af, g⟩ = makeSliceO tt n d u l c := rfl
theorem stepO_buildSlice (u len : Nat) (ps : List (Nat × Operand)) : stepO tt ctr n ⟨d, .buildSlice u len ⟨ps⟩, t, pos, af, g⟩ = buildSliceO tt n d u len ps := rfl
theorem stepO_build (u : Nat) (ps : List (Nat × Operand)) : stepO tt ctr n ⟨d, .build u ⟨ps⟩, t, pos, af, g⟩ = buildO tt n d u ps := rfl
theorem stepO_makeFunc (f : Nat) (caps : List Operand) : stepO tt ctr n ⟨d, .makeFunc (.func f) ⟨[]⟩ ⟨caps⟩, t, pos, af, g⟩ = makeFuncO tt n d f caps := rfl
theorem stepO_len (x : Operand) (u : Nat) : stepO tt ctr n ⟨d, .call ⟨.builtin .len, ⟨[x]⟩, ⟨[u]⟩⟩, t, pos, af, g⟩ = lenO tt n d u x := rfl
theorem stepO_cap (x : Operand) (u : Nat) : stepO tt ctr n ⟨d, .call ⟨.builtin .cap, ⟨[x]⟩, ⟨[u]⟩⟩, t, pos, af, g⟩ = capO tt n d u x := rfl
theorem stepO_append (s x : Operand) (u : Nat) : stepO tt ctr n ⟨d, .call ⟨.builtin .append, ⟨[s, x]⟩, ⟨[u, u]⟩⟩, t, pos, af, g⟩ = appendO tt n d u s x := if_pos rfl
theorem stepO_call (f : Operand) (xs : List Operand) (us : List Nat) (h : xs.length = us.length) : stepO tt ctr n ⟨d, .call ⟨.value f, ⟨xs⟩, ⟨us⟩⟩, t, pos, af, g⟩ = callO tt ctr n d f (xs.zip us) := if_pos h
end

theorem opnd_tmp (k : Nat) : opnd (.tmp k) = (do
    let e ← rdE k
    match e.t with
    | .own _ => pure (.als k [] e.er e.ec)
    | .gone => sfail
    | T => pure T) := rfl
theorem opnd_int (k : IntKind) (v : Int) : opnd (.const (.int k v)) = pure (.d (.atom (.int k v))) := rfl
theorem opnd_bool (b : Bool) : opnd (.const (.bool b)) = pure (.d (.atom (.bool b))) := rfl
theorem opnd_nil : opnd (.const (.slice none 0 0)) = pure (.d (.atom (.slice none 0 0))) := rfl
theorem opnd_func (f : Nat) : opnd (.func f) = pure (.d (.fn f [])) := rfl

@[congr] theorem AWP_congr {P : Program} {n : Fr} {c : Code} {st st' : St} {Q : Exit → St → Prop} (h : st = st') : AWP P n c st Q = AWP P n c st' Q := by rw [h]

theorem thenQ_normal (K : St → Prop) (Q : Exit → St → Prop) (st : St) : thenQ K Q .normal st = K st := rfl
theorem thenQ_exit (K : St → Prop) (Q : Exit → St → Prop) (id : Nat) (st : St) : thenQ K Q (.exit id) st = Q (.exit id) st := rfl
theorem thenQ_ret (K : St → Prop) (Q : Exit → St → Prop) (st : St) : thenQ K Q .ret st = Q .ret st := rfl
theorem blockQ_exit (id : Nat) (Q : Exit → St → Prop) (st : St) : blockQ id Q (.exit id) st = Q .normal st := by simp [blockQ]
theorem blockQ_ne {id id' : Nat} (Q : Exit → St → Prop) (st : St) (h : id' ≠ id) : blockQ id Q (.exit id') st = Q (.exit id') st := by simp [blockQ, h]
theorem blockQ_normal (id : Nat) (Q : Exit → St → Prop) (st : St) : blockQ id Q .normal st = Q .normal st := rfl
theorem blockQ_ret (id : Nat) (Q : Exit → St → Prop) (st : St) : blockQ id Q .ret st = Q .ret st := rfl

theorem mkT_d {a : A} (h : a.isD = true) : mkT a = .d a := by
  unfold mkT
  split
  · rfl
  · rw [if_pos h]
theorem mkT_tup (fs : List A) : mkT (.tup fs) = .d (.tup fs) := rfl
theorem mkT_osl (sz : Nat) (t : Bool) (es : List A) : mkT (.osl sz t es) = .own (.osl sz t es) := rfl
theorem mkT_box (x : A) : mkT (.box x) = .own (.box x) := rfl
theorem mkT_agg (fs : List A) : mkT (.agg fs) = if A.areD fs = true then .d (.agg fs) else .own (.agg fs) := rfl

theorem mkT_sl (sz : Nat) (t : Bool) (xs : List A) : mkT (.sl sz t xs) = .d (.sl sz t xs) := rfl
theorem mkT_atom (v : Value) : mkT (.atom v) = .d (.atom v) := rfl
theorem mkT_fn (f : Nat) (caps : List A) : mkT (.fn f caps) = .d (.fn f caps) := rfl
theorem mkT_sptr (x : A) : mkT (.sptr x) = .d (.sptr x) := rfl
theorem isD_atom (v : Value) : A.isD (.atom v) = true := rfl
theorem isD_fn (f : Nat) (caps : List A) : A.isD (.fn f caps) = true := rfl
theorem isD_agg (fs : List A) : A.isD (.agg fs) = A.areD fs := rfl
theorem isD_tup (fs : List A) : A.isD (.tup fs) = false := rfl
theorem isD_sl (sz : Nat) (t : Bool) (xs : List A) : A.isD (.sl sz t xs) = true := rfl
theorem isD_sptr (x : A) : A.isD (.sptr x) = true := rfl
theorem isD_osl (sz : Nat) (t : Bool) (es : List A) : A.isD (.osl sz t es) = false := rfl
theorem isD_box (x : A) : A.isD (.box x) = false := rfl
theorem isD_dead (n : Nat) : A.isD (.dead n) = false := rfl
theorem size_atom (v : Value) : A.size (.atom v) = 1 := rfl
theorem size_fn (f : Nat) (caps : List A) : A.size (.fn f caps) = 1 := rfl
theorem size_agg (fs : List A) : A.size (.agg fs) = A.sizes fs := rfl
theorem size_tup (fs : List A) : A.size (.tup fs) = 0 := rfl
theorem size_sl (sz : Nat) (t : Bool) (xs : List A) : A.size (.sl sz t xs) = 1 := rfl
theorem size_sptr (x : A) : A.size (.sptr x) = 1 := rfl
theorem size_osl (sz : Nat) (t : Bool) (es : List A) : A.size (.osl sz t es) = 1 := rfl
theorem size_box (x : A) : A.size (.box x) = 1 := rfl
theorem size_dead (n : Nat) : A.size (.dead n) = n := rfl
theorem live_atom (v : Value) : A.live (.atom v) = true := rfl
theorem live_fn (f : Nat) (caps : List A) : A.live (.fn f caps) = true := rfl
theorem live_agg (fs : List A) : A.live (.agg fs) = A.lives fs := rfl
theorem live_tup (fs : List A) : A.live (.tup fs) = false := rfl
theorem live_sl (sz : Nat) (t : Bool) (xs : List A) : A.live (.sl sz t xs) = true := rfl
theorem live_sptr (x : A) : A.live (.sptr x) = true := rfl
theorem live_osl (sz : Nat) (t : Bool) (es : List A) : A.live (.osl sz t es) = A.lives es := rfl
theorem live_box (x : A) : A.live (.box x) = x.live := rfl
theorem live_dead (n : Nat) : A.live (.dead n) = false := rfl
theorem shut_atom (v : Value) : A.shut (.atom v) = .atom v := rfl
theorem shut_fn (f : Nat) (caps : List A) : A.shut (.fn f caps) = .fn f caps := rfl
theorem shut_agg (fs : List A) : A.shut (.agg fs) = .agg (A.shuts fs) := rfl
theorem shut_tup (fs : List A) : A.shut (.tup fs) = .tup fs := rfl
theorem shut_sl (sz : Nat) (t : Bool) (xs : List A) : A.shut (.sl sz t xs) = .sl sz t xs := rfl
theorem shut_sptr (x : A) : A.shut (.sptr x) = .sptr x := rfl
theorem shut_osl (sz : Nat) (t : Bool) (es : List A) : A.shut (.osl sz t es) = .sl sz t (A.shuts es) := rfl
theorem shut_box (x : A) : A.shut (.box x) = .sptr x.shut := rfl
theorem shut_dead (n : Nat) : A.shut (.dead n) = .dead n := rfl
theorem loose_atom (v : Value) : A.loose (.atom v) = .atom v := rfl
theorem loose_fn (f : Nat) (caps : List A) : A.loose (.fn f caps) = .fn f (A.looses caps) := rfl
theorem loose_agg (fs : List A) : A.loose (.agg fs) = .agg (A.looses fs) := rfl
theorem loose_tup (fs : List A) : A.loose (.tup fs) = .tup (A.looses fs) := rfl
theorem loose_sl (sz : Nat) (t : Bool) (xs : List A) : A.loose (.sl sz t xs) = .sl sz false (A.looses xs) := rfl
theorem loose_sptr (x : A) : A.loose (.sptr x) = .sptr x.loose := rfl
theorem loose_osl (sz : Nat) (t : Bool) (es : List A) : A.loose (.osl sz t es) = .osl sz false (A.looses es) := rfl
theorem loose_box (x : A) : A.loose (.box x) = .box x.loose := rfl
theorem loose_dead (n : Nat) : A.loose (.dead n) = .dead n := rfl
theorem isAgg_atom (v : Value) : A.isAgg (.atom v) = false := rfl
theorem isAgg_fn (f : Nat) (caps : List A) : A.isAgg (.fn f caps) = false := rfl
theorem isAgg_agg (fs : List A) : A.isAgg (.agg fs) = true := rfl
theorem isAgg_tup (fs : List A) : A.isAgg (.tup fs) = false := rfl
theorem isAgg_sl (sz : Nat) (t : Bool) (xs : List A) : A.isAgg (.sl sz t xs) = false := rfl
theorem isAgg_sptr (x : A) : A.isAgg (.sptr x) = false := rfl
theorem isAgg_osl (sz : Nat) (t : Bool) (es : List A) : A.isAgg (.osl sz t es) = false := rfl
theorem isAgg_box (x : A) : A.isAgg (.box x) = false := rfl
theorem isAgg_dead (n : Nat) : A.isAgg (.dead n) = false := rfl
theorem flat_fn (f : Nat) (caps : List A) : A.flat (.fn f caps) = false := rfl
theorem flat_agg (fs : List A) : A.flat (.agg fs) = A.flats fs := rfl
theorem flat_tup (fs : List A) : A.flat (.tup fs) = A.flats fs := rfl
theorem flat_sl (sz : Nat) (t : Bool) (xs : List A) : A.flat (.sl sz t xs) = false := rfl
theorem flat_sptr (x : A) : A.flat (.sptr x) = false := rfl
theorem flat_osl (sz : Nat) (t : Bool) (es : List A) : A.flat (.osl sz t es) = false := rfl
theorem flat_box (x : A) : A.flat (.box x) = false := rfl
theorem flat_dead (n : Nat) : A.flat (.dead n) = false := rfl
theorem areD_nil : A.areD [] = true := rfl
theorem areD_cons (a : A) (l : List A) : A.areD (a :: l) = (a.isD && A.areD l) := rfl
theorem sizes_nil : A.sizes [] = 0 := rfl
theorem sizes_cons (a : A) (l : List A) : A.sizes (a :: l) = (a.size + A.sizes l) := rfl
theorem lives_nil : A.lives [] = true := rfl
theorem lives_cons (a : A) (l : List A) : A.lives (a :: l) = (a.live && A.lives l) := rfl
theorem shuts_nil : A.shuts [] = [] := rfl
theorem shuts_cons (a : A) (l : List A) : A.shuts (a :: l) = (a.shut :: A.shuts l) := rfl
theorem looses_nil : A.looses [] = [] := rfl
theorem looses_cons (a : A) (l : List A) : A.looses (a :: l) = (a.loose :: A.looses l) := rfl
theorem flats_nil : A.flats [] = true := rfl
theorem flats_cons (a : A) (l : List A) : A.flats (a :: l) = (a.flat && A.flats l) := rfl
theorem flat_int (k : IntKind) (z : Int) : A.flat (.atom (.int k z)) = true := rfl
theorem flat_bool (b : Bool) : A.flat (.atom (.bool b)) = true := rfl
theorem flat_slice (p : Option Addr) (l c : Nat) : A.flat (.atom (.slice p l c)) = false := rfl

theorem canon_nil (st : St) : canon [] st = ofL [] := rfl
theorem canon_def (live : List Nat) (st : St) : canon live st = ofL (live.map fun k => (k, canT live st k)) := rfl

attribute [go_sem ↓] runR_pure runR_bind runR_rdE runR_some runR_none runR_fail runR_ghost seqR_nil seqR_cons drawR_cons stepG_none stepO_move stepO_assign stepO_binOp stepO_unOp stepO_convert stepO_pick stepO_extract stepO_nilCheck stepO_slice stepO_load stepO_store stepO_fieldAddr stepO_indexAddr stepO_alloc stepO_box
  stepO_makeSlice stepO_buildSlice stepO_build stepO_makeFunc stepO_len stepO_cap stepO_append opnd_tmp opnd_int opnd_bool opnd_nil opnd_func thenQ_normal thenQ_exit thenQ_ret blockQ_exit blockQ_normal blockQ_ret

attribute [go_sem] runR_pure runR_bind runR_rdE runR_some runR_none runR_fail runR_ghost runR_wrE upd_same upd_ne ofL_same ofL_ne blockQ_ne stepO_call

attribute [go_sem] canon_def canT mkT_d mkT_tup mkT_osl mkT_box mkT_agg mkT_sl mkT_atom mkT_fn mkT_sptr isD_atom isD_fn isD_agg isD_tup isD_sl isD_sptr isD_osl isD_box isD_dead size_atom size_fn size_agg size_tup size_sl size_sptr size_osl size_box size_dead live_atom live_fn live_agg live_tup live_sl live_sptr live_osl live_box live_dead shut_atom shut_fn shut_agg shut_tup shut_sl shut_sptr shut_osl shut_box shut_dead loose_atom loose_fn loose_agg loose_tup loose_sl loose_sptr loose_osl loose_box loose_dead isAgg_atom isAgg_fn isAgg_agg isAgg_tup isAgg_sl isAgg_sptr isAgg_osl isAgg_box isAgg_dead flat_fn flat_agg flat_tup flat_sl flat_sptr flat_osl flat_box flat_dead areD_nil areD_cons sizes_nil sizes_cons lives_nil lives_cons shuts_nil shuts_cons looses_nil looses_cons flats_nil flats_cons flat_int flat_bool flat_slice

attribute [go_sem] Ctr.norm moveA assignA binOpA unOpA convA pickA extractA loadO storeO fieldAddrO indexAddrO allocO boxO makeSliceO buildSliceO buildO makeFuncO lenO capO appendO callO
  look lookP val nilFix take takeC wrT Fr.ok binA intOp unA eqCells ptrOf TK.isAgg fitsT loadA storeA fieldOk fieldAddrA elemSize indexAddrA arrOf arrOk indexArrA lenOf capOf isSliceT peek appendA shutT shutArgs passArgs callA takes setAt sliceO bound nilCheckO lendA oneA getP setP condB retA

end
end Go.Own

namespace Go.Own

section
variable {P : Program} {n : Fr} {st : St} {Q : Exit → St → Prop} {tt : TT} {ctr : Ctr}

theorem seqR_mono {ops : Array Oper} {K K' : St → Prop} (h : ∀ st, K st → K' st) : ∀ (l : List Oper) (st : St), seqR tt ctr n ops l st K → seqR tt ctr n ops l st K'
  | [], st, q => h st q
  | o :: os, st, q => by
    simp only [seqR, runR] at q ⊢
    split at q
    · exact seqR_mono h os _ q
    · exact q

theorem drawR_mono {ops : Array Oper} {K K' : St → Prop} (h : ∀ st, K st → K' st) : ∀ (l : List Oper) (st : St) (logs : List (List Nat × List Nat)), drawR tt ctr n ops l st logs K → drawR tt ctr n ops l st logs K'
  | [], st, _, q => ⟨q.1, h st q.2⟩
  | o :: os, st, _, q => by
    simp only [drawR, runR] at q ⊢
    split at q
    · exact drawR_mono h os _ _ q
    · exact q

/-- A region, then the rest. -/
theorem AWP.reg (hT : TTok P tt) (hC : CtrOk P ctr) (live : List Nat) {id : Nat} {l : List Oper} {y : Code}
    (h : ∀ K : St → Prop, (∀ st', AWP P n y st' Q → K st') → seqR tt ctr n ⟨l⟩ l st (fun st' => K (Own.canon live st'))) : AWP P n (.seq (.region id ⟨l⟩ false) y) st Q :=
  AWP.seq (AWP.region hT hC (seqR_mono (fun _ q => AWP.canon live q) _ _ (h _ fun _ q => q)))

/-- A region at the end. -/
theorem AWP.regEnd (hT : TTok P tt) (hC : CtrOk P ctr) {id : Nat} {l : List Oper}
    (h : ∀ K : St → Prop, (∀ st', Q .normal st' → K st') → seqR tt ctr n ⟨l⟩ l st K) : AWP P n (.region id ⟨l⟩ false) st Q :=
  AWP.region hT hC (h _ fun _ q => q)

theorem AWP.draw (hT : TTok P tt) (hC : CtrOk P ctr) (hm : P.follows .mixedOrders = true) (live : List Nat) {id : Nat} {l : List Oper} {y : Code}
    (h : ∀ K : St → Prop, (∀ st', AWP P n y st' Q → K st') → drawR tt ctr n ⟨l⟩ l st [] (fun st' => K (Own.canon live st'))) : AWP P n (.seq (.region id ⟨l⟩ true) y) st Q :=
  AWP.seq (AWP.drawn hT hC hm (drawR_mono (fun _ q => AWP.canon live q) _ _ _ (h _ fun _ q => q)))

theorem AWP.drawEnd (hT : TTok P tt) (hC : CtrOk P ctr) (hm : P.follows .mixedOrders = true) {id : Nat} {l : List Oper}
    (h : ∀ K : St → Prop, (∀ st', Q .normal st' → K st') → drawR tt ctr n ⟨l⟩ l st [] K) : AWP P n (.region id ⟨l⟩ true) st Q :=
  AWP.drawn hT hC hm (h _ fun _ q => q)

/-- Whatever comes first, then the rest. -/
theorem AWP.next {x y : Code} (h : ∀ K : St → Prop, (∀ st', AWP P n y st' Q → K st') → AWP P n x st (thenQ K Q)) : AWP P n (.seq x y) st Q := AWP.seq (h _ fun _ q => q)

/-- As 'next'; ahead of the rest what is no longer wanted is let go. -/
theorem AWP.nextC (live : List Nat) {x y : Code} (h : ∀ K : St → Prop, (∀ st', AWP P n y (Own.canon live st') Q → K st') → AWP P n x st (thenQ K Q)) : AWP P n (.seq x y) st Q :=
  AWP.seq (h _ fun _ q => AWP.canon live q)

theorem AWP.loopK {c : Code} (live : List Nat) (I : Nat → St → Prop) (n0 : Nat) (h0 : I n0 (Own.canon live st))
    (round : ∀ k st, I k st → ∀ J : St → Prop, (∀ st' k', k' < k → I k' (Own.canon live st') → J st') → AWP P n c st (thenQ J Q)) : AWP P n (.loop c) st Q :=
  AWP.loop live I n0 h0 fun k st hI => round k st hI _ fun _ k' h1 h2 => ⟨k', h1, h2⟩

/-- A loop whose invariant is told by data x: the states stOf x, the measure mu, and what is known of x. -/
theorem AWP.loopX {X : Type} {c : Code} (live : List Nat) (Inv : X → Prop) (mu : X → Nat) (stOf : X → St) (x0 : X) (h0 : Inv x0) (hs : Own.canon live st = stOf x0)
    (round : ∀ x, Inv x → ∀ J : St → Prop, (∀ st' x', Inv x' → mu x' < mu x → Own.canon live st' = stOf x' → J st') → AWP P n c (stOf x) (thenQ J Q)) : AWP P n (.loop c) st Q :=
  AWP.loopK live (fun k st => ∃ x, Inv x ∧ mu x = k ∧ st = stOf x) (mu x0) ⟨x0, h0, rfl, hs⟩ (by
    rintro k st ⟨x, hx, rfl, rfl⟩ J hJ
    exact round x hx J fun st' x' h1 h2 h3 => hJ st' _ h2 ⟨x', h1, rfl, h3⟩)

theorem AWP.condT {c : Operand} {x y : Code} (hb : condB st c = some true) (h : AWP P n x st Q) : AWP P n (.cond c x y) st Q := AWP.cond hb (fun _ => h) (fun h => by cases h)
theorem AWP.condF {c : Operand} {x y : Code} (hb : condB st c = some false) (h : AWP P n y st Q) : AWP P n (.cond c x y) st Q := AWP.cond hb (fun h => by cases h) (fun _ => h)

theorem AWP.retK {E : St → Prop} (h : E st) (hQ : ∀ st, E st → Q .ret st) : AWP P n .ret st Q := AWP.ret (hQ _ h)
end

/-- The body's end. -/
def retQ (E : St → Prop) : Exit → St → Prop
  | .normal, st => E st
  | .ret, st => E st
  | _, _ => False
theorem retQ_ret (E : St → Prop) (st : St) : retQ E .ret st = E st := rfl
theorem retQ_normal (E : St → Prop) (st : St) : retQ E .normal st = E st := rfl
attribute [go_sem ↓] retQ_ret retQ_normal

theorem callOk_k {P : Program} {tt : TT} {k : Nat} {n : Fr} {fn : Func} {body : Code} {ts : List Nat} (keep lo : Bool) {args : List A} {r : A} (hf : P.funcs[k]? = some fn) (hnm : (fn.name == "runtime.NumGoroutine") = false) (hb : fn.body = some body)
    (hn : n = ⟨fn.ntmps, none⟩) (hr : fn.results = (ts.map ResultVar.tmp).toArray) (ha : args.length ≤ fn.ntmps)
    (h : ∀ E : St → Prop, (∀ st, runR (retA tt keep ts) st [] [] (fun x _ _ _ => (if lo = true then x.loose else x) = r) → E st) → AWP P n body (ofL (iniL 0 args)) (retQ E)) : CallOk P k args r := by
  refine callOk_of (tt := tt) (keep := keep) (lo := lo) hf hnm hb hn hr ha ?_
  rw [ini_eq]
  refine AWP.mono (h (fun st => runR (retA tt keep ts) st [] [] (fun x _ _ _ => (if lo = true then x.loose else x) = r)) fun _ q => q) ?_
  intro e st q
  cases e with
  | normal => exact ⟨.inl rfl, q⟩
  | ret => exact ⟨.inr rfl, q⟩
  | _ => exact q.elim

end Go.Own

namespace Go.Own

def toRV (r : Nat × Option Nat) : ResultVar := match r.2 with | none => .tmp r.1 | some t => .cell r.1 t

def getAll (tt : TT) : List (Nat × Option Nat) → List A → Option (List A)
  | [], [] => some []
  | (_, none) :: rs, x :: xs => (getAll tt rs xs).map (x :: ·)
  | (_, some t) :: rs, .sptr y :: xs => if fitsT tt t y = true then (getAll tt rs xs).map (y :: ·) else none
  | _, _ => none

def retG (tt : TT) (rs : List (Nat × Option Nat)) : SM A := do
  let xs ← shutArgs tt (rs.map fun r => (.tmp r.1, 0))
  match getAll tt rs xs with
  | some [y] => pure y
  | some ys => pure (.tup ys)
  | none => sfail

theorem run_foldAll {P : Program} {w : World} {α : Type} (g : α → Sem Value) : ∀ (l : List α) (vs : List Value) (acc : Array Value), All2 (fun r v => (g r).run P w = .ok v w) l vs → (l.foldlM (fun bs a => bs.push <$> g a) acc).run P w = .ok (acc ++ vs.toArray) w
  | [], [], acc, _ => by simp
  | r :: l, v :: vs, acc, h => by
    rw [List.foldlM_cons, Sem.run_bind]
    have : (acc.push <$> g r : Sem (Array Value)).run P w = .ok (acc.push v) w := by
      rw [map_eq_pure_bind, Sem.run_bind, h.1]
      simp
    rw [this, Result.andThen_ok, run_foldAll g l vs _ h.2]
    simp
  | [], _ :: _, _, h => h.elim
  | _ :: _, [], _, h => h.elim

section
variable {C : Ctx} {S : Still} {Fp : Nat → List Nat} {X : List Nat} {st : St} {a : Act} {w : World}

theorem getAll_ok {P : Program} {tt : TT} (hT : TTok P tt) {S : Still} (hS : StillOk S w) : ∀ {rs : List (Nat × Option Nat)} {xs ys : List A}, getAll tt rs xs = some ys → All2 (Rep1 S) xs (rs.map fun r => Act.tv a r.1) →
    ∃ vs, All2 (Rep1 S) ys vs ∧ All2 (fun r v => ((fun r : ResultVar => match r with | .tmp t => (pure (a.tmps.getD t undef) : Sem Value) | .cell b t => do loadVar t (← asAddr (a.tmps.getD b undef))) r).run P w = .ok v w) (rs.map toRV) vs
  | [], [], ys, e, _ => by
    simp only [getAll, Option.some.injEq] at e
    subst e
    exact ⟨[], trivial, trivial⟩
  | (t, none) :: rs, x :: xs, ys, e, h => by
    simp only [getAll, Option.map_eq_some_iff] at e
    obtain ⟨zs, e, rfl⟩ := e
    obtain ⟨vs, h1, h2⟩ := getAll_ok hT hS e h.2
    exact ⟨Act.tv a t :: vs, ⟨h.1, h1⟩, by simp only [toRV]; exact Sem.run_pure .., h2⟩
  | (t, some ty) :: rs, x :: xs, ys, e, h => by
    cases x with
    | sptr y =>
      simp only [getAll] at e
      split at e
      · rename_i hf
        rw [Option.map_eq_some_iff] at e
        obtain ⟨zs, e, rfl⟩ := e
        obtain ⟨vs, h1, h2⟩ := getAll_ok hT hS e h.2
        obtain ⟨cs, q1, q2⟩ := h.1
        simp only [Rep] at q1
        obtain ⟨b, o, l, rfl, r1, r2⟩ := q1
        refine ⟨valOf y l :: vs, ⟨⟨l, r1, rfl⟩, h1⟩, ?_, h2⟩
        simp only [toRV]
        have hv : a.tmps.getD t undef = .pointer (some ⟨b, o, none⟩) := q2
        rw [hv]
        simp only [asAddr, Sem.run_bind, Sem.run_pure, Result.andThen_ok]
        exact run_loadVar hT hf r1.len (fun j u hj => hS _ _ _ (r2 j u hj))
      · cases e
    | _ => simp [getAll] at e
  | [], _ :: _, _, e, _ => by simp [getAll] at e
  | (_, none) :: _, [], _, e, _ => by simp [getAll] at e
  | (_, some _) :: _, [], _, e, _ => by simp [getAll] at e

theorem retG_ok {P : Program} {tt : TT} (hT : TTok P tt) {fn : Func} {rs : List (Nat × Option Nat)} (hr : fn.results = (rs.map toRV).toArray) (h : Sim C S Fp [] st a w) {x : A} {R : List Nat} {U : List (Nat × Ent)} (e : retG tt rs st = some (x, R, U)) :
    ∃ v S', (results fn a.tmps).run P w = .ok v w ∧ (∀ b o u, S b o = some u → S' b o = some u) ∧ (∀ b o, ¬ C.M b → S' b o = C.S0 b o) ∧ StillOk S' w ∧ RepV S' x v := by
  unfold retG at e
  obtain ⟨xs, R1, U1, R2, U2, h1, e1, rfl, rfl⟩ := bind_some e
  obtain ⟨S1, Fp1, g1, g2, _, g3⟩ := shutArgs_ok h h1
  have hm : (rs.map fun r => (Operand.tmp r.1, 0)).map (fun p => a.eval p.1) = rs.map (fun r => Act.tv a r.1) := by rw [List.map_map]; rfl
  rw [hm] at g3
  cases hg : getAll tt rs xs with
  | none => simp only [hg] at e1; exact (sfail_some e1).elim
  | some ys =>
    obtain ⟨vs, q1, q2⟩ := getAll_ok (P := P) hT g1.still hg g3
    have hrun : (results fn a.tmps).run P w = .ok (if h : vs.toArray.size = 1 then vs.toArray[0] else .tuple vs.toArray) w := by
      unfold results
      rw [hr, Array.mapM_eq_foldlM, List.foldlM_toArray, Sem.run_bind]
      have := run_foldAll (P := P) (w := w) _ _ vs #[] q2
      rw [Array.empty_append] at this
      exact (congrArg (fun r => Result.andThen r (fun q w' => Sem.run P (pure (if h : q.size = 1 then q[0] else Value.tuple q)) w')) this).trans rfl
    simp only [hg] at e1
    refine ⟨_, S1, hrun, g2, g1.sbase, g1.still, ?_⟩
    rcases ys with _ | ⟨y, _ | ⟨y2, l⟩⟩
    · obtain ⟨rfl, rfl, rfl⟩ := pure_some e1
      cases vs with
      | nil => simp only [RepV]; exact ⟨[], rfl, trivial⟩
      | cons _ _ => exact q1.elim
    · obtain ⟨rfl, rfl, rfl⟩ := pure_some e1
      rcases vs with _ | ⟨v, _ | ⟨v2, l⟩⟩
      · exact q1.elim
      · exact q1.1.repV
      · exact q1.2.elim
    · obtain ⟨rfl, rfl, rfl⟩ := pure_some e1
      rcases vs with _ | ⟨v, _ | ⟨v2, l2⟩⟩
      · exact q1.elim
      · exact q1.2.elim
      · simp only [RepV]
        exact ⟨v :: v2 :: l2, by simp, q1⟩

end

theorem callOk_g {P : Program} {tt : TT} {k : Nat} {n : Fr} {fn : Func} {body : Code} {rs : List (Nat × Option Nat)} {lo : Bool} {ls : List A} {r : A} (hT : TTok P tt) (hf : P.funcs[k]? = some fn) (hnm : (fn.name == "runtime.NumGoroutine") = false) (hb : fn.body = some body)
    (hn : n = ⟨fn.ntmps, none⟩) (hr : fn.results = (rs.map toRV).toArray) (ha : ls.length ≤ fn.ntmps)
    (h : AWP P n body (ini ls) (fun ex st => (ex = .normal ∨ ex = .ret) ∧ runR (retG tt rs) st [] [] (fun x _ _ _ => (if lo = true then x.loose else x) = r))) : CallOk P k ls r := by
  refine ⟨⟨fn, hf, hnm, by rw [hb]; rfl⟩, ?_⟩
  intro S w vs F hS hq hF
  refine calls_of_wp hf hb ?_
  subst hn
  obtain ⟨Fp, hs⟩ := ini_sim (n := ⟨fn.ntmps, none⟩) undef (by simp) hS hq hF ha
  refine (wpIn_wide (n := 0)).1 (wpIn_mono (h none 0 undef w S _ S Fp _ w hs) ?_)
  rintro ex a' w' ⟨st', S', Fp', h1, h2, h3⟩
  unfold runR at h3
  cases he : retG tt rs st' with
  | none => simp [he] at h3
  | some q =>
    obtain ⟨x, R, U⟩ := q
    simp only [he] at h3
    obtain ⟨v, S2, hres, g1, g2, g3, g4⟩ := retG_ok (P := P) hT hr h1 he
    have fin : a'.defers = [] ∧ ∃ v, (results fn a'.tmps).run P w' = .ok v w' ∧ ∃ v' S' F', Ending.returned v = .returned v' ∧ Kept (fun k => w.heap.size ≤ k ∨ k ∈ F) w w' ∧ (∀ b o u, S b o = some u → S' b o = some u) ∧ (∀ b o, b < w.heap.size → b ∉ F → S' b o = S b o) ∧ StillOk S' w' ∧ Has S' w'.heap r v' F' ∧ F'.Nodup ∧
      ∀ k ∈ F', w.heap.size ≤ k ∨ k ∈ F := by
      refine ⟨h1.defers, _, hres, _, S2, [], rfl, h1.below, fun b o u hu => g1 _ _ _ (h1.sinc _ _ _ hu), ?_, g3, .inl ⟨?_, rfl⟩, by simp, by simp⟩
      · intro b o hb' hbF
        exact g2 b o (by rintro (hq | hq) <;> first | omega | exact hbF hq)
      · rw [← h3]; split <;> first | exact g4.loose | exact g4
    rcases h2 with rfl | rfl
    · exact fin
    · exact fin

end Go.Own

namespace Go.Own

def tupA : List A → A
  | [x] => x
  | ys => .tup ys

/-- Results, no more written; and the tree that slot i holds. -/
def retL (tt : TT) (rs : List (Nat × Option Nat)) (i : Nat) : SM (A × A) := do
  let xs ← shutArgs tt (rs.map fun r => (.tmp r.1, 0))
  let e ← rdE i
  match e.t with
  | .own y =>
    match getAll tt rs xs with
    | some ys => pure (tupA ys, y)
    | none => sfail
  | _ => sfail

section
variable {C : Ctx} {S : Still} {Fp : Nat → List Nat} {X : List Nat} {st : St} {a : Act} {w : World}

theorem run_resultsG {P : Program} {tt : TT} (hT : TTok P tt) {fn : Func} {rs : List (Nat × Option Nat)} (hr : fn.results = (rs.map toRV).toArray) {S : Still} (hS : StillOk S w) {xs ys : List A} (hg : getAll tt rs xs = some ys) (h3 : All2 (Rep1 S) xs (rs.map fun r => Act.tv a r.1)) :
    ∃ v, (results fn a.tmps).run P w = .ok v w ∧ RepV S (tupA ys) v := by
  obtain ⟨vs, q1, q2⟩ := getAll_ok (P := P) hT hS hg h3
  refine ⟨if h : vs.toArray.size = 1 then vs.toArray[0] else .tuple vs.toArray, ?_, ?_⟩
  · unfold results
    rw [hr, Array.mapM_eq_foldlM, List.foldlM_toArray, Sem.run_bind]
    have := run_foldAll (P := P) (w := w) _ _ vs #[] q2
    rw [Array.empty_append] at this
    exact (congrArg (fun r => Result.andThen r (fun q w' => Sem.run P (pure (if h : q.size = 1 then q[0] else Value.tuple q)) w')) this).trans rfl
  · rcases ys with _ | ⟨y, _ | ⟨y2, l⟩⟩
    · cases vs with
      | nil => simp only [RepV]; exact ⟨[], rfl, trivial⟩
      | cons _ _ => exact q1.elim
    · rcases vs with _ | ⟨v, _ | ⟨v2, l⟩⟩
      · exact q1.elim
      · exact q1.1.repV
      · exact q1.2.elim
    · rcases vs with _ | ⟨v, _ | ⟨v2, l2⟩⟩
      · exact q1.elim
      · exact q1.2.elim
      · simp only [RepV]
        exact ⟨v :: v2 :: l2, by simp, q1⟩

end

theorem lendOk_of {P : Program} {tt : TT} {k i : Nat} {n : Fr} {fn : Func} {body : Code} {rs : List (Nat × Option Nat)} {ls : List A} {r y' : A} (hT : TTok P tt) (hf : P.funcs[k]? = some fn) (hnm : (fn.name == "runtime.NumGoroutine") = false) (hb : fn.body = some body)
    (hn : n = ⟨fn.ntmps, some i⟩) (hr : fn.results = (rs.map toRV).toArray) (ha : ls.length ≤ fn.ntmps) (hi : i < ls.length)
    (h : AWP P n body (ini ls) (fun ex st => (ex = .normal ∨ ex = .ret) ∧ ∃ R U, retL tt rs i st = some ((r, y'), R, U))) : LendOk P k i ls r y' := by
  refine ⟨⟨fn, hf, hnm, by rw [hb]; rfl⟩, ?_⟩
  intro S w vs F hS hq hF
  refine calls_of_wp hf hb ?_
  subst hn
  have hlen := hq.nil
  obtain ⟨u, hu⟩ : ∃ u, vs[i]? = some u := ⟨vs[i]'(by omega), List.getElem?_eq_getElem (by omega)⟩
  obtain ⟨Fp, hs⟩ := ini_sim (n := ⟨fn.ntmps, some i⟩) u (by intro j hj; cases hj; exact hu) hS hq hF ha
  refine (wpIn_wide (n := 0)).1 (wpIn_mono (h none 0 u w S _ S Fp _ w hs) ?_)
  rintro ex a' w' ⟨st', S', Fp', h1, h2, R, U, h3⟩
  unfold retL at h3
  obtain ⟨xs, R1, U1, R2, U2, e1, e2, rfl, rfl⟩ := bind_some h3
  obtain ⟨S1, Fp1, g1, g2, _, g3⟩ := shutArgs_ok h1 e1
  obtain ⟨en, R3, U3, R4, U4, e3, e4, rfl, rfl⟩ := bind_some e2
  obtain ⟨rfl, rfl, rfl⟩ := rdE_some e3
  have hm : (rs.map fun r => (Operand.tmp r.1, 0)).map (fun p => a'.eval p.1) = rs.map (fun r => Act.tv a' r.1) := by rw [List.map_map]; rfl
  rw [hm] at g3
  have hent := g1.ent i
  unfold EntOk at hent
  cases ht : (applyU U1 st' i).t with
  | own y =>
    simp only [ht] at e4 hent
    cases hg : getAll tt rs xs with
    | none => simp only [hg] at e4; exact (sfail_some e4).elim
    | some ys =>
      obtain ⟨v, hres, hrep⟩ := run_resultsG (P := P) hT hr g1.still hg g3
      have hpair : (tupA ys) = r ∧ y = y' := by
        simp only [hg] at e4
        obtain ⟨e5, _, _⟩ := pure_some e4
        cases e5
        exact ⟨rfl, rfl⟩
      obtain ⟨rfl, rfl⟩ := hpair
      obtain ⟨cs, c1, c2, c3⟩ := hent
      have hpv : Act.tv a' i = u := g1.pin i rfl
      have fin : a'.defers = [] ∧ ∃ v, (results fn a'.tmps).run P w' = .ok v w' ∧ ∃ v' u S'' F' G, Ending.returned v = .returned v' ∧ vs[i]? = some u ∧ Kept (fun k => w.heap.size ≤ k ∨ k ∈ F) w w' ∧ (∀ b o u, S b o = some u → S'' b o = some u) ∧ (∀ b o, b < w.heap.size → b ∉ F → S'' b o = S b o) ∧ StillOk S'' w' ∧ Has S'' w'.heap (tupA ys) v' F' ∧ Has S'' w'.heap y u G ∧
          (F' ++ G).Nodup ∧ ∀ k ∈ F' ++ G, w.heap.size ≤ k ∨ k ∈ F := by
        refine ⟨h1.defers, v, hres, v, u, S1, [], Fp1 i, rfl, hu, g1.below, g1.sinc, ?_, g1.still, .inl ⟨hrep, rfl⟩, .inr ⟨cs, c1, c2, by rw [← hpv]; exact c3⟩, by simpa using c2, fun k hk => g1.base i k (by simpa using hk)⟩
        intro b o hb' hbF
        exact g1.sbase b o (by rintro (hq | hq) <;> first | omega | exact hbF hq)
      rcases h2 with rfl | rfl
      · exact fin
      · exact fin
  | gone => simp only [ht] at e4; exact (sfail_some e4).elim
  | d _ => simp only [ht] at e4; exact (sfail_some e4).elim
  | als _ _ _ _ => simp only [ht] at e4; exact (sfail_some e4).elim
  | ptr _ _ _ _ => simp only [ht] at e4; exact (sfail_some e4).elim

end Go.Own

namespace Go.Own

/-- The state's slots, one by one, freshly counted. -/
def canL {β : Type} (live : List Nat) (st : St) (K : List (Nat × T) → β) : List Nat → List (Nat × T) → β
  | [], acc => K acc
  | t :: ts, acc =>
    match canT live st t with
    | .gone => canL live st K ts acc
    | .d a => canL live st K ts ((t, .d a) :: acc)
    | .own a => canL live st K ts ((t, .own a) :: acc)
    | .als r p er ec => canL live st K ts ((t, .als r p er ec) :: acc)
    | .ptr r p er ec => canL live st K ts ((t, .ptr r p er ec) :: acc)

theorem canL_eq {β : Type} (live : List Nat) (st : St) (K : List (Nat × T) → β) : ∀ (ts : List Nat) (acc : List (Nat × T)), ts.Nodup → (∀ t ∈ ts, ofL acc t = gone0) →
    ∃ L, canL live st K ts acc = K L ∧ ∀ t, ofL L t = if t ∈ ts then ⟨canT live st t, 0, 0⟩ else ofL acc t
  | [], acc, _, _ => ⟨acc, rfl, by simp⟩
  | t :: ts, acc, hn, ha => by
    rw [List.nodup_cons] at hn
    have go : ∀ x, canT live st t = x → ∃ L, canL live st K ts ((t, x) :: acc) = K L ∧ ∀ u, ofL L u = if u ∈ t :: ts then ⟨canT live st u, 0, 0⟩ else ofL acc u := by
      intro x hx
      obtain ⟨L, h1, h2⟩ := canL_eq live st K ts ((t, x) :: acc) hn.2 (by
        intro u hu
        have : u ≠ t := by rintro rfl; exact hn.1 hu
        rw [ofL_ne x acc this]
        exact ha u (by simp [hu]))
      refine ⟨L, h1, fun u => ?_⟩
      rw [h2 u]
      by_cases hut : u = t
      · subst hut
        simp only [hn.1, if_false, List.mem_cons, true_or, if_true, ofL_same, hx]
      · simp only [List.mem_cons, hut, false_or, ofL_ne x acc hut]
    simp only [canL]
    cases hx : canT live st t with
    | gone =>
      obtain ⟨L, h1, h2⟩ := canL_eq live st K ts acc hn.2 (fun u hu => ha u (by simp [hu]))
      refine ⟨L, h1, fun u => ?_⟩
      rw [h2 u]
      by_cases hut : u = t
      · subst hut
        simp only [hn.1, if_false, List.mem_cons, true_or, if_true, hx]
        rw [ha u (by simp)]
        rfl
      · simp only [List.mem_cons, hut, false_or]
    | d a => exact go _ hx
    | own a => exact go _ hx
    | als r p er ec => exact go _ hx
    | ptr r p er ec => exact go _ hx

theorem canL_canon {β : Type} (live : List Nat) (hn : live.Nodup) (st : St) (K : List (Nat × T) → β) : ∃ L, canL live st K live [] = K L ∧ ofL L = canon live st := by
  obtain ⟨L, h1, h2⟩ := canL_eq live st K live [] hn (fun _ _ => rfl)
  refine ⟨L, h1, ?_⟩
  funext t
  rw [h2, canon_at]
  rfl

def evalStep (tt : TT) (ctr : Ctr) (n : Fr) (go : Code → List (Nat × T) → Option (Exit × List (Nat × T))) (c : Code) (L : List (Nat × T)) : Option (Exit × List (Nat × T)) :=
  match c with
  | .skip => some (.normal, L)
  | .ret => some (.ret, L)
  | .exit id => some (.exit id, L)
  | .seq a b =>
    match go a L with
    | some (.normal, L1) => go b L1
    | r => r
  | .cond c a b =>
    match condB (ofL L) c with
    | some true => go a L
    | some false => go b L
    | none => none
  | .block id c =>
    match go c L with
    | some (.exit i, L1) => if i = id then some (.normal, L1) else some (.exit i, L1)
    | r => r
  | .loop c =>
    match go c L with
    | some (.normal, L1) => go (.loop c) L1
    | r => r
  | .region _ ops false =>
    match runL tt ctr n ops ops.toList (ofL L) with
    | some st => canL (List.range n.size) st (fun L' => some (.normal, L')) (List.range n.size) []
    | none => none
  | .region _ ops true =>
    match logL tt ctr n ops ops.toList (ofL L) with
    | some (logs, st) => if drawOk ops.toList (logs.map keysOf) = true then canL (List.range n.size) st (fun L' => some (.normal, L')) (List.range n.size) [] else none
    | none => none
  | _ => none

def evalC (tt : TT) (ctr : Ctr) (n : Fr) (fuel : Nat) : Code → List (Nat × T) → Option (Exit × List (Nat × T)) :=
  Nat.rec (fun _ _ => none) (fun _ ih => evalStep tt ctr n ih) fuel

theorem evalC_zero (tt : TT) (ctr : Ctr) (n : Fr) (c : Code) (L : List (Nat × T)) : evalC tt ctr n 0 c L = none := rfl
theorem evalC_succ (tt : TT) (ctr : Ctr) (n : Fr) (f : Nat) (c : Code) (L : List (Nat × T)) : evalC tt ctr n (f + 1) c L = evalStep tt ctr n (evalC tt ctr n f) c L := rfl

section
variable {P : Program} {tt : TT} {ctr : Ctr} {n : Fr}

theorem AWP.post {c : Code} {st : St} {Q : Exit → St → Prop} (live : List Nat) (h : AWP P n c st (fun e st' => Q e (Own.canon live st'))) : AWP P n c st Q := by
  intro rd m pv w0 S0 M S Fp a w hs
  refine wpIn_mono (h rd m pv w0 S0 M S Fp a w hs) ?_
  rintro e a' w' ⟨st', S', Fp', h1, h2⟩
  obtain ⟨Fp2, h3⟩ := h1.canon live
  exact ⟨_, S', Fp2, h3, h2⟩

theorem runL_seqR {ops : Array Oper} {K : St → Prop} : ∀ (l : List Oper) {st st' : St}, runL tt ctr n ops l st = some st' → K st' → seqR tt ctr n ops l st K
  | [], st, st', e, h => by simp only [runL, Option.some.injEq] at e; subst e; exact h
  | o :: os, st, st', e, h => by
    simp only [runL] at e
    simp only [seqR, runR]
    cases hs : stepG tt ctr n ops o st with
    | none => simp [hs] at e
    | some q =>
      obtain ⟨x, r, u⟩ := q
      simp only [hs] at e ⊢
      exact runL_seqR os e h

theorem logL_drawR {ops : Array Oper} {K : St → Prop} : ∀ (l : List Oper) {st st' : St} {ls : List Log} (logs : List (List Nat × List Nat)), logL tt ctr n ops l st = some (ls, st') → drawOk ops.toList (logs ++ ls.map keysOf) = true → K st' → drawR tt ctr n ops l st logs K
  | [], st, st', ls, logs, e, hd, h => by
    simp only [logL, Option.some.injEq, Prod.mk.injEq] at e
    obtain ⟨rfl, rfl⟩ := e
    exact ⟨by simpa using hd, h⟩
  | o :: os, st, st', ls, logs, e, hd, h => by
    simp only [logL] at e
    simp only [drawR, runR]
    cases hs : stepG tt ctr n ops o st with
    | none => simp [hs] at e
    | some q =>
      obtain ⟨x, r, u⟩ := q
      simp only [hs] at e ⊢
      cases hl : logL tt ctr n ops os (applyU u st) with
      | none => simp [hl] at e
      | some q =>
        obtain ⟨ls', st2⟩ := q
        simp only [hl, Option.some.injEq, Prod.mk.injEq] at e
        obtain ⟨rfl, rfl⟩ := e
        simp only [List.nil_append]
        exact logL_drawR os _ hl (by simpa [keysOf, List.append_assoc] using hd) h

/-- More fuel does no harm. -/
theorem evalC_one : ∀ (f : Nat) (c : Code) (L : List (Nat × T)) (r : Exit × List (Nat × T)), evalC tt ctr n f c L = some r → evalC tt ctr n (f + 1) c L = some r := by
  intro f
  induction f with
  | zero => intro c L r e; cases e
  | succ f ih =>
    intro c L r e
    rw [evalC_succ] at e ⊢
    have mono : ∀ (c : Code) (L : List (Nat × T)) {o : Option (Exit × List (Nat × T))}, evalC tt ctr n f c L = o → o ≠ none → evalC tt ctr n (f + 1) c L = o := by
      intro c L o h hne
      cases o with
      | none => exact absurd rfl hne
      | some r => exact ih c L r h
    unfold evalStep at e ⊢
    cases c with
    | seq a b =>
      dsimp only at e ⊢
      cases h1 : evalC tt ctr n f a L with
      | none => simp [h1] at e
      | some q =>
        obtain ⟨ex, L1⟩ := q
        rw [mono a L h1 (by simp)]
        rw [h1] at e
        cases ex <;> first | exact e | exact ih _ _ _ e
    | cond c a b =>
      dsimp only at e ⊢
      cases h1 : condB (ofL L) c with
      | none => simp [h1] at e
      | some v => cases v <;> simp only [h1] at e ⊢ <;> exact ih _ _ _ e
    | block id a =>
      dsimp only at e ⊢
      cases h1 : evalC tt ctr n f a L with
      | none => simp [h1] at e
      | some q =>
        rw [mono a L h1 (by simp)]
        rw [h1] at e
        exact e
    | loop a =>
      dsimp only at e ⊢
      cases h1 : evalC tt ctr n f a L with
      | none => simp [h1] at e
      | some q =>
        obtain ⟨ex, L1⟩ := q
        rw [mono a L h1 (by simp)]
        rw [h1] at e
        cases ex <;> first | exact e | exact ih _ _ _ e
    | region id ops d => cases d <;> exact e
    | _ => exact e

theorem evalC_more {f f' : Nat} {c : Code} {L : List (Nat × T)} {r : Exit × List (Nat × T)} (h : f ≤ f') (e : evalC tt ctr n f c L = some r) : evalC tt ctr n f' c L = some r := by
  induction h with
  | refl => exact e
  | step _ ih => exact evalC_one _ _ _ _ ih

theorem evalC_ok (hT : TTok P tt) (hC : CtrOk P ctr) (hm : P.follows .mixedOrders = true) : ∀ (fuel : Nat) (c : Code) (L L' : List (Nat × T)) (ex : Exit), evalC tt ctr n fuel c L = some (ex, L') → ∀ Q : Exit → St → Prop, Q ex (ofL L') → AWP P n c (ofL L) Q := by
  intro fuel
  induction fuel with
  | zero => intro c L L' ex e; cases e
  | succ fuel ih =>
    intro c L L' ex e Q hQ
    rw [evalC_succ] at e
    unfold evalStep at e
    split at e
    · simp only [Option.some.injEq, Prod.mk.injEq] at e
      obtain ⟨rfl, rfl⟩ := e
      exact AWP.skip hQ
    · simp only [Option.some.injEq, Prod.mk.injEq] at e
      obtain ⟨rfl, rfl⟩ := e
      exact AWP.ret hQ
    · simp only [Option.some.injEq, Prod.mk.injEq] at e
      obtain ⟨rfl, rfl⟩ := e
      exact AWP.exit hQ
    · rename_i x y
      split at e
      · rename_i L1 h1
        exact AWP.seq (ih _ _ _ _ h1 _ (ih _ _ _ _ e _ hQ))
      · rename_i hne
        refine AWP.seq (ih _ _ _ _ e _ ?_)
        cases ex with
        | normal => exact absurd e (hne L')
        | _ => exact hQ
    · split at e
      · rename_i h1
        exact AWP.condT h1 (ih _ _ _ _ e _ hQ)
      · rename_i h1
        exact AWP.condF h1 (ih _ _ _ _ e _ hQ)
      · cases e
    · rename_i id x
      split at e
      · rename_i i L1 h1
        refine AWP.block (ih _ _ _ _ h1 _ ?_)
        unfold blockQ
        dsimp only
        split at e
        · rename_i hi
          simp only [Option.some.injEq, Prod.mk.injEq] at e
          obtain ⟨rfl, rfl⟩ := e
          rw [if_pos hi]
          exact hQ
        · rename_i hi
          simp only [Option.some.injEq, Prod.mk.injEq] at e
          obtain ⟨rfl, rfl⟩ := e
          rw [if_neg hi]
          exact hQ
      · rename_i hne
        refine AWP.block (ih _ _ _ _ e _ ?_)
        cases ex with
        | exit i => exact absurd e (hne i L')
        | _ => exact hQ
    · rename_i x
      have key : ∀ (f : Nat), f ≤ fuel → ∀ L, evalC tt ctr n (f + 1) (.loop x) L = some (ex, L') → AWP P n (.loop x) (ofL L) Q := by
        intro f
        induction f using Nat.strongRecOn with
        | _ f ihf =>
          intro hf L e
          intro rd m pv w0 S0 M S Fp a w hs
          refine wpIn_loop_ghost (fun k a w => ∃ L S Fp, k ≤ f ∧ Sim ⟨n, pv, w0, S0, M⟩ S Fp [] (ofL L) a w ∧ evalC tt ctr n (k + 1) (.loop x) L = some (ex, L')) f ⟨L, S, Fp, Nat.le_refl _, hs, e⟩ ?_
          rintro k a w ⟨L1, S1, Fp1, hk, hs1, e1⟩
          rw [evalC_succ] at e1
          unfold evalStep at e1
          dsimp only at e1
          have ihk : ∀ (c : Code) (L L' : List (Nat × T)) (ex : Exit), evalC tt ctr n k c L = some (ex, L') → ∀ Q : Exit → St → Prop, Q ex (ofL L') → AWP P n c (ofL L) Q := by
            intro c L L' ex e Q hQ
            exact ih c L L' ex (evalC_more (by omega) e) Q hQ
          split at e1
          · rename_i L2 h2
            cases k with
            | zero => cases e1
            | succ k =>
              refine wpIn_mono (ihk _ _ _ _ h2 (fun e s => e = .normal ∧ s = ofL L2) ⟨rfl, rfl⟩ rd m pv w0 S0 M S1 Fp1 a w hs1) ?_
              rintro e a' w' ⟨st', S', Fp', q1, rfl, rfl⟩
              exact ⟨k, Nat.lt_succ_self _, L2, S', Fp', by omega, q1, e1⟩
          · rename_i hne
            refine wpIn_mono (ihk _ _ _ _ e1 (fun e s => e = ex ∧ s = ofL L') ⟨rfl, rfl⟩ rd m pv w0 S0 M S1 Fp1 a w hs1) ?_
            rintro e2 a' w' ⟨st', S', Fp', q1, he, hst⟩
            subst hst
            cases e2 with
            | normal => subst he; exact absurd e1 (hne L')
            | _ => exact ⟨_, S', Fp', q1, by rw [he]; exact hQ⟩
      exact key fuel (Nat.le_refl _) L (by rw [evalC_succ]; unfold evalStep; exact e)
    · split at e
      · rename_i st h1
        obtain ⟨L2, h2, h3⟩ := canL_canon (List.range n.size) List.nodup_range st (fun L' => some (Exit.normal, L'))
        rw [h2] at e
        simp only [Option.some.injEq, Prod.mk.injEq] at e
        obtain ⟨rfl, rfl⟩ := e
        refine AWP.post (List.range n.size) (AWP.region hT hC (runL_seqR _ h1 ?_))
        rw [← h3]
        exact hQ
      · cases e
    · split at e
      · rename_i logs st h1
        split at e
        · rename_i hd
          obtain ⟨L2, h2, h3⟩ := canL_canon (List.range n.size) List.nodup_range st (fun L' => some (Exit.normal, L'))
          rw [h2] at e
          simp only [Option.some.injEq, Prod.mk.injEq] at e
          obtain ⟨rfl, rfl⟩ := e
          refine AWP.post (List.range n.size) (AWP.drawn hT hC hm (logL_drawR _ [] h1 (by simpa using hd) ?_))
          rw [← h3]
          exact hQ
        · cases e
      · cases e
    · cases e

end

/-! ### Whole functions -/

structure FnI where
  n : Nat
  body : Code
  rs : List (Nat × Option Nat)

def retX (tt : TT) (rs : List (Nat × Option Nat)) : SM A :=
  match rs with
  | [(t, none)] => retA tt true [t]
  | rs => retG tt rs

theorem callOk_x {P : Program} {tt : TT} {k : Nat} {n : Fr} {fn : Func} {body : Code} {rs : List (Nat × Option Nat)} {ls : List A} {r : A} (hT : TTok P tt) (hf : P.funcs[k]? = some fn) (hnm : (fn.name == "runtime.NumGoroutine") = false) (hb : fn.body = some body)
    (hn : n = ⟨fn.ntmps, none⟩) (hr : fn.results = (rs.map toRV).toArray) (ha : ls.length ≤ fn.ntmps)
    (h : AWP P n body (ini ls) (fun ex st => (ex = .normal ∨ ex = .ret) ∧ ∃ R U, retX tt rs st = some (r, R, U))) : CallOk P k ls r := by
  have hg : (∀ t, rs ≠ [(t, none)]) → CallOk P k ls r := by
    intro hne
    refine callOk_g (lo := false) hT hf hnm hb hn hr ha (AWP.mono h ?_)
    rintro e st ⟨h1, R, U, h2⟩
    refine ⟨h1, ?_⟩
    unfold retX at h2
    split at h2
    · exact absurd rfl (hne _)
    · unfold runR
      rw [h2]
      simp
  rcases rs with _ | ⟨⟨t, _ | ty⟩, _ | ⟨q, l⟩⟩
  · exact hg (by simp)
  · refine callOk_of (tt := tt) (ts := [t]) (keep := true) (lo := false) hf hnm hb hn hr ha (AWP.mono h ?_)
    rintro e st ⟨h1, R, U, h2⟩
    refine ⟨h1, ?_⟩
    unfold runR
    have h3 : retA tt true [t] st = some (r, R, U) := h2
    rw [h3]
    simp
  · exact hg (by simp)
  · exact hg (by simp)
  · exact hg (by simp)

def callE (tt : TT) (fns : Nat → Option FnI) (ctr : Ctr) (fuel : Nat) (k : Nat) (ls : List A) : Option A :=
  match fns k with
  | some fi =>
    if ls.length ≤ fi.n then
      match evalC tt ctr ⟨fi.n, none⟩ fuel fi.body (iniL 0 ls) with
      | some (.normal, L) => match retX tt fi.rs (ofL L) with | some (x, _, _) => some x | none => none
      | some (.ret, L) => match retX tt fi.rs (ofL L) with | some (x, _, _) => some x | none => none
      | _ => none
    else none
  | none => none

def callL (tt : TT) (fns : Nat → Option FnI) (ctr : Ctr) (fuel : Nat) (k i : Nat) (ls : List A) : Option (A × A) :=
  match fns k with
  | some fi =>
    if ls.length ≤ fi.n ∧ i < ls.length then
      match evalC tt ctr ⟨fi.n, some i⟩ fuel fi.body (iniL 0 ls) with
      | some (.normal, L) => match retL tt fi.rs i (ofL L) with | some (x, _, _) => some x | none => none
      | some (.ret, L) => match retL tt fi.rs i (ofL L) with | some (x, _, _) => some x | none => none
      | _ => none
    else none
  | none => none

/-- What is known of calls ahead: contracts, and which argument is lent. -/
structure Base where
  run : Nat → List A → Option A
  gives : Nat → List Bool
  lend : Nat → Option Nat
  runL : Nat → List A → Option (A × A)

def Base.ctr (b : Base) : Ctr := { run := b.run, gives := b.gives, raw := fun _ => true, lend := b.lend, runL := b.runL }

def orElse2 {α : Type} (x y : Option α) : Option α := match x with | some r => some r | none => y
def lendTo {α : Type} (x : Option Nat) (f : Nat → Option α) : Option α := match x with | some i => f i | none => none

/-- Calls to a depth; 'base' is asked first. -/
def ctrF (tt : TT) (fns : Nat → Option FnI) (b : Base) (fuel : Nat) : Nat → Ctr
  | 0 => b.ctr
  | d + 1 =>
    { run := fun k ls => orElse2 (b.run k ls) (callE tt fns (ctrF tt fns b fuel d) fuel k ls)
      gives := b.gives
      raw := fun _ => true
      lend := b.lend
      runL := fun k ls => orElse2 (b.runL k ls) (lendTo (b.lend k) fun i => callL tt fns (ctrF tt fns b fuel d) fuel k i ls) }

def FnOk (P : Program) (k : Nat) (fi : FnI) : Prop := ∃ fn, P.funcs[k]? = some fn ∧ (fn.name == "runtime.NumGoroutine") = false ∧ fn.body = some fi.body ∧ fn.ntmps = fi.n ∧ fn.results = (fi.rs.map toRV).toArray
def FnsOk (P : Program) (fns : Nat → Option FnI) : Prop := ∀ k fi, fns k = some fi → FnOk P k fi

theorem callE_ok {P : Program} {tt : TT} {fns : Nat → Option FnI} {ctr : Ctr} {fuel : Nat} (hT : TTok P tt) (hF : FnsOk P fns) (hC : CtrOk P ctr) (hm : P.follows .mixedOrders = true) {k : Nat} {ls : List A} {r : A} (e : callE tt fns ctr fuel k ls = some r) : CallOk P k ls r := by
  unfold callE at e
  cases hf : fns k with
  | none => simp [hf] at e
  | some fi =>
    simp only [hf] at e
    obtain ⟨fn, f1, f2, f3, f4, f5⟩ := hF k fi hf
    split at e
    · rename_i hlen
      cases he : evalC tt ctr ⟨fi.n, none⟩ fuel fi.body (iniL 0 ls) with
      | none => simp [he] at e
      | some q =>
        obtain ⟨ex, L⟩ := q
        have fin : (ex = .normal ∨ ex = .ret) → ∀ x R U, retX tt fi.rs (ofL L) = some (x, R, U) → x = r → CallOk P k ls r := by
          intro hex x R U hx hr
          refine callOk_x hT f1 f2 f3 (n := ⟨fi.n, none⟩) (by rw [f4]) f5 (by rw [f4]; exact hlen) ?_
          rw [ini_eq]
          exact evalC_ok hT hC hm fuel _ _ _ _ he _ ⟨hex, R, U, hr ▸ hx⟩
        simp only [he] at e
        cases ex with
        | normal =>
          simp only at e
          cases hx : retX tt fi.rs (ofL L) with
          | none => simp [hx] at e
          | some q =>
            obtain ⟨x, R, U⟩ := q
            simp only [hx, Option.some.injEq] at e
            exact fin (.inl rfl) x R U hx e
        | ret =>
          simp only at e
          cases hx : retX tt fi.rs (ofL L) with
          | none => simp [hx] at e
          | some q =>
            obtain ⟨x, R, U⟩ := q
            simp only [hx, Option.some.injEq] at e
            exact fin (.inr rfl) x R U hx e
        | _ => simp at e
    · cases e

theorem callL_ok {P : Program} {tt : TT} {fns : Nat → Option FnI} {ctr : Ctr} {fuel : Nat} (hT : TTok P tt) (hF : FnsOk P fns) (hC : CtrOk P ctr) (hm : P.follows .mixedOrders = true) {k i : Nat} {ls : List A} {r y : A} (e : callL tt fns ctr fuel k i ls = some (r, y)) : LendOk P k i ls r y := by
  unfold callL at e
  cases hf : fns k with
  | none => simp [hf] at e
  | some fi =>
    simp only [hf] at e
    obtain ⟨fn, f1, f2, f3, f4, f5⟩ := hF k fi hf
    split at e
    · rename_i hlen
      cases he : evalC tt ctr ⟨fi.n, some i⟩ fuel fi.body (iniL 0 ls) with
      | none => simp [he] at e
      | some q =>
        obtain ⟨ex, L⟩ := q
        have fin : (ex = .normal ∨ ex = .ret) → ∀ x R U, retL tt fi.rs i (ofL L) = some (x, R, U) → x = (r, y) → LendOk P k i ls r y := by
          intro hex x R U hx hr
          refine lendOk_of hT f1 f2 f3 (n := ⟨fi.n, some i⟩) (by rw [f4]) f5 (by rw [f4]; exact hlen.1) hlen.2 ?_
          rw [ini_eq]
          exact evalC_ok hT hC hm fuel _ _ _ _ he _ ⟨hex, R, U, hr ▸ hx⟩
        simp only [he] at e
        cases ex with
        | normal =>
          simp only at e
          cases hx : retL tt fi.rs i (ofL L) with
          | none => simp [hx] at e
          | some q =>
            obtain ⟨x, R, U⟩ := q
            simp only [hx, Option.some.injEq] at e
            exact fin (.inl rfl) x R U hx e
        | ret =>
          simp only at e
          cases hx : retL tt fi.rs i (ofL L) with
          | none => simp [hx] at e
          | some q =>
            obtain ⟨x, R, U⟩ := q
            simp only [hx, Option.some.injEq] at e
            exact fin (.inr rfl) x R U hx e
        | _ => simp at e
    · cases e

theorem ctrF_ok {P : Program} {tt : TT} {fns : Nat → Option FnI} {b : Base} {fuel : Nat} (hT : TTok P tt) (hF : FnsOk P fns) (hB : CtrOk P b.ctr) (hm : P.follows .mixedOrders = true) : ∀ d, CtrOk P (ctrF tt fns b fuel d)
  | 0 => hB
  | d + 1 => by
    have ih := ctrF_ok (fuel := fuel) hT hF hB hm d
    refine ⟨?_, ?_⟩
    · intro k ls r e
      simp only [ctrF, orElse2] at e
      cases hb : b.run k ls with
      | some r' =>
        simp only [hb, Option.some.injEq] at e
        subst e
        exact hB.1 k ls _ hb
      | none =>
        simp only [hb] at e
        exact callE_ok hT hF ih hm e
    · intro k i ls r y hl e
      simp only [ctrF, orElse2, lendTo] at e hl
      cases hb : b.runL k ls with
      | some r' =>
        simp only [hb, Option.some.injEq] at e
        subst e
        exact hB.2 k i ls _ _ hl hb
      | none =>
        simp only [hb, hl] at e
        exact callL_ok hT hF ih hm e

end Go.Own
