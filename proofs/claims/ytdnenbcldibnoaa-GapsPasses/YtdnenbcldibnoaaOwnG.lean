/- Contracts of functions by name: a table of contracts out of a list of them. -/
import Derived.Test.YtdnenbcldibnoaaOwnF
import Derived.IntWalk
namespace Go.Own

/-- A contract: function k, called on enc x where pre x holds, gives f x back. -/
structure Spec where
  α : Type
  k : Nat
  raw : Bool
  gives : List Bool
  enc : α → List A
  pre : α → Prop
  f : α → A
  inj : ∀ x y, enc x = enc y → pre x → pre y → f x = f y

structure Ctr.Has (c : Ctr) (s : Spec) : Prop where
  run : ∀ x, s.pre x → c.run s.k (s.enc x) = some (s.f x)
  gives : c.gives s.k = s.gives
  raw : c.raw s.k = s.raw
  lend : c.lend s.k = none

def Spec.Ok (P : Program) (s : Spec) : Prop := ∀ x, s.pre x → CallOk P s.k (s.enc x) (s.f x)

open Classical in
noncomputable def Ctr.add (c : Ctr) (s : Spec) : Ctr where
  run := fun k as => if k = s.k then (if h : ∃ x, s.enc x = as ∧ s.pre x then some (s.f h.choose) else none) else c.run k as
  gives := fun k => if k = s.k then s.gives else c.gives k
  raw := fun k => if k = s.k then s.raw else c.raw k
  lend := fun k => if k = s.k then none else c.lend k
  runL := c.runL

theorem Ctr.add_has (c : Ctr) (s : Spec) : (c.add s).Has s where
  run := fun x hx => by
    have h : ∃ y, s.enc y = s.enc x ∧ s.pre y := ⟨x, rfl, hx⟩
    simp only [Ctr.add, if_true, dif_pos h, Option.some.injEq]
    exact s.inj _ _ h.choose_spec.1 h.choose_spec.2 hx
  gives := by simp [Ctr.add]
  raw := by simp [Ctr.add]
  lend := by simp [Ctr.add]

theorem Ctr.Has.add {c : Ctr} {s t : Spec} (h : c.Has t) (hk : t.k ≠ s.k) : (c.add s).Has t where
  run := fun x hx => by simp only [Ctr.add, if_neg hk]; exact h.run x hx
  gives := by simp only [Ctr.add, if_neg hk]; exact h.gives
  raw := by simp only [Ctr.add, if_neg hk]; exact h.raw
  lend := by simp only [Ctr.add, if_neg hk]; exact h.lend

theorem Ctr.add_ok {P : Program} {c : Ctr} {s : Spec} (hc : CtrOk P c) (hs : s.Ok P) : CtrOk P (c.add s) := by
  refine ⟨?_, ?_⟩
  · intro k as r e
    simp only [Ctr.add] at e
    split at e
    · rename_i hk
      split at e
      · rename_i h
        simp only [Option.some.injEq] at e
        subst e hk
        have q := hs _ h.choose_spec.2
        rw [h.choose_spec.1] at q
        exact q
      · cases e
    · exact hc.1 _ _ _ e
  · intro k i ls r y e1 e2
    simp only [Ctr.add] at e1 e2
    split at e1
    · cases e1
    · exact hc.2 _ _ _ _ _ e1 e2

def ctr0 : Ctr := { run := fun _ _ => none, gives := fun _ => [] }
theorem ctr0_ok (P : Program) : CtrOk P ctr0 := ⟨fun _ _ _ h => (by cases h), fun _ _ _ _ _ h _ => (by cases h)⟩

noncomputable def ctrOf : List Spec → Ctr
  | [] => ctr0
  | s :: l => (ctrOf l).add s

/-- Each one is shown by those behind it. -/
def SpecsOk (P : Program) : List Spec → Prop
  | [] => True
  | s :: l => (∀ c, CtrOk P c → (∀ t ∈ l, c.Has t) → s.Ok P) ∧ (∀ t ∈ l, t.k ≠ s.k) ∧ SpecsOk P l

theorem ctrOf_ok {P : Program} : ∀ {l : List Spec}, SpecsOk P l → CtrOk P (ctrOf l) ∧ ∀ t ∈ l, (ctrOf l).Has t
  | [], _ => ⟨ctr0_ok P, fun _ h => by cases h⟩
  | s :: l, h => by
    obtain ⟨h1, h2⟩ := ctrOf_ok h.2.2
    refine ⟨Ctr.add_ok h1 (h.1 _ h1 h2), fun t ht => ?_⟩
    rcases List.mem_cons.1 ht with rfl | ht
    · exact Ctr.add_has _ _
    · exact (h2 t ht).add (h.2.1 t ht)

theorem ctrOf_call {P : Program} {l : List Spec} (h : SpecsOk P l) {s : Spec} (hs : s ∈ l) : s.Ok P := by
  intro x hx
  obtain ⟨h1, h2⟩ := ctrOf_ok h
  exact h1.1 _ _ _ ((h2 s hs).run x hx)

/-! ### Data as the walks write it -/
abbrev I (x : Int) : A := .atom (.int .i64 x)
abbrev B (x : Bool) : A := .atom (.bool x)

theorem looses_map {α : Type} (f : α → A) (l : List α) : A.looses (l.map f) = l.map fun x => (f x).loose := by rw [A.looses_eq, List.map_map]; rfl
theorem shuts_map {α : Type} (f : α → A) : ∀ (l : List α), A.shuts (l.map f) = l.map fun x => (f x).shut
  | [] => rfl
  | x :: l => by simp [A.shuts, shuts_map f l]
theorem areD_map {α : Type} (f : α → A) : ∀ (l : List α), (∀ x, (f x).isD = true) → A.areD (l.map f) = true
  | [], _ => rfl
  | x :: l, h => by simp [A.areD, h x, areD_map f l h]
theorem lives_map {α : Type} (f : α → A) : ∀ (l : List α), (∀ x, (f x).live = true) → A.lives (l.map f) = true
  | [], _ => rfl
  | x :: l, h => by simp [A.lives, h x, lives_map f l h]

end Go.Own

namespace Go.Own

section
variable {P : Program} {n : Fr} {st : St} {Q : Exit → St → Prop} {tt : TT} {ctr : Ctr}

def condK (st : St) (c : Operand) (F : Bool → Prop) : Prop := match condB st c with | some b => F b | none => False

/-- A test: what follows stands behind variables. -/
theorem AWP.condW {c : Operand} {x y : Code} (h : ∀ T F : Prop, (AWP P n x st Q → T) → (AWP P n y st Q → F) → condK st c (fun b => (b = true → T) ∧ (b = false → F))) : AWP P n (.cond c x y) st Q := by
  have q := h _ _ id id
  unfold condK at q
  split at q
  · rename_i b hb
    exact AWP.cond hb q.1 q.2
  · exact q.elim

/-- Whatever comes first; the rest begins in one of the states stJ x. -/
theorem AWP.nextJ {X : Type} (live : List Nat) (Inv : X → Prop) (stJ : X → St) {x y : Code} (h1 : ∀ z, Inv z → AWP P n y (stJ z) Q)
    (h2 : ∀ K : St → Prop, (∀ z st', Inv z → Own.canon live st' = stJ z → K st') → AWP P n x st (thenQ K Q)) : AWP P n (.seq x y) st Q :=
  AWP.nextC live fun K hK => h2 K fun z st' hz he => hK st' (he ▸ h1 z hz)

/-- Memory of the call's own that is written no more from here on. -/
theorem AWP.shut {c : Code} (live ks : List Nat) (h : ∀ K : St → Prop, (∀ st', AWP P n c st' Q → K st') → runR (shutArgs (fun _ => none) (ks.map fun k => (.tmp k, 0))) st [] [] (fun _ st' _ _ => K (Own.canon live st'))) : AWP P n c st Q := by
  have q := h (fun st' => AWP P n c st' Q) (fun _ h => h)
  unfold runR at q
  split at q
  · rename_i xs R U e
    intro rd m pv w0 S0 M S Fp a w hs
    obtain ⟨S', Fp', h1, _⟩ := shutArgs_ok hs e
    exact (AWP.canon live q) rd m pv w0 S0 M S' Fp' a w h1
  · exact q.elim

def guardG (g : Option Nat) (want : Bool) (m m' : SM Unit) : SM Unit :=
  match g with
  | some g => do
    let e ← rdE g
    match e.t with
    | .d (.atom (.bool b)) => if b = want then m else m'
    | .d (.tup []) => m'
    | _ => sfail
  | none => sfail

theorem stepG_guard (ops : Array Oper) (d : Option Nat) (op : Op) (t : Nat) (pos : String) (af : Array Edge) (j : Nat) (want : Bool) : stepG tt ctr n ops ⟨d, op, t, pos, af, some (j, want)⟩ = guardG ((ops[j]?).bind (·.dst)) want (stepO tt ctr n ⟨d, op, t, pos, af, some (j, want)⟩) (wrT n d (.d (.tup []))) := by
  unfold stepG guardG
  dsimp only
  cases (ops[j]?).bind (·.dst) with
  | none => rfl
  | some g => rfl

end

theorem retX_one (tt : TT) (t : Nat) : retX tt [(t, none)] = retA tt true [t] := rfl
theorem retX_cell (tt : TT) (t ty : Nat) : retX tt [(t, some ty)] = retG tt [(t, some ty)] := rfl
theorem retX_none (tt : TT) : retX tt [] = retG tt [] := rfl
theorem retX_two (tt : TT) (a b : Nat × Option Nat) (l : List (Nat × Option Nat)) : retX tt (a :: b :: l) = retG tt (a :: b :: l) := by
  obtain ⟨t, _ | _⟩ := a <;> rfl

theorem drawR_nil {tt : TT} {ctr : Ctr} {n : Fr} {ops : Array Oper} {st : St} (logs : List (List Nat × List Nat)) (K : St → Prop) : drawR tt ctr n ops [] st logs K = (drawOk ops.toList logs = true ∧ K st) := rfl
attribute [go_sem ↓] drawR_nil
attribute [go_sem] drawR_nil

/-- A FUNCTION's CONTRACT from a walk. -/
theorem callOk_w {P : Program} {tt : TT} {k : Nat} {n : Fr} {fn : Func} {body : Code} {rs : List (Nat × Option Nat)} {ls : List A} {r : A} (hT : TTok P tt) (hf : P.funcs[k]? = some fn) (hnm : (fn.name == "runtime.NumGoroutine") = false) (hb : fn.body = some body)
    (hn : n = ⟨fn.ntmps, none⟩) (hr : fn.results = (rs.map toRV).toArray) (ha : ls.length ≤ fn.ntmps)
    (h : ∀ E : St → Prop, (∀ st, runR (retX tt rs) st [] [] (fun x _ _ _ => x = r) → E st) → AWP P n body (ofL (iniL 0 ls)) (retQ E)) : CallOk P k ls r := by
  refine callOk_x (tt := tt) hT hf hnm hb hn hr ha ?_
  rw [ini_eq]
  have hx : ∀ st, runR (retX tt rs) st [] [] (fun x _ _ _ => x = r) → ∃ R U, retX tt rs st = some (r, R, U) := by
    intro st h
    unfold runR at h
    split at h
    · rename_i x R U e
      subst h
      exact ⟨R, U, e⟩
    · exact h.elim
  refine AWP.mono (h (fun st => ∃ R U, retX tt rs st = some (r, R, U)) hx) ?_
  intro e st q
  cases e with
  | normal => exact ⟨.inl rfl, q⟩
  | ret => exact ⟨.inr rfl, q⟩
  | _ => exact q.elim

theorem isStructK_s (fs : List (Nat × Nat)) : isStructK (.struct fs) = true := rfl
attribute [go_sem] okParts placesOk placeOf isStructK isStructK_s oneCapB ofL_nil gone0 lim
theorem CallOk.loose {P : Program} {k : Nat} {ls : List A} {r r' : A} (h : CallOk P k ls r) (e : r.loose = r') : CallOk P k ls r' := by
  subst e
  refine ⟨h.1, fun S w vs F h1 h2 h3 => Calls.mono (h.2 S w vs F h1 h2 h3) ?_⟩
  rintro e w' ⟨v, S', F', g1, g2, g3, g4, g5, g6, g7⟩
  exact ⟨v, S', F', g1, g2, g3, g4, g5, g6.loose, g7⟩

attribute [go_sem] condK guardG retX_one retX_cell retX_none retX_two retG getAll iniL I B tupA
attribute [go_sem ↓] stepG_guard

end Go.Own

namespace Go.Own

/-- A machine: inputs, outputs, rows of edges. -/
structure Mach where
  inp : Int
  outp : Int
  rows : List (List (Int × Int))

def encE (e : Int × Int) : A := .agg [.atom (.int .i64 e.1), .atom (.int .i64 e.2)]
def encR (r : List (Int × Int)) : A := .sl 2 false (r.map encE)
def encM (m : Mach) : A := .agg [.atom (.int .i64 m.inp), .atom (.int .i64 m.outp), .sl 1 false (m.rows.map encR)]
def encW (w : List Int) : A := .sl 1 false (w.map fun x => .atom (.int .i64 x))
def encL (ws : List (List Int)) : A := .sl 1 false (ws.map encW)

/-- Lists of the call's own. -/
def ownW (w : List Int) : A := .osl 1 false (w.map fun x => .atom (.int .i64 x))
def ownL (ws : List (List Int)) : A := .osl 1 false (ws.map ownW)
theorem I_inj : ∀ a b : Int, A.atom (.int .i64 a) = A.atom (.int .i64 b) → a = b := by
  intro a b h
  simpa using h

theorem encE_inj : ∀ a b, encE a = encE b → a = b := by
  rintro ⟨a1, a2⟩ ⟨b1, b2⟩ h
  simpa [encE] using h
theorem map_inj {α β : Type} {f : α → β} (hf : ∀ a b, f a = f b → a = b) : ∀ {l l' : List α}, l.map f = l'.map f → l = l'
  | [], [], _ => rfl
  | [], _ :: _, h => by simp at h
  | _ :: _, [], h => by simp at h
  | a :: l, b :: l', h => by
    simp only [List.map_cons, List.cons.injEq] at h
    rw [hf _ _ h.1, map_inj hf h.2]
theorem encR_inj : ∀ a b, encR a = encR b → a = b := by
  intro a b h
  simp only [encR, A.sl.injEq, true_and] at h
  exact map_inj encE_inj h
theorem encW_inj : ∀ a b, encW a = encW b → a = b := by
  intro a b h
  simp only [encW, A.sl.injEq, true_and] at h
  exact map_inj (by intro x y h; simpa using h) h
theorem encL_inj : ∀ a b, encL a = encL b → a = b := by
  intro a b h
  simp only [encL, A.sl.injEq, true_and] at h
  exact map_inj encW_inj h
theorem encM_inj : ∀ a b, encM a = encM b → a = b := by
  rintro ⟨a1, a2, a3⟩ ⟨b1, b2, b3⟩ h
  simp only [encM, A.agg.injEq, List.cons.injEq, A.atom.injEq, Value.int.injEq, true_and, A.sl.injEq, and_true] at h
  obtain ⟨rfl, rfl, h⟩ := h
  rw [map_inj encR_inj h]

theorem ownW_inj : ∀ a b, ownW a = ownW b → a = b := by
  intro a b h
  simp only [ownW, A.osl.injEq, true_and] at h
  exact map_inj (by intro x y h; simpa using h) h
theorem ownL_inj : ∀ a b, ownL a = ownL b → a = b := by
  intro a b h
  simp only [ownL, A.osl.injEq, true_and] at h
  exact map_inj ownW_inj h
theorem isD_ownW (x : List Int) : (ownW x).isD = false := rfl
theorem size_ownW (x : List Int) : (ownW x).size = 1 := rfl
theorem live_atoms (x : List Int) : A.lives (x.map fun x => A.atom (.int .i64 x)) = true := lives_map _ _ fun _ => rfl
theorem areD_atoms (x : List Int) : A.areD (x.map fun x => A.atom (.int .i64 x)) = true := areD_map _ _ fun _ => rfl
theorem areD_encW (x : List (List Int)) : A.areD (x.map encW) = true := areD_map _ _ fun _ => rfl
theorem areD_encR (x : List (List (Int × Int))) : A.areD (x.map encR) = true := areD_map _ _ fun _ => rfl
theorem areD_encE (x : List (Int × Int)) : A.areD (x.map encE) = true := areD_map _ _ fun _ => rfl
theorem live_ownW (x : List Int) : (ownW x).live = true := live_atoms x
theorem lives_ownW (x : List (List Int)) : A.lives (x.map ownW) = true := lives_map _ _ live_ownW
theorem shut_ownW (x : List Int) : (ownW x).shut = encW x := by simp only [ownW, A.shut, shuts_map, encW]
theorem loose_ownW (x : List Int) : (ownW x).loose = ownW x := by simp only [ownW, A.loose, looses_map]

theorem isD_encE (x : Int × Int) : (encE x).isD = true := rfl
theorem isD_encR (x : List (Int × Int)) : (encR x).isD = true := rfl
theorem isD_encW (x : List Int) : (encW x).isD = true := rfl
theorem isD_encL (x : List (List Int)) : (encL x).isD = true := rfl
theorem size_encE (x : Int × Int) : (encE x).size = 2 := rfl
theorem size_encR (x : List (Int × Int)) : (encR x).size = 1 := rfl
theorem size_encW (x : List Int) : (encW x).size = 1 := rfl
theorem loose_encE (x : Int × Int) : (encE x).loose = encE x := rfl
theorem loose_encR (x : List (Int × Int)) : (encR x).loose = encR x := by
  simp only [encR, A.loose, looses_map, loose_encE]
theorem loose_encW (x : List Int) : (encW x).loose = encW x := by
  simp only [encW, A.loose, looses_map]
theorem loose_encL (x : List (List Int)) : (encL x).loose = encL x := by
  simp only [encL, A.loose, looses_map, loose_encW]
theorem loose_encM (m : Mach) : (encM m).loose = encM m := by
  simp only [encM, A.loose, A.looses, looses_map, loose_encR]
theorem shut_encW (x : List Int) : (encW x).shut = encW x := rfl
theorem shut_encR (x : List (Int × Int)) : (encR x).shut = encR x := rfl
theorem shut_encE (x : Int × Int) : (encE x).shut = encE x := rfl

theorem looses_encE (x : List (Int × Int)) : A.looses (x.map encE) = x.map encE := by simp only [looses_map, loose_encE]
theorem looses_encR (x : List (List (Int × Int))) : A.looses (x.map encR) = x.map encR := by simp only [looses_map, loose_encR]
theorem looses_encW (x : List (List Int)) : A.looses (x.map encW) = x.map encW := by simp only [looses_map, loose_encW]
theorem looses_ownW (x : List (List Int)) : A.looses (x.map ownW) = x.map ownW := by simp only [looses_map, loose_ownW]
theorem looses_atoms (x : List Int) : A.looses (x.map fun x => A.atom (.int .i64 x)) = x.map fun x => A.atom (.int .i64 x) := by simp only [looses_map, A.loose]
theorem shuts_encE (x : List (Int × Int)) : A.shuts (x.map encE) = x.map encE := by simp only [shuts_map, shut_encE]
theorem shuts_encR (x : List (List (Int × Int))) : A.shuts (x.map encR) = x.map encR := by simp only [shuts_map, shut_encR]
theorem shuts_encW (x : List (List Int)) : A.shuts (x.map encW) = x.map encW := by simp only [shuts_map, shut_encW]
theorem shuts_ownW (x : List (List Int)) : A.shuts (x.map ownW) = x.map encW := by simp only [shuts_map, shut_ownW]
theorem shuts_atoms (x : List Int) : A.shuts (x.map fun x => A.atom (.int .i64 x)) = x.map fun x => A.atom (.int .i64 x) := by simp only [shuts_map, A.shut]
attribute [go_sem ↓] looses_encE looses_encR looses_encW looses_ownW looses_atoms shuts_encE shuts_encR shuts_encW shuts_ownW shuts_atoms
attribute [go_sem ↓] isD_ownW size_ownW live_atoms areD_atoms areD_encW areD_encR areD_encE live_ownW lives_ownW shut_ownW loose_ownW isD_encE isD_encR isD_encW isD_encL size_encE size_encR size_encW loose_encE loose_encR loose_encW shut_encW shut_encR shut_encE

theorem isEmpty_snoc {α : Type} (l : List α) (x : α) : (l ++ [x]).isEmpty = false := by cases l <;> rfl
attribute [go_sem] isEmpty_snoc List.isEmpty_cons List.isEmpty_nil

def EdgeOk (m : Mach) (e : Int × Int) : Prop := e = (-1, -1) ∨ (0 ≤ e.1 ∧ e.1 < m.rows.length ∧ 0 ≤ e.2 ∧ e.2 < m.outp)

structure Valid (m : Mach) : Prop where
  i1 : 1 ≤ m.inp
  i2 : m.inp ≤ 16
  o1 : 1 ≤ m.outp
  o2 : m.outp ≤ 16
  r1 : 1 ≤ m.rows.length
  r2 : m.rows.length ≤ 64
  row : ∀ r ∈ m.rows, (r.length : Int) = m.inp
  edge : ∀ r ∈ m.rows, ∀ e ∈ r, EdgeOk m e

/-- A state, or none. -/
def StOk (m : Mach) (s : Int) : Prop := s = -1 ∨ (0 ≤ s ∧ s < m.rows.length)
/-- The symbols of a word are inputs. -/
def Sym (n : Int) (w : List Int) : Prop := ∀ i ∈ w, 0 ≤ i ∧ i < n

/-- The edge of a state, which may be none. -/
def nx (m : Mach) (s i : Int) : Int × Int := if s = -1 then (-1, -1) else ((m.rows[s.toNat]?.getD [])[i.toNat]?).getD (-1, -1)

theorem Valid.at {m : Mach} (h : Valid m) {s i : Int} (hs : StOk m s) (hne : s ≠ -1) (hi : 0 ≤ i ∧ i < m.inp) :
    ∃ (k j : Nat) (r : List (Int × Int)), s = k ∧ i = j ∧ m.rows[k]? = some r ∧ r[j]? = some (nx m s i) := by
  rcases hs with rfl | ⟨h1, h2⟩
  · exact absurd rfl hne
  · obtain ⟨k, rfl⟩ := Int.eq_ofNat_of_zero_le h1
    obtain ⟨j, rfl⟩ := Int.eq_ofNat_of_zero_le hi.1
    have hk : k < m.rows.length := by omega
    have hr := h.row _ (List.getElem_mem hk)
    have hj : j < (m.rows[k]).length := by omega
    refine ⟨k, j, m.rows[k], rfl, rfl, List.getElem?_eq_getElem hk, ?_⟩
    unfold nx
    rw [if_neg hne]
    simp [List.getElem?_eq_getElem hk, List.getElem?_eq_getElem hj]

theorem Valid.at' {m : Mach} (h : Valid m) {s i : Int} (hs : StOk m s) (hne : s ≠ -1) (hi : 0 ≤ i ∧ i < m.inp) :
    ∃ r, 0 ≤ s ∧ 0 ≤ i ∧ m.rows[s.toNat]? = some r ∧ r[i.toNat]? = some (nx m s i) := by
  obtain ⟨k, j, r, rfl, rfl, h1, h2⟩ := h.at hs hne hi
  exact ⟨r, by omega, by omega, by simpa using h1, by simpa using h2⟩

theorem Valid.nxOk {m : Mach} (h : Valid m) {s i : Int} (hs : StOk m s) (hi : 0 ≤ i ∧ i < m.inp) : EdgeOk m (nx m s i) := by
  by_cases hne : s = -1
  · left; unfold nx; rw [if_pos hne]
  · obtain ⟨k, j, r, rfl, rfl, h1, h2⟩ := h.at hs hne hi
    exact h.edge r (List.mem_of_getElem? h1) _ (List.mem_of_getElem? h2)

theorem EdgeOk.st {m : Mach} {e : Int × Int} (h : EdgeOk m e) : StOk m e.1 := by
  rcases h with rfl | ⟨h1, h2, _⟩
  · left; rfl
  · exact .inr ⟨h1, h2⟩

theorem nx_none (m : Mach) (i : Int) : nx m (-1) i = (-1, -1) := by simp [nx]

end Go.Own

namespace Go.Own

theorem CallOk.shutE {P : Program} {k : Nat} {ls : List A} {sz : Nat} {t : Bool} {es : List A} (h : CallOk P k ls (.osl sz t es)) (hl : A.lives es = true) : CallOk P k ls (.osl sz t (A.shuts es)) := by
  refine ⟨h.1, fun S w vs F h1 h2 h3 => Calls.mono (h.2 S w vs F h1 h2 h3) ?_⟩
  rintro e w' ⟨v, S', F', g1, g2, g3, g4, g5, g6, g7, g8⟩
  rcases g6 with ⟨q, _⟩ | ⟨cs, q, _, q2⟩
  · simp only [RepV, Rep1, Rep, false_and, exists_false] at q
  · simp only [Conc] at q
    obtain ⟨p, c, rfl, d1, d2, d3, d4, d5⟩ := q
    rcases d5 with ⟨rfl, rfl, rfl, rfl⟩ | ⟨b, arr, ty, l, F1, rfl, e1, e2, e3, e4, rfl, e5⟩
    · exact ⟨v, S', [], g1, g2, g3, g4, g5, .inr ⟨_, by simp only [Conc]; exact ⟨none, 0, rfl, fun _ => rfl, Nat.le_refl _, Nat.zero_le _, by simp [A.shuts], .inl (by simp [A.shuts])⟩, by simp, by rw [q2]; rfl⟩, by simp, by simp⟩
    · have hm : ∀ b o u, S' b o = some u → moreStill S' w'.heap F1 b o = some u := by
        intro b o u hu
        unfold moreStill
        split
        · exact g5 _ _ _ hu
        · exact hu
      have hr := Concs.shut (S' := moreStill S' w'.heap F1) hm e4 hl (fun k hk o => by unfold moreStill; rw [if_pos hk])
      have hlen : (A.shuts es).length = es.length := by simp [A.shuts_eq]
      have hb : b ∉ F1 := (List.nodup_cons.1 g7).1
      refine ⟨v, moreStill S' w'.heap F1, [b], g1, g2, fun b o u hu => hm _ _ _ (g3 _ _ _ hu), ?_, ?_, .inr ⟨_, ?_, by simp, by rw [q2]; rfl⟩, by simp, ?_⟩
      · intro b' o hb' hF
        unfold moreStill
        rw [if_neg (fun hk => by rcases g8 b' (List.mem_cons_of_mem _ hk) with q | q <;> first | omega | exact hF q)]
        exact g4 _ _ hb' hF
      · intro b' o u hu
        unfold moreStill at hu
        split at hu
        · exact hu
        · exact g5 _ _ _ hu
      · simp only [Conc]
        refine ⟨some ⟨b, 0, none⟩, c, by rw [hlen], fun ht => by rw [hlen]; exact d1 ht, by rw [hlen]; exact d2, d3, ?_, .inr ⟨b, arr, ty, l, [], rfl, e1, e2, by rw [hlen]; exact e3, Reps.concs _ hr, rfl, ?_⟩⟩
        · intro x hx
          rw [A.shuts_eq] at hx
          obtain ⟨y, hy, rfl⟩ := List.mem_map.1 hx
          rw [A.size_shut]
          exact d4 y hy
        · intro o
          unfold moreStill
          rw [if_neg hb]
          exact e5 o
      · intro k hk
        simp only [List.mem_cons, List.not_mem_nil, or_false] at hk
        subst hk
        exact g8 _ List.mem_cons_self

end Go.Own
