/- Machines out of plain data: plain Lean. -/
import Derived.Test.YtdnenbcldibnoaaLawB
namespace Go.Own

/-- A row of the call's own, with its mark. -/
def ownRT (r : List (Int × Int)) : A := .osl 2 r.isEmpty (r.map encE)
theorem shut_ownRT_loose (x : List (List (Int × Int))) : A.looses (A.shuts (x.map ownRT)) = x.map encR := by
  simp only [shuts_map, looses_map]
  exact List.map_congr_left fun w _ => by simp only [ownRT, encR, A.shut, A.loose, shuts_encE, looses_encE]
theorem lives_encE (x : List (Int × Int)) : A.lives (x.map encE) = true := lives_map _ _ fun _ => rfl
theorem lives_ownRT (x : List (List (Int × Int))) : A.lives (x.map ownRT) = true := lives_map _ _ fun w => lives_encE w
theorem isEmpty_map' {α β : Type} (f : α → β) (l : List α) : (l.map f).isEmpty = l.isEmpty := by cases l <;> rfl
attribute [go_sem ↓] shut_ownRT_loose lives_encE lives_ownRT

structure MD where
  st : Int
  inp : Int
  out : Int
  part : Bool
  es : List Int
structure MD.Ok (x : MD) : Prop where
  s0 : 0 ≤ x.st
  s1 : x.st ≤ 255
  i0 : 0 ≤ x.inp
  i1 : x.inp ≤ 255
  o0 : 0 ≤ x.out
  o1 : x.out ≤ 255
  es : ∀ e ∈ x.es, 0 ≤ e ∧ e ≤ 65535
def encMD (x : MD) : A := .agg [.atom (.int .u8 x.st), .atom (.int .u8 x.inp), .atom (.int .u8 x.out), .atom (.bool x.part), .sl 1 false (x.es.map fun e => .atom (.int .u16 e))]
theorem encMD_inj : ∀ a b, encMD a = encMD b → a = b := by
  rintro ⟨a1, a2, a3, a4, a5⟩ ⟨b1, b2, b3, b4, b5⟩ h
  simp only [encMD, A.agg.injEq, List.cons.injEq, A.atom.injEq, Value.int.injEq, Value.bool.injEq, true_and, A.sl.injEq, and_true] at h
  obtain ⟨rfl, rfl, rfl, rfl, h⟩ := h
  rw [map_inj (by intro x y h; simpa using h) h]

def mN (x : MD) : Nat := (1 + x.st.tmod 6).toNat
def mI (x : MD) : Nat := (1 + x.inp.tmod 3).toNat
def mO (x : MD) : Nat := (1 + x.out.tmod 3).toNat
def mV (x : MD) (k : Nat) : Int := x.es.getD k 0
def mE' (x : MD) (v : Int) : Int × Int := if x.part = true ∧ v.tmod 4 = 3 then (-1, -1) else ((v.tdiv 4).tmod (mN x), ((v.tdiv 4).tdiv (mN x)).tmod (mO x))
def mE (x : MD) (s i : Nat) : Int × Int := mE' x (mV x (s * mI x + i))
def mRow (x : MD) (s : Nat) : List (Int × Int) := (List.range (mI x)).map (mE x s)
def mOf (x : MD) : Mach := ⟨mI x, mO x, (List.range (mN x)).map (mRow x)⟩

theorem MD.Ok.n {x : MD} (h : x.Ok) : ((mN x : Nat) : Int) = 1 + x.st.tmod 6 ∧ 1 ≤ mN x ∧ mN x ≤ 6 := by
  have := tmod_lt h.s0 (show (0 : Int) < 6 by omega)
  unfold mN
  omega
theorem MD.Ok.i {x : MD} (h : x.Ok) : ((mI x : Nat) : Int) = 1 + x.inp.tmod 3 ∧ 1 ≤ mI x ∧ mI x ≤ 3 := by
  have := tmod_lt h.i0 (show (0 : Int) < 3 by omega)
  unfold mI
  omega
theorem MD.Ok.o {x : MD} (h : x.Ok) : ((mO x : Nat) : Int) = 1 + x.out.tmod 3 ∧ 1 ≤ mO x ∧ mO x ≤ 3 := by
  have := tmod_lt h.o0 (show (0 : Int) < 3 by omega)
  unfold mO
  omega
theorem MD.Ok.v {x : MD} (h : x.Ok) (k : Nat) : 0 ≤ mV x k ∧ mV x k ≤ 65535 := by
  unfold mV
  rw [List.getD_eq_getElem?_getD]
  cases he : x.es[k]? with
  | none => simp
  | some e => exact h.es e (List.mem_of_getElem? he)

theorem mOf_valid {x : MD} (h : x.Ok) : Valid (mOf x) := by
  obtain ⟨n1, n2, n3⟩ := h.n
  obtain ⟨i1, i2, i3⟩ := h.i
  obtain ⟨o1, o2, o3⟩ := h.o
  have hl : (mOf x).rows.length = mN x := by simp [mOf]
  refine ⟨?_, ?_, ?_, ?_, by omega, by omega, ?_, ?_⟩
  · show (1 : Int) ≤ mI x; omega
  · show (mI x : Int) ≤ 16; omega
  · show (1 : Int) ≤ mO x; omega
  · show (mO x : Int) ≤ 16; omega
  · intro r hr
    obtain ⟨s, _, rfl⟩ := List.mem_map.1 hr
    simp [mRow, mOf]
  · intro r hr e he
    obtain ⟨s, _, rfl⟩ := List.mem_map.1 hr
    obtain ⟨i, _, rfl⟩ := List.mem_map.1 he
    unfold EdgeOk
    rw [hl]
    show _ ∨ (_ ∧ _ ∧ _ ∧ _ < (mO x : Int))
    unfold mE
    have hv := (h.v (s * mI x + i)).1
    generalize mV x (s * mI x + i) = v at hv ⊢
    unfold mE'
    split
    · exact .inl rfl
    · right
      have q1 : 0 ≤ v.tdiv 4 := Int.tdiv_nonneg hv (by omega)
      have q2 := tmod_lt q1 (show (0 : Int) < mN x by omega)
      have q3 : 0 ≤ (v.tdiv 4).tdiv (mN x) := Int.tdiv_nonneg q1 (by omega)
      have q4 := tmod_lt q3 (show (0 : Int) < mO x by omega)
      exact ⟨q2.1, q2.2, q4.1, q4.2⟩

/-! ### Another machine -/
structure TD where
  cs : List Int
  chs : List (Int × Int × Int × Int)
structure TD.Ok (x : TD) : Prop where
  cs : ∀ c ∈ x.cs, 0 ≤ c ∧ c ≤ 255
  chs : ∀ c ∈ x.chs, 0 ≤ c.1 ∧ c.1 ≤ 255 ∧ 0 ≤ c.2.1 ∧ c.2.1 ≤ 255 ∧ 0 ≤ c.2.2.1 ∧ c.2.2.1 ≤ 255 ∧ 0 ≤ c.2.2.2 ∧ c.2.2.2 ≤ 255
def encC (c : Int × Int × Int × Int) : A := .agg [.atom (.int .u8 c.1), .atom (.int .u8 c.2.1), .atom (.int .u8 c.2.2.1), .atom (.int .u8 c.2.2.2)]
def encTD (x : TD) : A := .agg [.sl 1 false (x.cs.map fun c => .atom (.int .u8 c)), .sl 4 false (x.chs.map encC)]
theorem encC_inj : ∀ a b, encC a = encC b → a = b := by
  rintro ⟨a1, a2, a3, a4⟩ ⟨b1, b2, b3, b4⟩ h
  simpa [encC] using h
theorem encTD_inj : ∀ a b, encTD a = encTD b → a = b := by
  rintro ⟨a1, a2⟩ ⟨b1, b2⟩ h
  simp only [encTD, A.agg.injEq, List.cons.injEq, true_and, A.sl.injEq, and_true] at h
  obtain ⟨h1, h2⟩ := h
  rw [map_inj (by intro x y h; simpa using h) h1, map_inj encC_inj h2]
theorem loose_encC (x : Int × Int × Int × Int) : (encC x).loose = encC x := rfl
theorem looses_encC (x : List (Int × Int × Int × Int)) : A.looses (x.map encC) = x.map encC := by simp only [looses_map, loose_encC]
theorem areD_encC (x : List (Int × Int × Int × Int)) : A.areD (x.map encC) = true := areD_map _ _ fun _ => rfl
theorem isD_encC (x : Int × Int × Int × Int) : (encC x).isD = true := rfl
theorem size_encC (x : Int × Int × Int × Int) : (encC x).size = 4 := rfl
attribute [go_sem ↓] loose_encC looses_encC areD_encC isD_encC size_encC

/-- Rows with the copies. -/
def tCopy (m : Mach) (c : Int) : List (Int × Int) := (m.rows[(c.tmod m.rows.length).toNat]?).getD []
def tRows (x : TD) (m : Mach) : List (List (Int × Int)) := m.rows ++ (x.cs.take 2).map (tCopy m)
def tEdge (m : Mach) (n : Nat) (c : Int × Int × Int × Int) : Int × Int :=
  if c.2.2.2.tmod (m.outp + 1) = m.outp then (-1, -1) else (c.2.2.1.tmod n, c.2.2.2.tmod (m.outp + 1))
def tSet (m : Mach) (rs : List (List (Int × Int))) (c : Int × Int × Int × Int) : List (List (Int × Int)) :=
  rs.set (c.1.tmod rs.length).toNat (((rs[(c.1.tmod rs.length).toNat]?).getD []).set (c.2.1.tmod m.inp).toNat (tEdge m rs.length c))
def tFold (x : TD) (m : Mach) (k : Nat) : List (List (Int × Int)) := (x.chs.take k).foldl (tSet m) (tRows x m)
def tOf (x : TD) (m : Mach) : Mach := ⟨m.inp, m.outp, tFold x m 40⟩

/-- Rows of n edges that lead to less than b states. -/
structure RowsOk (m : Mach) (b : Nat) (rs : List (List (Int × Int))) : Prop where
  len : rs.length = b
  row : ∀ r ∈ rs, (r.length : Int) = m.inp
  edge : ∀ r ∈ rs, ∀ e ∈ r, e = (-1, -1) ∨ (0 ≤ e.1 ∧ e.1 < b ∧ 0 ≤ e.2 ∧ e.2 < m.outp)

theorem tRows_ok {x : TD} {m : Mach} (hx : x.Ok) (h : Valid m) : RowsOk m (tRows x m).length (tRows x m) := by
  have key : ∀ r ∈ tRows x m, r ∈ m.rows := by
    intro r hr
    rcases List.mem_append.1 hr with q | q
    · exact q
    · obtain ⟨c, hc, rfl⟩ := List.mem_map.1 q
      have hcb := hx.cs c (List.mem_of_mem_take hc)
      have := tmod_lt hcb.1 (show (0 : Int) < m.rows.length by have := h.r1; omega)
      unfold tCopy
      rw [List.getElem?_eq_getElem (by omega)]
      exact List.getElem_mem _
  refine ⟨rfl, fun r hr => h.row r (key r hr), fun r hr e he => ?_⟩
  rcases h.edge r (key r hr) e he with q | ⟨q1, q2, q3, q4⟩
  · exact .inl q
  · right
    have : m.rows.length ≤ (tRows x m).length := by unfold tRows; simp
    exact ⟨q1, by omega, q3, q4⟩

theorem tSet_ok {m : Mach} (h : Valid m) {b : Nat} (hb : 1 ≤ b) {rs : List (List (Int × Int))} (hr : RowsOk m b rs) {c : Int × Int × Int × Int} (h1 : 0 ≤ c.1) (h2 : 0 ≤ c.2.2.1) (h3 : 0 ≤ c.2.2.2) : RowsOk m b (tSet m rs c) := by
  have hl := hr.len
  have hs := tmod_lt h1 (show (0 : Int) < rs.length by omega)
  have hs2 : (c.1.tmod rs.length).toNat < rs.length := by omega
  have ho := h.o1
  have he : tEdge m rs.length c = (-1, -1) ∨ (0 ≤ (tEdge m rs.length c).1 ∧ (tEdge m rs.length c).1 < b ∧ 0 ≤ (tEdge m rs.length c).2 ∧ (tEdge m rs.length c).2 < m.outp) := by
    unfold tEdge
    split
    · exact .inl rfl
    · right
      have q1 := tmod_lt h2 (show (0 : Int) < rs.length by omega)
      have q2 := tmod_lt h3 (show (0 : Int) < m.outp + 1 by omega)
      dsimp only
      omega
  have hm : ∀ r ∈ tSet m rs c, r ∈ rs ∨ ∃ r0 ∈ rs, r = r0.set (c.2.1.tmod m.inp).toNat (tEdge m rs.length c) := by
    intro r q
    unfold tSet at q
    rcases List.mem_or_eq_of_mem_set q with q | q
    · exact .inl q
    · right
      rw [List.getElem?_eq_getElem hs2] at q
      exact ⟨_, List.getElem_mem hs2, q⟩
  refine ⟨by unfold tSet; simpa using hl, ?_, ?_⟩
  · intro r q
    rcases hm r q with q1 | ⟨r0, q1, rfl⟩
    · exact hr.row r q1
    · simpa using hr.row r0 q1
  · intro r q e hee
    rcases hm r q with q1 | ⟨r0, q1, rfl⟩
    · exact hr.edge r q1 e hee
    · rcases List.mem_or_eq_of_mem_set hee with q2 | rfl
      · exact hr.edge r0 q1 e q2
      · exact he

theorem tFold_ok {x : TD} {m : Mach} (hx : x.Ok) (h : Valid m) (k : Nat) : RowsOk m (tRows x m).length (tFold x m k) := by
  have hb : 1 ≤ (tRows x m).length := by have := h.r1; unfold tRows; simp; omega
  unfold tFold
  have gen : ∀ (l : List (Int × Int × Int × Int)) (rs : List (List (Int × Int))), (∀ c ∈ l, c ∈ x.chs) → RowsOk m (tRows x m).length rs → RowsOk m (tRows x m).length (l.foldl (tSet m) rs) := by
    intro l
    induction l with
    | nil => intro rs _ q; exact q
    | cons c l ih =>
      intro rs hc q
      have := hx.chs c (hc c List.mem_cons_self)
      exact ih _ (fun c hc' => hc c (List.mem_cons_of_mem _ hc')) (tSet_ok h hb q this.1 this.2.2.2.2.1 this.2.2.2.2.2.2.1)
  exact gen _ _ (fun c hc => List.mem_of_mem_take hc) (tRows_ok hx h)

theorem tFold_succ {x : TD} {m : Mach} {k : Nat} {c : Int × Int × Int × Int} (h : x.chs[k]? = some c) : tFold x m (k + 1) = tSet m (tFold x m k) c := by
  unfold tFold
  rw [List.take_add_one, h]
  simp

theorem tOf_valid {x : TD} {m : Mach} (hx : x.Ok) (h : Valid m) (h62 : m.rows.length ≤ 62) : Valid (tOf x m) := by
  have q := tFold_ok hx h 40
  have hl : (tRows x m).length ≤ m.rows.length + 2 := by unfold tRows; simp; omega
  have hl1 : m.rows.length ≤ (tRows x m).length := by unfold tRows; simp
  have hl2 : (tOf x m).rows.length = (tRows x m).length := q.len
  have := h.r1
  refine ⟨h.i1, h.i2, h.o1, h.o2, by omega, by omega, q.row, fun r hr e he => ?_⟩
  unfold EdgeOk
  rw [hl2]
  exact q.edge r hr e he
end Go.Own

namespace Go.Own
def spMOf : Spec where
  α := MD
  k := 11
  raw := false
  gives := []
  enc := fun x => [encMD x]
  pre := fun x => (x.Ok)
  f := fun x => encM (mOf x)
  inj := by
    rintro a0 b0 h _ _
    simp only [List.cons.injEq, and_true] at h
    have h0 := h
    have e0 := encMD_inj _ _ h0
    subst e0
    rfl
theorem spMOf_run {ctr : Ctr} (hh : ctr.Has spMOf) {x : MD} (h : x.Ok) : ctr.run 11 [encMD x] = some (encM (mOf x)) := hh.run x h
theorem spMOf_at {ctr : Ctr} (h : ctr.Has spMOf) : ctr.gives 11 = [] ∧ ctr.raw 11 = false ∧ ctr.lend 11 = none := ⟨h.gives, h.raw, h.lend⟩
def spTOf : Spec where
  α := TD × Mach
  k := 12
  raw := false
  gives := []
  enc := fun ⟨x, m⟩ => [encTD x, encM m]
  pre := fun ⟨x, m⟩ => (x.Ok) ∧ (Valid m) ∧ (m.rows.length ≤ 62)
  f := fun ⟨x, m⟩ => encM (tOf x m)
  inj := by
    rintro ⟨a0, a1⟩ ⟨b0, b1⟩ h _ _
    simp only [List.cons.injEq, and_true] at h
    obtain ⟨h0, h1⟩ := h
    have e0 := encTD_inj _ _ h0
    have e1 := encM_inj _ _ h1
    subst e0 e1
    rfl
theorem spTOf_run {ctr : Ctr} (hh : ctr.Has spTOf) {x : TD} {m : Mach} (hx : x.Ok) (hv : Valid m) (h62 : m.rows.length ≤ 62) : ctr.run 12 [encTD x, encM m] = some (encM (tOf x m)) := hh.run (x, m) ⟨hx, hv, h62⟩
theorem spTOf_at {ctr : Ctr} (h : ctr.Has spTOf) : ctr.gives 12 = [] ∧ ctr.raw 12 = false ∧ ctr.lend 12 = none := ⟨h.gives, h.raw, h.lend⟩

end Go.Own
