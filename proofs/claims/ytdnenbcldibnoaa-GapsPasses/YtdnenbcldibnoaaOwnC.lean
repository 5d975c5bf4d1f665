/- The operations, third part: stores, addresses of fields and elements, new variables, lengths. -/
import Derived.Test.YtdnenbcldibnoaaOwnB
namespace Go.Own

theorem cells_valOf {y : A} {cs : List Value} (h1 : ∀ u ∈ cs, u.oneCell' = true) (h2 : y.isAgg = true ∨ cs.length = 1) : (valOf y cs).cells = cs.toArray := by
  cases y <;> simp only [valOf, A.isAgg] at h2 ⊢ <;> first | rfl | skip
  all_goals
    obtain ⟨c, rfl⟩ := List.length_eq_one_iff.1 (h2.resolve_left (by simp))
    have := h1 c (by simp)
    cases c <;> first | rfl | (simp [Value.oneCell'] at this)

theorem Has.cells {S : Still} {h : Array Obj} {y : A} {v : Value} {F : List Nat} (q : Has S h y v F) (hy : ∀ fs, y ≠ .tup fs) : ∃ cs, Conc S h y cs F ∧ F.Nodup ∧ v = valOf y cs := by
  rcases q with ⟨q, rfl⟩ | q
  · obtain ⟨cs, h1, h2⟩ := q.conc h hy
    exact ⟨cs, h1, by simp, h2⟩
  · exact q

theorem setRow_take_over {arr : Array Value} {o : Nat} {cs : List Value} (h : o + cs.length ≤ arr.size) : (arr.toList.take o ++ cs ++ arr.toList.drop (o + cs.length)).toArray = over arr o cs := by
  apply Array.ext_getElem?
  intro k
  rw [over_get, List.getElem?_toArray]
  by_cases h1 : k < o
  · rw [List.append_assoc, List.getElem?_append_left (by simp; omega), List.getElem?_take, if_pos h1, if_neg (by omega)]
    rw [Array.getElem?_toList]
    cases arr[k]? <;> rfl
  · by_cases h2 : k < o + cs.length
    · rw [List.append_assoc, List.getElem?_append_right (by simp; omega), if_pos (by omega)]
      have : (arr.toList.take o).length = o := by simp; omega
      rw [this, List.getElem?_append_left (by omega), List.getElem?_eq_getElem (by omega), Array.getElem?_eq_getElem (by omega)]
      simp
    · rw [List.getElem?_append_right (by simp; omega), if_pos (by omega)]
      have : (arr.toList.take o ++ cs).length = o + cs.length := by simp; omega
      rw [this, List.getElem?_drop, List.getElem?_eq_none (l := cs) (by omega), show o + cs.length + (k - (o + cs.length)) = k from by omega, Array.getElem?_toList]
      cases arr[k]? <;> simp

section
variable {C : Ctx} {S : Still} {Fp : Nat → List Nat} {X : List Nat} {st : St} {a : Act} {w : World}

theorem hao (w : World) (o : Obj) (k : Nat) (h : k < w.heap.size) : (w.alloc o).heap[k]? = w.heap[k]? := Go.RowKit.Below.heap_alloc w o k h

theorem Sim.still_lt (h : Sim C S Fp X st a w) {b o : Nat} {v : Value} (hs : S b o = some v) : b < w.heap.size := by
  have := h.still b o v hs
  unfold cellAt at this
  split at this
  · rename_i hb
    exact (Array.getElem?_eq_some_iff.1 hb).1
  · cases this

theorem Sim.free_new (h : Sim C S Fp X st a w) {b : Nat} (hb : w.heap.size ≤ b) (o : Nat) : S b o = none := by
  cases hs : S b o with
  | none => rfl
  | some v => have := h.still_lt hs; omega

theorem Sim.base_le (h : Sim C S Fp X st a w) : C.w0.heap.size ≤ w.heap.size := h.below.size

/-- A block is made: it belongs to nobody yet. -/
theorem Sim.alloc (h : Sim C S Fp X st a w) (hX : ∀ k ∈ X, k < w.heap.size) (o : Obj) : Sim C S Fp (w.heap.size :: X) st a (w.alloc o) := by
  refine h.mem (h.below.alloc (h.mine _ h.base_le) o) (fun _ _ _ h => h) ?_ h.sbase (fun t k hk => ⟨hao w o k (h.free t k hk).1, (h.free t k hk).2.1⟩) ?_ ?_ ?_
  · intro b o' v hs
    rw [cellAt_frame (h := w.heap) (h' := (w.alloc o).heap) (hao w o b (h.still_lt hs))]
    exact h.still b o' v hs
  · exact List.nodup_cons.2 ⟨fun hm => Nat.lt_irrefl _ (hX _ hm), h.xn⟩
  · intro t k hk
    rcases List.mem_cons.1 hk with rfl | hk
    · exact fun hk => Nat.lt_irrefl _ (h.free t _ hk).1
    · exact h.xd t k hk
  · intro k hk
    rcases List.mem_cons.1 hk with rfl | hk
    · exact h.mine _ h.base_le
    · exact h.xb k hk

theorem Sim.drew (h : Sim C S Fp X st a w) : Sim C S Fp X st a w.drew :=
  h.mem h.below.drew (fun _ _ _ h => h) h.still h.sbase (fun t k hk => ⟨rfl, (h.free t k hk).2.1⟩) h.xn h.xd h.xb

/-- A new variable that holds a tree. -/
theorem box_new {F : List Nat} (h : Sim C S Fp (F ++ []) st a w) {y : A} {cs : List Value} (hc : Conc S w.heap y cs F) (hn : F.Nodup) (ty : TypeId) :
    Sim C S Fp ((w.heap.size :: F) ++ []) st a (w.alloc (.cells cs.toArray ty)) ∧ Conc S (w.alloc (.cells cs.toArray ty)).heap (.box y) [.pointer (some ⟨w.heap.size, 0, none⟩)] (w.heap.size :: F) ∧ (w.heap.size :: F).Nodup := by
  have hlt : ∀ k ∈ F, k < w.heap.size := fun k hk => (hc.own k hk).1
  refine ⟨by simpa using h.alloc (by simpa using hlt) _, ?_, List.nodup_cons.2 ⟨fun hm => Nat.lt_irrefl _ (hlt _ hm), hn⟩⟩
  simp only [Conc]
  refine ⟨w.heap.size, ty, cs, F, rfl, heap_alloc_new w _, hc.frame (fun _ _ _ h => h) (fun k hk => ⟨hao w _ k (hlt k hk), (hc.own k hk).2.1⟩), rfl, fun o => h.free_new (Nat.le_refl _) o⟩

def boxO (tt : TT) (n : Fr) (dst : Option Nat) (t : Nat) (x : Operand) : SM Unit := do
  let y ← opnd x
  let z ← takeC tt t y
  match z with
  | .tup _ => sfail
  | z => if z.isAgg = true ∨ z.size = 1 then wrT n dst (.own (.box z)) else sfail

theorem box_ok {P : Program} {tt : TT} (h : Sim C S Fp [] st a w) {o : Oper} {t : Nat} {x : Operand} (ho : o.op = .box t x) {u : Unit} {R : List Nat} {U : List (Nat × Ent)} (e : boxO tt C.n o.dst t x st = some (u, R, U)) : Good P C o a w (applyU U st) := by
  unfold boxO at e
  obtain ⟨y, R1, U1, R2, U2, h1, e1, rfl, rfl⟩ := bind_some e
  obtain ⟨rfl, hx⟩ := opnd_ok h h1
  obtain ⟨z, R3, U3, R4, U4, h3, e2, rfl, rfl⟩ := bind_some e1
  obtain ⟨Fp', F, g1, g2⟩ := takeC_ok h hx h3
  simp only [applyU, List.nil_append] at e2 ⊢
  rw [applyU_append]
  by_cases hz : ∃ fs, z = .tup fs
  · obtain ⟨fs, rfl⟩ := hz
    exact (sfail_some e2).elim
  · have hz' : ∀ fs, z ≠ .tup fs := fun fs he => hz ⟨fs, he⟩
    have e3 : (if z.isAgg = true ∨ z.size = 1 then wrT C.n o.dst (.own (.box z)) else sfail : SM Unit) (applyU U3 st) = some (u, R4, U4) := by
      cases z <;> first | exact e2 | exact absurd rfl (hz' _)
    split at e3
    · rename_i hs1
      obtain ⟨cs, c1, c2, c3⟩ := g2.cells hz'
      obtain ⟨k1, k2, k3⟩ := box_new g1 c1 c2 t
      obtain ⟨Fp'', hs⟩ := wr_own k1 e3 k2 k3
      refine good_value (v := .pointer (some ⟨w.heap.size, 0, none⟩)) ?_ hs
      have hcl := cells_valOf (y := z) c1.one (hs1.imp id (fun h => by rw [c1.len]; exact h))
      simp [execOp, ho, Instr.box, newVar, newRow, c3, hcl]
    · exact (sfail_some e3).elim

def allocO (tt : TT) (n : Fr) (dst : Option Nat) (t : Nat) : SM Unit := do
  let i ← ofO (tt t)
  let z ← ofO i.zero
  wrT n dst (.own (.box z))

theorem alloc_ok {P : Program} {tt : TT} (hT : TTok P tt) (h : Sim C S Fp [] st a w) {o : Oper} {t : Nat} (ho : o.op = .alloc t) {u : Unit} {R : List Nat} {U : List (Nat × Ent)} (e : allocO tt C.n o.dst t st = some (u, R, U)) : Good P C o a w (applyU U st) := by
  unfold allocO at e
  obtain ⟨i, R1, U1, R2, U2, h1, e1, rfl, rfl⟩ := bind_some e
  obtain ⟨hi, rfl, rfl⟩ := ofO_some h1
  obtain ⟨z, R3, U3, R4, U4, h3, e2, rfl, rfl⟩ := bind_some e1
  obtain ⟨hz, rfl, rfl⟩ := ofO_some h3
  simp only [applyU, List.nil_append] at e2 ⊢
  obtain ⟨f, f1, f2, f3, f4⟩ := (hT t i hi).info
  obtain ⟨v, v1, v2, v3⟩ := f4 z hz
  obtain ⟨k1, k2, k3⟩ := box_new (F := []) (by simpa using h) (v3 S w.heap) (by simp) t
  obtain ⟨Fp'', hs⟩ := wr_own k1 e2 k2 k3
  refine good_value (v := .pointer (some ⟨w.heap.size, 0, none⟩)) ?_ hs
  simp [execOp, ho, Instr.alloc, newVar, newRow, zeroValue, typeInfo, f1, v1]

/-! ### Addresses -/

theorem run_fieldAt {P : Program} {tt : TT} (hT : TTok P tt) {t i : Nat} {fs : List A} (hf : fieldOk tt t i fs = true) (b o : Nat) (w : World) :
    (Instr.fieldAt t (.pointer (some ⟨b, o, none⟩)) i).run P w = .ok (.pointer (some ⟨b, o + A.sizes (fs.take i), none⟩)) w := by
  unfold fieldOk at hf
  split at hf
  · rename_i offs sz by' z eq ht
    split at hf
    · rename_i off sz' ho
      simp only [Bool.and_eq_true, beq_iff_eq, bne_iff_ne, ne_eq] at hf
      obtain ⟨fields, g1, g2, g3⟩ := (hT _ _ ht).kind
      rw [← g2, List.getElem?_map] at ho
      cases hfi : fields.toList[i]? with
      | none => simp [hfi] at ho
      | some f =>
        simp only [hfi, Option.map_some, Option.some.injEq, Prod.mk.injEq] at ho
        obtain ⟨rfl, rfl⟩ := ho
        obtain ⟨inf, hinf⟩ := g3 f (List.mem_of_getElem? hfi)
        have hfi' : fields[i]? = some f := by simpa using hfi
        have hsz : inf.size ≠ 0 := by simpa [Program.cellsOf, hinf] using hf.2
        simp [Instr.fieldAt, run_underlying g1, hfi', Instr.sureAddr, fieldPlace, Go.sizeOf, typeInfo, hinf, hsz, Addr.add_lit, hf.1]
    · cases hf
  · cases hf

def fieldAddrO (tt : TT) (n : Fr) (dst : Option Nat) (t i : Nat) (x : Operand) : SM Unit := do
  let y ← opnd x
  fieldAddrA tt n dst t i y

theorem reps_get {S : Still} : ∀ {as : List A} {cs : List Value} {i : Nat} {x : A}, Reps S as cs → as[i]? = some x → ∃ c1 ci c2, cs = c1 ++ ci ++ c2 ∧ c1.length = A.sizes (as.take i) ∧ Rep S x ci
  | [], _, _, _, _, e => by simp at e
  | a :: as, cs, 0, x, r, e => by
    simp at e; subst e
    simp only [Reps] at r
    obtain ⟨c1, c2, rfl, r1, r2⟩ := r
    exact ⟨[], c1, c2, rfl, rfl, r1⟩
  | a :: as, cs, i + 1, x, r, e => by
    simp at e
    simp only [Reps] at r
    obtain ⟨c1, c2, rfl, r1, r2⟩ := r
    obtain ⟨d1, di, d2, rfl, hl, hx⟩ := reps_get r2 e
    exact ⟨c1 ++ d1, di, d2, by simp, by simp [A.sizes, hl, r1.len], hx⟩

theorem Lies.mid {S : Still} {b o : Nat} {c1 ci c2 : List Value} (h : Lies S b o (c1 ++ ci ++ c2)) : Lies S b (o + c1.length) ci := by
  intro j v hj
  have hlt := (List.getElem?_eq_some_iff.1 hj).1
  have := h (c1.length + j) v (by rw [List.append_assoc, List.getElem?_append_right (by omega), Nat.add_sub_cancel_left, List.getElem?_append_left hlt]; exact hj)
  rwa [← Nat.add_assoc] at this

theorem repV_sptr {S : Still} {y : A} {b o : Nat} {l : List Value} (h1 : Rep S y l) (h2 : Lies S b o l) : RepV S (.sptr y) (.pointer (some ⟨b, o, none⟩)) := by
  simp only [RepV]
  exact ⟨[.pointer (some ⟨b, o, none⟩)], by simp only [Rep]; exact ⟨b, o, l, rfl, h1, h2⟩, rfl⟩

theorem fieldAddr_ok {P : Program} {tt : TT} (hT : TTok P tt) (h : Sim C S Fp [] st a w) {o : Oper} {t i : Nat} {x : Operand} (ho : o.op = .fieldAddr t x i) {u : Unit} {R : List Nat} {U : List (Nat × Ent)} (e : fieldAddrO tt C.n o.dst t i x st = some (u, R, U)) : Good P C o a w (applyU U st) := by
  unfold fieldAddrO fieldAddrA at e
  obtain ⟨y, R1, U1, R2, U2, h1, e1, rfl, rfl⟩ := bind_some e
  obtain ⟨rfl, hx⟩ := opnd_ok h h1
  obtain ⟨q, R3, U3, R4, U4, h3, e2, rfl, rfl⟩ := bind_some e1
  obtain ⟨rfl, hq⟩ := ptrOf_ok h hx h3
  simp only [applyU, List.nil_append] at e2 ⊢
  cases q with
  | inl y =>
    cases y <;> try exact (sfail_some e2).elim
    rename_i fs
    simp only at e2
    cases hy : fs[i]? with
    | none => simp only [hy] at e2; exact (sfail_some e2).elim
    | some y =>
      simp only [hy] at e2
      split at e2
      · rename_i hf
        obtain ⟨b, o', l, ev, r1, r2⟩ := hq
        simp only [Rep] at r1
        obtain ⟨c1, ci, c2, rfl, hl, hr⟩ := reps_get r1 hy
        obtain ⟨Fp', hs⟩ := wr_ok h e2 (x := .d (.sptr y)) (repV_sptr hr r2.mid)
        refine good_value ?_ hs
        rw [hl]
        simp [execOp, ho, ev, run_fieldAt hT hf]
      · exact (sfail_some e2).elim
  | inr q =>
    obtain ⟨r, p, er, ec⟩ := q
    obtain ⟨z, R7, U7, R8, U8, h7, e4, rfl, rfl⟩ := bind_some e2
    obtain ⟨rfl, x0, k1, k2, k3, k4⟩ := lookP_some h7
    simp only [applyU, List.nil_append] at e4 ⊢
    cases z <;> try exact (sfail_some e4).elim
    rename_i fs
    simp only at e4
    split at e4
    · rename_i hf
      obtain ⟨b, o', ev, hp⟩ := ptr_fld hq k1 k2 k3 k4 hf.2
      rw [k2, k3] at hp
      have hp' : TOk S w.heap st (Act.tv a) (T.ptr r (p ++ [Step.fld i]) er ec) (.pointer (some ⟨b, o' + A.sizes (fs.take i), none⟩)) := hp
      obtain ⟨Fp', hs⟩ := wr_ok h e4 hp'
      refine good_value ?_ hs
      simp [execOp, ho, ev, run_fieldAt hT hf.1]
    · exact (sfail_some e4).elim

theorem elemSize_some {P : Program} {tt : TT} (hT : TTok P tt) {t sz : Nat} (h : elemSize tt t = some sz) (w : World) : ∃ e, P.underlying t = some (.slice e) ∧ (Go.sizeOf e).run P w = .ok sz w := by
  unfold elemSize at h
  split at h
  · rename_i e s b z q ht
    obtain ⟨i, hi, rfl⟩ := Option.map_eq_some_iff.1 h
    exact ⟨e, (hT _ _ ht).kind, run_sizeOf hT hi w⟩
  · cases h

theorem run_indexAt {P : Program} {t e sz : Nat} {w : World} (h1 : P.underlying t = some (.slice e)) (h2 : (Go.sizeOf e).run P w = .ok sz w) {b o n c : Nat} {k : IntKind} {j : Int} (h0 : 0 ≤ j) (hj : j.toNat < n) :
    (Instr.indexAt t (.slice (some ⟨b, o, none⟩) n c) (.int k j)).run P w = .ok (.pointer (some ⟨b, o + j.toNat * sz, none⟩)) w := by
  have : j < (n : Int) := by omega
  simp [Instr.indexAt, asIntOf, run_underlying h1, h0, this, h2, Addr.add_lit]

def arrOf (tt : TT) (t : Nat) : Option (Nat × Nat) :=
  match tt t with
  | some ⟨.array n e, _, _, _, _⟩ => (tt e).map fun i => (n, i.size)
  | _ => none
def arrOk (tt : TT) (t : Nat) (fs : List A) (j : Int) : Bool :=
  match arrOf tt t with
  | some (n, sz) => fs.length == n && decide (0 ≤ j) && fs.all fun x => x.size == sz
  | none => false

/-- The address of an element of an array. -/
def indexArrA (tt : TT) (n : Fr) (dst : Option Nat) (t : Nat) (x : T) (i : A) : SM Unit :=
  match i with
  | .atom (.int _ j) => do
    let q ← ptrOf x
    match q with
    | .inl (.agg fs) =>
      match fs[j.toNat]? with
      | some y => if arrOk tt t fs j = true then wrT n dst (.d (.sptr y)) else sfail
      | none => sfail
    | .inl _ => sfail
    | .inr (r, p, er, ec) => do
      let y ← lookP r p er ec
      match y with
      | .agg fs => if arrOk tt t fs j = true ∧ j.toNat < fs.length then wrT n dst (.ptr r (p ++ [.fld j.toNat]) er ec) else sfail
      | _ => sfail
  | _ => sfail

theorem run_indexArr {P : Program} {tt : TT} (hT : TTok P tt) {t : Nat} {fs : List A} {j : Int} (hf : arrOk tt t fs j = true) (hj : j.toNat < fs.length) (k : IntKind) (b o : Nat) (w : World) :
    (Instr.indexAt t (.pointer (some ⟨b, o, none⟩)) (.int k j)).run P w = .ok (.pointer (some ⟨b, o + A.sizes (fs.take j.toNat), none⟩)) w := by
  unfold arrOk at hf
  split at hf
  · rename_i n sz ha
    unfold arrOf at ha
    split at ha
    · rename_i n' e s' b' z' q' ht
      obtain ⟨i, hi, he⟩ := Option.map_eq_some_iff.1 ha
      simp only [Prod.mk.injEq] at he
      obtain ⟨rfl, rfl⟩ := he
      simp only [Bool.and_eq_true, beq_iff_eq, decide_eq_true_eq, List.all_eq_true] at hf
      obtain ⟨⟨h1, h0⟩, h2⟩ := hf
      have hu := (hT _ _ ht).kind
      have hsz := run_sizeOf hT hi w
      have hlt : j < (n' : Int) := by omega
      have hs : A.sizes (fs.take j.toNat) = j.toNat * i.size := by
        rw [A.sizes_const (sz := i.size) (fun x hx => h2 x (List.mem_of_mem_take hx)), List.length_take, Nat.min_eq_left (by omega)]
      rw [hs]
      simp only [KindOk] at hu
      simp [Instr.indexAt, asIntOf, run_underlying hu, h0, hlt, hsz, Instr.sureAddr, Addr.add_lit]
    · cases ha
  · cases hf

def indexAddrO (tt : TT) (n : Fr) (dst : Option Nat) (t : Nat) (x i : Operand) : SM Unit := do
  let y ← opnd x
  let ti ← opnd i
  let vi ← val ti
  if (arrOf tt t).isSome = true then indexArrA tt n dst t y vi else indexAddrA tt n dst t y vi

/-- The address of an element of a slice that is written no more. -/
theorem sl_index {P : Program} {tt : TT} (hT : TTok P tt) {t sz : Nat} {tg : Bool} {xs : List A} {v : Value} (hr : RepV S (.sl sz tg xs) v) (hs : elemSize tt t = some sz) {k : IntKind} {j : Int} (h0 : 0 ≤ j) {y : A} (hy : xs[j.toNat]? = some y) (w : World) :
    ∃ u, RepV S (.sptr y) u ∧ (Instr.indexAt t v (.int k j)).run P w = .ok u w := by
  simp only [RepV] at hr
  obtain ⟨cs, r1, rfl⟩ := hr
  simp only [Rep] at r1
  obtain ⟨p, c, rfl, _, _, h4, h5⟩ := r1
  rcases h5 with rfl | ⟨b, o, l, rfl, r2, r3⟩
  · simp at hy
  obtain ⟨e, he, hsz⟩ := elemSize_some hT hs w
  obtain ⟨c1, ci, c2, rfl, hl, hx⟩ := reps_get r2 hy
  have hlt := (List.getElem?_eq_some_iff.1 hy).1
  have hc1 : c1.length = j.toNat * sz := by
    rw [hl, A.sizes_const (sz := sz) (fun x hx => h4 x (List.mem_of_mem_take hx)), List.length_take, Nat.min_eq_left (by omega)]
  refine ⟨_, repV_sptr hx r3.mid, ?_⟩
  rw [hc1]
  exact run_indexAt he hsz h0 hlt

theorem indexArr_ok {P : Program} {tt : TT} (hT : TTok P tt) (h : Sim C S Fp [] st a w) {o : Oper} {t : Nat} {x i : Operand} (ho : o.op = .indexAddr t x i) {y : T} (hx : TOk S w.heap st (Act.tv a) y (a.eval x)) {vi : A} (qi : RepV S vi (a.eval i))
    {u : Unit} {R : List Nat} {U : List (Nat × Ent)} (e : indexArrA tt C.n o.dst t y vi st = some (u, R, U)) : Good P C o a w (applyU U st) := by
  unfold indexArrA at e
  cases vi with
  | atom vv =>
    cases vv with
    | int k j =>
      simp only at e
      obtain ⟨ei, _⟩ := repV_atom.1 qi
      obtain ⟨q, R3, U3, R4, U4, h3, e2, rfl, rfl⟩ := bind_some e
      obtain ⟨rfl, hq⟩ := ptrOf_ok h hx h3
      simp only [applyU, List.nil_append] at e2 ⊢
      cases q with
      | inl y =>
        cases y <;> try exact (sfail_some e2).elim
        rename_i fs
        simp only at e2
        cases hy : fs[j.toNat]? with
        | none => simp only [hy] at e2; exact (sfail_some e2).elim
        | some y =>
          simp only [hy] at e2
          split at e2
          · rename_i hf
            obtain ⟨b, o', l, ev, r1, r2⟩ := hq
            simp only [Rep] at r1
            obtain ⟨c1, ci, c2, rfl, hl, hr⟩ := reps_get r1 hy
            obtain ⟨Fp', hs⟩ := wr_ok h e2 (x := .d (.sptr y)) (repV_sptr hr r2.mid)
            refine good_value ?_ hs
            rw [hl]
            simp [execOp, ho, ev, ei, run_indexArr hT hf (List.getElem?_eq_some_iff.1 hy).1]
          · exact (sfail_some e2).elim
      | inr q =>
        obtain ⟨r, p, er, ec⟩ := q
        obtain ⟨z, R7, U7, R8, U8, h7, e4, rfl, rfl⟩ := bind_some e2
        obtain ⟨rfl, x0, k1, k2, k3, k4⟩ := lookP_some h7
        simp only [applyU, List.nil_append] at e4 ⊢
        cases z <;> try exact (sfail_some e4).elim
        rename_i fs
        simp only at e4
        split at e4
        · rename_i hf
          obtain ⟨b, o', ev, hp⟩ := ptr_fld hq k1 k2 k3 k4 hf.2
          rw [k2, k3] at hp
          have hp' : TOk S w.heap st (Act.tv a) (T.ptr r (p ++ [Step.fld j.toNat]) er ec) (.pointer (some ⟨b, o' + A.sizes (fs.take j.toNat), none⟩)) := hp
          obtain ⟨Fp', hs⟩ := wr_ok h e4 hp'
          refine good_value ?_ hs
          simp [execOp, ho, ev, ei, run_indexArr hT hf.1 hf.2]
        · exact (sfail_some e4).elim
    | _ => exact (sfail_some e).elim
  | _ => exact (sfail_some e).elim

theorem indexAddr_ok {P : Program} {tt : TT} (hT : TTok P tt) (h : Sim C S Fp [] st a w) {o : Oper} {t : Nat} {x i : Operand} (ho : o.op = .indexAddr t x i) {u : Unit} {R : List Nat} {U : List (Nat × Ent)} (e : indexAddrO tt C.n o.dst t x i st = some (u, R, U)) : Good P C o a w (applyU U st) := by
  unfold indexAddrO at e
  obtain ⟨y, R1, U1, R2, U2, h1, e1, rfl, rfl⟩ := bind_some e
  obtain ⟨rfl, hx⟩ := opnd_ok h h1
  obtain ⟨ti, R3, U3, R4, U4, h3, e2, rfl, rfl⟩ := bind_some e1
  obtain ⟨rfl, hi⟩ := opnd_ok h h3
  obtain ⟨vi, R5, U5, R6, U6, h5, e3, rfl, rfl⟩ := bind_some e2
  obtain ⟨rfl, qi⟩ := val_ok h hi h5
  simp only [applyU, List.nil_append] at e3 ⊢
  split at e3
  · exact indexArr_ok hT h ho hx qi e3
  unfold indexAddrA at e3
  cases vi with
  | atom vv =>
    cases vv with
    | int k j =>
      simp only at e3
      obtain ⟨ei, _⟩ := repV_atom.1 qi
      cases y with
      | d z =>
        cases z with
        | sl sz tg xs =>
          simp only at e3
          split at e3
          · rename_i hc
            cases hy : xs[j.toNat]? with
            | none => simp only [hy] at e3; exact (sfail_some e3).elim
            | some y =>
              simp only [hy] at e3
              obtain ⟨v, rv, hrun⟩ := sl_index hT hx hc.1 (k := k) hc.2 hy w
              obtain ⟨Fp', hs⟩ := wr_ok h e3 (x := .d (.sptr y)) rv
              exact good_value (by simp [execOp, ho, ei, hrun]) hs
          · exact (sfail_some e3).elim
        | _ => exact (sfail_some e3).elim
      | als r p er ec =>
        obtain ⟨en, R7, U7, R8, U8, h7, e4, rfl, rfl⟩ := bind_some e3
        obtain ⟨rfl, rfl, rfl⟩ := rdE_some h7
        obtain ⟨z, R9, U9, R10, U10, h9, e5, rfl, rfl⟩ := bind_some e4
        simp only [applyU, List.nil_append] at h9 e5 ⊢
        obtain ⟨rfl, q⟩ := look_ok h hx h9
        simp only [applyU, List.nil_append] at e5 ⊢
        cases z with
        | osl sz tg es =>
          simp only at e5
          split at e5
          · rename_i hc
            rcases q with ⟨x0, cs, F, q1, q2, q3, q4, q5, q6, _⟩ | ⟨q1, q2, q3, q4, q5⟩
            · obtain ⟨b, c, ev, hp⟩ := als_idx h hx q1 q2 q3 q4 hc.2.2
              obtain ⟨e', he, hsz⟩ := elemSize_some hT hc.1 w
              have hp' : TOk S w.heap st (Act.tv a) (T.ptr r (p ++ [Step.idx j.toNat]) (st r).er (st r).ec) (.pointer (some ⟨b, j.toNat * sz, none⟩)) := hp
              obtain ⟨Fp', hs⟩ := wr_ok h e5 hp'
              refine good_value ?_ hs
              simp [execOp, ho, ei, ev, run_indexAt he hsz hc.2.1 hc.2.2]
            · simp only [RepV] at q5
              obtain ⟨cs, q5, _⟩ := q5
              simp [Rep] at q5
          · exact (sfail_some e5).elim
        | sl sz tg xs =>
          simp only at e5
          have hv : RepV S (.sl sz tg xs) (a.eval x) := by
            rcases q with ⟨x0, cs, F, q1, q2, q3, q4, q5, q6, _⟩ | ⟨q1, q2, q3, q4, q5⟩
            · exact Rep1.repV ⟨cs, (q5.isD rfl).1, q6⟩
            · exact q5
          split at e5
          · rename_i hc
            cases hy : xs[j.toNat]? with
            | none => simp only [hy] at e5; exact (sfail_some e5).elim
            | some y =>
              simp only [hy] at e5
              obtain ⟨v, rv, hrun⟩ := sl_index hT hv hc.1 (k := k) hc.2 hy w
              obtain ⟨Fp', hs⟩ := wr_ok h e5 (x := .d (.sptr y)) rv
              exact good_value (by simp [execOp, ho, ei, hrun]) hs
          · exact (sfail_some e5).elim
        | _ => exact (sfail_some e5).elim
      | _ => exact (sfail_some e3).elim
    | _ => exact (sfail_some e3).elim
  | _ => exact (sfail_some e3).elim

/-! ### Stores -/

theorem take_upd {x : T} {st : St} {y : A} {R : List Nat} {U : List (Nat × Ent)} (e : take x st = some (y, R, U)) : U = [] ∨ ∃ r e', U = [(r, e')] ∧ (st r).ec < e'.ec := by
  cases x with
  | d z => simp only [take] at e; obtain ⟨_, _, rfl⟩ := pure_some e; exact .inl rfl
  | als r p er ec =>
    simp only [take] at e
    obtain ⟨z, R1, U1, R2, U2, h1, h2, rfl, rfl⟩ := bind_some e
    obtain ⟨rfl, _⟩ := look_some h1
    simp only [applyU, List.nil_append] at h2 ⊢
    split at h2
    · obtain ⟨_, _, rfl⟩ := pure_some h2; exact .inl rfl
    · obtain ⟨en, R3, U3, R4, U4, h3, h4, rfl, rfl⟩ := bind_some h2
      obtain ⟨rfl, rfl, rfl⟩ := rdE_some h3
      simp only [applyU, List.nil_append] at h4 ⊢
      cases ht : (st r).t with
      | own x =>
        simp only [ht] at h4
        split at h4
        · obtain ⟨u5, R5, U5, R6, U6, h5, h6, rfl, rfl⟩ := bind_some h4
          obtain ⟨rfl, rfl⟩ := wrE_some h5
          obtain ⟨_, _, rfl⟩ := pure_some h6
          exact .inr ⟨r, _, rfl, Nat.lt_succ_self _⟩
        · obtain ⟨u5, R5, U5, R6, U6, h5, h6, rfl, rfl⟩ := bind_some h4
          obtain ⟨rfl, rfl⟩ := wrE_some h5
          obtain ⟨_, _, rfl⟩ := pure_some h6
          exact .inr ⟨r, _, rfl, Nat.lt_succ_self _⟩
      | gone => simp only [ht] at h4; exact (sfail_some h4).elim
      | d _ => simp only [ht] at h4; exact (sfail_some h4).elim
      | als _ _ _ _ => simp only [ht] at h4; exact (sfail_some h4).elim
      | ptr _ _ _ _ => simp only [ht] at h4; exact (sfail_some h4).elim
  | gone => simp only [take] at e; exact (sfail_some e).elim
  | own _ => simp only [take] at e; exact (sfail_some e).elim
  | ptr _ _ _ _ => simp only [take] at e; exact (sfail_some e).elim

theorem takeC_upd {tt : TT} {t : Nat} {x : T} {st : St} {y : A} {R : List Nat} {U : List (Nat × Ent)} (e : takeC tt t x st = some (y, R, U)) : U = [] ∨ ∃ r e', U = [(r, e')] ∧ (st r).ec < e'.ec := by
  unfold takeC at e
  obtain ⟨z, R1, U1, R2, U2, h1, h2, rfl, rfl⟩ := bind_some e
  obtain ⟨_, _, rfl⟩ := pure_some h2
  simpa using take_upd h1

def storeO (tt : TT) (dst : Option Nat) (t : Nat) (x v : Operand) : SM Unit := do
  if dst = none then
    let y ← opnd x
    let z ← opnd v
    storeA tt t y z
  else sfail

theorem fits_agg {tt : TT} {t : Nat} {y : A} (h : fitsT tt t y = true) : y.isAgg = true ∨ y.size = 1 := by
  unfold fitsT at h
  split at h
  · simp only [Bool.and_eq_true, beq_iff_eq, Bool.or_eq_true] at h
    rcases h.2 with h2 | h2
    · exact .inl (by rw [← h.1.1]; exact h2)
    · exact .inr (by rw [← h.1.2]; exact h2)
  · cases h

theorem run_storeVar {P : Program} {tt : TT} (hT : TTok P tt) {t : Nat} {y : A} (hf : fitsT tt t y = true) {w : World} {b o : Nat} {arr : Array Value} {ty : TypeId} {cs : List Value} (hl : cs.length = y.size) (h1 : ∀ u ∈ cs, u.oneCell' = true)
    (hb : w.heap[b]? = some (.cells arr ty (0, 0))) (hfit : o + cs.length ≤ arr.size) :
    (storeVar t ⟨b, o, none⟩ (valOf y cs)).run P w = .ok () (w.setRow b (over arr o cs)) := by
  have hcl := cells_valOf (y := y) h1 ((fits_agg hf).imp id (fun h => by rw [hl]; exact h))
  unfold fitsT at hf
  split at hf
  · rename_i i hi
    simp only [Bool.and_eq_true, beq_iff_eq, Bool.or_eq_true] at hf
    have hst := run_storeCells_at P b o ty cs 0 arr w hb (by simpa using hfit) h1
    simp only [Nat.add_zero] at hst
    rw [setRow_take_over hfit] at hst
    unfold storeVar
    simp only [Sem.run_bind, hcl, List.size_toArray, run_sizeOf hT hi, Result.andThen_ok]
    simp [hf.1.2, hl, hst]
  · cases hf

theorem Sits.le {arr : Array Value} {o : Nat} {l : List Value} (h : Sits arr o l) (hl : 0 < l.length) : o + l.length ≤ arr.size := by
  have := h (l.length - 1) _ (List.getElem?_eq_getElem (by omega))
  have := (Array.getElem?_eq_some_iff.1 this).1
  omega

theorem setP_valOf {p : List Step} (h : ownP p = true) (x z : A) (cs : List Value) : valOf (setP p x z) cs = valOf x cs := by
  cases p with
  | nil => simp [ownP] at h
  | cons s p' =>
    cases s with
    | fld _ => simp [ownP] at h
    | deref => cases x <;> simp [setP, valOf]
    | idx _ => cases x <;> simp [setP, valOf]

theorem store_ok {P : Program} {tt : TT} (hT : TTok P tt) (h : Sim C S Fp [] st a w) {o : Oper} {t : Nat} {x v : Operand} (ho : o.op = .store t x v) {u : Unit} {R : List Nat} {U : List (Nat × Ent)} (e : storeO tt o.dst t x v st = some (u, R, U)) : Good P C o a w (applyU U st) := by
  unfold storeO at e
  split at e
  · rename_i hd
    obtain ⟨y, R1, U1, R2, U2, h1, e1, rfl, rfl⟩ := bind_some e
    obtain ⟨rfl, hx⟩ := opnd_ok h h1
    obtain ⟨z, R3, U3, R4, U4, h3, e2, rfl, rfl⟩ := bind_some e1
    obtain ⟨rfl, hz⟩ := opnd_ok h h3
    simp only [applyU, List.nil_append] at e2 ⊢
    unfold storeA at e2
    obtain ⟨q, R5, U5, R6, U6, h5, e3, rfl, rfl⟩ := bind_some e2
    obtain ⟨rfl, hq⟩ := ptrOf_ok h hx h5
    simp only [applyU, List.nil_append] at e3 ⊢
    cases q with
    | inl _ => exact (sfail_some e3).elim
    | inr q =>
      obtain ⟨r, p, er, ec⟩ := q
      obtain ⟨s, R7, U7, R8, U8, h7, e4, rfl, rfl⟩ := bind_some e3
      obtain ⟨Fp', F, g1, g2⟩ := takeC_ok h hz h7
      obtain ⟨en, R9, U9, R10, U10, h9, e5, rfl, rfl⟩ := bind_some e4
      obtain ⟨rfl, rfl, rfl⟩ := rdE_some h9
      simp only [applyU, List.nil_append] at e5 ⊢
      rw [applyU_append]
      have hsame : applyU U7 st r = st r := by
        rcases takeC_upd h7 with rfl | ⟨r', e', rfl, hlt⟩
        · rfl
        · by_cases hr : r = r'
          · subst hr
            exfalso
            simp only [applyU, upd_same] at e5
            have hec := hq.2.1
            cases ht : e'.t with
            | own x0 =>
              simp only [ht] at e5
              split at e5
              · omega
              · exact (sfail_some e5).elim
            | gone => simp only [ht] at e5; exact (sfail_some e5).elim
            | d _ => simp only [ht] at e5; exact (sfail_some e5).elim
            | als _ _ _ _ => simp only [ht] at e5; exact (sfail_some e5).elim
            | ptr _ _ _ _ => simp only [ht] at e5; exact (sfail_some e5).elim
          · simp only [applyU, upd_ne _ _ hr]
      have hq' : PtrOk w.heap (applyU U7 st) (Act.tv a) r p er ec (a.eval x) := by
        have hq1 : PtrOk w.heap st (Act.tv a) r p er ec (a.eval x) := hq
        unfold PtrOk at hq1 ⊢
        rw [hsame]
        exact hq1
      cases ht : (applyU U7 st r).t with
      | own x0 =>
        simp only [ht] at e5
        split at e5
        · rename_i hc
          cases hg : getP p x0 with
          | none => simp only [hg] at e5; exact (sfail_some e5).elim
          | some y0 =>
            simp only [hg] at e5
            split at e5
            · rename_i hc2
              obtain ⟨rfl, rfl⟩ := wrE_some e5
              obtain ⟨b, o', arr, ty, csy, Fy, cs, ev, o1, f2, f3, f4, f5, f6, f7, f8, f9, f10, f11, f12⟩ := ptr_place g1 hq' ht hc.1 hc.2 hg
              have hst : ∀ fs, s ≠ .tup fs := by
                rintro fs rfl
                rcases fits_agg hc2.2 with h | h
                · simp [A.isAgg] at h
                · simp [A.size] at h
              obtain ⟨csz, c1, c2, c3⟩ := g2.cells hst
              have hlen : csz.length = csy.length := by rw [c1.len, f4.len, hc2.1]
              have hFd : ∀ k ∈ F, ∀ t, k ∉ Fp' t := fun k hk t => g1.xd t k (by simp [hk])
              have hbF : b ∉ F := fun hb => hFd b hb r f6
              let w' := w.setRow b (over arr o' csz)
              have hheap : ∀ k, k ≠ b → w'.heap[k]? = w.heap[k]? := fun k hk => setRow_other w b k _ hk
              have hheapb : w'.heap[b]? = some (.cells (over arr o' csz) ty (0, 0)) := setRow_heap w b arr _ ty (0, 0) f2
              have hbase : C.M b := g1.base r b f6
              have hSb : ∀ o, S b o = none := (g1.free r b f6).2.1
              obtain ⟨F0', d1, d2, d3⟩ := f12 S w'.heap s csz F (fun _ _ _ h => h) hlen (c1.frame (fun _ _ _ h => h) (fun k hk => ⟨hheap k (fun e => hbF (e ▸ hk)), (c1.own k hk).2.1⟩)) c2 (fun k hk _ => (g1.free r k hk).2.1) (fun k _ _ hk => hheap k hk) hheapb (fun k hk hk' => absurd hk' (hFd k hk r))
              refine good_skip (w' := w') ?_ hd (S := S) (Fp := updF Fp' r F0') ?_
              · have hrun : (storeVar t ⟨b, o', none⟩ (valOf s csz)).run P w = .ok () w' := by
                  by_cases hz : csz.length = 0
                  · -- no cells
                    have hnil : csz = [] := List.eq_nil_of_length_eq_zero hz
                    subst hnil
                    have hov : w' = w := by
                      show w.setRow b (over arr o' []) = w
                      rw [over_same (by intro j v hj; simp at hj)]
                      exact setRow_self w b arr ty (0, 0) f2
                    rw [hov]
                    have hsz : s.size = 0 := by rw [← c1.len]; rfl
                    have hag := (fits_agg hc2.2).resolve_right (by omega)
                    have hcl := cells_valOf (y := s) c1.one (.inl hag)
                    have hf := hc2.2
                    unfold fitsT at hf
                    split at hf
                    · rename_i i hi
                      simp only [Bool.and_eq_true, beq_iff_eq, Bool.or_eq_true] at hf
                      unfold storeVar
                      simp only [Sem.run_bind, hcl, List.size_toArray, run_sizeOf hT hi, Result.andThen_ok]
                      simp [hf.1.2, hsz, storeCells]
                    · cases hf
                  · exact run_storeVar hT hc2.2 c1.len c1.one f2 (by rw [hlen]; exact f3.le (by omega))
                simp [execOp, ho, ev, c3, Instr.storeAt, Instr.sureAddr, hrun]
              · simp only [applyU]
                refine g1.change r (.own (setP p x0 s)) _ _ F0' ?_ (fun _ _ _ h => h) ?_ g1.sbase ?_ ⟨⟨cs, d1, d2, by rw [setP_valOf o1]; exact f10⟩, x0, ht⟩ (.inl ⟨x0, ht⟩) (Nat.le_refl _) (Nat.lt_succ_self _) ?_ ?_ (by simp) (by simp) (by simp) (by simp)
                · exact g1.below.trans ⟨rfl, rfl, rfl, by simp [w'], fun k hk => hheap k (fun e => hk (e ▸ hbase))⟩
                · intro b' o'' v hs
                  rw [cellAt_frame (h := w.heap) (h' := w'.heap) (hheap b' (by rintro rfl; rw [hSb] at hs; cases hs))]
                  exact g1.still b' o'' v hs
                · intro t' k htr hk
                  exact ⟨hheap k (by rintro rfl; exact htr (g1.disj t' r k hk f6)), (g1.free t' k hk).2.1⟩
                · intro t' k htr hk hk'
                  rcases (d3 k).1 hk with h | h
                  · exact htr (g1.disj t' r k hk' h.1)
                  · exact hFd k h t' hk'
                · intro k hk
                  rcases (d3 k).1 hk with h | h
                  · exact g1.base r k h.1
                  · exact g1.xb k (by simp [h])
            · exact (sfail_some e5).elim
        · exact (sfail_some e5).elim
      | gone => simp only [ht] at e5; exact (sfail_some e5).elim
      | d _ => simp only [ht] at e5; exact (sfail_some e5).elim
      | als _ _ _ _ => simp only [ht] at e5; exact (sfail_some e5).elim
      | ptr _ _ _ _ => simp only [ht] at e5; exact (sfail_some e5).elim
  · exact (sfail_some e).elim

end
end Go.Own

namespace Go.Own

section
variable {C : Ctx} {S : Still} {Fp : Nat → List Nat} {X : List Nat} {st : St} {a : Act} {w : World}

/-- What is looked at: its value's cells. -/
theorem peek_ok (h : Sim C S Fp X st a w) {x : T} {v : Value} (hx : TOk S w.heap st (Act.tv a) x v) {y : A} {R : List Nat} {U : List (Nat × Ent)} (e : peek x st = some (y, R, U)) :
    U = [] ∧ (RepV S y v ∨ ∃ cs F, Conc S w.heap y cs F ∧ v = valOf y cs) := by
  cases x with
  | d z => simp only [peek] at e; obtain ⟨rfl, rfl, rfl⟩ := pure_some e; exact ⟨rfl, .inl hx⟩
  | als r p er ec =>
    simp only [peek] at e
    obtain ⟨rfl, q⟩ := look_ok h hx e
    refine ⟨rfl, ?_⟩
    rcases q with ⟨x, cs, F, _, _, _, _, q5, q6, _⟩ | ⟨_, _, _, _, q5⟩
    · exact .inr ⟨cs, F, q5, q6⟩
    · exact .inl q5
  | gone => simp only [peek] at e; exact (sfail_some e).elim
  | own _ => simp only [peek] at e; exact (sfail_some e).elim
  | ptr _ _ _ _ => simp only [peek] at e; exact (sfail_some e).elim

def lenO (tt : TT) (n : Fr) (dst : Option Nat) (t : Nat) (x : Operand) : SM Unit := do
  let y ← opnd x
  let z ← peek y
  let m ← ofO (lenOf z)
  if isSliceT tt t = true then wrT n dst (.d (.atom (.int .i64 m))) else sfail

def capO (tt : TT) (n : Fr) (dst : Option Nat) (t : Nat) (x : Operand) : SM Unit := do
  let y ← opnd x
  let z ← peek y
  let m ← ofO (capOf z)
  if isSliceT tt t = true then wrT n dst (.d (.atom (.int .i64 m))) else sfail

theorem lenOf_ok {z : A} {m : Nat} (hm : lenOf z = some m) {v : Value} (q : RepV S z v ∨ ∃ cs F, Conc S w.heap z cs F ∧ v = valOf z cs) : ∃ p c, v = .slice p m c := by
  unfold lenOf at hm
  split at hm
  · simp only [Option.some.injEq] at hm; subst hm
    rename_i sz tg xs
    have : ∃ cs, Rep S (.sl sz tg xs) cs ∧ v = valOf (.sl sz tg xs) cs := by
      rcases q with q | ⟨cs, F, q1, q2⟩
      · exact q
      · exact ⟨cs, (q1.isD rfl).1, q2⟩
    obtain ⟨cs, r1, rfl⟩ := this
    simp only [Rep] at r1
    obtain ⟨p, c, rfl, _⟩ := r1
    exact ⟨p, c, rfl⟩
  · simp only [Option.some.injEq] at hm; subst hm
    rcases q with ⟨cs, q, _⟩ | ⟨cs, F, q1, rfl⟩
    · simp [Rep] at q
    · simp only [Conc] at q1
      obtain ⟨p, c, rfl, _⟩ := q1
      exact ⟨p, c, rfl⟩
  · simp only [Option.some.injEq] at hm; subst hm
    rcases q with q | ⟨cs, F, q1, q2⟩
    · exact ⟨none, 0, (repV_atom.1 q).1⟩
    · exact ⟨none, 0, (rep1_atom.1 ⟨cs, (q1.isD rfl).1, q2⟩).1⟩
  · cases hm

theorem capOf_ok {z : A} {m : Nat} (hm : capOf z = some m) {v : Value} (q : RepV S z v ∨ ∃ cs F, Conc S w.heap z cs F ∧ v = valOf z cs) : ∃ p c, v = .slice p c m := by
  unfold capOf at hm
  split at hm
  · simp only [Option.some.injEq] at hm; subst hm
    rename_i sz xs
    have : ∃ cs, Rep S (.sl sz true xs) cs ∧ v = valOf (.sl sz true xs) cs := by
      rcases q with q | ⟨cs, F, q1, q2⟩
      · exact q
      · exact ⟨cs, (q1.isD rfl).1, q2⟩
    obtain ⟨cs, r1, rfl⟩ := this
    simp only [Rep] at r1
    obtain ⟨p, c, rfl, hc, _⟩ := r1
    exact ⟨p, _, by rw [hc trivial]; rfl⟩
  · simp only [Option.some.injEq] at hm; subst hm
    rcases q with ⟨cs, q, _⟩ | ⟨cs, F, q1, rfl⟩
    · simp [Rep] at q
    · simp only [Conc] at q1
      obtain ⟨p, c, rfl, hc, _⟩ := q1
      exact ⟨p, _, by rw [hc trivial]; rfl⟩
  · simp only [Option.some.injEq] at hm; subst hm
    rcases q with q | ⟨cs, F, q1, q2⟩
    · exact ⟨none, 0, (repV_atom.1 q).1⟩
    · exact ⟨none, 0, (rep1_atom.1 ⟨cs, (q1.isD rfl).1, q2⟩).1⟩
  · cases hm

theorem isSliceT_ok {P : Program} {tt : TT} (hT : TTok P tt) {t : Nat} (h : isSliceT tt t = true) : ∃ e, P.underlying t = some (.slice e) := by
  unfold isSliceT at h
  split at h
  · rename_i e _ _ _ _ ht
    exact ⟨e, (hT _ _ ht).kind⟩
  · cases h

theorem len_ok {P : Program} {tt : TT} (hT : TTok P tt) (h : Sim C S Fp [] st a w) {o : Oper} {t : Nat} {x : Operand} (ho : o.op = .call { callee := .builtin .len, args := #[x], argTypes := #[t] }) {u : Unit} {R : List Nat} {U : List (Nat × Ent)} (e : lenO tt C.n o.dst t x st = some (u, R, U)) : Good P C o a w (applyU U st) := by
  unfold lenO at e
  obtain ⟨y, R1, U1, R2, U2, h1, e1, rfl, rfl⟩ := bind_some e
  obtain ⟨rfl, hx⟩ := opnd_ok h h1
  obtain ⟨z, R3, U3, R4, U4, h3, e2, rfl, rfl⟩ := bind_some e1
  obtain ⟨rfl, q⟩ := peek_ok h hx h3
  obtain ⟨m, R5, U5, R6, U6, h5, e3, rfl, rfl⟩ := bind_some e2
  obtain ⟨hm, rfl, rfl⟩ := ofO_some h5
  simp only [applyU, List.nil_append] at e3 ⊢
  split at e3
  · rename_i ht
    obtain ⟨el, hel⟩ := isSliceT_ok hT ht
    obtain ⟨p, c, ev⟩ := lenOf_ok hm q
    obtain ⟨Fp', hs⟩ := wr_ok h e3 (x := .d (.atom (.int .i64 m))) (repV_atom.2 ⟨rfl, rfl⟩)
    exact good_value (by simp [execOp, ho, resolve, invoke, builtin, Builtin.len_, run_underlying hel, ev, goInt]) hs
  · exact (sfail_some e3).elim

theorem cap_ok {P : Program} {tt : TT} (hT : TTok P tt) (h : Sim C S Fp [] st a w) {o : Oper} {t : Nat} {x : Operand} (ho : o.op = .call { callee := .builtin .cap, args := #[x], argTypes := #[t] }) {u : Unit} {R : List Nat} {U : List (Nat × Ent)} (e : capO tt C.n o.dst t x st = some (u, R, U)) : Good P C o a w (applyU U st) := by
  unfold capO at e
  obtain ⟨y, R1, U1, R2, U2, h1, e1, rfl, rfl⟩ := bind_some e
  obtain ⟨rfl, hx⟩ := opnd_ok h h1
  obtain ⟨z, R3, U3, R4, U4, h3, e2, rfl, rfl⟩ := bind_some e1
  obtain ⟨rfl, q⟩ := peek_ok h hx h3
  obtain ⟨m, R5, U5, R6, U6, h5, e3, rfl, rfl⟩ := bind_some e2
  obtain ⟨hm, rfl, rfl⟩ := ofO_some h5
  simp only [applyU, List.nil_append] at e3 ⊢
  split at e3
  · rename_i ht
    obtain ⟨el, hel⟩ := isSliceT_ok hT ht
    obtain ⟨p, c, ev⟩ := capOf_ok hm q
    obtain ⟨Fp', hs⟩ := wr_ok h e3 (x := .d (.atom (.int .i64 m))) (repV_atom.2 ⟨rfl, rfl⟩)
    exact good_value (by simp [execOp, ho, resolve, invoke, builtin, Builtin.cap_, run_underlying hel, ev, goInt]) hs
  · exact (sfail_some e3).elim

def nilCheckO (n : Fr) (dst : Option Nat) (x : Operand) : SM Unit := do
  let y ← opnd x
  match y with
  | .d (.fn f cs) => wrT n dst (.d (.fn f cs))
  | y => do
    let q ← ptrOf y
    match q with
    | .inl _ => wrT n dst y
    | .inr (r, p, er, ec) => do
      let _ ← lookP r p er ec
      wrT n dst y

theorem ptrOk_ptr {r : Nat} {p : List Step} {er ec : Nat} {v : Value} (hp : PtrOk w.heap st (Act.tv a) r p er ec v) {x : A} (hr : (st r).t = .own x) (e1 : (st r).er = er) (e2 : (st r).ec = ec) : ∃ b o, v = .pointer (some ⟨b, o, none⟩) := by
  have := hp.2.2
  simp only [hr] at this
  obtain ⟨_, y, b, o, _, _, g3⟩ := this e1 e2
  exact ⟨b, o, g3⟩

theorem nilCheck_ok {P : Program} (h : Sim C S Fp [] st a w) {o : Oper} {x : Operand} (ho : o.op = .nilCheck x) {u : Unit} {R : List Nat} {U : List (Nat × Ent)} (e : nilCheckO C.n o.dst x st = some (u, R, U)) : Good P C o a w (applyU U st) := by
  unfold nilCheckO at e
  obtain ⟨y, R1, U1, R2, U2, h1, e1, rfl, rfl⟩ := bind_some e
  obtain ⟨rfl, hx⟩ := opnd_ok h h1
  simp only [applyU, List.nil_append] at e1 ⊢
  have ptr : ∀ {b o' : Nat} {U : List (Nat × Ent)} {R : List Nat}, a.eval x = .pointer (some ⟨b, o', none⟩) → wrT C.n o.dst y st = some (u, R, U) → Good P C o a w (applyU U st) := by
    intro b o' U R ev hw
    obtain ⟨Fp', hs⟩ := wr_ok h hw hx
    exact good_value (v := a.eval x) (by simp [execOp, ho, ev]) hs
  have gen : ∀ {U : List (Nat × Ent)} {R : List Nat}, (do
      let q ← ptrOf y
      match q with
      | .inl _ => wrT C.n o.dst y
      | .inr (r, p, er, ec) => do
        let _ ← lookP r p er ec
        wrT C.n o.dst y : SM Unit) st = some (u, R, U) → Good P C o a w (applyU U st) := by
    intro U R e2
    obtain ⟨q, R3, U3, R4, U4, h3, e3, rfl, rfl⟩ := bind_some e2
    obtain ⟨rfl, hq⟩ := ptrOf_ok h hx h3
    simp only [applyU, List.nil_append] at e3 ⊢
    cases q with
    | inl z =>
      obtain ⟨b, o', l, ev, _⟩ := hq
      exact ptr ev e3
    | inr t =>
      obtain ⟨r, p, er, ec⟩ := t
      obtain ⟨z, R5, U5, R6, U6, h5, e5, rfl, rfl⟩ := bind_some e3
      unfold lookP at h5
      obtain ⟨en, R7, U7, R8, U8, h7, e7, rfl, rfl⟩ := bind_some h5
      obtain ⟨rfl, rfl, rfl⟩ := rdE_some h7
      simp only [applyU] at e7
      cases ht : (st r).t with
      | own x0 =>
        simp only [ht] at e7
        split at e7
        · rename_i hc
          obtain ⟨_, rfl, rfl⟩ := ofO_some e7
          obtain ⟨b, o', ev⟩ := ptrOk_ptr hq ht hc.1 hc.2
          simp only [applyU, List.nil_append, List.append_nil] at e5 ⊢
          exact ptr ev e5
        · exact (sfail_some e7).elim
      | gone => simp only [ht] at e7; exact (sfail_some e7).elim
      | d _ => simp only [ht] at e7; exact (sfail_some e7).elim
      | als _ _ _ _ => simp only [ht] at e7; exact (sfail_some e7).elim
      | ptr _ _ _ _ => simp only [ht] at e7; exact (sfail_some e7).elim
  cases y with
  | d z =>
    cases z with
    | fn f cs =>
      obtain ⟨Fp', hs⟩ := wr_ok h e1 hx
      have hv : ∃ vs, a.eval x = .func (.func f) #[] vs := by
        have hx' : RepV S (.fn f cs) (a.eval x) := hx
        simp only [RepV] at hx'
        obtain ⟨c, q1, q2⟩ := hx'
        simp only [Rep] at q1
        obtain ⟨vs, _, _, rfl⟩ := q1
        exact ⟨vs.toArray, q2⟩
      obtain ⟨vs, hv⟩ := hv
      exact good_value (v := a.eval x) (by simp [execOp, ho, hv]) hs
    | _ => exact gen e1
  | _ => exact gen e1

/-! ### New slices -/

theorem flat_get {α : Type} (l : List α) : ∀ (n k : Nat), (List.replicate n l).flatten[k]? = if k < n * l.length then l[k % l.length]? else none
  | 0, k => by simp
  | n + 1, k => by
    rw [List.replicate_succ, List.flatten_cons]
    by_cases hk : k < l.length
    · rw [List.getElem?_append_left hk, if_pos (by rw [Nat.add_mul]; omega), Nat.mod_eq_of_lt hk]
    · rw [List.getElem?_append_right (by omega), flat_get l n]
      have hm : (k - l.length) % l.length = k % l.length := (Nat.mod_eq_sub_mod (by omega)).symm
      rw [hm]
      by_cases h2 : k - l.length < n * l.length
      · rw [if_pos h2, if_pos (by rw [Nat.add_mul]; omega)]
      · rw [if_neg h2, if_neg (by rw [Nat.add_mul]; omega)]

theorem madeCells_take (z : Array Value) (l c : Nat) (h : l ≤ c) : (madeCells z (c * z.size)).toList.take (l * z.size) = (List.replicate l z.toList).flatten := by
  apply List.ext_getElem?
  intro k
  rw [flat_get, List.getElem?_take, Array.length_toList]
  have hle : l * z.size ≤ c * z.size := Nat.mul_le_mul_right _ h
  split
  · rename_i hk
    have hz : 0 < z.size := by
      rcases Nat.eq_zero_or_pos z.size with h0 | h0
      · rw [h0] at hk; simp at hk
      · exact h0
    have hmod : k % z.size < z.size := Nat.mod_lt _ hz
    simp only [madeCells, Array.toList_map, Array.toList_range, List.getElem?_map, Array.getElem?_toList]
    rw [List.getElem?_eq_getElem (by simp; omega)]
    simp only [List.getElem_range, Option.map_some]
    rw [Array.getElem?_eq_getElem hmod, getElem!_pos z _ hmod]
  · rfl

theorem concs_replicate {h : Array Obj} {z : A} {cs : List Value} (hz : Conc S h z cs []) : ∀ n, Concs S h (List.replicate n z) (List.replicate n cs).flatten []
  | 0 => by simp [Concs]
  | n + 1 => by
    simp only [List.replicate_succ, List.flatten_cons, Concs]
    exact ⟨cs, _, [], [], rfl, rfl, hz, concs_replicate hz n⟩

/-- A new slice that holds trees. -/
theorem osl_new {F : List Nat} (h : Sim C S Fp (F ++ []) st a w) {es : List A} {arr : Array Value} {l : List Value} (hc : Concs S w.heap es l F) (hn : F.Nodup) (ty : TypeId) {sz c : Nat} {t : Bool} (ht : t = true → c = es.length) (hlc : es.length ≤ c) (hm : c ≤ maxLen)
    (hsz : ∀ x ∈ es, x.size = sz) (hs : arr.size = c * sz) (htk : arr.toList.take (es.length * sz) = l) (w' : World) (hw : w' = w.alloc (.cells arr ty)) :
    Sim C S Fp ((w.heap.size :: F) ++ []) st a w' ∧ Conc S w'.heap (.osl sz t es) [.slice (some ⟨w.heap.size, 0, none⟩) es.length c] (w.heap.size :: F) ∧ (w.heap.size :: F).Nodup := by
  subst hw
  have hlt : ∀ k ∈ F, k < w.heap.size := fun k hk => (hc.own k hk).1
  refine ⟨by simpa using h.alloc (by simpa using hlt) _, ?_, List.nodup_cons.2 ⟨fun hm => Nat.lt_irrefl _ (hlt _ hm), hn⟩⟩
  simp only [Conc]
  exact ⟨_, c, rfl, ht, hlc, hm, hsz, .inr ⟨w.heap.size, arr, ty, l, F, rfl, heap_alloc_new w _, hs, htk, hc.frame (fun _ _ _ h => h) (fun k hk => ⟨hao w _ k (hlt k hk), (hc.own k hk).2.1⟩), rfl, fun o => h.free_new (Nat.le_refl _) o⟩⟩

def makeSliceO (tt : TT) (n : Fr) (dst : Option Nat) (t : Nat) (l c : Operand) : SM Unit := do
  let tl ← opnd l
  let vl ← val tl
  let tc ← opnd c
  let vc ← val tc
  match vl, vc with
  | .atom (.int _ x), .atom (.int _ y) =>
    match tt t with
    | some ⟨.slice e, _, _, _, _⟩ =>
      match tt e with
      | some i =>
        match i.zero with
        | some z => if 0 ≤ x ∧ x ≤ y ∧ y ≤ lim ∧ i.bytes ≤ 4096 then wrT n dst (.own (.osl i.size (decide (x = y)) (List.replicate x.toNat z))) else sfail
        | none => sfail
      | none => sfail
    | _ => sfail
  | _, _ => sfail

theorem makeSlice_ok {P : Program} {tt : TT} (hT : TTok P tt) (h : Sim C S Fp [] st a w) {o : Oper} {t : Nat} {l c : Operand} (ho : o.op = .makeSlice t l c) {u : Unit} {R : List Nat} {U : List (Nat × Ent)} (e : makeSliceO tt C.n o.dst t l c st = some (u, R, U)) : Good P C o a w (applyU U st) := by
  unfold makeSliceO at e
  obtain ⟨tl, R1, U1, R2, U2, h1, e1, rfl, rfl⟩ := bind_some e
  obtain ⟨rfl, hl⟩ := opnd_ok h h1
  obtain ⟨vl, R3, U3, R4, U4, h3, e2, rfl, rfl⟩ := bind_some e1
  obtain ⟨rfl, ql⟩ := val_ok h hl h3
  obtain ⟨tc, R5, U5, R6, U6, h5, e3, rfl, rfl⟩ := bind_some e2
  obtain ⟨rfl, hc⟩ := opnd_ok h h5
  obtain ⟨vc, R7, U7, R8, U8, h7, e4, rfl, rfl⟩ := bind_some e3
  obtain ⟨rfl, qc⟩ := val_ok h hc h7
  simp only [applyU, List.nil_append] at e4 ⊢
  split at e4
  · rename_i k1 x k2 y
    obtain ⟨ex, _⟩ := repV_atom.1 ql
    obtain ⟨ey, _⟩ := repV_atom.1 qc
    cases ht : tt t with
    | none => simp only [ht] at e4; exact (sfail_some e4).elim
    | some it =>
      obtain ⟨kd, a1, a2, a3, a4⟩ := it
      cases kd with
      | slice el =>
        simp only [ht] at e4
        have hel : P.underlying t = some (.slice el) := (hT _ _ ht).kind
        cases hi : tt el with
        | none => simp only [hi] at e4; exact (sfail_some e4).elim
        | some i =>
          simp only [hi] at e4
          cases hz : i.zero with
          | none => simp only [hz] at e4; exact (sfail_some e4).elim
          | some z =>
            simp only [hz] at e4
            split at e4
            · rename_i hcond
              obtain ⟨c1, c2, c3, c4⟩ := hcond
              obtain ⟨f, f1, f2, f3, f4⟩ := (hT _ _ hi).info
              obtain ⟨zv, v1, v2, v3⟩ := f4 z hz
              have hlim : y ≤ 4294967296 := by simpa [lim] using c3
              have hbytes : (f.bytes : Int) * y ≤ 281474976710656 := by
                rw [f3]
                have h1 : (i.bytes : Int) ≤ 4096 := by omega
                have h2 : (i.bytes : Int) * y ≤ 4096 * 4294967296 := Int.mul_le_mul h1 hlim (by omega) (by omega)
                omega
              have hrun := run_make (P := P) w t el f zv hel f1 v1 k1 k2 x y c1 c2 hbytes (by omega)
              have hzs : zv.cells.size = i.size := by
                have := (v3 (fun _ _ => none) #[]).len
                rw [v2] at this
                simpa using this
              rw [f2, ← hzs] at hrun
              have hxy : x.toNat ≤ y.toNat := by omega
              obtain ⟨k1', k2', k3'⟩ := osl_new (F := []) (es := List.replicate x.toNat z) (arr := madeCells zv.cells (y.toNat * zv.cells.size)) (l := (List.replicate x.toNat zv.cells.toList).flatten) (by simpa using h)
                (concs_replicate (v3 S w.heap) _) (by simp) el (sz := i.size) (c := y.toNat) (t := decide (x = y)) (by intro hd; simp only [decide_eq_true_eq] at hd; simp [hd]) (by simpa using hxy) (by unfold maxLen; omega)
                (by intro q hq; rw [List.eq_of_mem_replicate hq]; exact v2) (by rw [size_madeCells, hzs]) (by rw [List.length_replicate, ← hzs]; exact madeCells_take _ _ _ hxy) _ rfl
              obtain ⟨Fp'', hs⟩ := wr_own k1' e4 k2' k3'
              refine good_value ?_ hs
              simp only [execOp, ho, ex, ey, Sem.run_bind, hrun, Result.andThen_ok, Sem.run_pure]
              simp [valOf]
            · exact (sfail_some e4).elim
      | _ => simp only [ht] at e4; exact (sfail_some e4).elim
  · exact (sfail_some e4).elim

/-! ### append -/

theorem run_append_zero {P : Program} {t ty e : TypeId} {i : TypeInfo} (ht : P.underlying t = some (.slice e)) (hi : P.info? e = some i) (p q : Option Addr) (n c m : Nat) (hn : n ≤ c) (w : World) :
    (Builtin.append_ #[t, t] ty #[.slice p n c, .slice q 0 m]).run P w = .ok (.slice p n c) w := by
  cases p <;> cases q <;> simp [Builtin.append_, run_underlying ht, Go.sizeOf, typeInfo, hi, Builtin.lenOf, hn, Builtin.firstCells, loadCells, loadCellsFrom, storeCells]

theorem run_append_room' {P : Program} {t ty e bty : TypeId} {i : TypeInfo} (ht : P.underlying t = some (.slice e)) (hi : P.info? e = some i) (w : World)
    (g n c : Nat) (cur : Array Value) (hg : w.heap[g]? = some (.cells cur bty (0, 0)))
    (a : Addr) (m d : Nat) (news : List Value) (hl : news.length = m * i.size) (hnews : ∀ j u, news[j]? = some u → w.cell? (a.add j) = some u) (h1 : ∀ u ∈ news, u.oneCell' = true)
    (hroom : n + m ≤ c) (hfit : n * i.size + news.length ≤ cur.size) :
    (Builtin.append_ #[t, t] ty #[.slice (some ⟨g, 0, none⟩) n c, .slice (some a) m d]).run P w = .ok (.slice (some ⟨g, 0, none⟩) (n + m) c) (w.setRow g (over cur (n * i.size) news)) := by
  have hf := run_firstCells_some (P := P) w i.size m a m d news hl hnews
  have hst := run_storeCells_at P g (n * i.size) bty news 0 cur w hg (by simpa using hfit) h1
  simp only [Nat.add_zero] at hst
  rw [setRow_take_over hfit] at hst
  simp [Builtin.append_, run_underlying ht, Go.sizeOf, typeInfo, hi, Builtin.lenOf, hroom, hf, Addr.add_lit, hst]

theorem Reps.append {as bs : List A} {c1 c2 : List Value} (h1 : Reps S as c1) (h2 : Reps S bs c2) : Reps S (as ++ bs) (c1 ++ c2) := by
  induction as generalizing c1 with
  | nil => simp only [Reps] at h1; subst h1; simpa using h2
  | cons a as ih =>
    simp only [Reps] at h1
    obtain ⟨d1, d2, rfl, r1, r2⟩ := h1
    simp only [List.cons_append, Reps]
    exact ⟨d1, d2 ++ c2, by simp, r1, ih r2⟩

theorem Concs.append {h : Array Obj} {as bs : List A} {c1 c2 : List Value} {F1 F2 : List Nat} (h1 : Concs S h as c1 F1) (h2 : Concs S h bs c2 F2) : Concs S h (as ++ bs) (c1 ++ c2) (F1 ++ F2) := by
  induction as generalizing c1 F1 with
  | nil => simp only [Concs] at h1; obtain ⟨rfl, rfl⟩ := h1; simpa using h2
  | cons a as ih =>
    simp only [Concs] at h1
    obtain ⟨d1, d2, G1, G2, rfl, rfl, r1, r2⟩ := h1
    simp only [List.cons_append, Concs]
    exact ⟨d1, d2 ++ c2, G1, G2 ++ F2, by simp, by simp, r1, ih r2⟩

/-- Growing: the old elements and the new ones in a new row. -/
theorem append_grow {P : Program} {t ty e : TypeId} {f : TypeInfo} {zv : Value} (ht : P.underlying t = some (.slice e)) (hi : P.info? e = some f) (hz : f.zero = some zv) (hzs : zv.cells.size = f.size)
    {F G : List Nat} (h : Sim C S Fp (F ++ G) st a w) {es ys : List A} {olds news : List Value} (hes : Concs S w.heap es olds F) (hFn : (F ++ G).Nodup) (hys : Concs S w.heap ys news G) (hsz1 : ∀ x ∈ es, x.size = f.size) (hsz2 : ∀ x ∈ ys, x.size = f.size)
    {p : Option Addr} {c : Nat} (hp : (p = none ∧ es = [] ∧ c = 0) ∨ ∃ b, p = some b ∧ ∀ j v, olds[j]? = some v → w.cell? (b.add j) = some v)
    {ad : Addr} {d : Nat} (hnews : ∀ j v, news[j]? = some v → w.cell? (ad.add j) = some v) (hg : c < es.length + ys.length) (hlim : es.length + ys.length ≤ lim) (hb : f.bytes ≤ 4096) (hy0 : 0 < ys.length) :
    ∃ v w', (Builtin.append_ #[t, t] ty #[.slice p es.length c, .slice (some ad) ys.length d]).run P w = .ok v w' ∧ ∃ F', Sim C S Fp (F' ++ []) st a w' ∧ F'.Nodup ∧ ∃ cs, Conc S w'.heap (.osl f.size false (es ++ ys)) cs F' ∧ v = valOf (.osl f.size false (es ++ ys)) cs := by
  have hl1 : olds.length = es.length * f.size := by rw [hes.len, A.sizes_const hsz1]
  have hl2 : news.length = ys.length * f.size := by rw [hys.len, A.sizes_const hsz2]
  have hlim' : es.length + ys.length ≤ 4294967296 := hlim
  have hbytes : (es.length + ys.length) * f.bytes ≤ 140737488355328 := by
    have : (es.length + ys.length) * f.bytes ≤ 4294967296 * 4096 := Nat.mul_le_mul hlim' hb
    omega
  have new : ∀ cap, es.length + ys.length ≤ cap → cap ≤ maxLen →
      Sim C S Fp ((w.heap.size :: (F ++ G)) ++ []) st a (w.drew.alloc (.cells (olds.toArray ++ news.toArray ++ Builtin.zeroCells zv.cells (cap - (es.length + ys.length))) e)) ∧
      Conc S (w.drew.alloc (.cells (olds.toArray ++ news.toArray ++ Builtin.zeroCells zv.cells (cap - (es.length + ys.length))) e)).heap (.osl f.size false (es ++ ys)) [.slice (some ⟨w.heap.size, 0, none⟩) (es ++ ys).length cap] (w.heap.size :: (F ++ G)) ∧ (w.heap.size :: (F ++ G)).Nodup := by
    intro cap hc1 hc2
    have := osl_new (w := w.drew) (F := F ++ G) (by rw [List.append_nil]; exact h.drew) (es := es ++ ys) (l := olds ++ news) (arr := olds.toArray ++ news.toArray ++ Builtin.zeroCells zv.cells (cap - (es.length + ys.length))) (hes.append hys) hFn e (sz := f.size) (c := cap) (t := false) (by simp) (by simpa using hc1) hc2
      (by intro x hx; rcases List.mem_append.1 hx with h | h; exact hsz1 x h; exact hsz2 x h)
      (by simp only [Array.size_append, List.size_toArray, size_zeroCells, hzs, hl1, hl2, ← Nat.add_mul]; congr 1; omega)
      (by
        simp only [Array.toList_append, List.length_append]
        rw [show (es.length + ys.length) * f.size = (olds ++ news).length from by rw [List.length_append, hl1, hl2, Nat.add_mul]]
        exact List.take_left) _ rfl
    exact this
  rcases hp with ⟨rfl, rfl, rfl⟩ | ⟨b, rfl, hb⟩
  · simp only [Concs] at hes
    obtain ⟨rfl, rfl⟩ := hes
    have hr := run_append_nil (P := P) w t ty e f zv ht hi hz ad ys.length d news hl2 hnews (by simpa using hg) (by simp at hlim'; omega) (by simp only [List.length_nil, Nat.zero_add] at hbytes; omega)
    have hge := grownCap_ge w ys.length 0 e
    obtain ⟨q1, q2, q3⟩ := new (grownCap w ys.length 0 e) (by simpa using hge) (grownCap_le_maxLen w _ 0 e (by unfold maxLen; simp at hlim'; omega))
    simp only [List.nil_append, List.length_nil, Nat.zero_add, Array.empty_append] at q1 q2 q3 hr ⊢
    exact ⟨_, _, hr, _, q1, q3, _, q2, rfl⟩
  · have hr := run_append_grow (P := P) w t ty e f zv ht hi hz b es.length c olds hl1 hb ad ys.length d news hl2 hnews hg (by omega) (growslice_fits hg hbytes)
    have hge := grownCap_ge w (es.length + ys.length) c e
    obtain ⟨q1, q2, q3⟩ := new (grownCap w (es.length + ys.length) c e) hge (grownCap_le_maxLen w _ c e (by unfold maxLen; omega))
    refine ⟨_, _, hr, _, q1, q3, _, q2, ?_⟩
    simp [valOf]

theorem reps_lies {b o : Nat} {l : List Value} (h : Sim C S Fp X st a w) (hl : Lies S b o l) : ∀ j v, l[j]? = some v → w.cell? ((⟨b, o, none⟩ : Addr).add j) = some v := by
  intro j v hj
  rw [Addr.add_lit, cell?_eq]
  exact h.still _ _ _ (hl j v hj)

/-- The source of an append: so many elements, all data, their cells in memory. -/
theorem source_ok (h : Sim C S Fp X st a w) {sz : Nat} {y : A} {ys : List A} (hy : (∃ t, y = .sl sz t ys) ∨ ∃ t, y = .osl sz t ys) (hD : A.areD ys = true) {v : Value} (q : RepV S y v ∨ ∃ cs F, Conc S w.heap y cs F ∧ v = valOf y cs) :
    ∃ p d news, v = .slice p ys.length d ∧ Reps S ys news ∧ (∀ x ∈ ys, x.size = sz) ∧ ((ys = [] ∧ news = []) ∨ ∃ ad, p = some ad ∧ ∀ j u, news[j]? = some u → w.cell? (ad.add j) = some u) := by
  rcases hy with ⟨t, rfl⟩ | ⟨t, rfl⟩
  · have : ∃ cs, Rep S (.sl sz t ys) cs ∧ v = valOf (.sl sz t ys) cs := by
      rcases q with q | ⟨cs, F, q1, q2⟩
      · exact q
      · exact ⟨cs, (q1.isD rfl).1, q2⟩
    obtain ⟨cs, r1, rfl⟩ := this
    simp only [Rep] at r1
    obtain ⟨p, c, rfl, _, _, h4, h5⟩ := r1
    rcases h5 with rfl | ⟨b, o, l, rfl, r2, r3⟩
    · exact ⟨p, c, [], rfl, by simp [Reps], by simp, .inl ⟨rfl, rfl⟩⟩
    · exact ⟨_, c, l, rfl, r2, h4, .inr ⟨_, rfl, reps_lies h r3⟩⟩
  · rcases q with ⟨cs, q, _⟩ | ⟨cs, F, q1, rfl⟩
    · simp [Rep] at q
    · simp only [Conc] at q1
      obtain ⟨p, c, rfl, _, _, _, h4, h5⟩ := q1
      rcases h5 with ⟨rfl, _, rfl, _⟩ | ⟨b, arr, ty, l, F', rfl, k1, k2, k3, k4, _, _⟩
      · exact ⟨none, c, [], rfl, by simp [Reps], by simp, .inl ⟨rfl, rfl⟩⟩
      · refine ⟨_, c, l, rfl, (k4.areD hD).1, h4, .inr ⟨_, rfl, ?_⟩⟩
        intro j u hj
        rw [Addr.add_lit, cell?_eq]
        simp only [cellAt, k1]
        rw [← k3, List.getElem?_take] at hj
        split at hj
        · simpa using hj
        · cases hj

/-- append to a slice of the call's own. -/
theorem append_osl {P : Program} {t ty e : TypeId} {f : TypeInfo} {zv : Value} (ht : P.underlying t = some (.slice e)) (hi : P.info? e = some f) (hz : f.zero = some zv) (hzs : zv.cells.size = f.size)
    {F G : List Nat} (h : Sim C S Fp (F ++ G) st a w) {tg : Bool} {es ys : List A} {cs : List Value} (hc : Conc S w.heap (.osl f.size tg es) cs F) (hFn : (F ++ G).Nodup)
    {p : Option Addr} {d : Nat} {news : List Value} (hr : Concs S w.heap ys news G) (hsz2 : ∀ x ∈ ys, x.size = f.size) (hsrc : (ys = [] ∧ news = []) ∨ ∃ ad, p = some ad ∧ ∀ j u, news[j]? = some u → w.cell? (ad.add j) = some u)
    (hlim : es.length + ys.length ≤ lim) (hb : f.bytes ≤ 4096) :
    ∃ v w', (Builtin.append_ #[t, t] ty #[valOf (.osl f.size tg es) cs, .slice p ys.length d]).run P w = .ok v w' ∧ ∃ F', Sim C S Fp (F' ++ []) st a w' ∧ F'.Nodup ∧ ∃ cs', Conc S w'.heap (.osl f.size (tg && ys.isEmpty) (es ++ ys)) cs' F' ∧ v = valOf (.osl f.size (tg && ys.isEmpty) (es ++ ys)) cs' := by
  have hc0 := hc
  simp only [Conc] at hc
  obtain ⟨q, c, rfl, t1, t2, t3, t4, t5⟩ := hc
  by_cases hy0 : ys = []
  · subst hy0
    simp only [Concs] at hr
    obtain ⟨rfl, rfl⟩ := hr
    refine ⟨_, w, run_append_zero ht hi q p es.length c d t2 w, F, h, by simpa using hFn, [.slice q es.length c], ?_, ?_⟩
    · simpa using hc0
    · simp [valOf]
  · have hpos : 0 < ys.length := List.length_pos_iff.2 hy0
    rcases hsrc with ⟨hy, _⟩ | ⟨ad, rfl, hnews⟩
    · exact absurd hy hy0
    have hemp : (tg && ys.isEmpty) = false := by cases ys <;> simp_all
    rw [hemp]
    have hl2 : news.length = ys.length * f.size := by rw [hr.len, A.sizes_const hsz2]
    have hysc := hr
    rcases t5 with ⟨rfl, rfl, rfl, rfl⟩ | ⟨b, arr, bty, l, F', rfl, k1, k2, k3, k4, rfl, k6⟩
    · exact append_grow ht hi hz hzs h (es := []) (olds := []) (by simp [Concs]) hFn hysc (by simp) hsz2 (.inl ⟨rfl, rfl, rfl⟩) hnews (by simpa using hpos) hlim hb hpos
    · have hl1 : l.length = es.length * f.size := by rw [k4.len, A.sizes_const t4]
      have hF' := List.nodup_cons.1 (show (b :: (F' ++ G)).Nodup from hFn)
      by_cases hroom : es.length + ys.length ≤ c
      · have hfit : es.length * f.size + news.length ≤ arr.size := by rw [hl2, k2, ← Nat.add_mul]; exact Nat.mul_le_mul_right _ hroom
        have hrun := run_append_room' (P := P) (ty := ty) ht hi w b es.length c arr k1 ad ys.length d news hl2 hnews hr.one hroom hfit
        let w' := w.setRow b (over arr (es.length * f.size) news)
        have hheap : ∀ k, k ≠ b → w'.heap[k]? = w.heap[k]? := fun k hk => setRow_other w b k _ hk
        have hheapb : w'.heap[b]? = some (.cells (over arr (es.length * f.size) news) bty (0, 0)) := setRow_heap w b arr _ bty (0, 0) k1
        have hbF : ∀ t', b ∉ Fp t' := fun t' => h.xd t' b (by simp)
        have hbase : C.M b := h.xb b (by simp)
        refine ⟨_, w', hrun, b :: (F' ++ G), ?_, hFn, [.slice (some ⟨b, 0, none⟩) (es.length + ys.length) c], ?_, rfl⟩
        · refine h.mem (h.below.trans ⟨rfl, rfl, rfl, by simp [w'], fun k hk => hheap k (fun e => hk (e ▸ hbase))⟩) (fun _ _ _ h => h) ?_ h.sbase (fun t' k hk => ⟨hheap k (by rintro rfl; exact hbF t' hk), (h.free t' k hk).2.1⟩) (by simpa using hFn) (by simpa using h.xd) (by simpa using h.xb)
          intro b' o' v hs
          rw [cellAt_frame (h := w.heap) (h' := w'.heap) (hheap b' (by rintro rfl; rw [k6] at hs; cases hs))]
          exact h.still b' o' v hs
        · simp only [Conc, List.length_append]
          refine ⟨_, c, rfl, by simp, hroom, t3, ?_, .inr ⟨b, over arr (es.length * f.size) news, bty, l ++ news, F' ++ G, rfl, hheapb, by simp [k2], ?_, ?_, rfl, k6⟩⟩
          · intro x hx
            rcases List.mem_append.1 hx with h | h
            · exact t4 x h
            · exact hsz2 x h
          · apply List.ext_getElem?
            intro k
            have hle : es.length * f.size ≤ arr.size := by omega
            rw [List.getElem?_take, Array.getElem?_toList, over_get, Nat.add_mul]
            by_cases hk : k < es.length * f.size
            · rw [if_pos (by omega), if_neg (by omega), List.getElem?_append_left (by omega), ← k3, List.getElem?_take, if_pos hk, Array.getElem?_toList]
              cases arr[k]? <;> rfl
            · by_cases hk2 : k < es.length * f.size + ys.length * f.size
              · rw [if_pos hk2, if_pos (by omega), List.getElem?_append_right (by omega), hl1, Array.getElem?_eq_getElem (by omega), List.getElem?_eq_getElem (by omega)]
                rfl
              · rw [if_neg hk2, List.getElem?_eq_none (by rw [List.length_append]; omega)]
          · exact Concs.append (k4.frame (S' := S) (h' := w'.heap) (fun _ _ _ h => h) (fun k hk => ⟨hheap k (by rintro rfl; exact hF'.1 (by simp [hk])), (k4.own k hk).2.1⟩))
              (hr.frame (S' := S) (h' := w'.heap) (fun _ _ _ h => h) (fun k hk => ⟨hheap k (by rintro rfl; exact hF'.1 (by simp [hk])), (hr.own k hk).2.1⟩))
      · have hold : ∀ j v, l[j]? = some v → w.cell? ((⟨b, 0, none⟩ : Addr).add j) = some v := by
          intro j u hj
          rw [Addr.add_lit, cell?_eq]
          simp only [cellAt, k1]
          rw [← k3, List.getElem?_take] at hj
          split at hj
          · simpa using hj
          · cases hj
        have hsub : Sim C S Fp (F' ++ G) st a w := h.mem h.below (fun _ _ _ h => h) h.still h.sbase (fun t' k hk => ⟨rfl, (h.free t' k hk).2.1⟩) hF'.2 (fun t' k hk => h.xd t' k (by simp at hk ⊢; exact .inr hk)) (fun k hk => h.xb k (by simp at hk ⊢; exact .inr hk))
        exact append_grow ht hi hz hzs hsub k4 hF'.2 hysc t4 hsz2 (.inr ⟨_, rfl, hold⟩) hnews (by omega) hlim hb hpos

def appendO (tt : TT) (n : Fr) (dst : Option Nat) (t : Nat) (s x : Operand) : SM Unit := do
  let ts ← opnd s
  let tx ← opnd x
  let y ← peek tx
  match y with
  | .osl _ _ ys => if A.areD ys = true then appendA tt n dst t ts tx else appendOwnA tt n dst t s x
  | _ => appendA tt n dst t ts tx

theorem appendA_ok {P : Program} {tt : TT} (hT : TTok P tt) (h : Sim C S Fp [] st a w) {o : Oper} {t : Nat} {s x : Operand} (ho : o.op = .call { callee := .builtin .append, args := #[s, x], argTypes := #[t, t] }) {ts tx : T} (hs : TOk S w.heap st (Act.tv a) ts (a.eval s)) (hx : TOk S w.heap st (Act.tv a) tx (a.eval x))
    {u : Unit} {R : List Nat} {U : List (Nat × Ent)} (e : appendA tt C.n o.dst t ts tx st = some (u, R, U)) : Good P C o a w (applyU U st) := by
  unfold appendA at e
  cases ht : tt t with
  | none => simp only [ht] at e; exact (sfail_some e).elim
  | some it =>
    obtain ⟨kd, a1, a2, a3, a4⟩ := it
    cases kd with
    | slice el =>
      simp only [ht] at e
      have hel : P.underlying t = some (.slice el) := (hT _ _ ht).kind
      cases hi : tt el with
      | none => simp only [hi] at e; exact (sfail_some e).elim
      | some i =>
        simp only [hi] at e
        obtain ⟨f, f1, f2, f3, f4⟩ := (hT _ _ hi).info
        obtain ⟨y, R1, U1, R2, U2, h1, e1, rfl, rfl⟩ := bind_some e
        obtain ⟨rfl, q⟩ := peek_ok h hx h1
        simp only [applyU, List.nil_append] at e1 ⊢
        have main : ∀ (sz : Nat) (ys : List A), ((∃ tg, y = .sl sz tg ys) ∨ ∃ tg, y = .osl sz tg ys) →
            (if sz = i.size ∧ A.areD ys = true ∧ i.bytes ≤ 4096 ∧ 0 < i.size ∧ i.zero.isSome = true then (do
              let z ← takeC tt t ts
              match z with
              | .osl sz' tg es => if sz' = i.size ∧ es.length + ys.length ≤ lim then wrT C.n o.dst (.own (.osl sz' (tg && ys.isEmpty) (es ++ ys))) else sfail
              | .sl sz' tg es => if sz' = i.size ∧ es.length + ys.length ≤ lim ∧ tg = true ∧ ys ≠ [] ∧ A.areD es = true then wrT C.n o.dst (.own (.osl sz' false (es ++ ys))) else sfail
              | _ => sfail : SM Unit) else sfail) st = some (u, R2, U2) → Good P C o a w (applyU U2 st) := by
          intro sz ys hy e2
          split at e2
          · rename_i hcond
            obtain ⟨rfl, c2, c3, c4, c5⟩ := hcond
            obtain ⟨z0, hz0⟩ := Option.isSome_iff_exists.1 c5
            obtain ⟨zv, v1, v2, v3⟩ := f4 z0 hz0
            have hzs : zv.cells.size = f.size := by
              have := (v3 (fun _ _ => none) #[]).len
              rw [v2, ← f2] at this
              simpa using this
            obtain ⟨p, d, news, ev, r1, r2, r3⟩ := source_ok h hy c2 q
            obtain ⟨z, R3, U3, R4, U4, h3, e4, rfl, rfl⟩ := bind_some e2
            obtain ⟨Fp', F, g1, g2⟩ := takeC_ok h hs h3
            rw [applyU_append]
            have fin : ∀ v w', (Builtin.append_ #[t, t] o.type #[a.eval s, a.eval x]).run P w = .ok v w' → (execOp a.eval o).run P w = .ok (.value v) w' := by
              intro v w' hrun
              simp [execOp, ho, resolve, invoke, builtin, hrun]
            cases z with
            | osl sz' tg es =>
              simp only at e4
              split at e4
              · rename_i hc
                obtain ⟨rfl, hlim⟩ := hc
                obtain ⟨cs, k1, k2, k3⟩ := g2.cells (by simp)
                rw [← f2] at k1 k3 r2 e4
                obtain ⟨v, w', hrun, F', m1, m2, cs', m3, rfl⟩ := append_osl (ty := o.type) hel f1 v1 hzs g1 k1 (by simpa using k2) (p := p) (d := d) (r1.concs w.heap) r2 r3 hlim (by omega)
                obtain ⟨Fp'', hs'⟩ := wr_own m1 e4 m3 m2
                exact good_value (fin _ _ (by rw [k3, ev]; exact hrun)) hs'
              · exact (sfail_some e4).elim
            | sl sz' tg es =>
              simp only at e4
              split at e4
              · rename_i hc
                obtain ⟨rfl, hlim, rfl, hne, hD⟩ := hc
                have hrep : ∃ cs, Rep S (.sl i.size true es) cs ∧ a.eval s = valOf (.sl i.size true es) cs ∧ F = [] := by
                  rcases g2 with ⟨q, rfl⟩ | ⟨cs, q1, q2, q3⟩
                  · simp only [RepV] at q
                    obtain ⟨cs, q1, q2⟩ := q
                    exact ⟨cs, q1, q2, rfl⟩
                  · exact ⟨cs, (q1.isD rfl).1, q3, (q1.isD rfl).2⟩
                obtain ⟨cs, q1, q2, rfl⟩ := hrep
                simp only [Rep] at q1
                obtain ⟨pp, c, rfl, t1, t2, t3, t4⟩ := q1
                have hcl := t1 trivial
                subst hcl
                have hpos : 0 < ys.length := List.length_pos_iff.2 hne
                rcases r3 with ⟨hy, _⟩ | ⟨ad, rfl, hnews⟩
                · exact absurd hy hne
                rw [← f2] at t3 r2 e4
                have hold : ∃ olds, Reps S es olds ∧ ((pp = none ∧ es = [] ∧ es.length = 0) ∨ ∃ b, pp = some b ∧ ∀ j v, olds[j]? = some v → w.cell? (b.add j) = some v) := by
                  rcases t4 with rfl | ⟨b, o', l, rfl, k1, k2⟩
                  · cases pp with
                    | none => exact ⟨[], by simp [Reps], .inl ⟨rfl, rfl, rfl⟩⟩
                    | some b => exact ⟨[], by simp [Reps], .inr ⟨b, rfl, by simp⟩⟩
                  · exact ⟨l, k1, .inr ⟨_, rfl, reps_lies h k2⟩⟩
                obtain ⟨olds, n1, n2⟩ := hold
                obtain ⟨v, w', hrun, F', m1, m2, cs', m3, rfl⟩ := append_grow (ty := o.type) hel f1 v1 hzs g1 (n1.concs w.heap) (by simp) (r1.concs w.heap) t3 r2 n2 (d := d) hnews (by omega) hlim (by omega) hpos
                obtain ⟨Fp'', hs'⟩ := wr_own m1 e4 m3 m2
                exact good_value (fin _ _ (by rw [q2, ev]; exact hrun)) hs'
              · exact (sfail_some e4).elim
            | _ => exact (sfail_some e4).elim
          · exact (sfail_some e2).elim
        cases y with
        | sl sz tg ys => exact main sz ys (.inl ⟨tg, rfl⟩) e1
        | osl sz tg ys => exact main sz ys (.inr ⟨tg, rfl⟩) e1
        | _ => exact (sfail_some e1).elim
    | _ => simp only [ht] at e; exact (sfail_some e).elim

theorem appendOwnA_ok {P : Program} {tt : TT} (hT : TTok P tt) (h : Sim C S Fp [] st a w) {o : Oper} {t : Nat} {s x : Operand} (ho : o.op = .call { callee := .builtin .append, args := #[s, x], argTypes := #[t, t] })
    {u : Unit} {R : List Nat} {U : List (Nat × Ent)} (e : appendOwnA tt C.n o.dst t s x st = some (u, R, U)) : Good P C o a w (applyU U st) := by
  unfold appendOwnA at e
  cases ht : tt t with
  | none => simp only [ht] at e; exact (sfail_some e).elim
  | some it =>
    obtain ⟨kd, a1, a2, a3, a4⟩ := it
    cases kd with
    | slice el =>
      simp only [ht] at e
      have hel : P.underlying t = some (.slice el) := (hT _ _ ht).kind
      cases hi : tt el with
      | none => simp only [hi] at e; exact (sfail_some e).elim
      | some i =>
        simp only [hi] at e
        obtain ⟨f, f1, f2, f3, f4⟩ := (hT _ _ hi).info
        split at e
        · rename_i hcond
          obtain ⟨c3, c4, c5⟩ := hcond
          obtain ⟨z0, hz0⟩ := Option.isSome_iff_exists.1 c5
          obtain ⟨zv, v1, v2, v3⟩ := f4 z0 hz0
          have hzs : zv.cells.size = f.size := by
            have := (v3 (fun _ _ => none) #[]).len
            rw [v2, ← f2] at this
            simpa using this
          obtain ⟨tx, R1, U1, R2, U2, h1, e1, rfl, rfl⟩ := bind_some e
          obtain ⟨rfl, hx⟩ := opnd_ok h h1
          obtain ⟨y, R3, U3, R4, U4, h3, e2, rfl, rfl⟩ := bind_some e1
          simp only [applyU, List.nil_append] at h3 e2 ⊢
          obtain ⟨Fp1, G, g1, g2⟩ := take_ok h hx h3
          obtain ⟨ts, R5, U5, R6, U6, h5, e3, rfl, rfl⟩ := bind_some e2
          obtain ⟨rfl, hs⟩ := opnd_ok g1 h5
          obtain ⟨z, R7, U7, R8, U8, h7, e4, rfl, rfl⟩ := bind_some e3
          simp only [applyU, List.nil_append] at h7 e4 ⊢
          obtain ⟨Fp2, F, k1, k2⟩ := takeC_ok g1 hs h7
          rw [applyU_append, applyU_append]
          have fin : ∀ v w', (Builtin.append_ #[t, t] o.type #[a.eval s, a.eval x]).run P w = .ok v w' → (execOp a.eval o).run P w = .ok (.value v) w' := by
            intro v w' hrun
            simp [execOp, ho, resolve, invoke, builtin, hrun]
          cases y with
          | osl sz tgy ys =>
            cases z with
            | osl sz' tg es =>
              simp only at e4
              split at e4
              · rename_i hc
                obtain ⟨rfl, rfl, hlim⟩ := hc
                obtain ⟨cs, m1, m2, m3⟩ := k2.cells (by simp)
                obtain ⟨ds, n1, n2, n3⟩ := Has.cells g2 (by simp)
                rw [← f2] at m1 m3 e4 n1
                simp only [Conc] at n1
                obtain ⟨p, d, rfl, _, _, _, t4, t5⟩ := n1
                have hxn := k1.xn
                rw [List.append_nil] at hxn
                have fin2 : ∀ (G' : List Nat) (news : List Value), Concs S w.heap ys news G' → (∀ k ∈ G', k ∈ G) → G'.Nodup → ((ys = [] ∧ news = []) ∨ ∃ ad, p = some ad ∧ ∀ j u, news[j]? = some u → w.cell? (ad.add j) = some u) → Good P C o a w (applyU U8 (applyU U7 (applyU U3 st))) := by
                  intro G' news q1 q2 q3 q4
                  have hsub : Sim C S Fp2 (F ++ G') (applyU U7 (applyU U3 st)) a w := k1.mem k1.below (fun _ _ _ h => h) k1.still k1.sbase (fun t' k hk => ⟨rfl, (k1.free t' k hk).2.1⟩)
                    (by
                      rw [List.nodup_append] at hxn ⊢
                      exact ⟨hxn.1, q3, fun k hk k' hk' => hxn.2.2 k hk k' (q2 k' hk')⟩)
                    (fun t' k hk => k1.xd t' k (by simp at hk ⊢; exact hk.imp id (q2 k))) (fun k hk => k1.xb k (by simp at hk ⊢; exact hk.imp id (q2 k)))
                  obtain ⟨v, w', hrun, F', r1, r2, cs', r3, rfl⟩ := append_osl (ty := o.type) hel f1 v1 hzs hsub m1 hsub.xn (p := p) (d := d) q1 t4 q4 hlim (by omega)
                  obtain ⟨Fp'', hs'⟩ := wr_own r1 e4 r3 r2
                  exact good_value (fin _ _ (by rw [m3, n3]; exact hrun)) hs'
                rcases t5 with ⟨rfl, rfl, rfl, rfl⟩ | ⟨b, arr, bty, l, G', rfl, q1, q2, q3, q4, rfl, q6⟩
                · exact fin2 [] [] (by simp [Concs]) (by simp) (by simp) (.inl ⟨rfl, rfl⟩)
                · refine fin2 G' l q4 (fun k hk => by simp [hk]) (List.nodup_cons.1 n2).2 (.inr ⟨_, rfl, ?_⟩)
                  intro j u hj
                  rw [Addr.add_lit, cell?_eq]
                  simp only [cellAt, q1]
                  rw [← q3, List.getElem?_take] at hj
                  split at hj
                  · simpa using hj
                  · cases hj
              · exact (sfail_some e4).elim
            | _ => exact (sfail_some e4).elim
          | _ => cases z <;> exact (sfail_some e4).elim
        · exact (sfail_some e).elim
    | _ => simp only [ht] at e; exact (sfail_some e).elim

theorem append_ok {P : Program} {tt : TT} (hT : TTok P tt) (h : Sim C S Fp [] st a w) {o : Oper} {t : Nat} {s x : Operand} (ho : o.op = .call { callee := .builtin .append, args := #[s, x], argTypes := #[t, t] })
    {u : Unit} {R : List Nat} {U : List (Nat × Ent)} (e : appendO tt C.n o.dst t s x st = some (u, R, U)) : Good P C o a w (applyU U st) := by
  unfold appendO at e
  obtain ⟨ts, R1, U1, R2, U2, h1, e1, rfl, rfl⟩ := bind_some e
  obtain ⟨rfl, hs⟩ := opnd_ok h h1
  obtain ⟨tx, R3, U3, R4, U4, h3, e2, rfl, rfl⟩ := bind_some e1
  obtain ⟨rfl, hx⟩ := opnd_ok h h3
  obtain ⟨y, R5, U5, R6, U6, h5, e3, rfl, rfl⟩ := bind_some e2
  obtain ⟨rfl, _⟩ := peek_ok h hx h5
  simp only [applyU, List.nil_append] at e3 ⊢
  cases y with
  | osl sz tg ys =>
    simp only at e3
    split at e3
    · exact appendA_ok hT h ho hs hx e3
    · exact appendOwnA_ok hT h ho e3
  | _ => exact appendA_ok hT h ho hs hx e3

end
end Go.Own
