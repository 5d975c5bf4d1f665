/- The operations, fifth part: literals, calls, closures. -/
import Derived.Test.YtdnenbcldibnoaaOwnC
namespace Go.Own

section
variable {C : Ctx} {S : Still} {Fp : Nat → List Nat} {X : List Nat} {st : St} {a : Act} {w : World}

/-! ### Literals -/

def Hass (S : Still) (h : Array Obj) : List A → List Value → List Nat → Prop
  | [], [], F => F = []
  | y :: ys, v :: vs, F => ∃ F1 F2, F = F2 ++ F1 ∧ Has S h y v F1 ∧ Hass S h ys vs F2
  | _, _, _ => False

theorem takes_ok {tt : TT} : ∀ {ps : List (Operand × Nat)} {Fp : Nat → List Nat} {X : List Nat} {st : St}, Sim C S Fp X st a w → ∀ {xs : List A} {R : List Nat} {U : List (Nat × Ent)}, takes ps tt st = some (xs, R, U) →
    ∃ Fp' G, Sim C S Fp' (G ++ X) (applyU U st) a w ∧ Hass S w.heap xs (ps.map fun p => a.eval p.1) G
  | [], Fp, X, st, h, xs, R, U, e => by
    obtain ⟨rfl, rfl, rfl⟩ := pure_some e
    exact ⟨Fp, [], h, rfl⟩
  | (x, t) :: ps, Fp, X, st, h, xs, R, U, e => by
    simp only [takes] at e
    obtain ⟨y, R1, U1, R2, U2, h1, e1, rfl, rfl⟩ := bind_some e
    obtain ⟨rfl, hx⟩ := opnd_ok h h1
    obtain ⟨z, R3, U3, R4, U4, h3, e2, rfl, rfl⟩ := bind_some e1
    simp only [applyU, List.nil_append] at h3 e2 ⊢
    obtain ⟨Fp1, F, g1, g2⟩ := takeC_ok h hx h3
    obtain ⟨bs, R5, U5, R6, U6, h5, e3, rfl, rfl⟩ := bind_some e2
    obtain ⟨Fp2, G, k1, k2⟩ := takes_ok g1 h5
    obtain ⟨rfl, rfl, rfl⟩ := pure_some e3
    refine ⟨Fp2, G ++ F, ?_, F, G, rfl, g2, k2⟩
    rw [List.append_nil, applyU_append, List.append_assoc]
    exact k1

theorem fold_over (off : Nat) : ∀ (l : List Value) (k : Nat) (arr : Array Value), (l.zipIdx k).foldl (fun cs x => cs.setIfInBounds (off + x.2) x.1) arr = over arr (off + k) l
  | [], k, arr => by simp only [List.zipIdx_nil, List.foldl_nil]; rw [over_same (by intro j v hj; simp at hj)]
  | v :: l, k, arr => by
    rw [List.zipIdx_cons, List.foldl_cons, fold_over off l]
    apply Array.ext_getElem?
    intro j
    rw [over_get, over_get, Array.getElem?_setIfInBounds]
    by_cases hj : off + k = j
    · subst hj
      rw [if_pos rfl, if_pos (Nat.le_refl _), if_neg (by omega)]
      cases ha : arr[off + k]? with
      | none => rw [if_neg (by intro hlt; rw [Array.getElem?_eq_getElem hlt] at ha; cases ha)]; simp
      | some u => rw [if_pos (Array.getElem?_eq_some_iff.1 ha).1]; simp
    · rw [if_neg hj]
      by_cases h1 : off + k ≤ j
      · rw [if_pos (by omega), if_pos h1, show j - (off + k) = (j - (off + (k + 1))) + 1 from by omega, List.getElem?_cons_succ]
      · rw [if_neg h1, if_neg (by omega)]

theorem over_list (c1 ci c2 cz : List Value) (h : cz.length = ci.length) : over (c1 ++ ci ++ c2).toArray c1.length cz = (c1 ++ cz ++ c2).toArray := by
  have hs : Sits (c1 ++ ci ++ c2).toArray 0 (c1 ++ ci ++ c2) := fun j v hj => by simpa using hj
  have := over_mid hs h
  rw [Nat.zero_add] at this
  rw [← this]
  apply Array.ext_getElem?
  intro k
  rw [over_get]
  simp only [Nat.zero_le, if_true, Nat.sub_zero, List.getElem?_toArray]
  by_cases hk : k < (c1 ++ cz ++ c2).length
  · have hk' : k < (c1 ++ ci ++ c2).length := by simp at hk ⊢; omega
    rw [List.getElem?_eq_getElem hk', List.getElem?_eq_getElem hk]; rfl
  · have hk' : ¬ k < (c1 ++ ci ++ c2).length := by simp at hk ⊢; omega
    rw [List.getElem?_eq_none (by omega), List.getElem?_eq_none (by omega)]; rfl

/-- The parts of a literal laid into the zero value. -/
theorem fill_ok {h : Array Obj} {place : Nat → Option (Nat × Nat)} : ∀ {ps : List (Nat × A)} {vs : List Value} {es : List A} {l : List Value} {F G : List Nat},
    Concs S h es l F → (G ++ F).Nodup → Hass S h (ps.map (·.2)) vs G →
    (∀ p ∈ ps, ∃ y, es[p.1]? = some y ∧ p.2.size = y.size ∧ (p.2.isAgg = true ∨ p.2.size = 1) ∧ (∀ fs, p.2 ≠ .tup fs)) →
    (∀ i y, es[i]? = some y → (∃ p ∈ ps, p.1 = i) → place i = some (A.sizes (es.take i), y.size)) →
    ∃ l' F', Instr.fill place l.toArray ((ps.map (·.1)).zip vs) = some l'.toArray ∧ Concs S h (setAt es ps) l' F' ∧ F'.Nodup ∧ ∀ k ∈ F', k ∈ G ++ F
  | [], [], es, l, F, G, hc, hn, hh, _, _ => by
    simp only [List.map_nil, Hass] at hh
    subst hh
    exact ⟨l, F, rfl, hc, by simpa using hn, fun k hk => by simpa using hk⟩
  | [], _ :: _, _, _, _, _, _, _, hh, _, _ => by simp [Hass] at hh
  | p :: ps, [], _, _, _, _, _, _, hh, _, _ => by simp [Hass] at hh
  | (i, z) :: ps, v :: vs, es, l, F, G, hc, hn, hh, hp, hpl => by
    simp only [List.map_cons, Hass] at hh
    obtain ⟨F1, F2, rfl, q1, q2⟩ := hh
    obtain ⟨y, hy, hsz, hag, hnt⟩ := hp (i, z) (by simp)
    obtain ⟨cz, z1, z2, z3⟩ := q1.cells hnt
    obtain ⟨c1, ci, c2, G1, Gi, G2, rfl, rfl, hl1, hxi, hup⟩ := Concs.split hc hy
    have hlen : cz.length = ci.length := by rw [z1.len, hxi.len]; exact hsz
    have hcl : v.cells = cz.toArray := by rw [z3]; exact cells_valOf z1.one (hag.imp id (fun h => by rw [z1.len]; exact h))
    have hpi := hpl i y hy ⟨(i, z), by simp, rfl⟩
    have hown := hc.own
    have hset := hup S h z cz F1 (fun _ _ _ h => h) (fun k hk => ⟨rfl, (hown k (by rcases hk with hk | hk <;> simp [hk])).2.1⟩) z1
    rw [List.append_assoc, List.nodup_append] at hn
    obtain ⟨n1, n2, n3⟩ := hn
    rw [List.nodup_append] at n2
    obtain ⟨n4, n5, n6⟩ := n2
    rw [List.append_assoc, List.nodup_append] at n5
    obtain ⟨m1, m2, m3⟩ := n5
    rw [List.nodup_append] at m2
    obtain ⟨m4, m5, m6⟩ := m2
    have hnod : (F2 ++ (G1 ++ F1 ++ G2)).Nodup := by
      rw [List.nodup_append]
      refine ⟨n1, ?_, ?_⟩
      · rw [List.append_assoc, List.nodup_append]
        refine ⟨m1, ?_, ?_⟩
        · rw [List.nodup_append]
          exact ⟨n4, m5, fun k hk k' hk' => n6 k hk k' (by simp [hk'])⟩
        · rintro k hk k' hk' rfl
          rcases List.mem_append.1 hk' with hk' | hk'
          · exact n6 k hk' k (by simp [hk]) rfl
          · exact m3 k hk k (by simp [hk']) rfl
      · rintro k hk k' hk' rfl
        refine n3 k hk k ?_ rfl
        simp only [List.mem_append] at hk' ⊢
        rcases hk' with (hk' | hk') | hk'
        · exact .inr (.inl (.inl hk'))
        · exact .inl hk'
        · exact .inr (.inr hk')
    have hsizes : ∀ j, A.sizes ((es.set i z).take j) = A.sizes (es.take j) := by
      intro j
      rw [A.sizes_eq, A.sizes_eq]
      congr 1
      apply List.ext_getElem?
      intro k
      simp only [List.getElem?_map, List.getElem?_take, List.getElem?_set]
      split
      · split
        · rename_i hik
          subst hik
          split
          · rw [hy]; simp [hsz]
          · rename_i hlt; exact absurd (List.getElem?_eq_some_iff.1 hy).1 hlt
        · rfl
      · rfl
    have hgetset : ∀ (j : Nat) (u : A), (es.set i z)[j]? = some u → ∃ u' : A, es[j]? = some u' ∧ u.size = u'.size := by
      intro j u hj
      rw [List.getElem?_set] at hj
      split at hj
      · rename_i hij
        subst hij
        split at hj
        · simp only [Option.some.injEq] at hj; subst hj; exact ⟨y, hy, hsz⟩
        · cases hj
      · exact ⟨u, hj, rfl⟩
    have ih := fill_ok (place := place) (ps := ps) (vs := vs) (es := es.set i z) (l := c1 ++ cz ++ c2) (F := G1 ++ F1 ++ G2) (G := F2) hset hnod q2
      (fun p hp' => by
        obtain ⟨y', hy', h1, h2, h3⟩ := hp p (by simp [hp'])
        by_cases hij : i = p.1
        · refine ⟨z, ?_, ?_, h2, h3⟩
          · rw [← hij, List.getElem?_set_self (List.getElem?_eq_some_iff.1 hy).1]
          · rw [h1, hsz]
            rw [← hij, hy] at hy'
            simp only [Option.some.injEq] at hy'
            rw [← hy']
        · exact ⟨y', by rw [List.getElem?_set_ne hij]; exact hy', h1, h2, h3⟩)
      (fun j u hj hex => by
        obtain ⟨u', hu', hus⟩ := hgetset j u hj
        rw [hsizes, hus]
        refine hpl j u' hu' ?_
        obtain ⟨p, hp1, hp2⟩ := hex
        exact ⟨p, by simp [hp1], hp2⟩)
    obtain ⟨l', F', r1, r2, r3, r4⟩ := ih
    refine ⟨l', F', ?_, by simpa only [setAt] using r2, r3, ?_⟩
    · simp only [List.map_cons, List.zip_cons_cons, Instr.fill, hpi, hcl, List.size_toArray]
      have hcond : (decide (cz.length ≠ y.size) || decide (A.sizes (es.take i) + cz.length > (c1 ++ ci ++ c2).length)) = false := by
        have h1 : cz.length = y.size := by rw [z1.len]; exact hsz
        have h2 : A.sizes (es.take i) + cz.length ≤ (c1 ++ ci ++ c2).length := by rw [← hl1, hlen]; simp
        simp [h1]; rw [← h1]; simpa using h2
      rw [hcond]
      simp only [Bool.false_eq_true, if_false]
      have hfold : Array.foldl (fun cs x => cs.setIfInBounds (A.sizes (List.take i es) + x.2) x.1) (c1 ++ ci ++ c2).toArray cz.toArray.zipIdx = (c1 ++ cz ++ c2).toArray := by
        rw [← Array.foldl_toList]
        simp only [Array.toList_zipIdx]
        rw [fold_over (A.sizes (List.take i es)) cz 0, Nat.add_zero, ← hl1]
        exact over_list c1 ci c2 cz hlen
      rw [hfold]
      exact r1
    · intro k hk
      have := r4 k hk
      simp only [List.mem_append] at this ⊢
      rcases this with h | (h | h) | h
      · exact .inl (.inl h)
      · exact .inr (.inl (.inl h))
      · exact .inl (.inr h)
      · exact .inr (.inr h)

def okParts (es : List A) (ps : List (Nat × A)) : Bool :=
  ps.all fun p => match es[p.1]? with | some y => p.2.size == y.size && (p.2.isAgg || p.2.size == 1) && !(match p.2 with | .tup _ => true | _ => false) | none => false

theorem okParts_ok {es : List A} {ps : List (Nat × A)} (h : okParts es ps = true) : ∀ p ∈ ps, ∃ y, es[p.1]? = some y ∧ p.2.size = y.size ∧ (p.2.isAgg = true ∨ p.2.size = 1) ∧ (∀ fs, p.2 ≠ .tup fs) := by
  intro p hp
  have := List.all_eq_true.1 h p hp
  split at this
  · rename_i y hy
    simp only [Bool.and_eq_true, beq_iff_eq, Bool.or_eq_true] at this
    refine ⟨y, hy, this.1.1, this.1.2, ?_⟩
    intro fs hf
    rw [hf] at this
    simp at this
  · cases this

def buildSliceO (tt : TT) (n : Fr) (dst : Option Nat) (t len : Nat) (ps : List (Nat × Operand)) : SM Unit :=
  match tt t with
  | some ⟨.slice e, _, _, _, _⟩ =>
    match tt e with
    | some i =>
      match i.zero with
      | some z => do
        let xs ← takes (ps.map fun p => (p.2, e)) tt
        if okParts (List.replicate len z) ((ps.map (·.1)).zip xs) = true ∧ len * i.size ≤ 16777216 ∧ len ≤ lim then
          wrT n dst (.own (.osl i.size true (setAt (List.replicate len z) ((ps.map (·.1)).zip xs))))
        else sfail
      | none => sfail
    | none => sfail
  | _ => sfail

theorem setAt_length : ∀ (ps : List (Nat × A)) (es : List A), (setAt es ps).length = es.length
  | [], _ => rfl
  | (i, a) :: ps, es => by simp [setAt, setAt_length ps]

theorem takes_len {tt : TT} : ∀ {ps : List (Operand × Nat)} {st : St} {xs : List A} {R : List Nat} {U : List (Nat × Ent)}, takes ps tt st = some (xs, R, U) → xs.length = ps.length
  | [], st, xs, R, U, e => by obtain ⟨rfl, _, _⟩ := pure_some e; rfl
  | (x, t) :: ps, st, xs, R, U, e => by
    simp only [takes] at e
    obtain ⟨y, R1, U1, R2, U2, h1, e1, rfl, rfl⟩ := bind_some e
    obtain ⟨z, R3, U3, R4, U4, h3, e2, rfl, rfl⟩ := bind_some e1
    obtain ⟨bs, R5, U5, R6, U6, h5, e3, rfl, rfl⟩ := bind_some e2
    obtain ⟨rfl, _, _⟩ := pure_some e3
    simp [takes_len h5]

theorem take_replicate_sizes {z : A} {sz len i : Nat} (hz : z.size = sz) (hi : i ≤ len) : A.sizes ((List.replicate len z).take i) = i * sz := by
  rw [List.take_replicate, Nat.min_eq_left hi, A.sizes_const (sz := sz) (fun x hx => by rw [List.eq_of_mem_replicate hx]; exact hz), List.length_replicate]

theorem run_buildSlice {P : Program} {t len e : Nat} {f : TypeInfo} {zv : Value} (ht : P.underlying t = some (.slice e)) (hi : P.info? e = some f) (hz : f.zero = some zv) (hlim : len * f.size ≤ 16777216) {parts : Array (Nat × Value)} {arr : Array Value}
    (hf : Instr.fill (fun i => some (i * f.size, f.size)) (madeCells zv.cells (len * f.size)) parts.toList = some arr) (w : World) :
    (Instr.buildSlice t len parts).run P w = .ok (.slice (some ⟨w.heap.size, 0, none⟩) len len) (w.alloc (.cells arr e)) := by
  have hlim' : ¬ (16777216 < len * f.size) := by omega
  by_cases h0 : len * f.size = 0
  · have hm : madeCells zv.cells (len * f.size) = #[] := by rw [h0]; simp [madeCells]
    rw [hm] at hf
    simp [Instr.buildSlice, run_underlying ht, Go.sizeOf, typeInfo, hi, h0, Array.range_zero', hf, newRow]
  · unfold madeCells at hf
    simp [Instr.buildSlice, run_underlying ht, Go.sizeOf, typeInfo, hi, hlim', h0, zeroValue, hz, hf, newRow]

theorem buildSlice_ok {P : Program} {tt : TT} (hT : TTok P tt) (h : Sim C S Fp [] st a w) {o : Oper} {t len : Nat} {ps : Array (Nat × Operand)} (ho : o.op = .buildSlice t len ps) {u : Unit} {R : List Nat} {U : List (Nat × Ent)}
    (e : buildSliceO tt C.n o.dst t len ps.toList st = some (u, R, U)) : Good P C o a w (applyU U st) := by
  unfold buildSliceO at e
  cases ht : tt t with
  | none => simp only [ht] at e; exact (sfail_some e).elim
  | some it =>
    obtain ⟨kd, a1, a2, a3, a4⟩ := it
    cases kd with
    | slice el =>
      simp only [ht] at e
      have hel : P.underlying t = some (.slice el) := (hT _ _ ht).kind
      cases hi : tt el with
      | none => simp only [hi] at e; exact (sfail_some e).elim
      | some i =>
        simp only [hi] at e
        cases hz : i.zero with
        | none => simp only [hz] at e; exact (sfail_some e).elim
        | some z =>
          simp only [hz] at e
          obtain ⟨f, f1, f2, f3, f4⟩ := (hT _ _ hi).info
          obtain ⟨zv, v1, v2, v3⟩ := f4 z hz
          have hzs : zv.cells.size = f.size := by
            have := (v3 (fun _ _ => none) #[]).len
            rw [v2, ← f2] at this
            simpa using this
          obtain ⟨xs, R1, U1, R2, U2, h1, e1, rfl, rfl⟩ := bind_some e
          have hxl := takes_len h1
          obtain ⟨Fp', G, g1, g2⟩ := takes_ok h h1
          rw [applyU_append]
          split at e1
          · rename_i hcond
            obtain ⟨hok, hlim, hlen0⟩ := hcond
            have hps := okParts_ok hok
            have hmap2 : ((ps.toList.map (·.1)).zip xs).map (·.2) = xs := List.map_snd_zip (by rw [hxl]; simp)
            have hmap1 : ((ps.toList.map (·.1)).zip xs).map (·.1) = ps.toList.map (·.1) := List.map_fst_zip (by rw [hxl]; simp)
            have hc0 := concs_replicate (v3 S w.heap) len
            have hGn := g1.xn
            rw [List.append_nil] at hGn
            obtain ⟨l', F', r1, r2, r3, r4⟩ := fill_ok (h := w.heap) (place := fun i => some (i * f.size, f.size)) hc0 (by simpa using hGn) (by rw [hmap2]; exact g2) hps (by
              intro j y hj _
              have hj' := List.getElem?_eq_some_iff.1 hj
              obtain ⟨hjl, hjz⟩ := hj'
              simp only [List.length_replicate] at hjl
              simp only [List.getElem_replicate] at hjz
              subst hjz
              rw [take_replicate_sizes (sz := f.size) (by rw [v2, f2]) (by omega), v2, f2])
            have hszs : ∀ x ∈ setAt (List.replicate len z) ((ps.toList.map (·.1)).zip xs), x.size = i.size := by
              have gen : ∀ (qs : List (Nat × A)) (es : List A), (∀ x ∈ es, x.size = i.size) → (∀ q ∈ qs, q.2.size = i.size) → ∀ x ∈ setAt es qs, x.size = i.size := by
                intro qs
                induction qs with
                | nil => intro es h1 _ x hx; exact h1 x hx
                | cons q qs ih =>
                  intro es h1 h2
                  simp only [setAt]
                  refine ih _ (fun x hx => ?_) (fun q' hq' => h2 q' (by simp [hq']))
                  rcases List.mem_or_eq_of_mem_set hx with hx | rfl
                  · exact h1 x hx
                  · exact h2 _ (by simp)
              refine gen _ _ (fun x hx => by rw [List.eq_of_mem_replicate hx]; exact v2) (fun q hq => ?_)
              obtain ⟨y, hy, hs, _⟩ := hps q hq
              rw [hs]
              have := List.mem_of_getElem? hy
              rw [List.eq_of_mem_replicate this]; exact v2
            have hlen' : l'.length = len * i.size := by rw [r2.len, A.sizes_const hszs, setAt_length, List.length_replicate]
            have hsub : Sim C S Fp' (F' ++ []) (applyU U1 st) a w := g1.mem g1.below (fun _ _ _ h => h) g1.still g1.sbase (fun t' k hk => ⟨rfl, (g1.free t' k hk).2.1⟩) (by simpa using r3)
              (fun t' k hk => g1.xd t' k (by have := r4 k (by simpa using hk); simpa using this)) (fun k hk => g1.xb k (by have := r4 k (by simpa using hk); simpa using this))
            have hsl : (setAt (List.replicate len z) ((ps.toList.map (·.1)).zip xs)).length = len := by rw [setAt_length, List.length_replicate]
            have hmx : len ≤ maxLen := by
              unfold maxLen
              have : len ≤ 4294967296 := hlen0
              omega
            obtain ⟨k1, k2, k3⟩ := osl_new hsub r2 r3 el (sz := i.size) (c := len) (t := true) (fun _ => hsl.symm) (by omega) hmx hszs (arr := l'.toArray) (by simp [hlen']) (by rw [hsl, ← hlen']; simp) _ rfl
            obtain ⟨Fp'', hs⟩ := wr_own k1 e1 k2 k3
            refine good_value ?_ hs
            have hfill : Instr.fill (fun i => some (i * f.size, f.size)) (madeCells zv.cells (len * f.size)) (ps.toList.map fun x => (x.1, a.eval x.2)) = some l'.toArray := by
              rw [hmap1] at r1
              have e1 : (ps.toList.map (·.1)).zip ((ps.toList.map fun p => (p.2, el)).map fun p => a.eval p.1) = ps.toList.map fun x => (x.1, a.eval x.2) := by
                rw [List.map_map, List.zip_map']
                rfl
              rw [e1] at r1
              have e2 : madeCells zv.cells (len * f.size) = (List.replicate len zv.cells.toList).flatten.toArray := by
                have := madeCells_take zv.cells len len (Nat.le_refl _)
                rw [hzs, List.take_of_length_le (by simp [madeCells])] at this
                rw [← this]
              rw [e2]
              exact r1
            have hpl : (ps.map fun x => match x with | (i, x) => (i, a.eval x)).toList = ps.toList.map fun x => (x.1, a.eval x.2) := by simp
            have hrun := run_buildSlice (P := P) hel f1 v1 (by rw [f2]; exact hlim) (parts := ps.map fun x => match x with | (i, x) => (i, a.eval x)) (by rw [hpl]; exact hfill) w
            simp only [execOp, ho, Sem.run_bind, hrun, Result.andThen_ok, Sem.run_pure]
            simp [valOf, hsl]
          · exact (sfail_some e1).elim
    | _ => simp only [ht] at e; exact (sfail_some e).elim

/-- Where the type has a part: offset and size. -/
def placeOf (tt : TT) (t : Nat) (i : Nat) : Option (Nat × Nat) :=
  match tt t with
  | some ⟨.struct offs, _, _, _, _⟩ => offs[i]?
  | some ⟨.array _ e, _, _, _, _⟩ => (tt e).map fun j => (i * j.size, j.size)
  | _ => none

def placesOk (tt : TT) (t : Nat) (zs : List A) (ps : List (Nat × A)) : Bool :=
  ps.all fun p => match zs[p.1]? with | some y => placeOf tt t p.1 == some (A.sizes (zs.take p.1), y.size) | none => false

def isStructK : TK → Bool
  | .struct _ => true
  | _ => false

def buildO (tt : TT) (n : Fr) (dst : Option Nat) (t : Nat) (ps : List (Nat × Operand)) : SM Unit :=
  match tt t with
  | some i =>
    match i.zero with
    | some (.agg zs) => do
      let xs ← takes (ps.map fun p => (p.2, 0)) tt
      if okParts zs ((ps.map (·.1)).zip xs) = true ∧ placesOk tt t zs ((ps.map (·.1)).zip xs) = true ∧ i.kind.isAgg = true ∧ ((placeOf tt t 0).isSome = true ∨ isStructK i.kind = true) then
        wrT n dst (mkT (.agg (setAt zs ((ps.map (·.1)).zip xs))))
      else sfail
    | _ => sfail
  | none => sfail

theorem run_mapM {P : Program} {α β : Type} {g : α → Sem β} {q : α → β} : ∀ (l : List α), (∀ x ∈ l, ∀ w, (g x).run P w = .ok (q x) w) → ∀ w, (l.mapM g).run P w = .ok (l.map q) w
  | [], _, w => by simp
  | x :: l, h, w => by
    have ih := run_mapM l (fun x hx => h x (by simp [hx])) w
    rw [List.mapM_cons, Sem.run_bind, h x (by simp) w]
    simp only [Result.andThen_ok, Sem.run_bind, ih, Sem.run_pure, List.map_cons]

theorem run_place {P : Program} {f : Field} {i : TypeInfo} (h : P.info? f.type = some i) (w : World) : (do pure (f.offset, ← Go.sizeOf f.type) : Sem (Nat × Nat)).run P w = .ok (f.offset, P.cellsOf f.type) w := by
  simp [Go.sizeOf, typeInfo, h, Program.cellsOf]

theorem run_build {P : Program} {tt : TT} (hT : TTok P tt) {t : Nat} {i : TI} (ht : tt t = some i) (hag : i.kind.isAgg = true) {f : TypeInfo} {zv : Value} (hi : P.info? t = some f) (hz : f.zero = some zv) {parts : Array (Nat × Value)} {arr : Array Value}
    (hf : Instr.fill (placeOf tt t) zv.cells parts.toList = some arr) (hne : (placeOf tt t 0).isSome = true ∨ ∃ offs, i.kind = .struct offs) (w : World) :
    (Instr.build t parts).run P w = .ok (.agg arr) w := by
  have hk := (hT _ _ ht).kind
  cases hkd : i.kind with
  | struct offs =>
    rw [hkd] at hk
    obtain ⟨fields, g1, g2, g3⟩ := hk
    have hpl : placeOf tt t = fun j => (fields.map fun f => (f.offset, P.cellsOf f.type))[j]? := by
      funext j
      unfold placeOf
      obtain ⟨kd, a1, a2, a3, a4⟩ := i
      simp only at hkd
      subst hkd
      simp only [ht]
      rw [← g2]
      simp
    have hm : ∀ w, (fields.mapM (fun f => do pure (f.offset, ← Go.sizeOf f.type) : Field → Sem (Nat × Nat))).run P w = .ok (fields.map fun f => (f.offset, P.cellsOf f.type)) w := by
      intro w
      rw [Array.mapM_eq_mapM_toList, Sem.run_map, run_mapM fields.toList (fun f hf w => run_place (g3 f hf).choose_spec w)]
      simp only [Result.andThen_ok]
      congr 1
      apply Array.ext'
      simp
    rw [hpl] at hf
    have hzv : ∀ w, (zeroValue t).run P w = .ok zv w := fun w => by simp [zeroValue, typeInfo, hi, hz]
    unfold Instr.build
    rw [Sem.run_bind, hzv]
    simp only [Result.andThen_ok]
    rw [Sem.run_bind, run_underlying g1]
    simp only [Result.andThen_ok]
    rw [Sem.run_bind, hm]
    simp only [Result.andThen_ok, hf]
    rfl
  | array m e =>
    rw [hkd] at hk
    have g1 : P.underlying t = some (.array m e) := hk
    obtain ⟨kd, a1, a2, a3, a4⟩ := i
    simp only at hkd
    subst hkd
    cases he : tt e with
    | none =>
      rcases hne with h | ⟨_, h⟩
      · simp [placeOf, ht, he] at h
      · cases h
    | some j =>
      have hpl : placeOf tt t = fun k => some (k * j.size, j.size) := by funext k; simp [placeOf, ht, he]
      rw [hpl] at hf
      have hzv : ∀ w, (zeroValue t).run P w = .ok zv w := fun w => by simp [zeroValue, typeInfo, hi, hz]
      unfold Instr.build
      rw [Sem.run_bind, hzv]
      simp only [Result.andThen_ok]
      rw [Sem.run_bind, run_underlying g1]
      simp only [Result.andThen_ok]
      rw [Sem.run_bind, run_sizeOf hT he]
      simp only [Result.andThen_ok, hf]
      rfl
  | _ => rw [hkd] at hag; simp [TK.isAgg] at hag

theorem build_ok {P : Program} {tt : TT} (hT : TTok P tt) (h : Sim C S Fp [] st a w) {o : Oper} {t : Nat} {ps : Array (Nat × Operand)} (ho : o.op = .build t ps) {u : Unit} {R : List Nat} {U : List (Nat × Ent)}
    (e : buildO tt C.n o.dst t ps.toList st = some (u, R, U)) : Good P C o a w (applyU U st) := by
  unfold buildO at e
  cases ht : tt t with
  | none => simp only [ht] at e; exact (sfail_some e).elim
  | some i =>
    simp only [ht] at e
    cases hz : i.zero with
    | none => simp only [hz] at e; exact (sfail_some e).elim
    | some z =>
      cases z with
      | agg zs =>
        simp only [hz] at e
        obtain ⟨f, f1, f2, f3, f4⟩ := (hT _ _ ht).info
        obtain ⟨zv, v1, v2, v3⟩ := f4 _ hz
        obtain ⟨xs, R1, U1, R2, U2, h1, e1, rfl, rfl⟩ := bind_some e
        have hxl := takes_len h1
        obtain ⟨Fp', G, g1, g2⟩ := takes_ok h h1
        rw [applyU_append]
        split at e1
        · rename_i hcond
          obtain ⟨hok, hpl, hag, hne⟩ := hcond
          have hps := okParts_ok hok
          have hmap2 : ((ps.toList.map (·.1)).zip xs).map (·.2) = xs := List.map_snd_zip (by rw [hxl]; simp)
          have hmap1 : ((ps.toList.map (·.1)).zip xs).map (·.1) = ps.toList.map (·.1) := List.map_fst_zip (by rw [hxl]; simp)
          have hc0 : Concs S w.heap zs zv.cells.toList [] := by have := v3 S w.heap; simpa only [Conc] using this
          have hGn := g1.xn
          rw [List.append_nil] at hGn
          obtain ⟨l', F', r1, r2, r3, r4⟩ := fill_ok (h := w.heap) (place := placeOf tt t) hc0 (by simpa using hGn) (by rw [hmap2]; exact g2) hps (by
            intro j y hj hex
            obtain ⟨p, hp1, hp2⟩ := hex
            have := List.all_eq_true.1 hpl p hp1
            rw [hp2, hj] at this
            simpa using this)
          have hsub : Sim C S Fp' (F' ++ []) (applyU U1 st) a w := g1.mem g1.below (fun _ _ _ h => h) g1.still g1.sbase (fun t' k hk => ⟨rfl, (g1.free t' k hk).2.1⟩) (by simpa using r3)
            (fun t' k hk => g1.xd t' k (by have := r4 k (by simpa using hk); simpa using this)) (fun k hk => g1.xb k (by have := r4 k (by simpa using hk); simpa using this))
          obtain ⟨Fp'', hs⟩ := wr_has hsub e1 (v := .agg l'.toArray) (.inr ⟨l', by simp only [Conc]; exact r2, r3, rfl⟩)
          refine good_value ?_ hs
          have e2 : (ps.toList.map (·.1)).zip ((ps.toList.map fun p => (p.2, 0)).map fun p => a.eval p.1) = ps.toList.map fun x => (x.1, a.eval x.2) := by
            rw [List.map_map, List.zip_map']
            rfl
          rw [hmap1, e2] at r1
          have hpl2 : (ps.map fun x => match x with | (i, x) => (i, a.eval x)).toList = ps.toList.map fun x => (x.1, a.eval x.2) := by simp
          have hrun := run_build (P := P) hT ht hag f1 v1 (parts := ps.map fun x => match x with | (i, x) => (i, a.eval x)) (by rw [hpl2]; exact r1) (hne.imp id (fun h => by
            unfold isStructK at h
            split at h
            · rename_i offs hk; exact ⟨offs, hk⟩
            · cases h)) w
          simp only [execOp, ho, Sem.run_bind, hrun, Result.andThen_ok, Sem.run_pure]
        · exact (sfail_some e1).elim
      | _ => simp only [hz] at e; exact (sfail_some e).elim

end
end Go.Own

namespace Go.Own

section
variable {C : Ctx} {S : Still} {Fp : Nat → List Nat} {X : List Nat} {st : St} {a : Act} {w : World}

theorem reps_app {S : Still} : ∀ {xs ys : List A} {cs : List Value}, Reps S (xs ++ ys) cs → ∃ c1 c2, cs = c1 ++ c2 ∧ Reps S xs c1 ∧ Reps S ys c2
  | [], ys, cs, h => ⟨[], cs, rfl, by simp [Reps], h⟩
  | x :: xs, ys, cs, h => by
    simp only [List.cons_append, Reps] at h
    obtain ⟨c1, c2, rfl, h1, h2⟩ := h
    obtain ⟨d1, d2, rfl, e1, e2⟩ := reps_app h2
    refine ⟨c1 ++ d1, d2, by simp, ?_, e2⟩
    simp only [Reps]
    exact ⟨c1, d1, rfl, h1, e1⟩

theorem reps_sub {S : Still} {xs : List A} {cs : List Value} {sz : Nat} (h : Reps S xs cs) (hs : ∀ x ∈ xs, x.size = sz) {l k : Nat} (hl : l ≤ xs.length) : ∃ ds, Reps S ((xs.drop l).take k) ds ∧ ∀ j v, ds[j]? = some v → cs[l * sz + j]? = some v := by
  rw [← List.take_append_drop l xs] at h
  obtain ⟨c1, c2, rfl, h1, h2⟩ := reps_app h
  rw [← List.take_append_drop k (xs.drop l)] at h2
  obtain ⟨d1, d2, rfl, e1, e2⟩ := reps_app h2
  refine ⟨d1, e1, fun j v hj => ?_⟩
  have hc1 : c1.length = l * sz := by rw [h1.len, A.sizes_const (sz := sz) (fun x hx => hs x (List.mem_of_mem_take hx)), List.length_take, Nat.min_eq_left hl]
  rw [← hc1, List.getElem?_append_right (by omega), Nat.add_sub_cancel_left, List.getElem?_append_left (List.getElem?_eq_some_iff.1 hj).1]
  exact hj

/-- A bound: a number that is known. -/
def bound (dflt : Nat) : Option Operand → SM Nat
  | none => pure dflt
  | some x => do
    let t ← opnd x
    let v ← val t
    match v with
    | .atom (.int _ j) => if 0 ≤ j then pure j.toNat else sfail
    | _ => sfail

theorem bound_ok (h : Sim C S Fp X st a w) {dflt n : Nat} {x : Option Operand} {R : List Nat} {U : List (Nat × Ent)} (e : bound dflt x st = some (n, R, U)) :
    U = [] ∧ ((x = none ∧ n = dflt) ∨ ∃ o k j, x = some o ∧ a.eval o = .int k j ∧ 0 ≤ j ∧ n = j.toNat) := by
  cases x with
  | none =>
    obtain ⟨rfl, rfl, rfl⟩ := pure_some e
    exact ⟨rfl, .inl ⟨rfl, rfl⟩⟩
  | some o =>
    simp only [bound] at e
    obtain ⟨t, R1, U1, R2, U2, h1, e1, rfl, rfl⟩ := bind_some e
    obtain ⟨rfl, hx⟩ := opnd_ok h h1
    obtain ⟨v, R3, U3, R4, U4, h3, e2, rfl, rfl⟩ := bind_some e1
    obtain ⟨rfl, qv⟩ := val_ok h hx h3
    cases v with
    | atom vv =>
      cases vv with
      | int k j =>
        simp only at e2
        split at e2
        · rename_i hj
          obtain ⟨rfl, rfl, rfl⟩ := pure_some e2
          exact ⟨rfl, .inr ⟨o, k, j, rfl, (repV_atom.1 qv).1, hj, rfl⟩⟩
        · exact (sfail_some e2).elim
      | _ => exact (sfail_some e2).elim
    | _ => exact (sfail_some e2).elim

def BoundIs (x : Option Value) (dflt n : Nat) : Prop := (x = none ∧ n = dflt) ∨ ∃ k j, x = some (.int k j) ∧ 0 ≤ j ∧ n = j.toNat

theorem run_bound {P : Program} {w : World} {k : IntKind} {j : Int} {y : Nat} {code : BoundsCode} (h0 : 0 ≤ j) (h1 : j.toNat ≤ y) : (Instr.sliceBound (.int k j) y code).run P w = .ok j.toNat w := by
  have : 0 ≤ j ∧ j ≤ (y : Int) := ⟨h0, by omega⟩
  simp [Instr.sliceBound, asIntOf, this]

theorem run_sliceAt {P : Program} {t e : Nat} {sz : Nat} {w : World} (he : P.underlying t = some (.slice e)) (hsz : (sizeOf e).run P w = .ok sz w) {p : Option Addr} {len c : Nat} {lo hi mx : Option Value} {l h m : Nat}
    (b1 : BoundIs lo 0 l) (b2 : BoundIs hi len h) (b3 : BoundIs mx c m) (h1 : l ≤ h) (h2 : h ≤ m) (h3 : m ≤ c) (hm : mx.isSome = true → hi.isSome = true) :
    (Instr.sliceAt t (.slice p len c) lo hi mx).run P w = .ok (.slice (if m = l then p else p.map (·.add (l * sz))) (h - l) (m - l)) w := by
  have hb : (Instr.sliceBounds true len c lo hi mx).run P w = .ok (l, h, m) w := by
    rcases b1 with ⟨rfl, rfl⟩ | ⟨k1, j1, rfl, p1, rfl⟩ <;> rcases b2 with ⟨rfl, rfl⟩ | ⟨k2, j2, rfl, p2, rfl⟩ <;> rcases b3 with ⟨rfl, rfl⟩ | ⟨k3, j3, rfl, p3, rfl⟩ <;>
      first
        | (simp at hm; done)
        | (simp [Instr.sliceBounds, run_bound, *]; done)
  unfold Instr.sliceAt
  simp only [Sem.run_bind, run_underlying he, Result.andThen_ok, Instr.slice, hb, hsz, Sem.run_pure]

/-- A part of a slice that is written no more. -/
def sliceO (tt : TT) (n : Fr) (dst : Option Nat) (t : Nat) (x : Operand) (lo hi mx : Option Operand) : SM Unit := do
  let y ← opnd x
  match y with
  | .d (.sl sz tg xs) =>
    if elemSize tt t = some sz then do
      let l ← bound 0 lo
      let h ← bound xs.length hi
      match mx with
      | none => if l ≤ h ∧ h ≤ xs.length then wrT n dst (.d (.sl sz (tg && h == xs.length) ((xs.drop l).take (h - l)))) else sfail
      | some _ => do
        let m ← bound 0 mx
        if l ≤ h ∧ h ≤ m ∧ m ≤ xs.length ∧ hi.isSome = true then wrT n dst (.d (.sl sz (m == h) ((xs.drop l).take (h - l)))) else sfail
    else sfail
  | _ => sfail

theorem bound_is {dflt n : Nat} {x : Option Operand} (h : (x = none ∧ n = dflt) ∨ ∃ o k j, x = some o ∧ a.eval o = .int k j ∧ 0 ≤ j ∧ n = j.toNat) : BoundIs (x.map a.eval) dflt n := by
  rcases h with ⟨rfl, rfl⟩ | ⟨o, k, j, rfl, e, h0, rfl⟩
  · exact .inl ⟨rfl, rfl⟩
  · exact .inr ⟨k, j, by simp [e], h0, rfl⟩

theorem rep_part {S : Still} {sz : Nat} {xs : List A} {p : Option Addr} {m l h : Nat} {tg' : Bool} (h4 : ∀ x ∈ xs, x.size = sz) (h5 : xs = [] ∨ ∃ b o l, p = some ⟨b, o, none⟩ ∧ Reps S xs l ∧ Lies S b o l) (h1 : l ≤ h) (h2 : h ≤ xs.length) (hm : h ≤ m) (htg : tg' = true → m = h) :
    RepV S (.sl sz tg' ((xs.drop l).take (h - l))) (.slice (if m = l then p else p.map (·.add (l * sz))) (h - l) (m - l)) := by
  simp only [RepV]
  have hlen : ((xs.drop l).take (h - l)).length = h - l := by rw [List.length_take, List.length_drop]; omega
  refine ⟨[_], ?_, rfl⟩
  simp only [Rep, hlen]
  refine ⟨_, m - l, rfl, fun q => by rw [htg q], by omega, fun x hx => h4 x (List.mem_of_mem_drop (List.mem_of_mem_take hx)), ?_⟩
  by_cases hz : h = l
  · left
    apply List.eq_nil_of_length_eq_zero
    rw [hlen]; omega
  · right
    rcases h5 with rfl | ⟨b, o, L, rfl, r2, r3⟩
    · simp at h2; omega
    · obtain ⟨ds, d1, d2⟩ := reps_sub (k := h - l) r2 h4 (l := l) (by omega)
      rw [if_neg (by omega)]
      refine ⟨b, o + l * sz, ds, by simp [Addr.add_lit], d1, fun j v hj => ?_⟩
      have := r3 _ v (d2 j v hj)
      rw [← Nat.add_assoc] at this
      exact this

theorem slice_ok {P : Program} {tt : TT} (hT : TTok P tt) (h : Sim C S Fp [] st a w) {o : Oper} {t : Nat} {x : Operand} {lo hi mx : Option Operand} (ho : o.op = .slice t x lo hi mx) {u : Unit} {R : List Nat} {U : List (Nat × Ent)} (e : sliceO tt C.n o.dst t x lo hi mx st = some (u, R, U)) : Good P C o a w (applyU U st) := by
  unfold sliceO at e
  obtain ⟨y, R1, U1, R2, U2, h1, e1, rfl, rfl⟩ := bind_some e
  obtain ⟨rfl, hx⟩ := opnd_ok h h1
  simp only [applyU, List.nil_append] at e1 ⊢
  cases y with
  | d z =>
    cases z with
    | sl sz tg xs =>
      simp only at e1
      split at e1
      · rename_i hel
        obtain ⟨l, R3, U3, R4, U4, h3, e2, rfl, rfl⟩ := bind_some e1
        obtain ⟨rfl, b1⟩ := bound_ok h h3
        simp only [applyU, List.nil_append] at e2 ⊢
        obtain ⟨hh, R5, U5, R6, U6, h5, e3, rfl, rfl⟩ := bind_some e2
        obtain ⟨rfl, b2⟩ := bound_ok h h5
        simp only [applyU, List.nil_append] at e3 ⊢
        obtain ⟨el, he, hsz⟩ := elemSize_some hT hel w
        have hx' : RepV S (.sl sz tg xs) (a.eval x) := hx
        simp only [RepV] at hx'
        obtain ⟨cs, r1, r2⟩ := hx'
        simp only [Rep] at r1
        obtain ⟨p, c, rfl, r3, r4, r5, r6⟩ := r1
        have ev : a.eval x = .slice p xs.length c := r2
        cases mx with
        | none =>
          simp only at e3
          split at e3
          · rename_i hc
            have hrun := run_sliceAt (P := P) (w := w) he hsz (p := p) (m := c) (bound_is b1) (bound_is b2) (.inl ⟨rfl, rfl⟩) hc.1 (by omega) (Nat.le_refl c) (by simp)
            obtain ⟨Fp', hs⟩ := wr_ok h e3 (x := .d _) (rep_part (m := c) r5 r6 hc.1 hc.2 (by omega) (by
              intro q
              simp only [Bool.and_eq_true, beq_iff_eq] at q
              rw [r3 q.1, q.2]))
            exact good_value (by simp [execOp, ho, ev, hrun]) hs
          · exact (sfail_some e3).elim
        | some mo =>
          obtain ⟨m, R7, U7, R8, U8, h7, e4, rfl, rfl⟩ := bind_some e3
          obtain ⟨rfl, b3⟩ := bound_ok h h7
          simp only [applyU, List.nil_append] at e4 ⊢
          split at e4
          · rename_i hc
            have b3' : BoundIs ((some mo).map a.eval) c m := by
              rcases b3 with ⟨q, _⟩ | ⟨o, k, j, q, q2, q3, q4⟩
              · cases q
              · cases q; exact .inr ⟨k, j, by simp [q2], q3, q4⟩
            have hrun := run_sliceAt (P := P) (w := w) he hsz (p := p) (bound_is b1) (bound_is b2) b3' hc.1 hc.2.1 (by omega) (by intro _; simpa using hc.2.2.2)
            obtain ⟨Fp', hs⟩ := wr_ok h e4 (x := .d _) (rep_part (m := m) r5 r6 hc.1 (by omega) hc.2.1 (by intro q; simpa using q))
            exact good_value (by simp only [Option.map_some] at hrun; simp [execOp, ho, ev, hrun]) hs
          · exact (sfail_some e4).elim
      · exact (sfail_some e1).elim
    | _ => exact (sfail_some e1).elim
  | _ => exact (sfail_some e1).elim

end
end Go.Own

namespace Go.Own

def StillOk (S : Still) (w : World) : Prop := ∀ b o v, S b o = some v → cellAt w.heap b o = some v

theorem A.looses_eq (as : List A) : A.looses as = as.map A.loose := by
  induction as with
  | nil => rfl
  | cons a as ih => simp [A.looses, ih]

theorem A.looses_length (as : List A) : (A.looses as).length = as.length := by rw [A.looses_eq, List.length_map]

mutual
theorem A.size_loose : ∀ (a : A), a.loose.size = a.size
  | .agg fs => by simp only [A.loose, A.size]; exact A.sizes_looses fs
  | .tup _ => rfl
  | .sl _ _ _ => rfl
  | .osl _ _ _ => rfl
  | .sptr _ => rfl
  | .box _ => rfl
  | .fn _ _ => rfl
  | .atom _ => rfl
  | .dead _ => rfl
theorem A.sizes_looses : ∀ (as : List A), A.sizes (A.looses as) = A.sizes as
  | [] => rfl
  | a :: as => by simp only [A.looses, A.sizes, A.size_loose a, A.sizes_looses as]
end

theorem looses_sizes {as : List A} {sz : Nat} (h : ∀ x ∈ as, x.size = sz) : ∀ x ∈ A.looses as, x.size = sz := by
  intro x hx
  rw [A.looses_eq, List.mem_map] at hx
  obtain ⟨y, hy, rfl⟩ := hx
  rw [A.size_loose]; exact h y hy

theorem looses_caps {as : List A} (h : ∀ c ∈ as, c.size = 1 ∧ ∀ fs, c ≠ .agg fs) : ∀ c ∈ A.looses as, c.size = 1 ∧ ∀ fs, c ≠ .agg fs := by
  intro x hx
  rw [A.looses_eq, List.mem_map] at hx
  obtain ⟨y, hy, rfl⟩ := hx
  obtain ⟨h1, h2⟩ := h y hy
  refine ⟨by rw [A.size_loose]; exact h1, ?_⟩
  intro fs he
  cases y <;> simp [A.loose] at he
  exact h2 _ rfl

mutual
theorem Rep.loose {S : Still} : ∀ {a : A} {cs : List Value}, Rep S a cs → Rep S a.loose cs
  | .agg fs, _, r => by simp only [A.loose, Rep] at r ⊢; exact Reps.loose r
  | .atom _, _, r => r
  | .fn f caps, _, r => by
    simp only [A.loose, Rep] at r ⊢
    obtain ⟨vs, r1, r2, r3⟩ := r
    exact ⟨vs, Reps.loose r1, looses_caps r2, r3⟩
  | .sl sz t xs, _, r => by
    simp only [A.loose, Rep] at r ⊢
    obtain ⟨p, c, r1, _, r3, r4, r5⟩ := r
    refine ⟨p, c, by rw [A.looses_length]; exact r1, by simp, by rw [A.looses_length]; exact r3, looses_sizes r4, ?_⟩
    rcases r5 with rfl | ⟨b, o, l, q1, q2, q3⟩
    · exact .inl rfl
    · exact .inr ⟨b, o, l, q1, Reps.loose q2, q3⟩
  | .sptr x, _, r => by
    simp only [A.loose, Rep] at r ⊢
    obtain ⟨b, o, l, r1, r2, r3⟩ := r
    exact ⟨b, o, l, r1, Rep.loose r2, r3⟩
  | .tup _, _, r => by simp only [Rep] at r
  | .osl _ _ _, _, r => by simp only [Rep] at r
  | .box _, _, r => by simp only [Rep] at r
  | .dead _, _, r => by simp only [Rep] at r
theorem Reps.loose {S : Still} : ∀ {as : List A} {cs : List Value}, Reps S as cs → Reps S (A.looses as) cs
  | [], _, r => r
  | a :: as, _, r => by
    simp only [A.looses, Reps] at r ⊢
    obtain ⟨c1, c2, rfl, r1, r2⟩ := r
    exact ⟨c1, c2, rfl, Rep.loose r1, Reps.loose r2⟩
end

mutual
theorem Conc.loose {S : Still} {h : Array Obj} : ∀ {a : A} {cs : List Value} {F : List Nat}, Conc S h a cs F → Conc S h a.loose cs F
  | .osl sz t es, _, _, r => by
    simp only [A.loose, Conc] at r ⊢
    obtain ⟨p, c, r1, _, r3, r4, r5, r6⟩ := r
    refine ⟨p, c, by rw [A.looses_length]; exact r1, by simp, by rw [A.looses_length]; exact r3, r4, looses_sizes r5, ?_⟩
    rcases r6 with ⟨rfl, q⟩ | ⟨b, arr, ty, l, F', q1, q2, q3, q4, q5, q6⟩
    · exact .inl ⟨rfl, q⟩
    · exact .inr ⟨b, arr, ty, l, F', q1, q2, q3, by rw [A.looses_length]; exact q4, Concs.loose q5, q6⟩
  | .box x, _, _, r => by
    simp only [A.loose, Conc] at r ⊢
    obtain ⟨b, ty, l, F', r1, r2, r3, r4⟩ := r
    exact ⟨b, ty, l, F', r1, r2, Conc.loose r3, r4⟩
  | .agg fs, _, _, r => by simp only [A.loose, Conc] at r ⊢; exact Concs.loose r
  | .dead _, _, _, r => r
  | .atom _, _, _, r => r
  | .fn f caps, _, _, r => by
    simp only [Conc] at r
    have := Rep.loose r.1
    simp only [A.loose] at this ⊢
    simp only [Conc]
    exact ⟨this, r.2⟩
  | .sl sz t xs, _, _, r => by
    simp only [Conc] at r
    have := Rep.loose r.1
    simp only [A.loose] at this ⊢
    simp only [Conc]
    exact ⟨this, r.2⟩
  | .sptr x, _, _, r => by
    simp only [Conc] at r
    have := Rep.loose r.1
    simp only [A.loose] at this ⊢
    simp only [Conc]
    exact ⟨this, r.2⟩
  | .tup _, _, _, r => by simp only [Conc] at r
theorem Concs.loose {S : Still} {h : Array Obj} : ∀ {as : List A} {cs : List Value} {F : List Nat}, Concs S h as cs F → Concs S h (A.looses as) cs F
  | [], _, _, r => r
  | a :: as, _, _, r => by
    simp only [A.looses, Concs] at r ⊢
    obtain ⟨c1, c2, F1, F2, e1, e2, r1, r2⟩ := r
    exact ⟨c1, c2, F1, F2, e1, e2, Conc.loose r1, Concs.loose r2⟩
end

theorem valOf_loose (a : A) (cs : List Value) : valOf a.loose cs = valOf a cs := by cases a <;> rfl

theorem Rep1.loose {S : Still} {a : A} {v : Value} (h : Rep1 S a v) : Rep1 S a.loose v :=
  let ⟨cs, h1, h2⟩ := h; ⟨cs, h1.loose, by rw [valOf_loose]; exact h2⟩

theorem RepV.loose {S : Still} {a : A} {v : Value} (h : RepV S a v) : RepV S a.loose v := by
  cases a with
  | tup fs =>
    simp only [A.loose, RepV] at h ⊢
    obtain ⟨vs, e, h⟩ := h
    refine ⟨vs, e, ?_⟩
    clear e
    induction fs generalizing vs with
    | nil => exact h
    | cons f fs ih =>
      cases vs with
      | nil => exact h.elim
      | cons v vs => exact ⟨h.1.loose, ih vs h.2⟩
  | _ => exact Rep1.repV (Rep1.loose (by simpa only [RepV] using h))

theorem Has.loose {S : Still} {h : Array Obj} {a : A} {v : Value} {F : List Nat} (q : Has S h a v F) : Has S h a.loose v F := by
  rcases q with ⟨q, rfl⟩ | ⟨cs, q1, q2, q3⟩
  · exact .inl ⟨q.loose, rfl⟩
  · exact .inr ⟨cs, q1.loose, q2, by rw [valOf_loose]; exact q3⟩

theorem Hass.loose {S : Still} {h : Array Obj} : ∀ {as : List A} {vs : List Value} {F : List Nat}, Hass S h as vs F → Hass S h (as.map A.loose) vs F
  | [], [], _, q => q
  | _ :: _, _ :: _, _, q => by
    obtain ⟨F1, F2, e, q1, q2⟩ := q
    exact ⟨F1, F2, e, q1.loose, q2.loose⟩
  | [], _ :: _, _, q => q.elim
  | _ :: _, [], _, q => q.elim

theorem Hass.norm {S : Still} {h : Array Obj} {ls : List A} {vs : List Value} {F : List Nat} (ctr : Ctr) (k : Nat) (q : Hass S h ls vs F) : Hass S h (ctr.norm k ls) vs F := by
  unfold Ctr.norm
  split
  · exact q
  · exact q.loose

theorem Has.grow {S S' : Still} {h : Array Obj} {a : A} {v : Value} {F : List Nat} (q : Has S h a v F) (hS : ∀ b o u, S b o = some u → S' b o = some u) (hF : ∀ k ∈ F, ∀ o, S k o = none → S' k o = none) : Has S' h a v F := by
  rcases q with ⟨q, rfl⟩ | ⟨cs, q1, q2, q3⟩
  · exact .inl ⟨q.mono hS, rfl⟩
  · exact .inr ⟨cs, q1.frame hS (fun k hk => ⟨rfl, fun o => hF k hk o ((q1.own k hk).2.1 o)⟩), q2, q3⟩

theorem all2_hass {S : Still} {h : Array Obj} : ∀ {as : List A} {vs : List Value}, All2 (Rep1 S) as vs → Hass S h as vs []
  | [], [], _ => rfl
  | _ :: _, _ :: _, q => ⟨[], [], rfl, .inl ⟨q.1.repV, rfl⟩, all2_hass q.2⟩
  | [], _ :: _, q => q.elim
  | _ :: _, [], q => q.elim

theorem Hass.append {S : Still} {h : Array Obj} : ∀ {as : List A} {vs : List Value} {F : List Nat} {bs : List A} {us : List Value}, Hass S h as vs F → Hass S h bs us [] → Hass S h (as ++ bs) (vs ++ us) F
  | [], [], _, _, _, q, q' => by rw [show _ = [] from q]; exact q'
  | _ :: _, _ :: _, _, _, _, q, q' => by
    obtain ⟨F1, F2, e, q1, q2⟩ := q
    exact ⟨F1, F2, e, q1, q2.append q'⟩
  | [], _ :: _, _, _, _, q, _ => q.elim
  | _ :: _, [], _, _, _, q, _ => q.elim

end Go.Own

namespace Go.Own

section
variable {C : Ctx} {S : Still} {Fp : Nat → List Nat} {st : St} {a : Act} {w : World}

theorem oneA_val {y : A} {cs : List Value} {S : Still} {h : Array Obj} {F : List Nat} (ho : oneA y = true) (hc : Conc S h y cs F) : cs = [valOf y cs] := by
  have hl := hc.len
  cases y <;> simp [oneA] at ho
  all_goals
    simp only [A.size] at hl
    obtain ⟨u, rfl⟩ := List.length_eq_one_iff.1 hl
    rfl

theorem lend_ok (h : Sim C S Fp [] st a w) {r : Nat} {p : List Step} {er ec : Nat} {v : Value} (hx : AlsOk w.heap st (Act.tv a) r p er ec v) {y x0 : A} {R : List Nat} {U : List (Nat × Ent)} (e : look r p er ec st = some (y, R, U)) (ht : (st r).t = .own x0) (hy : oneA y = true) :
    ∃ F cs, Conc S w.heap y cs F ∧ v = valOf y cs ∧ F.Nodup ∧
      ∀ (S' : Still) (w' : World) (y' : A) (G F' : List Nat), oneA y' = true → Kept (fun k => w.heap.size ≤ k ∨ k ∈ F) w w' → (∀ b o u, S b o = some u → S' b o = some u) → (∀ b o, b < w.heap.size → b ∉ F → S' b o = S b o) → StillOk S' w' →
        Has S' w'.heap y' v G → (F' ++ G).Nodup → (∀ k ∈ F' ++ G, w.heap.size ≤ k ∨ k ∈ F) →
        ∃ Fp', Sim C S' Fp' (F' ++ []) (upd st r ⟨.own (setP p x0 y'), (st r).er, (st r).ec + 1⟩) a w' := by
  obtain ⟨_, q⟩ := look_ok h hx e
  have hr := h.ent r
  unfold EntOk at hr
  simp only [ht] at hr
  refine q.elim ?_ (fun q => by have q1 := q.1; rw [ht] at q1; cases q1)
  rintro ⟨x, cs, F, q1, q2, q3, q4, q5, q6, q7, q8⟩
  rw [ht] at q1
  cases q1
  obtain ⟨cs', c1, c2, c3⟩ := hr
  -- what holds behind the call, whatever the place
  have common : ∀ (F : List Nat), (∀ k ∈ F, k ∈ Fp r) → ∀ (S' : Still) (w' : World) (G F' : List Nat), Kept (fun k => w.heap.size ≤ k ∨ k ∈ F) w w' → (∀ b o, b < w.heap.size → b ∉ F → S' b o = S b o) → (∀ k ∈ F' ++ G, w.heap.size ≤ k ∨ k ∈ F) →
      Kept C.M C.w0 w' ∧ (∀ b o, ¬ C.M b → S' b o = C.S0 b o) ∧ (∀ t k, t ≠ r → k ∈ Fp t → w'.heap[k]? = w.heap[k]? ∧ ∀ o, S' k o = none) ∧ (∀ k ∈ F' ++ G, C.M k) ∧ (∀ t k, t ≠ r → k ∈ F' ++ G → k ∉ Fp t) := by
    intro F hF S' w' G F' b1 b3 b7
    have hM : ∀ k, (w.heap.size ≤ k ∨ k ∈ F) → C.M k := fun k hk => hk.elim (fun hk => h.mine k (Nat.le_trans h.base_le hk)) (fun hk => h.base r k (hF k hk))
    have hno : ∀ t k, t ≠ r → k ∈ Fp t → ¬ (w.heap.size ≤ k ∨ k ∈ F) := by
      rintro t k htr hk (hq | hq)
      · have := (h.free t k hk).1; omega
      · exact htr (h.disj t r k hk (hF k hq))
    refine ⟨h.below.trans (b1.mono hM), ?_, ?_, fun k hk => hM k (b7 k hk), fun t k htr hk hkt => hno t k htr hkt (b7 k hk)⟩
    · intro b o hb
      rcases Nat.lt_or_ge b w.heap.size with hlt | hge
      · rw [b3 b o hlt (fun hF => hb (hM b (.inr hF)))]
        exact h.sbase b o hb
      · exact absurd (hM b (.inl hge)) hb
    · intro t k htr hk
      refine ⟨b1.block k (hno t k htr hk), fun o => ?_⟩
      rw [b3 k o (h.free t k hk).1 (fun hF => hno t k htr hk (.inr hF))]
      exact (h.free t k hk).2.1 o
  have notup : ∀ {y' : A}, oneA y' = true → ∀ fs, y' ≠ .tup fs := by
    rintro y' hy' fs rfl
    simp [oneA] at hy'
  by_cases hp : p = []
  · subst hp
    simp only [getP, Option.some.injEq] at q4
    subst q4
    have hv : v = Act.tv a r := by
      have := hx.2.2
      simp only [ht] at this
      rcases this q2 (.inl trivial) with ⟨_, hv⟩ | ⟨ho, _⟩
      · exact hv
      · simp [ownP] at ho
    refine ⟨F, cs, q5, q6, q8, ?_⟩
    intro S' w' y' G F' hy' b1 b2 b3 b4 b5 b6 b7
    obtain ⟨k1, k2, k3, k4, k5⟩ := common F q7 S' w' G F' b1 b3 b7
    obtain ⟨cz, z1, z2, z3⟩ := b5.cells (notup hy')
    rw [List.nodup_append] at b6
    refine ⟨updF Fp r G, ?_⟩
    refine h.change r (.own (setP [] x0 y')) _ _ G k1 b2 b4 k2 k3 ⟨⟨cz, by simpa only [setP] using z1, z2, by simp only [setP]; rw [← hv]; exact z3⟩, x0, ht⟩ (.inl ⟨x0, ht⟩) (Nat.le_refl _) (Nat.lt_succ_self _)
      (fun t k htr hk => k5 t k htr (by simp [hk])) (fun k hk => k4 k (by simp [hk])) (by simpa using b6.1) (fun t k htr hk => k5 t k htr (by simp at hk; simp [hk])) (fun k hk hk' => b6.2.2 k (by simpa using hk) k hk' rfl) (fun k hk => k4 k (by simp at hk; simp [hk]))
  · have hx3 := hx.2.2
    simp only [ht] at hx3
    rcases hx3 q2 q3 with ⟨hp', _⟩ | ⟨ho, y2, b, o, csa, g1, g2, g3, g4, g5⟩
    · exact absurd hp' hp
    rw [q4] at g1
    simp only [Option.some.injEq] at g1
    subst g1
    obtain ⟨b', o', arr, ty, csy, Fy, f1, f2, f3, f4, f5, f6, f7, f8, f9⟩ := focusRoot p c1 c2 hp (by rintro i q rfl; simp [ownP] at ho) q4
    rw [c3, f1] at g2
    simp only [Option.some.injEq, Prod.mk.injEq] at g2
    obtain ⟨rfl, rfl⟩ := g2
    have hcs := valOf_sits f4 f2 f3 g3 g4
    subst hcs
    refine ⟨Fy, csa, f4, g5, f8, ?_⟩
    intro S' w' y' G F' hy' b1 b2 b3 b4 b5 b6 b7
    obtain ⟨k1, k2, k3, k4, k5⟩ := common Fy f7 S' w' G F' b1 b3 b7
    obtain ⟨cz, z1, z2, z3⟩ := b5.cells (notup hy')
    have hcz : cz = csa := by rw [oneA_val hy' z1, oneA_val hy f4, ← z3, ← g5]
    subst hcz
    rw [List.nodup_append] at b6
    have hkeep : ∀ k, k ∈ Fp r → k ∉ Fy → w'.heap[k]? = w.heap[k]? := fun k hk hky => b1.block k (by
      rintro (hq | hq)
      · have := (h.free r k hk).1; omega
      · exact hky hq)
    obtain ⟨F0', d1, d2, d3⟩ := f9 S' w'.heap y' cz G b2 rfl z1 z2 (fun k hk hky o => by rw [b3 k o (h.free r k hk).1 hky]; exact (h.free r k hk).2.1 o) (fun k hk hky _ => hkeep k hk hky) (by rw [over_same f3, hkeep _ f6 f5]; exact f2)
      (fun k hk hk0 => (b7 k (by simp [hk])).elim (fun hq => absurd (h.free r k hk0).1 (by omega)) id)
    have hF0 : ∀ k ∈ F0', C.M k := fun k hk => (d3 k).1 hk |>.elim (fun hk => h.base r k hk.1) (fun hk => k4 k (by simp [hk]))
    refine ⟨updF Fp r F0', ?_⟩
    refine h.change r (.own (setP p x0 y')) _ _ F0' k1 b2 b4 k2 k3 ⟨⟨cs', d1, d2, by rw [setP_valOf ho]; exact c3⟩, x0, ht⟩ (.inl ⟨x0, ht⟩) (Nat.le_refl _) (Nat.lt_succ_self _) ?_ hF0 (by simpa using b6.1) (fun t k htr hk => k5 t k htr (by simp at hk; simp [hk])) ?_ (fun k hk => k4 k (by simp at hk; simp [hk]))
    · intro t k htr hk hk'
      rcases (d3 k).1 hk with hk | hk
      · exact htr (h.disj t r k hk' hk.1)
      · exact k5 t k htr (by simp [hk]) hk'
    · intro k hk hk'
      have hk : k ∈ F' := by simpa using hk
      rcases (d3 k).1 hk' with hk2 | hk2
      · rcases b7 k (by simp [hk]) with hq | hq
        · have := (h.free r k hk2.1).1; omega
        · exact hk2.2 hq
      · exact b6.2.2 k hk k hk2 rfl

end
end Go.Own

namespace Go.Own


/-- The contract: called on values that represent these data the function returns a value that represents r; what lay in memory lies as it lay, save what was handed over (F). -/
def CallOk (P : Program) (k : Nat) (args : List A) (r : A) : Prop :=
  (∃ fn, P.funcs[k]? = some fn ∧ (fn.name == "runtime.NumGoroutine") = false ∧ fn.body.isNone = false) ∧
  ∀ (S : Still) (w : World) (vs : List Value) (F : List Nat), StillOk S w → Hass S w.heap args vs F → F.Nodup → Calls P k vs.toArray w fun e w' =>
    ∃ v S' F', e = .returned v ∧ Kept (fun k => w.heap.size ≤ k ∨ k ∈ F) w w' ∧ (∀ b o u, S b o = some u → S' b o = some u) ∧ (∀ b o, b < w.heap.size → b ∉ F → S' b o = S b o) ∧ StillOk S' w' ∧ Has S' w'.heap r v F' ∧ F'.Nodup ∧
      ∀ k ∈ F', w.heap.size ≤ k ∨ k ∈ F

/-- As 'CallOk', for a function that is lent its argument i: behind the call the same value stands for the tree y'. -/
def LendOk (P : Program) (k i : Nat) (ls : List A) (r y' : A) : Prop :=
  (∃ fn, P.funcs[k]? = some fn ∧ (fn.name == "runtime.NumGoroutine") = false ∧ fn.body.isNone = false) ∧
  ∀ (S : Still) (w : World) (vs : List Value) (F : List Nat), StillOk S w → Hass S w.heap ls vs F → F.Nodup → Calls P k vs.toArray w fun e w' =>
    ∃ v u S' F' G, e = .returned v ∧ vs[i]? = some u ∧ Kept (fun k => w.heap.size ≤ k ∨ k ∈ F) w w' ∧ (∀ b o u, S b o = some u → S' b o = some u) ∧ (∀ b o, b < w.heap.size → b ∉ F → S' b o = S b o) ∧ StillOk S' w' ∧ Has S' w'.heap r v F' ∧ Has S' w'.heap y' u G ∧
      (F' ++ G).Nodup ∧ ∀ k ∈ F' ++ G, w.heap.size ≤ k ∨ k ∈ F

def CtrOk (P : Program) (ctr : Ctr) : Prop := (∀ k args r, ctr.run k args = some r → CallOk P k args r) ∧ ∀ k i ls r y, ctr.lend k = some i → ctr.runL k ls = some (r, y) → LendOk P k i ls r y

mutual
theorem A.shut_isD : ∀ {a : A}, a.isD = true → a.shut = a
  | .agg fs, h => by simp only [A.isD] at h; simp only [A.shut, A.shuts_areD h]
  | .atom _, _ => rfl
  | .fn _ _, _ => rfl
  | .sl _ _ _, _ => rfl
  | .sptr _, _ => rfl
  | .tup _, h => by simp [A.isD] at h
  | .osl _ _ _, h => by simp [A.isD] at h
  | .box _, h => by simp [A.isD] at h
  | .dead _, h => by simp [A.isD] at h
theorem A.shuts_areD : ∀ {as : List A}, A.areD as = true → A.shuts as = as
  | [], _ => rfl
  | a :: as, h => by
    simp only [A.areD, Bool.and_eq_true] at h
    simp only [A.shuts, A.shut_isD h.1, A.shuts_areD h.2]
end

theorem valOf_shut (a : A) (cs : List Value) : valOf a.shut cs = valOf a cs := by
  cases a <;> rfl

section
variable {C : Ctx} {S : Still} {Fp : Nat → List Nat} {X : List Nat} {st : St} {a : Act} {w : World}

def moreStill (S : Still) (h : Array Obj) (F : List Nat) : Still := fun b o => if b ∈ F then cellAt h b o else S b o

theorem nilFix_cases (tt : TT) (t : Nat) (z : A) : nilFix tt t z = z ∨ (z = .atom (.slice none 0 0) ∧ ∃ sz, nilFix tt t z = .osl sz true []) := by
  unfold nilFix
  split
  · split
    · split
      · exact .inr ⟨rfl, _, rfl⟩
      · exact .inl rfl
    · exact .inl rfl
  · exact .inl rfl

theorem moreStill_ok (h : Sim C S Fp X st a w) {F : List Nat} {r : Nat} (hF : ∀ k ∈ F, k ∈ Fp r) :
    (∀ b o u, S b o = some u → moreStill S w.heap F b o = some u) ∧ (∀ b o v, moreStill S w.heap F b o = some v → cellAt w.heap b o = some v) ∧ (∀ b o, ¬ C.M b → moreStill S w.heap F b o = C.S0 b o) ∧
    (∀ k, k ∉ F → ∀ o, moreStill S w.heap F k o = S k o) := by
  refine ⟨?_, ?_, ?_, ?_⟩
  · intro b o u hs
    unfold moreStill
    split
    · rename_i hb
      rw [(h.free r b (hF b hb)).2.1] at hs
      cases hs
    · exact hs
  · intro b o v hs
    unfold moreStill at hs
    split at hs
    · exact hs
    · exact h.still b o v hs
  · intro b o hb
    unfold moreStill
    split
    · rename_i hb'
      exact absurd (h.base r b (hF b hb')) hb
    · exact h.sbase b o hb
  · intro k hk o
    unfold moreStill
    rw [if_neg hk]

theorem shutT_ok (h : Sim C S Fp X st a w) {tt : TT} {t : Nat} {x : T} {v : Value} (hx : TOk S w.heap st (Act.tv a) x v) {y : A} {R : List Nat} {U : List (Nat × Ent)} (e : shutT tt t x st = some (y, R, U)) :
    ∃ S' Fp', Sim C S' Fp' X (applyU U st) a w ∧ (∀ b o u, S b o = some u → S' b o = some u) ∧ (∀ k ∈ X, ∀ o, S k o = none → S' k o = none) ∧ Rep1 S' y v := by
  cases x with
  | d z =>
    by_cases hz : ∃ fs, z = .tup fs
    · obtain ⟨fs, rfl⟩ := hz
      exact (sfail_some (st := st) e).elim
    · have hz' : ∀ fs, z ≠ .tup fs := fun fs he => hz ⟨fs, he⟩
      have e' : (pure (nilFix tt t z).shut : SM A) st = some (y, R, U) := by
        cases z <;> first | exact e | exact absurd rfl (hz' _)
      obtain ⟨rfl, rfl, rfl⟩ := pure_some e'
      refine ⟨S, Fp, h, fun _ _ _ h => h, fun _ _ _ h => h, ?_⟩
      have hr1 : Rep1 S z v := by
        have hx' : RepV S z v := hx
        cases z <;> simp only [RepV] at hx' <;> first | exact hx' | exact absurd rfl (hz' _)
      rcases nilFix_cases tt t z with hn | ⟨rfl, sz, hn⟩
      · rw [hn]
        obtain ⟨cs, r, ev⟩ := hr1
        rw [A.shut_isD r.isD]
        exact ⟨cs, r, ev⟩
      · rw [hn]
        have ev := (rep1_atom.1 hr1).1
        subst ev
        exact ⟨[.slice none 0 0], by simp only [A.shut, A.shuts, Rep]; exact ⟨none, 0, rfl, fun _ => rfl, Nat.le_refl _, by simp, .inl trivial⟩, rfl⟩
  | als r p er ec =>
    simp only [shutT] at e
    obtain ⟨z, R1, U1, R2, U2, h1, e1, rfl, rfl⟩ := bind_some e
    obtain ⟨rfl, q⟩ := look_ok h hx h1
    simp only [applyU, List.nil_append] at e1 ⊢
    by_cases hd : z.isD = true
    · rw [if_pos hd] at e1
      obtain ⟨rfl, rfl, rfl⟩ := pure_some e1
      refine ⟨S, Fp, h, fun _ _ _ h => h, fun _ _ _ h => h, ?_⟩
      rcases q with ⟨x, cs, F, _, _, _, _, q5, q6, _⟩ | ⟨_, _, _, _, q5⟩
      · exact ⟨cs, (q5.isD hd).1, q6⟩
      · exact q5.rep1 hd
    · rw [if_neg hd] at e1
      by_cases hl : z.live = true
      · rw [if_pos hl] at e1
        obtain ⟨en, R3, U3, R4, U4, h3, e2, rfl, rfl⟩ := bind_some e1
        obtain ⟨rfl, rfl, rfl⟩ := rdE_some h3
        simp only [applyU, List.nil_append] at e2 ⊢
        rcases q with ⟨x, cs, F, q1, q2, q3, q4, q5, q6, q7, q8⟩ | ⟨q1, _⟩
        · simp only [q1] at e2
          obtain ⟨m1, m2, m3, m4⟩ := moreStill_ok h q7
          have hrep : Rep (moreStill S w.heap F) z.shut cs := q5.shut m1 hl (fun k hk o => by unfold moreStill; rw [if_pos hk])
          have hoth : ∀ t k, t ≠ r → k ∈ Fp t → w.heap[k]? = w.heap[k]? ∧ ∀ o, moreStill S w.heap F k o = none := by
            intro t k ht hk
            refine ⟨rfl, fun o => ?_⟩
            rw [m4 k (fun hF => ht (h.disj t r k hk (q7 k hF)))]
            exact (h.free t k hk).2.1 o
          have hr := h.ent r
          unfold EntOk at hr
          simp only [q1] at hr
          by_cases hp : p = []
          · rw [if_pos hp] at e2
            obtain ⟨u5, R5, U5, R6, U6, h5, h6, rfl, rfl⟩ := bind_some e2
            obtain ⟨rfl, rfl⟩ := wrE_some h5
            obtain ⟨rfl, rfl, rfl⟩ := pure_some h6
            subst hp
            have hv : v = Act.tv a r := by
              have := hx.2.2
              simp only [q1] at this
              rcases this q2 (.inl trivial) with ⟨_, hv⟩ | ⟨ho, _⟩
              · exact hv
              · simp [ownP] at ho
            refine ⟨moreStill S w.heap F, updF Fp r [], ?_, m1, fun k hk o hn => by rw [m4 k (fun hF => h.xd r k hk (q7 k hF))]; exact hn, ⟨cs, hrep, by rw [valOf_shut]; exact q6⟩⟩
            simp only [List.append_nil, applyU]
            exact h.change r (.d z.shut) _ _ [] h.below m1 m2 m3 hoth ⟨Rep1.repV ⟨cs, hrep, by rw [valOf_shut, ← q6, hv]⟩, rfl⟩ (.inl ⟨x, q1⟩) (Nat.le_refl _) (Nat.lt_succ_self _) (by simp) (by simp) h.xn (fun t k _ hk => h.xd t k hk) (by simp) h.xb
          · rw [if_neg hp] at e2
            obtain ⟨u5, R5, U5, R6, U6, h5, h6, rfl, rfl⟩ := bind_some e2
            obtain ⟨rfl, rfl⟩ := wrE_some h5
            obtain ⟨rfl, rfl, rfl⟩ := pure_some h6
            obtain ⟨cs', c1, c2, c3⟩ := hr
            have hx3 := hx.2.2
            simp only [q1] at hx3
            rcases hx3 q2 q3 with ⟨hp', _⟩ | ⟨ho, y', b, o, csa, g1, g2, g3, g4, g5⟩
            · exact absurd hp' hp
            rw [q4] at g1
            simp only [Option.some.injEq] at g1
            subst g1
            obtain ⟨b', o', arr, ty, csy, Fy, f1, f2, f3, f4, f5, f6, f7, f8, f9⟩ := focusRoot p c1 c2 hp (by rintro i q rfl; simp [ownP] at ho) q4
            rw [c3, f1] at g2
            simp only [Option.some.injEq, Prod.mk.injEq] at g2
            obtain ⟨rfl, rfl⟩ := g2
            have hcs := valOf_sits f4 f2 f3 g3 g4
            subst hcs
            obtain ⟨n1, n2, n3, n4⟩ := moreStill_ok h f7
            have hrep2 : Rep (moreStill S w.heap Fy) z.shut csa := f4.shut n1 hl (fun k hk o => by unfold moreStill; rw [if_pos hk])
            obtain ⟨F0', d1, d2, d3⟩ := f9 (moreStill S w.heap Fy) w.heap z.shut csa [] n1 rfl (hrep2.conc _) (by simp) (fun k hk hky o => by rw [n4 k hky]; exact (h.free r k hk).2.1 o) (fun _ _ _ _ => rfl) (by rw [over_same f3]; exact f2) (by simp)
            refine ⟨moreStill S w.heap Fy, updF Fp r F0', ?_, n1, fun k hk o hn => by rw [n4 k (fun hF => h.xd r k hk (f7 k hF))]; exact hn, ⟨csa, hrep2, by rw [valOf_shut]; exact g5⟩⟩
            simp only [List.append_nil, applyU]
            have hoth2 : ∀ t k, t ≠ r → k ∈ Fp t → w.heap[k]? = w.heap[k]? ∧ ∀ o, moreStill S w.heap Fy k o = none := by
              intro t k ht hk
              refine ⟨rfl, fun o => ?_⟩
              rw [n4 k (fun hF => ht (h.disj t r k hk (f7 k hF)))]
              exact (h.free t k hk).2.1 o
            refine h.change r (.own (setP p x z.shut)) _ _ F0' h.below n1 n2 n3 hoth2 ⟨⟨cs', d1, d2, by rw [setP_valOf ho]; exact c3⟩, x, q1⟩ (.inl ⟨x, q1⟩) (Nat.le_refl _) (Nat.lt_succ_self _) ?_ ?_ h.xn (fun t k _ hk => h.xd t k hk) ?_ h.xb
            · intro t k ht hk hk'
              rcases (d3 k).1 hk with hk | hk
              · exact ht (h.disj t r k hk' hk.1)
              · simp at hk
            · intro k hk
              rcases (d3 k).1 hk with hk | hk
              · exact h.base r k hk.1
              · simp at hk
            · intro k hk hk'
              rcases (d3 k).1 hk' with hk' | hk'
              · exact h.xd r k hk hk'.1
              · simp at hk'
        · simp only [q1] at e2; exact (sfail_some e2).elim
      · rw [if_neg hl] at e1; exact (sfail_some e1).elim
  | gone => exact hx.elim
  | own _ => exact hx.elim
  | ptr _ _ _ _ => exact (sfail_some (st := st) e).elim

theorem shutArgs_ok {tt : TT} : ∀ {as : List (Operand × Nat)} {S : Still} {Fp : Nat → List Nat} {st : St}, Sim C S Fp X st a w → ∀ {xs : List A} {R : List Nat} {U : List (Nat × Ent)}, shutArgs tt as st = some (xs, R, U) →
    ∃ S' Fp', Sim C S' Fp' X (applyU U st) a w ∧ (∀ b o u, S b o = some u → S' b o = some u) ∧ (∀ k ∈ X, ∀ o, S k o = none → S' k o = none) ∧ All2 (Rep1 S') xs (as.map fun p => a.eval p.1)
  | [], S, Fp, st, h, xs, R, U, e => by
    obtain ⟨rfl, rfl, rfl⟩ := pure_some e
    exact ⟨S, Fp, h, fun _ _ _ h => h, fun _ _ _ h => h, trivial⟩
  | (x, t) :: as, S, Fp, st, h, xs, R, U, e => by
    simp only [shutArgs] at e
    obtain ⟨y, R1, U1, R2, U2, h1, e1, rfl, rfl⟩ := bind_some e
    obtain ⟨rfl, hx⟩ := opnd_ok h h1
    obtain ⟨z, R3, U3, R4, U4, h3, e2, rfl, rfl⟩ := bind_some e1
    simp only [applyU, List.nil_append] at h3 e2 ⊢
    obtain ⟨S1, Fp1, g1, g2, g4, g3⟩ := shutT_ok h hx h3
    obtain ⟨bs, R5, U5, R6, U6, h5, e3, rfl, rfl⟩ := bind_some e2
    obtain ⟨S2, Fp2, k1, k2, k4, k3⟩ := shutArgs_ok g1 h5
    obtain ⟨rfl, rfl, rfl⟩ := pure_some e3
    refine ⟨S2, Fp2, ?_, fun b o u hs => k2 b o u (g2 b o u hs), fun k hk o hn => k4 k hk o (g4 k hk o hn), g3.mono k2, k3⟩
    rw [List.append_nil, applyU_append]
    exact k1

mutual
theorem Rep.flat {S S' : Still} : ∀ {r : A} {cs : List Value}, r.flat = true → Rep S r cs → Rep S' r cs
  | .atom _, _, _, h => by simpa only [Rep] using h
  | .agg fs, _, f, h => by simp only [A.flat] at f; simp only [Rep] at h ⊢; exact Reps.flat f h
  | .tup _, _, _, h => by simp only [Rep] at h
  | .fn _ _, _, f, _ => by simp [A.flat] at f
  | .sl _ _ _, _, f, _ => by simp [A.flat] at f
  | .sptr _, _, f, _ => by simp [A.flat] at f
  | .osl _ _ _, _, f, _ => by simp [A.flat] at f
  | .box _, _, f, _ => by simp [A.flat] at f
  | .dead _, _, f, _ => by simp [A.flat] at f
theorem Reps.flat {S S' : Still} : ∀ {rs : List A} {cs : List Value}, A.flats rs = true → Reps S rs cs → Reps S' rs cs
  | [], _, _, h => by simpa only [Reps] using h
  | r :: rs, _, f, h => by
    simp only [A.flats, Bool.and_eq_true] at f
    simp only [Reps] at h ⊢
    obtain ⟨c1, c2, e, h1, h2⟩ := h
    exact ⟨c1, c2, e, Rep.flat f.1 h1, Reps.flat f.2 h2⟩
end

theorem RepV.flat {S S' : Still} {r : A} {v : Value} (f : r.flat = true) (h : RepV S r v) : RepV S' r v := by
  have one : ∀ {r : A} {v : Value}, r.flat = true → Rep1 S r v → Rep1 S' r v := fun f h => let ⟨cs, h1, h2⟩ := h; ⟨cs, h1.flat f, h2⟩
  cases r with
  | tup fs =>
    simp only [RepV] at h ⊢
    obtain ⟨vs, e, h⟩ := h
    refine ⟨vs, e, ?_⟩
    simp only [A.flat] at f
    clear e
    induction fs generalizing vs with
    | nil => cases vs <;> simp_all [All2]
    | cons x fs ih =>
      cases vs with
      | nil => exact h.elim
      | cons u vs =>
        simp only [A.flats, Bool.and_eq_true] at f
        exact ⟨one f.1 h.1, ih f.2 vs h.2⟩
  | _ => simp only [RepV] at h ⊢; exact one f h

theorem reps_all2 {caps : List A} : ∀ {vs : List Value}, Reps S caps vs → (∀ c ∈ caps, c.size = 1 ∧ ∀ fs, c ≠ .agg fs) → All2 (Rep1 S) caps vs := by
  induction caps with
  | nil => intro vs h _; simp only [Reps] at h; subst h; trivial
  | cons c caps ih =>
    intro vs h hc
    simp only [Reps] at h
    obtain ⟨c1, c2, rfl, h1, h2⟩ := h
    obtain ⟨hs, hna⟩ := hc c (by simp)
    have hl : c1.length = 1 := by rw [h1.len, hs]
    obtain ⟨u, rfl⟩ := List.length_eq_one_iff.1 hl
    refine ⟨⟨[u], h1, ?_⟩, ih h2 (fun c hc' => hc c (by simp [hc']))⟩
    cases c <;> first | rfl | exact absurd rfl (hna _)

theorem All2.append {α β : Type} {R : α → β → Prop} : ∀ {as : List α} {bs : List β} {cs : List α} {ds : List β}, All2 R as bs → All2 R cs ds → All2 R (as ++ cs) (bs ++ ds)
  | [], [], _, _, _, h => h
  | _ :: _, _ :: _, _, _, h, h' => ⟨h.1, h.2.append h'⟩
  | [], _ :: _, _, _, h, _ => h.elim
  | _ :: _, [], _, _, h, _ => h.elim

theorem passArgs_ok {tt : TT} : ∀ {as : List (Bool × Operand × Nat)} {S : Still} {Fp : Nat → List Nat} {X : List Nat} {st : St}, Sim C S Fp X st a w → ∀ {xs : List A} {R : List Nat} {U : List (Nat × Ent)}, passArgs tt as st = some (xs, R, U) →
    ∃ S' Fp' G, Sim C S' Fp' (G ++ X) (applyU U st) a w ∧ (∀ b o u, S b o = some u → S' b o = some u) ∧ (∀ k ∈ X, ∀ o, S k o = none → S' k o = none) ∧ Hass S' w.heap xs (as.map fun p => a.eval p.2.1) G
  | [], S, Fp, X, st, h, xs, R, U, e => by
    obtain ⟨rfl, rfl, rfl⟩ := pure_some e
    exact ⟨S, Fp, [], h, fun _ _ _ h => h, fun _ _ _ h => h, rfl⟩
  | (g, x, t) :: as, S, Fp, X, st, h, xs, R, U, e => by
    simp only [passArgs] at e
    obtain ⟨y, R1, U1, R2, U2, h1, e1, rfl, rfl⟩ := bind_some e
    obtain ⟨rfl, hx⟩ := opnd_ok h h1
    obtain ⟨z, R3, U3, R4, U4, h3, e2, rfl, rfl⟩ := bind_some e1
    simp only [applyU, List.nil_append] at h3 e2 ⊢
    obtain ⟨bs, R5, U5, R6, U6, h5, e3, rfl, rfl⟩ := bind_some e2
    have one : ∃ S1 Fp1 F, Sim C S1 Fp1 (F ++ X) (applyU U3 st) a w ∧ (∀ b o u, S b o = some u → S1 b o = some u) ∧ (∀ k ∈ X, ∀ o, S k o = none → S1 k o = none) ∧ Has S1 w.heap z (a.eval x) F := by
      split at h3
      · obtain ⟨Fp1, F, g1, g2⟩ := takeC_ok h hx h3
        exact ⟨S, Fp1, F, g1, fun _ _ _ h => h, fun _ _ _ h => h, g2⟩
      · obtain ⟨S1, Fp1, g1, g2, g3, g4⟩ := shutT_ok h hx h3
        exact ⟨S1, Fp1, [], g1, g2, g3, .inl ⟨g4.repV, rfl⟩⟩
    obtain ⟨S1, Fp1, F, g1, g2, g3, g4⟩ := one
    obtain ⟨S2, Fp2, G, k1, k2, k3, k4⟩ := passArgs_ok g1 h5
    obtain ⟨rfl, rfl, rfl⟩ := pure_some e3
    refine ⟨S2, Fp2, G ++ F, ?_, fun b o u hs => k2 b o u (g2 b o u hs), fun k hk o hn => k3 k (by simp [hk]) o (g3 k hk o hn), F, G, rfl, g4.grow k2 (fun k hk o hn => k3 k (by simp [hk]) o hn), k4⟩
    rw [List.append_nil, applyU_append, List.append_assoc]
    exact k1

theorem Hass.nil {S : Still} {h : Array Obj} : ∀ {as : List A} {vs : List Value} {F : List Nat}, Hass S h as vs F → as.length = vs.length
  | [], [], _, _ => rfl
  | _ :: _, _ :: _, _, q => by obtain ⟨F1, F2, e, q1, q2⟩ := q; simp [q2.nil]
  | [], _ :: _, _, q => q.elim
  | _ :: _, [], _, q => q.elim

/-- Behind the call: what was handed over has gone, what has come back belongs to nobody yet. -/
theorem Sim.called {S S' : Still} {Fp : Nat → List Nat} {st : St} {a : Act} {w w' : World} {F F' : List Nat} (h : Sim C S Fp (F ++ []) st a w) (b1 : Kept (fun k => w.heap.size ≤ k ∨ k ∈ F) w w') (b2 : ∀ b o u, S b o = some u → S' b o = some u)
    (b3 : ∀ b o, b < w.heap.size → b ∉ F → S' b o = S b o) (b4 : StillOk S' w') (b6 : F'.Nodup) (b7 : ∀ k ∈ F', w.heap.size ≤ k ∨ k ∈ F) : Sim C S' Fp (F' ++ []) st a w' := by
  have hM : ∀ k, (w.heap.size ≤ k ∨ k ∈ F) → C.M k := fun k hk => hk.elim (fun hk => h.mine k (Nat.le_trans h.base_le hk)) (fun hk => h.xb k (by simp [hk]))
  have hno : ∀ t k, k ∈ Fp t → ¬ (w.heap.size ≤ k ∨ k ∈ F) := by
    rintro t k hk (hq | hq)
    · have := (h.free t k hk).1; omega
    · exact h.xd t k (by simp [hq]) hk
  refine h.mem (h.below.trans (b1.mono hM)) b2 b4 ?_ ?_ (by simpa using b6) ?_ ?_
  · intro b o hb
    rcases Nat.lt_or_ge b w.heap.size with hlt | hge
    · rw [b3 b o hlt (fun hF => hb (hM b (.inr hF)))]
      exact h.sbase b o hb
    · exact absurd (hM b (.inl hge)) hb
  · intro t k hk
    refine ⟨b1.block k (hno t k hk), fun o => ?_⟩
    rw [b3 k o (h.free t k hk).1 (fun hF => hno t k hk (.inr hF))]
    exact (h.free t k hk).2.1 o
  · intro t k hk hkt
    exact hno t k hkt (b7 k (by simpa using hk))
  · intro k hk
    exact hM k (b7 k (by simpa using hk))

mutual
theorem Conc.flatRep {S : Still} {h : Array Obj} : ∀ {r : A} {cs : List Value} {F : List Nat}, r.flat = true → Conc S h r cs F → Rep S r cs
  | .atom _, _, _, _, q => by simp only [Conc] at q; exact q.1
  | .agg fs, _, _, f, q => by simp only [A.flat] at f; simp only [Conc] at q; simp only [Rep]; exact Concs.flatReps f q
  | .tup fs, _, _, _, q => by simp only [Conc] at q
  | .fn _ _, _, _, f, _ => by simp [A.flat] at f
  | .sl _ _ _, _, _, f, _ => by simp [A.flat] at f
  | .sptr _, _, _, f, _ => by simp [A.flat] at f
  | .osl _ _ _, _, _, f, _ => by simp [A.flat] at f
  | .box _, _, _, f, _ => by simp [A.flat] at f
  | .dead _, _, _, f, _ => by simp [A.flat] at f
theorem Concs.flatReps {S : Still} {h : Array Obj} : ∀ {rs : List A} {cs : List Value} {F : List Nat}, A.flats rs = true → Concs S h rs cs F → Reps S rs cs
  | [], _, _, _, q => by simp only [Concs] at q; simp only [Reps]; exact q.1
  | r :: rs, _, _, f, q => by
    simp only [A.flats, Bool.and_eq_true] at f
    simp only [Concs] at q
    obtain ⟨c1, c2, F1, F2, e1, e2, q1, q2⟩ := q
    simp only [Reps]
    exact ⟨c1, c2, e1, Conc.flatRep f.1 q1, Concs.flatReps f.2 q2⟩
end

def callO (tt : TT) (ctr : Ctr) (n : Fr) (dst : Option Nat) (f : Operand) (as : List (Operand × Nat)) : SM Unit := do
  let tf ← opnd f
  let vf ← val tf
  callA tt ctr n dst vf as

theorem run_callee {P : Program} {k : Nat} {fn : Func} (h1 : P.funcs[k]? = some fn) (h2 : (fn.name == "runtime.NumGoroutine") = false) (h3 : fn.body.isNone = false) (args : Array Value) (w : World) : (callFunc k args).run P w = .ok (.enter k args) w := by
  simp only [callFunc, Sem.run_bind, program, Sem.run, Result.andThen_ok, h1, h2, h3, Bool.false_eq_true, if_false, Sem.run_pure]

theorem hass_mid {S : Still} {h : Array Obj} {y : A} {v : Value} {F : List Nat} (hy : Has S h y v F) {zs : List A} {us : List Value} (hz : All2 (Rep1 S) zs us) : ∀ {xs : List A} {ts : List Value}, All2 (Rep1 S) xs ts → Hass S h (xs ++ y :: zs) (ts ++ v :: us) F
  | [], [], _ => ⟨F, [], by simp, hy, all2_hass hz⟩
  | _ :: _, _ :: _, q => ⟨[], F, by simp, .inl ⟨q.1.repV, rfl⟩, hass_mid hy hz q.2⟩
  | [], _ :: _, q => q.elim
  | _ :: _, [], q => q.elim

theorem All2.len {α β : Type} {R : α → β → Prop} : ∀ {l : List α} {m : List β}, All2 R l m → l.length = m.length
  | [], [], _ => rfl
  | _ :: _, _ :: _, q => by simp [All2.len q.2]
  | [], _ :: _, q => q.elim
  | _ :: _, [], q => q.elim

theorem lendCall_ok {P : Program} {tt : TT} {ctr : Ctr} (hC : CtrOk P ctr) (h : Sim C S Fp [] st a w) {o : Oper} {k i : Nat} {caps : List A} {vs : List Value} {ops : List (Operand × Nat)} (hld : ctr.lend k = some i) {u : Unit} {R : List Nat} {U : List (Nat × Ent)}
    (e : lendA tt ctr C.n o.dst k i caps ops st = some (u, R, U)) {vals : List Value} (hvals : ops.map (fun p => a.eval p.1) = vals) (k1 : Reps S caps vs) (k2 : ∀ c ∈ caps, c.size = 1 ∧ ∀ fs, c ≠ .agg fs)
    (hrun : ∀ fn, P.funcs[k]? = some fn → (fn.name == "runtime.NumGoroutine") = false → fn.body.isNone = false → ∀ (rd : Option Nat) (m : Nat) (K : Act → World → Prop) (Q : Exit → Act → World → Prop),
      CallsIn (fen rd) (m - 1) P k (vals ++ vs).toArray w (fun
        | .returned v, w'' => K (a.put o.dst v) w''
        | .panicked chain, w'' => Q (.panic chain) a w''
        | .outgrown, _ => LetsOut Q) → o.wpIn (fen rd) m P a w K Q) : Good P C o a w (applyU U st) := by
  unfold lendA at e
  cases hop : ops[i]? with
  | none => simp only [hop] at e; exact (sfail_some e).elim
  | some q =>
    obtain ⟨x, t⟩ := q
    simp only [hop] at e
    obtain ⟨xs, R1, U1, R2, U2, e1, e2, rfl, rfl⟩ := bind_some e
    obtain ⟨S1, Fp1, g1, g2, _, g3⟩ := shutArgs_ok h e1
    obtain ⟨zs, R3, U3, R4, U4, e3, e4, rfl, rfl⟩ := bind_some e2
    obtain ⟨S2, Fp2, j1, j2, _, j3⟩ := shutArgs_ok g1 e3
    obtain ⟨tx, R5, U5, R6, U6, e5, e6, rfl, rfl⟩ := bind_some e4
    obtain ⟨rfl, hx⟩ := opnd_ok j1 e5
    rw [applyU_append, applyU_append]
    simp only [applyU, List.nil_append] at e6 ⊢
    cases tx with
    | als r p er ec =>
      obtain ⟨y, R7, U7, R8, U8, e7, e8, rfl, rfl⟩ := bind_some e6
      obtain ⟨en, R9, U9, R10, U10, e9, e10, rfl, rfl⟩ := bind_some e8
      obtain ⟨rfl, _⟩ := look_ok j1 hx e7
      obtain ⟨rfl, rfl, rfl⟩ := rdE_some e9
      simp only [applyU, List.nil_append] at e10 ⊢
      cases ht : (applyU U3 (applyU U1 st) r).t with
      | own x0 =>
        simp only [ht] at e10
        split at e10
        · rename_i hy
          cases hr : ctr.runL k (ctr.norm k (xs ++ y :: zs ++ caps)) with
          | none => simp only [hr] at e10; exact (sfail_some e10).elim
          | some q =>
            obtain ⟨res, y'⟩ := q
            simp only [hr] at e10
            split at e10
            · rename_i hy'
              obtain ⟨F, cs, c1, c2, c3, c4⟩ := lend_ok j1 hx e7 ht hy
              obtain ⟨⟨fn, f1, f2, f3⟩, hcall⟩ := hC.2 k i _ _ _ hld hr
              have hcaps := reps_all2 (k1.mono (fun b o u hs => j2 b o u (g2 b o u hs))) k2
              have hlt := (List.getElem?_eq_some_iff.1 hop)
              obtain ⟨hil, hix⟩ := hlt
              have hsplit : vals = (ops.take i).map (fun p => a.eval p.1) ++ a.eval x :: (ops.drop (i + 1)).map (fun p => a.eval p.1) := by
                rw [← hvals]
                conv => lhs; rw [← List.take_append_drop i ops, List.drop_eq_getElem_cons hil, hix]
                simp
              have hH : Hass S2 w.heap (xs ++ y :: zs ++ caps) (vals ++ vs) F := by
                rw [hsplit]
                exact (hass_mid (.inr ⟨cs, c1, c3, c2⟩) j3 (g3.mono fun _ _ q => q.mono j2)).append (all2_hass hcaps)
              have hC1 := hcall S2 w _ F j1.still (hH.norm ctr k) c3
              intro rd m K Q hK
              refine hrun fn f1 f2 f3 rd m K Q (CallsIn.mono (calls_fen hC1 rd (m - 1)) ?_)
              rintro en w' ⟨v, u', S', F', G, rfl, b0, b1, b2, b3, b4, b5, b6, b7, b8⟩
              show K (a.put o.dst v) w'
              have hui : u' = a.eval x := by
                have hl : i = ((ops.take i).map (fun p => a.eval p.1)).length := by simp; omega
                rw [hsplit, List.append_assoc, List.getElem?_append_right (by omega)] at b0
                rw [show i - ((ops.take i).map (fun p => a.eval p.1)).length = 0 from by omega] at b0
                simpa using b0.symm
              subst hui
              obtain ⟨Fp', hs'⟩ := c4 S' w' y' G F' hy' b1 b2 b3 b4 b6 b7 b8
              obtain ⟨u1, R11, U11, R12, U12, e11, e12, rfl, rfl⟩ := bind_some e10
              obtain ⟨rfl, rfl⟩ := wrE_some e11
              simp only [applyU] at e12
              rw [applyU_append] at hK
              simp only [applyU] at hK
              obtain ⟨Fp'', hs''⟩ := wr_has hs' e12 b5
              exact hK _ _ _ _ hs''
            · exact (sfail_some e10).elim
        · exact (sfail_some e10).elim
      | gone => simp only [ht] at e10; exact (sfail_some e10).elim
      | d _ => simp only [ht] at e10; exact (sfail_some e10).elim
      | als _ _ _ _ => simp only [ht] at e10; exact (sfail_some e10).elim
      | ptr _ _ _ _ => simp only [ht] at e10; exact (sfail_some e10).elim
    | gone => exact (sfail_some e6).elim
    | d _ => exact (sfail_some e6).elim
    | own _ => exact (sfail_some e6).elim
    | ptr _ _ _ _ => exact (sfail_some e6).elim

theorem call_ok {P : Program} {tt : TT} {ctr : Ctr} (hC : CtrOk P ctr) (h : Sim C S Fp [] st a w) {o : Oper} {f : Operand} {args : Array Operand} {tys : Array TypeId} (ho : o.op = .call { callee := .value f, args := args, argTypes := tys }) (hsz : args.size = tys.size) {u : Unit} {R : List Nat} {U : List (Nat × Ent)}
    (e : callO tt ctr C.n o.dst f (args.toList.zip tys.toList) st = some (u, R, U)) : Good P C o a w (applyU U st) := by
  unfold callO at e
  obtain ⟨tf, R1, U1, R2, U2, h1, e1, rfl, rfl⟩ := bind_some e
  obtain ⟨rfl, hx⟩ := opnd_ok h h1
  obtain ⟨vf, R3, U3, R4, U4, h3, e2, rfl, rfl⟩ := bind_some e1
  obtain ⟨rfl, qf⟩ := val_ok h hx h3
  simp only [applyU, List.nil_append] at e2 ⊢
  cases vf with
  | fn k caps =>
    simp only [callA] at e2
    simp only [RepV] at qf
    obtain ⟨cf, q1, q2⟩ := qf
    simp only [Rep] at q1
    obtain ⟨vs, k1, k2, rfl⟩ := q1
    have ef : a.eval f = .func (.func k) #[] vs.toArray := q2
    have hmapargs : (args.toList.zip tys.toList).map (fun p => a.eval p.1) = (args.map a.eval).toList := by
      have : (args.toList.zip tys.toList).map (fun p => a.eval p.1) = ((args.toList.zip tys.toList).map (·.1)).map a.eval := by rw [List.map_map]; rfl
      rw [this, List.map_fst_zip (by simp [hsz])]
      simp
    have hexec : ∀ fn, P.funcs[k]? = some fn → (fn.name == "runtime.NumGoroutine") = false → fn.body.isNone = false → (execOp a.eval o).run P w = .ok (.enter k ((args.map a.eval).toList ++ vs).toArray) w := by
      intro fn c1 c2 c3
      have hc := run_callee (P := P) c1 c2 c3 (args.map a.eval ++ vs.toArray) w
      simp only [execOp, ho, resolve, ef, Deferred.ofValue, Sem.run_bind, Sem.run_pure, Result.andThen_ok, invoke, Array.empty_append]
      rw [hc]
      congr 2
      apply Array.ext'
      simp
    cases hld : ctr.lend k with
    | some i =>
      simp only [hld] at e2
      exact lendCall_ok hC h hld e2 hmapargs k1 k2 (by
        intro fn c1 c2 c3 rd m K Q hcall
        refine ⟨fun _ _ => trivial, ?_⟩
        rw [run_semAt (hexec fn c1 c2 c3) (by simp), Oper.uponIn_enter]
        exact ⟨fun h => (by cases h), hcall⟩)
    | none =>
    simp only [hld] at e2
    split at e2
    · obtain ⟨xs, R5, U5, R6, U6, h5, e3, rfl, rfl⟩ := bind_some e2
      have hg : ∃ U', shutArgs tt (args.toList.zip tys.toList) st = some (xs, R5, U') ∧ U5 = [] := by
        unfold ghost at h5
        cases hs : shutArgs tt (args.toList.zip tys.toList) st with
        | none => simp [hs] at h5
        | some q =>
          obtain ⟨q1, q2, q3⟩ := q
          simp only [hs, Option.some.injEq, Prod.mk.injEq] at h5
          obtain ⟨rfl, rfl, rfl⟩ := h5
          exact ⟨q3, rfl, rfl⟩
      obtain ⟨U', hs, rfl⟩ := hg
      simp only [applyU, List.nil_append] at e3 ⊢
      cases hr : ctr.run k (ctr.norm k (xs ++ caps)) with
      | none => simp only [hr] at e3; exact (sfail_some e3).elim
      | some r =>
        simp only [hr] at e3
        obtain ⟨⟨fn, c1, c2, c3⟩, hcall⟩ := hC.1 k _ r hr
        obtain ⟨S1, Fp1, g1, g2, _, g3⟩ := shutArgs_ok h hs
        have hcaps := reps_all2 (k1.mono g2) k2
        rw [hmapargs] at g3
        have hC1 := hcall S1 w _ [] g1.still ((all2_hass (g3.append hcaps)).norm ctr k) (by simp)
        intro rd m K Q hK
        refine ⟨fun _ _ => trivial, ?_⟩
        rw [run_semAt (hexec fn c1 c2 c3) (by simp), Oper.uponIn_enter]
        refine ⟨fun h => (by cases h), CallsIn.mono (calls_fen hC1 rd (m - 1)) ?_⟩
        rintro en w' ⟨v, S', F', rfl, b1, b2, b3, b4, b5, b6, b7⟩
        show K (a.put o.dst v) w'
        have hold : ∀ k, k < w.heap.size → w'.heap[k]? = w.heap[k]? := fun k hk => b1.block k (by simp; omega)
        by_cases hfl : r.flat = true
        · rw [if_pos hfl] at e3
          have hm : Sim C S Fp [] st a w' := h.mem (h.below.trans (b1.mono (fun k hk => h.mine k (Nat.le_trans h.base_le (by simpa using hk))))) (fun _ _ _ h => h) (fun b o v hs => by rw [cellAt_frame (hold b (h.still_lt hs))]; exact h.still b o v hs) h.sbase
            (fun t k hk => ⟨hold k (h.free t k hk).1, (h.free t k hk).2.1⟩) (by simp) (by simp) (by simp)
          have b5' : RepV S' r v := by
            rcases b5 with ⟨q, _⟩ | ⟨cs, q4, _, q6⟩
            · exact q
            · exact Rep1.repV ⟨cs, q4.flatRep hfl, q6⟩
          obtain ⟨Fp', hs'⟩ := wr_ok hm e3 (x := .d r) (b5'.flat hfl)
          exact hK _ _ _ _ hs'
        · rw [if_neg hfl] at e3
          obtain ⟨ys, R7, U7, R8, U8, h7, e4, rfl, rfl⟩ := bind_some e3
          rw [hs] at h7
          simp only [Option.some.injEq, Prod.mk.injEq] at h7
          obtain ⟨rfl, rfl, rfl⟩ := h7
          rw [applyU_append] at hK
          obtain ⟨Fp', hs'⟩ := wr_has (Sim.called (F := []) g1 b1 b2 b3 b4 b6 b7) e4 b5
          exact hK _ _ _ _ hs'
    · split at e2
      · rename_i hlen
        obtain ⟨xs, R5, U5, R6, U6, h5, e3, rfl, rfl⟩ := bind_some e2
        cases hr : ctr.run k (ctr.norm k (xs ++ caps)) with
        | none => simp only [hr] at e3; exact (sfail_some e3).elim
        | some r =>
          simp only [hr] at e3
          obtain ⟨⟨fn, c1, c2, c3⟩, hcall⟩ := hC.1 k _ r hr
          obtain ⟨S1, Fp1, G, g1, g2, _, g3⟩ := passArgs_ok h h5
          have hcaps := reps_all2 (k1.mono g2) k2
          have hmap2 : ((ctr.gives k).zip (args.toList.zip tys.toList)).map (fun p => a.eval p.2.1) = (args.map a.eval).toList := by
            have : ((ctr.gives k).zip (args.toList.zip tys.toList)).map (fun p => a.eval p.2.1) = (((ctr.gives k).zip (args.toList.zip tys.toList)).map (·.2)).map (fun p => a.eval p.1) := by rw [List.map_map]; rfl
            rw [this, List.map_snd_zip (by omega), hmapargs]
          rw [hmap2] at g3
          have hGn := g1.xn
          rw [List.append_nil] at hGn
          have hC1 := hcall S1 w _ G g1.still ((g3.append (all2_hass hcaps)).norm ctr k) hGn
          intro rd m K Q hK
          refine ⟨fun _ _ => trivial, ?_⟩
          rw [run_semAt (hexec fn c1 c2 c3) (by simp), Oper.uponIn_enter]
          refine ⟨fun h => (by cases h), CallsIn.mono (calls_fen hC1 rd (m - 1)) ?_⟩
          rintro en w' ⟨v, S', F', rfl, b1, b2, b3, b4, b5, b6, b7⟩
          show K (a.put o.dst v) w'
          rw [applyU_append] at hK
          obtain ⟨Fp', hs'⟩ := wr_has (g1.called b1 b2 b3 b4 b6 b7) e3 b5
          exact hK _ _ _ _ hs'
      · exact (sfail_some e2).elim
  | _ => exact (sfail_some (st := st) e2).elim

/-! ### Closures -/

def oneCapB : A → Bool
  | .atom _ | .sptr _ | .sl _ _ _ | .fn _ _ => true
  | _ => false

def makeFuncO (tt : TT) (n : Fr) (dst : Option Nat) (f : Nat) (caps : List Operand) : SM Unit := do
  let xs ← shutArgs tt (caps.map fun x => (x, 0))
  if xs.all oneCapB = true then wrT n dst (.d (.fn f xs)) else sfail

theorem all2_reps : ∀ {xs : List A} {vs : List Value}, All2 (Rep1 S) xs vs → (∀ c ∈ xs, c.size = 1 ∧ ∀ fs, c ≠ .agg fs) → Reps S xs vs
  | [], [], _, _ => by simp [Reps]
  | x :: xs, v :: vs, h, hc => by
    obtain ⟨⟨cs, h1, h2⟩, h3⟩ := h
    obtain ⟨hs, hna⟩ := hc x (by simp)
    have hl : cs.length = 1 := by rw [h1.len, hs]
    obtain ⟨u, rfl⟩ := List.length_eq_one_iff.1 hl
    have hv : v = u := by rw [h2]; cases x <;> first | rfl | exact absurd rfl (hna _)
    subst hv
    simp only [Reps]
    exact ⟨[v], vs, rfl, h1, all2_reps h3 (fun c hc' => hc c (by simp [hc']))⟩
  | [], _ :: _, h, _ => h.elim
  | _ :: _, [], h, _ => h.elim

theorem makeFunc_ok {P : Program} {tt : TT} (h : Sim C S Fp [] st a w) {o : Oper} {f : Nat} {caps : Array Operand} (ho : o.op = .makeFunc (.func f) #[] caps) {u : Unit} {R : List Nat} {U : List (Nat × Ent)} (e : makeFuncO tt C.n o.dst f caps.toList st = some (u, R, U)) : Good P C o a w (applyU U st) := by
  unfold makeFuncO at e
  obtain ⟨xs, R1, U1, R2, U2, h1, e1, rfl, rfl⟩ := bind_some e
  obtain ⟨S1, Fp1, g1, g2, _, g3⟩ := shutArgs_ok h h1
  rw [applyU_append]
  split at e1
  · rename_i hall
    have hc : ∀ c ∈ xs, c.size = 1 ∧ ∀ fs, c ≠ .agg fs := by
      intro c hc
      have := List.all_eq_true.1 hall c hc
      cases c <;> simp_all [oneCapB, A.size]
    have hmap : (caps.toList.map fun x => (x, 0)).map (fun p => a.eval p.1) = (caps.map a.eval).toList := by simp [List.map_map, Function.comp_def]
    rw [hmap] at g3
    obtain ⟨Fp', hs⟩ := wr_ok g1 e1 (x := .d (.fn f xs)) (v := .func (.func f) #[] (caps.map a.eval)) (by
      simp only [TOk, RepV]
      refine ⟨[.func (.func f) #[] (caps.map a.eval)], ?_, rfl⟩
      simp only [Rep]
      exact ⟨(caps.map a.eval).toList, all2_reps g3 hc, hc, by rw [Array.toArray_toList]⟩)
    exact good_value (by simp [execOp, ho, Instr.makeFunc]) hs
  · exact (sfail_some e1).elim

end
end Go.Own
