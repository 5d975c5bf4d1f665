/- -/
import Derived.Test.YtdnenbcldibnoaaPartC
import Derived.Shelf.SlSortCmp.NoneTotal
set_option linter.unusedVariables false
set_option linter.unusedSimpArgs false
namespace Go.Own
set_option linter.unusedVariables false
open Classical
def TupOk (S : Still) (h : Array Obj) : List (Option A) → List Value → List Nat → Prop
  | [], [], F => F = []
  | none :: ys, _ :: vs, F => TupOk S h ys vs F
  | some y :: ys, v :: vs, F => ∃ F1 F2, F = F2 ++ F1 ∧ Has S h y v F1 ∧ TupOk S h ys vs F2
  | _, _, _ => False
theorem TupOk.frame {S S' : Still} {h h' : Array Obj} (hS : ∀ b o u, S b o = some u → S' b o = some u) : ∀ {ys : List (Option A)} {vs : List Value} {F : List Nat}, TupOk S h ys vs F → (∀ k ∈ F, h'[k]? = h[k]? ∧ ∀ o, S' k o = none) → TupOk S' h' ys vs F
  | [], [], _, q, _ => q
  | none :: ys, _ :: vs, F, q, hF => TupOk.frame (ys := ys) (vs := vs) (F := F) hS q hF
  | some _ :: _, _ :: _, _, ⟨F1, F2, e, q1, q2⟩, hF => ⟨F1, F2, e, q1.frame hS (fun k hk => hF k (by rw [e]; simp [hk])), TupOk.frame hS q2 (fun k hk => hF k (by rw [e]; simp [hk]))⟩
  | [], _ :: _, _, q, _ => q.elim
  | none :: _, [], _, q, _ => q.elim
  | some _ :: _, [], _, q, _ => q.elim
theorem TupOk.own {S : Still} {h : Array Obj} : ∀ {ys : List (Option A)} {vs : List Value} {F : List Nat}, TupOk S h ys vs F → ∀ k ∈ F, k < h.size ∧ ∀ o, S k o = none
  | [], [], F, q, k, hk => by
    have e : F = [] := q
    subst e; simp at hk
  | none :: ys, _ :: vs, F, q, k, hk => TupOk.own (ys := ys) (vs := vs) (F := F) q k hk
  | some _ :: _, _ :: _, F, ⟨F1, F2, e, q1, q2⟩, k, hk => by
    subst e
    rcases List.mem_append.1 hk with hk | hk
    · exact TupOk.own q2 k hk
    · exact q1.own k hk
  | [], _ :: _, _, q, _, _ => q.elim
  | none :: _, [], _, q, _, _ => q.elim
  | some _ :: _, [], _, q, _, _ => q.elim
theorem TupOk.of {S : Still} {h : Array Obj} : ∀ {ys : List A} {vs : List Value} {F : List Nat}, Hass S h ys vs F → TupOk S h (ys.map some) vs F
  | [], [], _, q => q
  | _ :: _, _ :: _, _, ⟨F1, F2, e, q1, q2⟩ => ⟨F1, F2, e, q1, TupOk.of q2⟩
  | [], _ :: _, _, q => q.elim
  | _ :: _, [], _, q => q.elim
theorem TupOk.at {S : Still} {h : Array Obj} : ∀ {ys : List (Option A)} {vs : List Value} {F : List Nat} {i : Nat} {y : A}, TupOk S h ys vs F → ys[i]? = some (some y) →
    ∃ v F1 F2, vs[i]? = some v ∧ Has S h y v F1 ∧ TupOk S h (ys.set i none) vs F2 ∧ (∀ k, k ∈ F ↔ k ∈ F1 ∨ k ∈ F2) ∧ (F.Nodup → F1.Nodup ∧ F2.Nodup ∧ ∀ k ∈ F1, k ∉ F2)
  | [], [], _, _, _, _, e => by simp at e
  | none :: ys, v :: vs, F, 0, y, q, e => by simp at e
  | none :: ys, v :: vs, F, i + 1, y, q, e => by
    obtain ⟨u, F1, F2, h1, h2, h3, h4, h5⟩ := TupOk.at (ys := ys) (vs := vs) (F := F) q (by simpa using e)
    exact ⟨u, F1, F2, by simpa using h1, h2, h3, h4, h5⟩
  | some z :: ys, v :: vs, F, 0, y, ⟨F1, F2, e1, q1, q2⟩, e => by
    simp only [List.getElem?_cons_zero, Option.some.injEq] at e
    subst e e1
    refine ⟨v, F1, F2, rfl, q1, q2, fun k => by rw [List.mem_append]; exact or_comm, fun hn => ?_⟩
    rw [List.nodup_append] at hn
    exact ⟨hn.2.1, hn.1, fun k hk hk' => hn.2.2 k hk' k hk rfl⟩
  | some z :: ys, v :: vs, F, i + 1, y, ⟨F1, F2, e1, q1, q2⟩, e => by
    obtain ⟨u, G1, G2, h1, h2, h3, h4, h5⟩ := TupOk.at q2 (by simpa using e)
    subst e1
    refine ⟨u, G1, G2 ++ F1, by simpa using h1, h2, ⟨F1, G2, rfl, q1, h3⟩, fun k => by simp only [List.mem_append, h4 k, or_assoc], fun hn => ?_⟩
    rw [List.nodup_append] at hn
    obtain ⟨n1, n2, n3⟩ := h5 hn.1
    refine ⟨n1, ?_, ?_⟩
    · rw [List.nodup_append]
      exact ⟨n2, hn.2.1, fun k hk k' hk' => hn.2.2 k ((h4 k).2 (.inr hk)) k' hk'⟩
    · intro k hk hk'
      rcases List.mem_append.1 hk' with hk' | hk'
      · exact n3 k hk hk'
      · exact hn.2.2 k ((h4 k).2 (.inl hk)) k hk' rfl
  | [], _ :: _, _, _, _, q, _ => q.elim
  | none :: _, [], _, _, _, q, _ => q.elim
  | some _ :: _, [], _, _, _, q, _ => q.elim
def tupQ (xs : List (Option A)) : Opq := {
  holds := fun S h v F => ∃ vs : List Value, v = .tuple vs.toArray ∧ TupOk S h xs vs F
  multi := true
  one := fun ⟨vs, e, _⟩ => .inr ⟨rfl, _, e⟩
  frame := fun hS hF ⟨vs, e, q⟩ => ⟨vs, e, q.frame hS hF⟩
  own := fun ⟨_, _, q⟩ => q.own
  idx := 0 }
def notTup : A → Bool
  | .tup _ => false
  | _ => true
section
variable {P : Program} {C : Ctx} {S : Still} {Fp : Nat → List Nat} {X : List Nat} {st : St} {a : Act} {w : World}
def extrR (n : Fr) (dst : Option Nat) (xs : List (Option A)) (r : Nat) (e : Ent) (i : Nat) : SM Unit :=
  match xs[i]? with
  | some (some y) =>
    if y.isD = true then wrT n dst (.d y)
    else if notTup y = true then do
      wrE r ⟨.own (.opq (tupQ (xs.set i none))), e.er, e.ec + 1⟩
      wrT n dst (.own y)
    else sfail
  | _ => sfail
noncomputable def extrO (n : Fr) (dst : Option Nat) (xs : List (Option A)) (x : Operand) (i : Nat) : SM Unit := do
  let tx ← opnd x
  match tx with
  | .als r [] er ec => do
    let e ← rdE r
    if e.t = .own (.opq (tupQ xs)) ∧ e.er = er then extrR n dst xs r e i
    else sfail
  | _ => sfail
theorem extrO_ok (h : Sim C S Fp [] st a w) {o : Oper} {xs : List (Option A)} {x : Operand} {i : Nat} (ho : o.op = .extract x i) {u : Unit} {R : List Nat} {U : List (Nat × Ent)} (e : extrO C.n o.dst xs x i st = some (u, R, U)) : Good P C o a w (applyU U st) := by
  unfold extrO at e
  obtain ⟨tx, R1, U1, R2, U2, h1, e1, rfl, rfl⟩ := bind_some e
  obtain ⟨rfl, hx⟩ := opnd_ok h h1
  simp only [applyU, List.nil_append] at e1 ⊢
  split at e1
  · rename_i r er ec
    obtain ⟨en, R3, U3, R4, U4, h3, e2, rfl, rfl⟩ := bind_some e1
    obtain ⟨rfl, rfl, rfl⟩ := rdE_some h3
    simp only [applyU, List.nil_append] at e2 ⊢
    split at e2
    · rename_i hc
      obtain ⟨c1, c2⟩ := hc
      have hr := h.ent r
      unfold EntOk at hr
      simp only [c1] at hr
      obtain ⟨cs, k1, k2, k3⟩ := hr
      simp only [Conc] at k1
      obtain ⟨v0, rfl, vs, rfl, g1⟩ := k1
      have hev : a.eval x = .tuple vs.toArray := by
        have := hx.2.2
        simp only [c1] at this
        rcases this c2 (.inl trivial) with ⟨_, q⟩ | ⟨q, _⟩
        · rw [q, k3]; rfl
        · simp [ownP] at q
      unfold extrR at e2
      cases hy0 : xs[i]? with
      | none => simp only [hy0] at e2; exact (sfail_some e2).elim
      | some yo =>
      cases yo with
      | none => simp only [hy0] at e2; exact (sfail_some e2).elim
      | some y =>
        simp only [hy0] at e2
        have hy : xs[i]? = some (some y) := hy0
        obtain ⟨v, F1, F2, m1, m2, m3, m4, m5⟩ := g1.at hy
        obtain ⟨n1, n2, n3⟩ := m5 k2
        have run : (execOp a.eval o).run P w = .ok (.value v) w := by simp [execOp, ho, hev, Instr.extract, m1]
        split at e2
        · rename_i hd
          obtain ⟨q1, _⟩ := has_data hd m2
          obtain ⟨Fp', hs⟩ := wr_ok h e2 (x := .d y) q1.repV
          exact good_value run hs
        · split at e2
          · rename_i hnt
            obtain ⟨u5, R5, U5, R6, U6, h5, h6, rfl, rfl⟩ := bind_some e2
            obtain ⟨rfl, rfl⟩ := wrE_some h5
            obtain ⟨cs, c3, c4, c5⟩ := m2.cells (by rintro fs rfl; cases hnt)
            have h2 : Sim C S (updF Fp r F2) (F1 ++ []) (upd st r ⟨.own (.opq (tupQ (xs.set i none))), (st r).er, (st r).ec + 1⟩) a w := by
              refine h.change r (.own (.opq (tupQ (xs.set i none)))) _ _ F2 h.below (fun _ _ _ q => q) h.still h.sbase (fun t k _ hk => ⟨rfl, (h.free t k hk).2.1⟩) ⟨⟨[.tuple vs.toArray], ?_, n2, k3⟩, _, c1⟩ (.inl ⟨_, c1⟩) (Nat.le_refl _) (Nat.lt_succ_self _) ?_ ?_ (by simpa using n1) ?_ ?_ ?_
              · simp only [Conc]
                exact ⟨_, rfl, vs, rfl, m3⟩
              · intro t k ht hk hk'
                exact ht (h.disj t r k hk' ((m4 k).2 (.inr hk)))
              · intro k hk
                exact h.base r k ((m4 k).2 (.inr hk))
              · intro t k ht hk hk'
                exact ht (h.disj t r k hk' ((m4 k).2 (.inl (by simpa using hk))))
              · intro k hk
                exact n3 k (by simpa using hk)
              · intro k hk
                exact h.base r k ((m4 k).2 (.inl (by simpa using hk)))
            simp only [applyU] at h6 ⊢
            obtain ⟨Fp', hs⟩ := wr_own h2 h6 c3 c4
            subst c5
            exact good_value run hs
          · exact (sfail_some e2).elim
    · exact (sfail_some e2).elim
  · exact (sfail_some e1).elim
end
noncomputable def extrH (n : Fr) (dst : Option Nat) (xs : List (Option A)) (x : Operand) (i : Nat) : HM Unit := lift (opnd x) >>= fun tx =>
  match tx with
  | .als r [] er ec => lift (rdE r) >>= fun e => must (e.t = .own (.opq (tupQ xs)) ∧ e.er = er) (lift (extrR n dst xs r e i))
  | _ => hfail
theorem sdExtr (n : Fr) (dst : Option Nat) (xs : List (Option A)) (x : Operand) (i : Nat) : Snd (extrO n dst xs x i) (extrH n dst xs x i) := by
  refine sdBind (sdLift _) fun tx => ?_
  cases tx with
  | als r p er ec =>
    cases p with
    | nil => exact sdBind (sdLift _) fun e => sdMust (sdLift _)
    | cons _ _ => exact sdFail _
  | _ => exact sdFail _
noncomputable def xExtr (P : Program) (d : Nat) (xs : List (Option A)) : XH P := {
  e := fun n o => match o.op with | .extract x i => if o.dst = some d then some (extrO n o.dst xs x i) else none | _ => none
  h := fun n o => match o.op with | .extract x i => if o.dst = some d then some (extrH n o.dst xs x i) else none | _ => none
  ok := by
    refine ⟨?_, ?_⟩
    · intro C S Fp st a w o m u R U e h h2
      dsimp only at e
      split at e
      · rename_i x i ho
        split at e
        · cases e; exact extrO_ok h ho h2
        · cases e
      · cases e
    · intro n o m e
      dsimp only at e
      split at e
      · split at e
        · cases e
          refine Loc.bind (Loc.opnd _) fun tx => ?_
          split
          · refine Loc.bind (Loc.rdE _) fun _ => Loc.ite ?_ Loc.fail
            unfold extrR
            split
            · exact Loc.ite (Loc.wrT _ _ _) (Loc.ite (Loc.bind (Loc.wrE _ _) fun _ => Loc.wrT _ _ _) Loc.fail)
            · exact Loc.fail
          · exact Loc.fail
        · cases e
      · cases e
  none := by
    intro n o e
    skip
    split at e
    · split at e
      · cases e
      · rename_i hd; rw [if_neg hd]
    · rfl
  some := by
    intro n o m e
    skip
    split at e
    · split at e
      · rename_i hd; cases e; exact ⟨_, by rw [if_pos hd], sdExtr _ _ _ _ _⟩
      · cases e
    · cases e }
def keepV (tt : TT) (x : T) (c : Option Nat) : Option A :=
  match x, c with
  | .own y, none => if notTup y = true then some y else none
  | .own (.box y), some ty => if fitsT tt ty y = true then some y else none
  | _, _ => none
def ret1 (tt : TT) (g : Bool) (t : Nat) (c : Option Nat) : SM A :=
  if g = true then do
    let e ← rdE t
    let x ← ofO (keepV tt e.t c)
    wrE t ⟨.gone, e.er + 1, e.ec + 1⟩
    pure x
  else do
    let xs ← shutArgs tt [(.tmp t, 0)]
    match c, xs with
    | none, [x] => pure x
    | some ty, [.sptr y] => if fitsT tt ty y = true then pure y else sfail
    | _, _ => sfail
def retLs (tt : TT) : List (Bool × Nat × Option Nat) → SM (List A)
  | [] => pure []
  | (g, t, c) :: rs => do
    let x ← ret1 tt g t c
    let xs ← retLs tt rs
    pure (x :: xs)
def retP (tt : TT) (rs : List (Bool × Nat × Option Nat)) : SM A := do
  let xs ← retLs tt rs
  match xs with
  | [y] => pure y
  | ys => pure (.opq (tupQ (ys.map some)))
section
variable {P : Program} {C : Ctx} {a : Act} {w : World}
def ResRun (P : Program) (a : Act) (w : World) (r : ResultVar) (v : Value) : Prop := ((fun r : ResultVar => match r with | .tmp t => (pure (a.tmps.getD t undef) : Sem Value) | .cell b t => do loadVar t (← asAddr (a.tmps.getD b undef))) r).run P w = .ok v w
theorem ret1_ok {tt : TT} (hT : TTok P tt) {S : Still} {Fp : Nat → List Nat} {X : List Nat} {st : St} (h : Sim C S Fp X st a w) {g : Bool} {t : Nat} {c : Option Nat} {x : A} {R : List Nat} {U : List (Nat × Ent)} (e : ret1 tt g t c st = some (x, R, U)) :
    ∃ S' Fp' F v, Sim C S' Fp' (F ++ X) (applyU U st) a w ∧ (∀ b o u, S b o = some u → S' b o = some u) ∧ (∀ k ∈ X, ∀ o, S k o = none → S' k o = none) ∧ Has S' w.heap x v F ∧ ResRun P a w (toRV (t, c)) v := by
  unfold ret1 at e
  split at e
  · obtain ⟨en, R1, U1, R2, U2, h1, e1, rfl, rfl⟩ := bind_some e
    obtain ⟨rfl, rfl, rfl⟩ := rdE_some h1
    simp only [applyU, List.nil_append] at e1 ⊢
    obtain ⟨x0, R3, U3, R4, U4, h3, e2, rfl, rfl⟩ := bind_some e1
    obtain ⟨hk, rfl, rfl⟩ := ofO_some h3
    simp only [applyU, List.nil_append] at e2 ⊢
    obtain ⟨u5, R5, U5, R6, U6, h5, h6, rfl, rfl⟩ := bind_some e2
    obtain ⟨rfl, rfl⟩ := wrE_some h5
    obtain ⟨rfl, rfl, rfl⟩ := pure_some h6
    have hr := h.ent t
    unfold EntOk at hr
    have fin : ∀ F', (∃ y, (st t).t = .own y) → F'.Nodup → (∀ k ∈ F', k ∈ Fp t) → Sim C S (updF Fp t []) (F' ++ X) (upd st t ⟨.gone, (st t).er + 1, (st t).ec + 1⟩) a w := by
      intro F' ho hn hmem
      refine h.change t .gone _ _ [] h.below (fun _ _ _ q => q) h.still h.sbase (fun t' k _ hk => ⟨rfl, (h.free t' k hk).2.1⟩) rfl (.inl ho) (Nat.le_succ _) (Nat.lt_succ_self _) (by simp) (by simp) ?_ ?_ (by simp) ?_
      · rw [List.nodup_append]
        refine ⟨hn, h.xn, ?_⟩
        rintro m hm m' hm' rfl
        exact h.xd t m hm' (hmem m hm)
      · intro t' k ht' hk
        rcases List.mem_append.1 hk with hk | hk
        · exact fun hk' => ht' (h.disj t' t k hk' (hmem k hk))
        · exact h.xd t' k hk
      · intro k hk
        rcases List.mem_append.1 hk with hk | hk
        · exact h.base t k (hmem k hk)
        · exact h.xb k hk
    cases ht : (st t).t with
    | own z =>
      simp only [ht] at hr hk
      obtain ⟨cs, c1, c2, c3⟩ := hr
      cases c with
      | none =>
        have hz : x = z := by
          cases z <;> simp only [keepV, notTup] at hk <;> simpa using hk.symm
        subst hz
        refine ⟨S, updF Fp t [], Fp t, Act.tv a t, by simpa [applyU] using fin (Fp t) ⟨_, ht⟩ c2 (fun _ h => h), fun _ _ _ q => q, fun _ _ _ q => q, .inr ⟨cs, c1, c2, c3⟩, ?_⟩
        simp only [ResRun, toRV]; exact Sem.run_pure ..
      | some ty =>
        cases z with
        | box y =>
          simp only [keepV] at hk
          split at hk
          · rename_i hf
            simp only [Option.some.injEq] at hk
            subst hk
            simp only [Conc] at c1
            obtain ⟨b, bty, l, F', rfl, d1, d2, d3, d4⟩ := c1
            have hn2 : (b :: F').Nodup := d3 ▸ c2
            refine ⟨S, updF Fp t [], F', valOf y l, by simpa [applyU] using fin F' ⟨_, ht⟩ (List.nodup_cons.1 hn2).2 (fun k hk => by rw [d3]; simp [hk]), fun _ _ _ q => q, fun _ _ _ q => q, .inr ⟨l, d2, (List.nodup_cons.1 hn2).2, rfl⟩, ?_⟩
            have hv : a.tmps.getD t undef = .pointer (some ⟨b, 0, none⟩) := c3
            simp only [ResRun, toRV]
            rw [hv]
            simp only [asAddr, Sem.run_bind, Sem.run_pure, Result.andThen_ok]
            refine run_loadVar hT hf d2.len ?_
            intro j u hj
            simp only [cellAt, d1, Nat.zero_add]
            simpa using hj
          · cases hk
        | _ => simp only [keepV] at hk; cases hk
    | d _ => simp only [ht, keepV] at hk; cases hk
    | gone => simp only [ht, keepV] at hk; cases hk
    | als _ _ _ _ => simp only [ht, keepV] at hk; cases hk
    | ptr _ _ _ _ => simp only [ht, keepV] at hk; cases hk
  · obtain ⟨xs, R1, U1, R2, U2, h1, e1, rfl, rfl⟩ := bind_some e
    obtain ⟨S1, Fp1, g1, g2, g3, g4⟩ := shutArgs_ok h h1
    split at e1
    · obtain ⟨rfl, rfl, rfl⟩ := pure_some e1
      refine ⟨S1, Fp1, [], Act.tv a t, by simpa using g1, g2, g3, .inl ⟨g4.1.repV, rfl⟩, ?_⟩
      simp only [ResRun, toRV]; exact Sem.run_pure ..
    · rename_i ty y
      split at e1
      · rename_i hf
        obtain ⟨rfl, rfl, rfl⟩ := pure_some e1
        obtain ⟨cs, q1, q2⟩ := g4.1
        simp only [Rep] at q1
        obtain ⟨b, o, l, rfl, r1, r2⟩ := q1
        refine ⟨S1, Fp1, [], valOf x l, by simpa using g1, g2, g3, .inl ⟨Rep1.repV ⟨l, r1, rfl⟩, rfl⟩, ?_⟩
        have hv : a.tmps.getD t undef = .pointer (some ⟨b, o, none⟩) := q2
        simp only [ResRun, toRV]
        rw [hv]
        simp only [asAddr, Sem.run_bind, Sem.run_pure, Result.andThen_ok]
        exact run_loadVar hT hf r1.len (fun j u hj => g1.still _ _ _ (r2 j u hj))
      · exact (sfail_some e1).elim
    · exact (sfail_some e1).elim
theorem retLs_ok {tt : TT} (hT : TTok P tt) : ∀ {rs : List (Bool × Nat × Option Nat)} {S : Still} {Fp : Nat → List Nat} {X : List Nat} {st : St}, Sim C S Fp X st a w → ∀ {xs : List A} {R : List Nat} {U : List (Nat × Ent)}, retLs tt rs st = some (xs, R, U) →
    ∃ S' Fp' G vs, Sim C S' Fp' (G ++ X) (applyU U st) a w ∧ (∀ b o u, S b o = some u → S' b o = some u) ∧ (∀ k ∈ X, ∀ o, S k o = none → S' k o = none) ∧ Hass S' w.heap xs vs G ∧ All2 (ResRun P a w) (rs.map fun r => toRV r.2) vs
  | [], S, Fp, X, st, h, xs, R, U, e => by
    obtain ⟨rfl, rfl, rfl⟩ := pure_some e
    exact ⟨S, Fp, [], [], h, fun _ _ _ h => h, fun _ _ _ h => h, rfl, trivial⟩
  | (g, t, c) :: rs, S, Fp, X, st, h, xs, R, U, e => by
    simp only [retLs] at e
    obtain ⟨y, R1, U1, R2, U2, h1, e1, rfl, rfl⟩ := bind_some e
    obtain ⟨ys, R3, U3, R4, U4, h3, e2, rfl, rfl⟩ := bind_some e1
    obtain ⟨S1, Fp1, F, v, g1, g2, g3, g4, g5⟩ := ret1_ok hT h h1
    obtain ⟨S2, Fp2, G, vs, k1, k2, k3, k4, k5⟩ := retLs_ok hT g1 h3
    obtain ⟨rfl, rfl, rfl⟩ := pure_some e2
    refine ⟨S2, Fp2, G ++ F, v :: vs, ?_, fun b o u hs => k2 b o u (g2 b o u hs), fun k hk o hn => k3 k (by simp [hk]) o (g3 k hk o hn), ⟨F, G, rfl, g4.grow k2 (fun k hk o hn => k3 k (by simp [hk]) o hn), k4⟩, g5, k5⟩
    rw [List.append_nil, applyU_append, List.append_assoc]
    exact k1
theorem retP_ok {tt : TT} (hT : TTok P tt) {fn : Func} {rs : List (Bool × Nat × Option Nat)} (hr : fn.results = (rs.map fun r => toRV r.2).toArray) {S : Still} {Fp : Nat → List Nat} {st : St} (h : Sim C S Fp [] st a w) {x : A} {R : List Nat} {U : List (Nat × Ent)} (e : retP tt rs st = some (x, R, U)) :
    ∃ v S' F', (results fn a.tmps).run P w = .ok v w ∧ (∀ b o u, S b o = some u → S' b o = some u) ∧ (∀ b o, ¬ C.M b → S' b o = C.S0 b o) ∧ StillOk S' w ∧ Has S' w.heap x v F' ∧ F'.Nodup ∧ ∀ k ∈ F', C.M k := by
  unfold retP at e
  obtain ⟨xs, R1, U1, R2, U2, h1, e1, rfl, rfl⟩ := bind_some e
  obtain ⟨S1, Fp1, G, vs, g1, g2, _, g3, g4⟩ := retLs_ok hT h h1
  have hrun : (results fn a.tmps).run P w = .ok (if h : vs.toArray.size = 1 then vs.toArray[0] else .tuple vs.toArray) w := by
    unfold results
    rw [hr, Array.mapM_eq_foldlM, List.foldlM_toArray, Sem.run_bind]
    have := run_foldAll (P := P) (w := w) _ _ vs #[] g4
    rw [Array.empty_append] at this
    exact (congrArg (fun r => Result.andThen r (fun q w' => Sem.run P (pure (if h : q.size = 1 then q[0] else Value.tuple q)) w')) this).trans rfl
  have hn : G.Nodup := by have := g1.xn; simpa using this
  have hM : ∀ k ∈ G, C.M k := fun k hk => g1.xb k (by simp [hk])
  have many : ∀ ys : List A, Hass S1 w.heap ys vs G → ys.length ≠ 1 → Has S1 w.heap (.opq (tupQ (ys.map some))) (.tuple vs.toArray) G ∧ vs.length ≠ 1 := by
    intro ys q hl
    refine ⟨.inr ⟨[.tuple vs.toArray], ?_, hn, rfl⟩, by rw [← q.nil]; exact hl⟩
    simp only [Conc]
    exact ⟨_, rfl, vs, rfl, TupOk.of q⟩
  split at e1
  · obtain ⟨rfl, rfl, rfl⟩ := pure_some e1
    rcases vs with _ | ⟨v, _ | ⟨v2, l⟩⟩
    · exact g3.elim
    · obtain ⟨F1, F2, rfl, q1, q2⟩ := g3
      have e2 : F2 = [] := q2
      subst e2
      exact ⟨v, S1, F1, hrun, g2, g1.sbase, g1.still, q1, by simpa using hn, by simpa using hM⟩
    · obtain ⟨F1, F2, rfl, q1, q2⟩ := g3
      exact q2.elim
  · rename_i hne
    obtain ⟨rfl, rfl, rfl⟩ := pure_some e1
    obtain ⟨m1, m2⟩ := many _ g3 (by
      intro hl
      obtain ⟨y, hy⟩ := List.length_eq_one_iff.1 hl
      exact hne y hy)
    rw [dif_neg (by simpa using m2)] at hrun
    exact ⟨_, S1, G, hrun, g2, g1.sbase, g1.still, m1, hn, hM⟩
end
class LeQs (xs ys : List (Option A)) : Prop where
  all : ∀ S h vs F, TupOk S h xs vs F → TupOk S h ys vs F
instance LeQs.nil : LeQs [] [] := ⟨fun _ _ _ _ h => h⟩
instance LeQs.cons (x y : A) (xs ys : List (Option A)) [h : LeV x y] [k : LeQs xs ys] : LeQs (some x :: xs) (some y :: ys) := ⟨fun S hp vs F q => by
  cases vs with
  | nil => exact q.elim
  | cons v vs =>
    obtain ⟨F1, F2, e, q1, q2⟩ := q
    exact ⟨F1, F2, e, h.has _ _ _ _ q1, k.all _ _ _ _ q2⟩⟩
instance LeV.tupq (xs ys : List (Option A)) [k : LeQs xs ys] : LeV (.opq (tupQ xs)) (.opq (tupQ ys)) := ⟨fun S hp v F q => by
  rcases q with ⟨q, e⟩ | ⟨cs, q1, q2, q3⟩
  · simp only [RepV, Rep1, Rep, false_and, exists_false] at q
  · refine .inr ⟨cs, ?_, q2, q3⟩
    simp only [Conc] at q1 ⊢
    obtain ⟨u, e, vs, e2, q⟩ := q1
    exact ⟨u, e, vs, e2, k.all _ _ _ _ q⟩⟩
def ret1H (tt : TT) (g : Bool) (t : Nat) (c : Option Nat) : HM A :=
  if g = true then lift (rdE t >>= fun e => ofO (keepV tt e.t c) >>= fun x => wrE t ⟨.gone, e.er + 1, e.ec + 1⟩ >>= fun _ => pure x)
  else shutArgsH tt [(.tmp t, 0)] >>= fun xs =>
    match c, xs with
    | none, [x] => pure x
    | some ty, [.sptr y] => if fitsT tt ty y = true then pure y else hfail
    | _, _ => hfail
theorem sdRet1 (tt : TT) (g : Bool) (t : Nat) (c : Option Nat) : Snd (ret1 tt g t c) (ret1H tt g t c) := by
  refine sdIte (sdLift _) (sdBind (sdShutArgs _ _) fun xs => ?_)
  split
  · exact sdPure _
  · exact sdIte (sdPure _) (sdFail _)
  · exact sdFail _
def retLsH (tt : TT) : List (Bool × Nat × Option Nat) → HM (List A)
  | [] => pure []
  | (g, t, c) :: rs => ret1H tt g t c >>= fun x => retLsH tt rs >>= fun xs => pure (x :: xs)
theorem sdRetLs (tt : TT) : ∀ rs, Snd (retLs tt rs) (retLsH tt rs)
  | [] => sdPure _
  | (g, t, c) :: rs => sdBind (sdRet1 tt g t c) fun x => sdBind (sdRetLs tt rs) fun xs => sdPure _
def retPH (tt : TT) (rs : List (Bool × Nat × Option Nat)) : HM A := retLsH tt rs >>= fun xs =>
  match xs with
  | [y] => pure y
  | ys => pure (.opq (tupQ (ys.map some)))
theorem sdRetP (tt : TT) (rs : List (Bool × Nat × Option Nat)) : Snd (retP tt rs) (retPH tt rs) := by
  refine sdBind (sdRetLs _ _) fun xs => ?_
  split <;> exact sdPure _
section
variable {P : Program} {tt : TT} {ctr : Ctr} {n : Fr} {Q : Exit → St → Prop}
theorem callOk_p {k : Nat} {n : Fr} {fn : Func} {body : Code} {rs : List (Bool × Nat × Option Nat)} {ls : List A} {r : A} (hT : TTok P tt) (hf : P.funcs[k]? = some fn) (hnm : (fn.name == "runtime.NumGoroutine") = false) (hb : fn.body = some body)
    (hn : n = ⟨fn.ntmps, []⟩) (hr : fn.results = (rs.map fun r => toRV r.2).toArray) (ha : ls.length ≤ fn.ntmps)
    (h : ∀ E : St → Prop, (∀ st x R U, retP tt rs st = some (x, R, U) → LeV x r → E st) → AWP P n body (ofL (iniL 0 ls)) (Qf P n [] (retQ E))) : CallOk P k ls r := by
  have h' := h (fun st => ∃ x R U, retP tt rs st = some (x, R, U) ∧ LeV x r) fun st x R U h1 h2 => ⟨x, R, U, h1, h2⟩
  refine ⟨⟨fn, hf, hnm, by rw [hb]; rfl⟩, ?_⟩
  intro S w vs F hS hq hF
  have h2 : AWP P n body (ini ls) (fun ex st => (ex = .normal ∨ ex = .ret) ∧ ∃ x R U, retP tt rs st = some (x, R, U) ∧ LeV x r) := by
    rw [ini_eq]
    refine AWP.mono h' ?_
    intro e st q
    cases e with
    | normal => exact ⟨.inl rfl, q⟩
    | ret => exact ⟨.inr rfl, q⟩
    | _ => exact q.elim
  refine calls_walk (R := fun w e w' => ∃ v' S' F', e = .returned v' ∧ Kept (fun k => w.heap.size ≤ k ∨ k ∈ F) w w' ∧ (∀ b o u, S b o = some u → S' b o = some u) ∧ (∀ b o, b < w.heap.size → b ∉ F → S' b o = S b o) ∧ StillOk S' w' ∧ Has S' w'.heap r v' F' ∧ F'.Nodup ∧
      ∀ k ∈ F', w.heap.size ≤ k ∨ k ∈ F) hf hb (by rw [hn]) (by rw [hn]; simp) ha hS hq hF h2 ?_
  rintro ex st' ⟨hx, x, R, U, h3, h4⟩
  refine ⟨hx, ?_⟩
  intro df S' Fp' a' w' h1
  obtain ⟨v, S2, F', hres, g1, g2, g3, g4, g5, g6⟩ := retP_ok (P := P) hT hr h1 h3
  refine ⟨_, hres, _, S2, F', rfl, h1.below, fun b o u hu => g1 _ _ _ (h1.sinc _ _ _ hu), ?_, g3, h4.has _ _ _ _ g4, g5, g6⟩
  intro b o hb' hbF
  exact g2 b o (by rintro (hq | hq) <;> first | omega | exact hbF hq)
def runEP {P : Program} (X : XH P) (tt : TT) (ctr : Ctr) (n : Fr) (rs : List (Bool × Nat × Option Nat)) (k : Nat) (c : Code) (fs : List Fm) (st : St) (hs : List H) : Option (A × List Prop) :=
  match runC X tt ctr n k c fs st hs with
  | some (.fin .normal, st', hs', ob) => match retPH tt rs st' hs' with | some (x, _, _, [], ob') => some (x, ob ++ ob') | _ => none
  | some (.fin .ret, st', hs', ob) => match retPH tt rs st' hs' with | some (x, _, _, [], ob') => some (x, ob ++ ob') | _ => none
  | _ => none
theorem awpEndP (X : XH P) (hT : TTok P tt) (hC : CtrOk P ctr) (hm : P.follows .mixedOrders = true) {E : St → Prop} {r : A} {rs : List (Bool × Nat × Option Nat)} (hE : ∀ st x R U, retP tt rs st = some (x, R, U) → LeV x r → E st) (k : Nat) {c : Code} {fs : List Fm} {st : St} {hs : List H} {x : A} (obs : List Ob)
    (e : runEP X tt ctr n rs k c fs st hs = some (x, obs.map Ob.p)) (hle : LeV x r) : AWP P n c st (Qf P n fs (retQ E)) := by
  unfold runEP at e
  have fin : ∀ {st' hs' ob}, (match retPH tt rs st' hs' with | some (x, _, _, [], ob') => some (x, ob ++ ob') | _ => none) = some (x, obs.map Ob.p) → AllP ob ∧ E st' := by
    intro st' hs' ob e
    split at e
    · rename_i x1 R U ob' he
      simp only [Option.some.injEq, Prod.mk.injEq] at e
      obtain ⟨rfl, e2⟩ := e
      have ha := ob_all obs
      rw [← e2] at ha
      obtain ⟨o1, o2⟩ := allP_app ha
      exact ⟨o1, hE _ _ _ _ (sdRetP tt rs _ _ _ _ _ _ _ he o2) hle⟩
    · cases e
  split at e
  · rename_i st' hs' ob' he
    obtain ⟨h1, h2⟩ := fin e
    exact runC_ok X hT hC hm k c fs st hs _ _ _ _ he h1 h2
  · rename_i st' hs' ob' he
    obtain ⟨h1, h2⟩ := fin e
    exact runC_ok X hT hC hm k c fs st hs _ _ _ _ he h1 h2
  · cases e
end
end Go.Own

namespace Go.Own
set_option linter.unusedVariables false
def arrSlR (tt : TT) (n : Fr) (dst : Option Nat) (t : Nat) (z : A) : SM Unit :=
  match z with
  | .sptr (.agg fs) =>
    match arrE tt t with
    | some (m, e) => match tt e with
      | some i => if fs.length = m ∧ fs.all (fun z => z.size == i.size) = true then wrT n dst (.d (.sl i.size true fs)) else sfail
      | none => sfail
    | none => sfail
  | _ => sfail
def arrSlO (tt : TT) (n : Fr) (dst : Option Nat) (t : Nat) (x : Operand) : SM Unit := do
  let y ← opnd x
  let z ← shutT (fun _ => none) 0 y
  arrSlR tt n dst t z
theorem arrSlO_ok {P : Program} {tt : TT} (hT : TTok P tt) {C : Ctx} {S : Still} {Fp : Nat → List Nat} {st : St} {a : Act} {w : World} (h : Sim C S Fp [] st a w) {o : Oper} {t : Nat} {x : Operand} (ho : o.op = .slice t x none none none) {u : Unit} {R : List Nat} {U : List (Nat × Ent)} (e : arrSlO tt C.n o.dst t x st = some (u, R, U)) : Good P C o a w (applyU U st) := by
  unfold arrSlO at e
  obtain ⟨y, R1, U1, R2, U2, h1, e1, rfl, rfl⟩ := bind_some e
  obtain ⟨rfl, hx⟩ := opnd_ok h h1
  simp only [applyU, List.nil_append] at e1 ⊢
  obtain ⟨z, R3, U3, R4, U4, h3, e2, rfl, rfl⟩ := bind_some e1
  obtain ⟨S1, Fp1, g1, g2, g3, g4⟩ := shutT_ok h hx h3
  rw [applyU_append]
  unfold arrSlR at e2
  split at e2
  · rename_i fs
    cases ha : arrE tt t with
    | none => simp only [ha] at e2; exact (sfail_some e2).elim
    | some q =>
      obtain ⟨m, el⟩ := q
      simp only [ha] at e2
      cases hi : tt el with
      | none => simp only [hi] at e2; exact (sfail_some e2).elim
      | some i =>
        simp only [hi] at e2
        split at e2
        · rename_i hc
          obtain ⟨hm, hall⟩ := hc
          have hk : P.underlying t = some (.array m el) := by
            unfold arrE at ha
            split at ha
            · rename_i ht; cases ha; exact (hT _ _ ht).kind
            · cases ha
          obtain ⟨cs, r1, r2⟩ := g4
          simp only [Rep] at r1
          obtain ⟨b, off, l, rfl, k1, k2⟩ := r1
          have ev : a.eval x = .pointer (some ⟨b, off, none⟩) := r2
          have hrep : RepV S1 (.sl i.size true fs) (.slice (some ⟨b, off, none⟩) m m) := by
            refine Rep1.repV ⟨[.slice (some ⟨b, off, none⟩) m m], ?_, rfl⟩
            simp only [Rep]
            exact ⟨_, m, by rw [hm], by intro _; exact hm.symm, by omega, fun y hy => by simpa using List.all_eq_true.1 hall y hy, .inr ⟨b, off, l, rfl, k1, k2⟩⟩
          obtain ⟨Fp', hs⟩ := wr_ok g1 e2 (x := .d _) hrep
          refine good_value ?_ hs
          have hz : (Addr.add ⟨b, off, none⟩ 0) = ⟨b, off, none⟩ := by simp [Addr.add]
          simp [execOp, ho, ev, Instr.sliceAt, run_underlying hk, Instr.sureAddr, Instr.sliceBounds, run_sizeOf hT hi, hz]
        · exact (sfail_some e2).elim
  · exact (sfail_some e2).elim
def arrSlH (tt : TT) (n : Fr) (dst : Option Nat) (t : Nat) (x : Operand) : HM Unit := lift (opnd x) >>= fun y => shutTH (fun _ => none) 0 y >>= fun z => lift (arrSlR tt n dst t z)
theorem sdArr (tt : TT) (n : Fr) (dst : Option Nat) (t : Nat) (x : Operand) : Snd (arrSlO tt n dst t x) (arrSlH tt n dst t x) := sdBind (sdLift _) fun _ => sdBind (sdShutT _ _ _) fun _ => sdLift _
def xArr {P : Program} {tt : TT} (hT : TTok P tt) (d : Nat) : XH P := {
  e := fun n o => match o.op with | .slice t x none none none => if o.dst = some d then some (arrSlO tt n o.dst t x) else none | _ => none
  h := fun n o => match o.op with | .slice t x none none none => if o.dst = some d then some (arrSlH tt n o.dst t x) else none | _ => none
  ok := by
    refine ⟨?_, ?_⟩
    · intro C S Fp st a w o m u R U e h h2
      dsimp only at e
      split at e
      · rename_i t x ho
        split at e
        · cases e; exact arrSlO_ok hT h ho h2
        · cases e
      · cases e
    · intro n o m e
      dsimp only at e
      split at e
      · split at e
        · cases e
          refine Loc.bind (Loc.opnd _) fun tx => Loc.bind (Loc.shutT _ _ _) fun z => ?_
          unfold arrSlR
          split
          · split
            · split
              · exact Loc.ite (Loc.wrT _ _ _) Loc.fail
              · exact Loc.fail
            · exact Loc.fail
          · exact Loc.fail
        · cases e
      · cases e
  none := by
    intro n o e
    skip
    split at e
    · split at e
      · cases e
      · rename_i hd; rw [if_neg hd]
    · rfl
  some := by
    intro n o m e
    skip
    split at e
    · split at e
      · rename_i hd; cases e; exact ⟨_, by rw [if_pos hd], sdArr _ _ _ _ _⟩
      · cases e
    · cases e }
theorem lentCall {P : Program} {k : Nat} {as_ : List A} {r : A} (h : CallOk P k as_ r) : LentOk P (.fn k []) as_ [] r [] := by
  intro S w fv vs F hS hfv hvs hH hF
  have hF0 : F = [] := hH
  subst hF0
  obtain ⟨cs, c1, c2⟩ := hfv
  simp only [Rep] at c1
  obtain ⟨us, u1, _, rfl⟩ := c1
  have hu : us = [] := by
    cases us with
    | nil => rfl
    | cons _ _ => simp [Reps] at u1
  subst hu
  obtain ⟨⟨fn, f1, f2, f3⟩, hc⟩ := h
  refine .inl ⟨k, #[], fn, c2, f1, f2, f3, ?_⟩
  rw [Array.append_empty]
  have hass : ∀ {as_ : List A} {vs : List Value}, All2 (Rep1 S) as_ vs → Hass S w.heap as_ vs [] := by
    intro as_
    induction as_ with
    | nil => intro vs q; cases vs with | nil => rfl | cons _ _ => exact q.elim
    | cons a as_ ih =>
      intro vs q
      cases vs with
      | nil => exact q.elim
      | cons v vs => exact ⟨[], [], rfl, .inl ⟨q.1.repV, rfl⟩, ih q.2⟩
  refine (hc S w vs [] hS (hass hvs) List.nodup_nil).mono ?_
  rintro e w' ⟨v', S', F', he, b1, b2, b3, b4, b5, b6, b7⟩
  exact ⟨v', he, S', F', [], b1, b2, b3, b4, b5, rfl, by simpa using b6, by simpa using b7⟩
theorem hasCall {P : Program} {c : Ctr} (hC : CtrOk P c) {k : Nat} {α ρ : Type} {enc : α → List A} {encR : ρ → A} {F : α → Option ρ} {gives : List Bool} {inj : ∀ x y, enc x = enc y → x = y} (h : c.Has (spF k enc encR F gives inj)) {x : α} {r : ρ} (hr : F x = some r) : CallOk P k (enc x) (encR r) := by
  have h1 := h.run x ⟨r, hr⟩
  have := hC.1 _ _ _ h1
  simpa only [spF, hr] using this
end Go.Own

namespace Go.Own
open Go.Proofs Go.Shelf
set_option linter.unusedVariables false
section
variable {α : Type}
def insF (c : α → α → Int) (x : α) : List α → List α
  | [] => [x]
  | y :: l => if c y x < 0 then y :: insF c x l else x :: y :: l
def isort (c : α → α → Int) : List α → List α
  | [] => []
  | x :: l => insF c x (isort c l)
def SOk (c : α → α → Int) (l : List α) : Prop :=
  (∀ x ∈ l, ¬ c x x < 0) ∧ (∀ x ∈ l, ∀ y ∈ l, ∀ z ∈ l, c x y < 0 → c y z < 0 → c x z < 0) ∧ (∀ x ∈ l, ∀ y ∈ l, ¬ c x y < 0 → ¬ c y x < 0 → x = y)
instance [DecidableEq α] (c : α → α → Int) (l : List α) : Decidable (SOk c l) := by unfold SOk; infer_instance
def sortF [DecidableEq α] (cmp : α → α → Option Int) (l : List α) : Option (List α) :=
  gd (l.length ≤ 4294967296 ∧ ∀ x ∈ l, ∀ y ∈ l, (cmp x y).isSome = true) <| gd (SOk (fun x y => (cmp x y).getD 0) l) <| some (isort (fun x y => (cmp x y).getD 0) l)
theorem SOk.ntr {c : α → α → Int} {l : List α} (h : SOk c l) : ∀ x ∈ l, ∀ y ∈ l, ∀ z ∈ l, ¬ c x y < 0 → ¬ c y z < 0 → ¬ c x z < 0 := by
  intro x hx y hy z hz h1 h2 h3
  by_cases h4 : c y x < 0
  · exact h2 (h.2.1 y hy x hx z hz h4 h3)
  · have := h.2.2 x hx y hy h1 h4
    subst this
    exact h2 h3
theorem insF_perm (c : α → α → Int) (x : α) : ∀ l, (insF c x l).Perm (x :: l)
  | [] => .refl _
  | y :: l => by
    simp only [insF]
    split
    · exact ((insF_perm c x l).cons y).trans (.swap x y l)
    · exact .refl _
theorem isort_perm (c : α → α → Int) : ∀ l, (isort c l).Perm l
  | [] => .refl _
  | x :: l => (insF_perm c x _).trans ((isort_perm c l).cons x)
theorem insF_sorted {c : α → α → Int} {L : List α} (h : SOk c L) {x : α} (hx : x ∈ L) : ∀ {l : List α}, (∀ y ∈ l, y ∈ L) → l.Pairwise (fun a b => ¬ c b a < 0) → (insF c x l).Pairwise (fun a b => ¬ c b a < 0)
  | [], _, _ => by simp [insF]
  | y :: l, hl, hp => by
    have hy := hl y (by simp)
    obtain ⟨p1, p2⟩ := List.pairwise_cons.1 hp
    simp only [insF]
    split
    · rename_i hc
      refine List.pairwise_cons.2 ⟨?_, insF_sorted h hx (fun z hz => hl z (by simp [hz])) p2⟩
      intro z hz
      rcases List.mem_cons.1 ((insF_perm c x l).mem_iff.1 hz) with rfl | hz
      · exact fun q => h.1 _ hx (h.2.1 _ hx _ hy _ hx q hc)
      · exact p1 z hz
    · rename_i hc
      refine List.pairwise_cons.2 ⟨?_, hp⟩
      intro z hz
      rcases List.mem_cons.1 hz with rfl | hz
      · exact hc
      · exact h.ntr z (hl z (by simp [hz])) y hy x hx (p1 z hz) hc
theorem isort_sorted {c : α → α → Int} {L : List α} (h : SOk c L) : ∀ {l : List α}, (∀ y ∈ l, y ∈ L) → (isort c l).Pairwise (fun a b => ¬ c b a < 0)
  | [], _ => .nil
  | x :: l, hl => insF_sorted h (hl x (by simp)) (fun y hy => hl y (by simp [(isort_perm c l).mem_iff.1 hy])) (isort_sorted h fun y hy => hl y (by simp [hy]))
theorem isort_unique {c : α → α → Int} {l l' : List α} (h : SOk c l) (hp : l'.Perm l) (hs : l'.Pairwise (fun a b => ¬ c b a < 0)) : l' = isort c l := by
  refine List.Perm.eq_of_pairwise (le := fun a b => ¬ c b a < 0) ?_ hs (isort_sorted h fun _ q => q) (hp.trans (isort_perm c l).symm)
  intro a b ha hb h1 h2
  exact h.2.2 a (hp.mem_iff.1 ha) b ((isort_perm c l).mem_iff.1 hb) h2 h1
theorem sortF_some [DecidableEq α] {cmp : α → α → Option Int} {l l' : List α} (h : sortF cmp l = some l') : l.length ≤ 4294967296 ∧ (∀ x ∈ l, ∀ y ∈ l, cmp x y = some ((cmp x y).getD 0)) ∧ SOk (fun x y => (cmp x y).getD 0) l ∧ l' = isort (fun x y => (cmp x y).getD 0) l := by
  obtain ⟨h1, h⟩ := gdE h
  obtain ⟨h2, h⟩ := gdE h
  refine ⟨h1.1, fun x hx y hy => ?_, h2, (someE h).symm⟩
  have := h1.2 x hx y hy
  cases hc : cmp x y with
  | none => rw [hc] at this; cases this
  | some _ => rfl
end
theorem flatL {α : Type} [Inhabited α] (enc : α → List Value) (k : Nat) (hk : ∀ x, (enc x).length = k) : ∀ l : List α, ((List.range (l.length * k)).map fun t => (enc l[t / k]!)[t % k]!) = l.flatMap enc
  | [] => by simp
  | x :: l => by
    rcases Nat.eq_zero_or_pos k with rfl | h0
    · simp only [Nat.mul_zero, List.range_zero, List.map_nil]
      symm
      rw [List.flatMap_eq_nil_iff]
      intro y _
      exact List.eq_nil_of_length_eq_zero (hk y)
    rw [List.length_cons, Nat.add_mul, Nat.one_mul, Nat.add_comm, List.range_add, List.map_append, List.map_map, List.flatMap_cons]
    congr 1
    · apply List.ext_getElem?
      intro i
      rw [List.getElem?_map]
      by_cases hi : i < k
      · rw [List.getElem?_range hi, Option.map_some, Nat.div_eq_of_lt hi, Nat.mod_eq_of_lt hi]
        have : i < (enc x).length := by rw [hk]; exact hi
        simp [this]
      · rw [List.getElem?_eq_none (by simpa using hi), List.getElem?_eq_none (by rw [hk]; omega)]; rfl
    · rw [← flatL enc k hk l]
      apply List.map_congr_left
      intro t _
      simp only [Function.comp]
      rw [Nat.add_div_left _ h0, Nat.add_mod_left]
      simp
theorem flatK_toList {α : Type} [Inhabited α] (enc : α → List Value) (k : Nat) (hk : ∀ x, (enc x).length = k) (d : Array α) : (Sort.flatK enc k d).toList = d.toList.flatMap enc := by
  rw [← flatL enc k hk d.toList]
  simp only [Sort.flatK, Array.toList_map, Array.toList_range, Array.length_toList]
  apply List.map_congr_left
  intro a _
  have : d.toList[a / k]! = d[a / k]! := by
    by_cases hlt : a / k < d.size
    · rw [getElem!_pos d _ hlt, getElem!_pos d.toList _ (by simpa using hlt)]; simp
    · rw [getElem!_neg d _ hlt, getElem!_neg d.toList _ (by simpa using hlt)]
  rw [this]
def SortT (P : Program) (kf k : Nat) : Prop := ∃ ρ, SlLaysF0.n6 P ρ ∧ ρ.f 6 = kf ∧ (∀ w, (isAgg (ρ.t 24)).run P w = .ok true w) ∧ (∀ w, (Go.sizeOf (ρ.t 24)).run P w = .ok k w)
theorem reps_elems {S : Still} {α : Type} {enc : α → A} {k : Nat} (hsz : ∀ x, (enc x).size = k) (L : List α) : ∀ {l : List α} {cs : List Value}, (∀ x ∈ l, x ∈ L) → Reps S (l.map enc) cs →
    ∃ d : List {p : List Value × α // Rep S (enc p.2) p.1 ∧ p.2 ∈ L}, d.map (fun p => p.1.2) = l ∧ d.flatMap (fun p => p.1.1) = cs
  | [], cs, _, h => by
    simp only [List.map_nil, Reps] at h
    exact ⟨[], rfl, by simp [h]⟩
  | x :: l, cs, hl, h => by
    simp only [List.map_cons, Reps] at h
    obtain ⟨c1, c2, rfl, h1, h2⟩ := h
    obtain ⟨d, e1, e2⟩ := reps_elems hsz L (fun y hy => hl y (by simp [hy])) h2
    exact ⟨⟨(c1, x), h1, hl x (by simp)⟩ :: d, by simp [e1], by simp [e2]⟩
theorem reps_of_elems {S : Still} {α : Type} {enc : α → A} {L : List α} : ∀ (d : List {p : List Value × α // Rep S (enc p.2) p.1 ∧ p.2 ∈ L}), Reps S ((d.map fun p => p.1.2).map enc) (d.flatMap fun p => p.1.1)
  | [] => by simp [Reps]
  | p :: d => by
    simp only [List.map_cons, List.flatMap_cons, Reps]
    exact ⟨_, _, rfl, p.2.1, reps_of_elems d⟩
theorem sortT_of {P : Program} {tt : TT} {ρ : Ren} {kf k t : Nat} (hT : TTok P tt) (L : SlLaysF0.n6 P ρ) (h6 : ρ.f 6 = kf) (h24 : ρ.t 24 = t) (hs : (tt t).map (fun i => (i.kind.isAgg, i.size)) = some (true, k)) : SortT P kf k := by
  obtain ⟨i, hi, he⟩ := Option.map_eq_some_iff.1 hs
  simp only [Prod.mk.injEq] at he
  refine ⟨ρ, L, h6, fun w => ?_, fun w => ?_⟩
  · rw [h24, run_isAgg (hT t i hi).kind w, he.1]
  · rw [h24, run_sizeOf hT hi w, he.2]
section
variable {α : Type} [Inhabited α] (enc : α → List Value) (k : Nat) (w : World) (b n : Nat) (d : Array α) (os : Array Obj)
theorem sw_other {j : Nat} (hj : j < w.heap.size) (hb : j ≠ b) : (sortWorldK enc k w b 0 n d os).heap[j]? = w.heap[j]? := by
  show ((w.heap.modify b _) ++ os)[j]? = _
  rw [Array.getElem?_append_left (by simpa using hj), Array.getElem?_modify, if_neg (Ne.symm hb)]
theorem sw_at {arr : Array Value} {ty : TypeId} {fr : Nat × Nat} (hb : w.heap[b]? = some (.cells arr ty fr)) : (sortWorldK enc k w b 0 n d os).heap[b]? = some (.cells (Sort.putCells id 0 (Sort.flatK enc k d) arr) ty fr) := by
  have hlt := (Array.getElem?_eq_some_iff.1 hb).1
  show ((w.heap.modify b _) ++ os)[b]? = _
  rw [Array.getElem?_append_left (by simpa using hlt), Array.getElem?_modify, if_pos rfl, hb]
  rfl
theorem sw_size : (sortWorldK enc k w b 0 n d os).heap.size = w.heap.size + os.size := by
  show ((w.heap.modify b _) ++ os).size = _
  simp
end
theorem putCells_take {D arr : Array Value} (h : D.size ≤ arr.size) : (Sort.putCells id 0 D arr).toList.take D.size = D.toList := by
  apply List.ext_getElem?
  intro i
  rw [List.getElem?_take]
  by_cases hi : i < D.size
  · rw [if_pos hi]
    have : i < arr.size := by omega
    simp [Sort.putCells, hi, this]
  · rw [if_neg hi, List.getElem?_eq_none (by simpa using hi)]
theorem putCells_size (D arr : Array Value) : (Sort.putCells id 0 D arr).size = arr.size := by simp [Sort.putCells]
theorem reps_alls {S : Still} : ∀ {caps : List A} {vs : List Value}, Reps S caps vs → (∀ c ∈ caps, c.size = 1 ∧ ∀ fs, c ≠ .agg fs) → All2 (Rep1 S) caps vs
  | [], vs, h, _ => by simp only [Reps] at h; subst h; trivial
  | c :: caps, vs, h, hc => by
    simp only [Reps] at h
    obtain ⟨c1, c2, rfl, h1, h2⟩ := h
    obtain ⟨s1, s2⟩ := hc c (by simp)
    have hl := h1.len
    rw [s1] at hl
    obtain ⟨u, rfl⟩ := List.length_eq_one_iff.1 hl
    refine ⟨⟨[u], h1, ?_⟩, reps_alls h2 fun x hx => hc x (by simp [hx])⟩
    cases c <;> first | rfl | exact absurd rfl (s2 _)
theorem hass_of_all2 {S : Still} {h : Array Obj} : ∀ {bs : List A} {vs : List Value}, All2 (Rep1 S) bs vs → Hass S h bs vs []
  | [], [], _ => rfl
  | _ :: _, _ :: _, q => ⟨[], [], rfl, .inl ⟨q.1.repV, rfl⟩, hass_of_all2 q.2⟩
  | [], _ :: _, q => q.elim
  | _ :: _, [], q => q.elim
theorem kept_grow {w w' : World} (h : Kept (fun k => w.heap.size ≤ k) w w') : ∃ q os', w' = Sort.grow (w.drewN q) os' := by
  refine ⟨w'.drawn - w.drawn, w'.heap.extract w.heap.size w'.heap.size, ?_⟩
  have h1 : w'.heap = w.heap ++ w'.heap.extract w.heap.size w'.heap.size := by
    apply Array.ext_getElem?
    intro i
    by_cases hi : i < w.heap.size
    · rw [Array.getElem?_append_left hi]
      exact h.block i (by omega)
    · rw [Array.getElem?_append_right (by omega), Array.getElem?_extract]
      by_cases h2 : i < w'.heap.size
      · rw [if_pos (by omega)]
        congr 1; omega
      · rw [if_neg (by omega), Array.getElem?_eq_none (by omega)]
  have h2 := h.drawn
  have h3 := h.os
  have h4 := h.tape
  have h5 := h.output
  cases w' with
  | mk heap tape drawn os output =>
    cases w with
    | mk heap0 tape0 drawn0 os0 output0 =>
      simp only at h1 h2 h3 h4 h5
      subst h3 h4 h5
      simp only [Sort.grow, World.drewN, World.mk.injEq, true_and, and_true]
      exact ⟨h1, by omega⟩
theorem sort_lent {P : Program} {kf k g : Nat} {α : Type} [DecidableEq α] {f : α → A} [hD : EncD f] {t : Bool} {v : Value} {caps : List A} {cmp : α → α → Option Int} {l l' : List α} (hT : SortT P kf k) (hsz : ∀ x, (f x).size = k) (hag : ∀ x, (f x).isAgg = true)
    (hc : ∀ x y c, cmp x y = some c → CallOk P g (f x :: f y :: caps) (.atom (.int .i64 c))) (h : sortF cmp l = some l') : LentOk P (.fn kf []) [.atom v, .fn g caps] [(v, .osl k t (l.map f))] (.tup []) [.osl k t (l'.map f)] := by
  obtain ⟨hlen0, hcmp, hO, rfl⟩ := sortF_some h
  obtain ⟨ρ, L, rfl, aE, zE⟩ := hT
  intro S w fv vs F hS hfv hvs hH hF
  obtain ⟨cs, c1, c2⟩ := hfv
  simp only [Rep] at c1
  obtain ⟨us, u1, _, rfl⟩ := c1
  have hu : us = [] := by
    cases us with
    | nil => rfl
    | cons _ _ => simp [Reps] at u1
  subst hu
  rcases vs with _ | ⟨v1, _ | ⟨v2, _ | ⟨v3, vs⟩⟩⟩
  · exact hvs.elim
  · exact hvs.2.elim
  case cons.cons.cons => exact hvs.2.2.elim
  obtain ⟨hv1, hv2, _⟩ := hvs
  obtain ⟨rfl, _⟩ := rep1_atom.1 hv1
  obtain ⟨cs2, d1, d2⟩ := hv2
  simp only [Rep] at d1
  obtain ⟨cv, d3, d4, rfl⟩ := d1
  have hcv := reps_alls d3 d4
  obtain ⟨F1, F2, rfl, q1, q2⟩ := hH
  have hF2 : F2 = [] := q2
  subst hF2
  rw [List.nil_append] at hF ⊢
  have act : ∀ R : Ending → World → Prop, Calls P (ρ.f 6) #[v1, .func (.func g) #[] cv.toArray] w R → Calls P (ρ.f 6) ([v1, v2].toArray ++ #[]) w R := by
    intro R q
    rw [d2, Array.append_empty]
    exact q
  have fnOk : ∃ fn, P.funcs[ρ.f 6]? = some fn ∧ (fn.name == "runtime.NumGoroutine") = false ∧ fn.body.isNone = false := by
    obtain ⟨nm, hne, FG⟩ := L.f6
    exact ⟨_, FG, by simpa using hne, rfl⟩
  obtain ⟨fn, f1, f2, f3⟩ := fnOk
  refine .inl ⟨ρ.f 6, #[], fn, c2, f1, f2, f3, act _ ?_⟩
  rcases q1 with ⟨q1, _⟩ | ⟨cs, q1, q3, q4⟩
  · simp only [RepV, Rep1, Rep, false_and, exists_false] at q1
  simp only [Conc] at q1
  obtain ⟨p, c, rfl, t1, t2, t3, t4, t5⟩ := q1
  have ev : v1 = .slice p l.length c := by
    have q5 : v1 = valOf (.osl k t (l.map f)) [.slice p (l.map f).length c] := q4
    rw [q5]; simp [valOf]
  subst ev
  simp only [List.length_map] at t1 t2 t5
  by_cases hl : l = []
  · subst hl
    refine (AnyF.slices_SortFunc_none { L with } p c _ w).mono ?_
    rintro e w' ⟨rfl, rfl⟩
    refine ⟨.tuple #[], rfl, S, [], F1, Kept.refl _ _, fun _ _ _ q => q, fun _ _ _ _ => rfl, hS, .inl ⟨?_, rfl⟩, ⟨F1, [], by simp, .inr ⟨[.slice p 0 c], ?_, q3, rfl⟩, rfl⟩, by simpa using hF, fun k hk => .inr (by simpa using hk)⟩
    · simp only [RepV]; exact ⟨[], rfl, trivial⟩
    · simp only [isort, List.map_nil, Conc]
      exact ⟨p, c, rfl, t1, t2, t3, by simp, by simpa using t5⟩
  have hpos : 0 < l.length := List.length_pos_iff.2 hl
  rcases t5 with ⟨e, _⟩ | ⟨b, arr, ty, cl, F', rfl, e1, e2, e3, e4, rfl, e5⟩
  · exact absurd (by simpa using e) hl
  obtain ⟨hr, rfl⟩ := e4.areD (dM f l)
  obtain ⟨d, g1, g2⟩ := reps_elems (S := S) hsz l (fun _ q => q) hr
  have hblk := (Array.getElem?_eq_some_iff.1 e1).1
  obtain ⟨x0, hx0⟩ : ∃ x, x ∈ d := by
    cases d with
    | nil => exact absurd g1.symm hl
    | cons x _ => exact ⟨x, by simp⟩
  letI : Inhabited {p : List Value × α // Rep S (f p.2) p.1 ∧ p.2 ∈ l} := ⟨x0⟩
  let enc : {p : List Value × α // Rep S (f p.2) p.1 ∧ p.2 ∈ l} → List Value := fun p => p.1.1
  let c0 : α → α → Int := fun x y => (cmp x y).getD 0
  have hk : ∀ x, (enc x).length = k := fun x => (x.2.1.len).trans (hsz _)
  have h1 : ∀ x, ∀ v ∈ enc x, v.oneCell' = true := fun x => x.2.1.one
  have hswo : Sort.SWO (ltOf fun x y : {p : List Value × α // Rep S (f p.2) p.1 ∧ p.2 ∈ l} => c0 x.1.2 y.1.2) := by
    refine ⟨fun x => ?_, fun x y z q1 q2 => ?_, fun x y z q1 q2 => ?_⟩
    · simpa [ltOf] using hO.1 _ x.2.2
    · simp only [ltOf, decide_eq_true_eq] at q1 q2 ⊢
      exact hO.2.1 _ x.2.2 _ y.2.2 _ z.2.2 q1 q2
    · simp only [ltOf, decide_eq_false_iff_not] at q1 q2 ⊢
      exact hO.ntr _ x.2.2 _ y.2.2 _ z.2.2 q1 q2
  have hdl : d.length = l.length := by have := congrArg List.length g1; simpa using this
  have hD0 : (Sort.flatK enc k d.toArray).toList = cl := by rw [flatK_toList enc k hk]; exact g2
  have hszF : ∀ d' : Array {p : List Value × α // Rep S (f p.2) p.1 ∧ p.2 ∈ l}, d'.size = d.length → (Sort.flatK enc k d').size = l.length * k := fun d' q => by rw [Sort.size_flatK, q, hdl]
  have hle : l.length * k ≤ arr.size := by rw [e2]; exact Nat.mul_le_mul_right _ t2
  have hH2 : Sort.HoldsK enc k w b 0 d.toArray := by
    intro j hj
    have hj' : j < cl.length := by rw [← hD0]; simpa using hj
    have hget : (Sort.flatK enc k d.toArray)[j]! = cl[j] := by
      rw [getElem!_pos _ j hj]
      have : (Sort.flatK enc k d.toArray).toList[j]'(by simpa using hj) = cl[j] := by simp only [hD0]
      simpa using this
    have hcell : arr[j]? = some cl[j] := by
      obtain ⟨u, hu⟩ : ∃ u, u = cl[j] := ⟨_, rfl⟩
      have q : cl[j]? = some u := by rw [hu]; exact List.getElem?_eq_getElem hj'
      rw [← hu]
      clear hget hu
      subst e3
      rw [List.getElem?_take] at q
      split at q
      · simpa using q
      · cases q
    constructor
    · simp only [World.cell?, e1, Option.isSome_none, Bool.false_eq_true, if_false, Nat.zero_add, id, hget]
      exact hcell
    · simp [World.frozen?, e1]
  have hst : ∀ n (d' : Array {p : List Value × α // Rep S (f p.2) p.1 ∧ p.2 ∈ l}) os, StillOk S (sortWorldK enc k w b 0 n d' os) := by
    intro n d' os b' o' u hu
    have hne : b' ≠ b := by rintro rfl; rw [e5] at hu; cases hu
    have := hS b' o' u hu
    have hlt : b' < w.heap.size := by
      unfold cellAt at this
      cases hq : w.heap[b']? with
      | none => simp [hq] at this
      | some _ => exact (Array.getElem?_eq_some_iff.1 hq).1
    unfold cellAt at this ⊢
    rw [sw_other enc k w b n d' os hlt hne]
    exact this
  have heg : Enters P g := by
    obtain ⟨⟨fn', p1, p2, p3⟩, _⟩ := hc x0.1.2 x0.1.2 _ (hcmp _ x0.2.2 _ x0.2.2)
    cases hb : fn'.body with
    | none => simp [hb] at p3
    | some body => exact enters_of p1 p2 hb
  have hlays : CmpLays P g cv.toArray enc k (fun x y => c0 x.1.2 y.1.2) b 0 d.toArray.size w := by
    intro m os dk hs x y
    have hcall := (hc x.1.2 y.1.2 _ (hcmp _ x.2.2 _ y.2.2)).2 S (sortWorldK enc k w b 0 m dk os) (.agg (enc x).toArray :: .agg (enc y).toArray :: cv) [] (hst _ _ _)
      (hass_of_all2 ⟨⟨enc x, x.2.1, by
          have := hag x.1.2
          cases hx : f x.1.2 <;> simp [hx, A.isAgg] at this
          rfl⟩, ⟨enc y, y.2.1, by
          have := hag y.1.2
          cases hx : f y.1.2 <;> simp [hx, A.isAgg] at this
          rfl⟩, hcv⟩) List.nodup_nil
    have ea : (#[.agg (enc x).toArray, .agg (enc y).toArray] ++ cv.toArray : Array Value) = (.agg (enc x).toArray :: .agg (enc y).toArray :: cv : List Value).toArray := by simp
    rw [ea]
    refine hcall.mono ?_
    rintro e w' ⟨v', S', F', rfl, b1, b2, b3, b4, b5, b6, b7⟩
    have hv : v' = .int .i64 (c0 x.1.2 y.1.2) := by
      rcases b5 with ⟨r, _⟩ | ⟨cs, r, _, r2⟩
      · exact (repV_atom.1 r).1
      · simp only [Conc, Rep] at r
        rw [r2, r.1.1]; rfl
    refine ⟨by rw [hv], kept_grow (b1.mono fun k hk => ?_)⟩
    simpa using hk
  have hsz62 : d.toArray.size < 4611686018427387904 := by
    simp only [List.size_toArray, hdl]
    omega
  have hcon := AnyQ.slices_SortFunc (P := P) (ρ := ρ) L k aE zE enc hk h1 (fun x y => c0 x.1.2 y.1.2) hswo g cv.toArray b 0 c d.toArray w heg hlays hH2 hblk hsz62
  have ea2 : (#[.slice (some ⟨b, 0, none⟩) l.length c, .func (.func g) #[] cv.toArray] : Array Value) = #[.slice (some ⟨b, 0, none⟩) d.toArray.size c, .func (.func g) #[] cv.toArray] := by simp only [List.size_toArray, hdl]
  rw [ea2]
  refine hcon.mono ?_
  rintro e w' ⟨rfl, d', n, os, hp, hs, rfl⟩
  have hds : d'.size = d.length := by simpa using hp.1
  have hperm : d'.toList.Perm d := by
    have := hp.2.2
    have e1 : d'.extract 0 d.toArray.size = d' := by rw [show d.toArray.size = d'.size by simp [hds]]; exact Array.extract_size
    rw [e1, Array.extract_size] at this
    simpa using this
  have hl' : d'.toList.map (fun p => p.1.2) = isort c0 l := by
    refine isort_unique hO ?_ ?_
    · exact (hperm.map _).trans (List.Perm.of_eq g1)
    · rw [List.pairwise_map, List.pairwise_iff_getElem]
      intro i j hi hj hij
      have hi' : i < d'.size := by simpa using hi
      have hj' : j < d'.size := by simpa using hj
      have := hs i j (Nat.zero_le _) hij (by simpa [hds] using hj')
      rw [getElem!_pos d' j hj', getElem!_pos d' i hi'] at this
      simpa [ltOf] using this
  have hat := sw_at enc k w b n d' os e1
  have hFs : (Sort.flatK enc k d').size = l.length * k := hszF d' hds
  have hlen : (isort c0 l).length = l.length := (isort_perm c0 l).length_eq
  refine ⟨.tuple #[], rfl, S, [], [b], ⟨rfl, rfl, rfl, Nat.le_add_right _ _, by rw [sw_size]; omega, ?_⟩, fun _ _ _ q => q, fun _ _ _ _ => rfl, hst _ _ _, .inl ⟨?_, rfl⟩, ⟨[b], [], rfl, .inr ⟨[.slice (some ⟨b, 0, none⟩) l.length c], ?_, by simp, rfl⟩, rfl⟩, by simp, by simp⟩
  · intro j hj
    simp only [not_or, Nat.not_le, List.mem_cons, List.not_mem_nil, or_false] at hj
    exact sw_other enc k w b n d' os hj.1 hj.2
  · simp only [RepV]; exact ⟨[], rfl, trivial⟩
  · simp only [Conc, List.length_map]
    refine ⟨some ⟨b, 0, none⟩, c, by rw [hlen], by rw [hlen]; exact t1, by rw [hlen]; exact t2, t3, ?_, .inr ⟨b, _, ty, (Sort.flatK enc k d').toList, [], rfl, hat, by rw [putCells_size]; exact e2, ?_, ?_, rfl, e5⟩⟩
    · intro x hx
      obtain ⟨y, _, rfl⟩ := List.mem_map.1 hx
      exact hsz y
    · rw [hlen, ← hFs]
      exact putCells_take (by rw [hFs]; exact hle)
    · have := (reps_of_elems d'.toList).concs (sortWorldK enc k w b 0 n d' os).heap
      rw [hl'] at this
      rw [flatK_toList enc k hk]
      exact this
end Go.Own
