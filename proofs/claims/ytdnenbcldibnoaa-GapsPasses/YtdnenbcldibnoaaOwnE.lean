/- Regions: one operation after the other; and in whatever order the edges allow. -/
import Derived.Test.YtdnenbcldibnoaaOwnD
import Derived.Deep.LoopGhost
import Derived.Sort.LoopGhostIn
namespace Go.Own

def stepO (tt : TT) (ctr : Ctr) (n : Fr) (o : Oper) : SM Unit :=
  match o.op with
  | .move x => moveA n o.dst x
  | .assign x => assignA tt n o.dst o.type x
  | .binOp op xt x y _ => binOpA tt n o.dst op xt x y
  | .unOp op _ x => unOpA n o.dst op x
  | .convert s t x => convA tt n o.dst s t x
  | .pick c x y => pickA n o.dst c x y
  | .extract x i => extractA n o.dst x i
  | .nilCheck x => nilCheckO n o.dst x
  | .slice t x lo hi mx => sliceO tt n o.dst t x lo hi mx
  | .load t x => loadO tt n o.dst t x
  | .store t x v => storeO tt o.dst t x v
  | .fieldAddr t x i => fieldAddrO tt n o.dst t i x
  | .indexAddr t x i => indexAddrO tt n o.dst t x i
  | .alloc t => allocO tt n o.dst t
  | .box t x => boxO tt n o.dst t x
  | .makeSlice t l c => makeSliceO tt n o.dst t l c
  | .buildSlice t len ps => buildSliceO tt n o.dst t len ps.toList
  | .build t ps => buildO tt n o.dst t ps.toList
  | .makeFunc (.func f) ⟨[]⟩ caps => makeFuncO tt n o.dst f caps.toList
  | .call ⟨.builtin .len, ⟨[x]⟩, ⟨[t]⟩⟩ => lenO tt n o.dst t x
  | .call ⟨.builtin .cap, ⟨[x]⟩, ⟨[t]⟩⟩ => capO tt n o.dst t x
  | .call ⟨.builtin .append, ⟨[s, x]⟩, ⟨[t, t']⟩⟩ => if t = t' then appendO tt n o.dst t s x else sfail
  | .call ⟨.value f, args, tys⟩ => if args.size = tys.size then callO tt ctr n o.dst f (args.toList.zip tys.toList) else sfail
  | _ => sfail

section
variable {C : Ctx} {S : Still} {Fp : Nat → List Nat} {X : List Nat} {st : St} {a : Act} {w : World}

theorem stepO_ok {P : Program} {tt : TT} {ctr : Ctr} (hT : TTok P tt) (hC : CtrOk P ctr) (h : Sim C S Fp [] st a w) {o : Oper} {u : Unit} {R : List Nat} {U : List (Nat × Ent)} (e : stepO tt ctr C.n o st = some (u, R, U)) : Good P C o a w (applyU U st) := by
  unfold stepO at e
  cases ho : o.op with
  | move x => simp only [ho] at e; exact move_ok h ho e
  | assign x => simp only [ho] at e; exact assign_ok h ho e
  | binOp op xt x y yt => simp only [ho] at e; exact binOp_ok hT h ho e
  | unOp op xt x => simp only [ho] at e; exact unOp_ok h ho e
  | convert s t x => simp only [ho] at e; exact conv_ok hT h ho e
  | pick c x y => simp only [ho] at e; exact pick_ok h ho e
  | extract x i => simp only [ho] at e; exact extract_ok h ho e
  | nilCheck x => simp only [ho] at e; exact nilCheck_ok h ho e
  | slice t x lo hi mx => simp only [ho] at e; exact slice_ok hT h ho e
  | load t x => simp only [ho] at e; exact load_ok hT h ho e
  | store t x v => simp only [ho] at e; exact store_ok hT h ho e
  | fieldAddr t x i => simp only [ho] at e; exact fieldAddr_ok hT h ho e
  | indexAddr t x i => simp only [ho] at e; exact indexAddr_ok hT h ho e
  | alloc t => simp only [ho] at e; exact alloc_ok hT h ho e
  | box t x => simp only [ho] at e; exact box_ok h ho e
  | makeSlice t l c => simp only [ho] at e; exact makeSlice_ok hT h ho e
  | buildSlice t len ps => simp only [ho] at e; exact buildSlice_ok hT h ho e
  | build t ps => simp only [ho] at e; exact build_ok hT h ho e
  | makeFunc fn first caps =>
    cases fn with
    | func f =>
      obtain ⟨l⟩ := first
      cases l with
      | nil => simp only [ho] at e; exact makeFunc_ok h ho e
      | cons _ _ => simp only [ho] at e; exact (sfail_some e).elim
    | _ => simp only [ho] at e; exact (sfail_some e).elim
  | call c =>
    obtain ⟨callee, ⟨args⟩, ⟨tys⟩⟩ := c
    cases callee with
    | value f =>
      simp only [ho] at e
      split at e
      · rename_i hsz; exact call_ok hC h ho hsz e
      · exact (sfail_some e).elim
    | invoke r m => simp only [ho] at e; exact (sfail_some e).elim
    | builtin b =>
      cases b with
      | len =>
        rcases args with _ | ⟨x, _ | ⟨y, l⟩⟩ <;> rcases tys with _ | ⟨t, _ | ⟨t', l'⟩⟩ <;> simp only [ho] at e <;> first | exact (sfail_some e).elim | exact len_ok hT h ho e
      | cap =>
        rcases args with _ | ⟨x, _ | ⟨y, l⟩⟩ <;> rcases tys with _ | ⟨t, _ | ⟨t', l'⟩⟩ <;> simp only [ho] at e <;> first | exact (sfail_some e).elim | exact cap_ok hT h ho e
      | append =>
        rcases args with _ | ⟨x, _ | ⟨y, _ | ⟨z, l⟩⟩⟩ <;> rcases tys with _ | ⟨t, _ | ⟨t', _ | ⟨t'', l'⟩⟩⟩ <;> simp only [ho] at e <;> first | exact (sfail_some e).elim | skip
        split at e
        · rename_i ht; subst ht; exact append_ok hT h ho e
        · exact (sfail_some e).elim
      | _ => simp only [ho] at e; exact (sfail_some e).elim
  | _ => simp only [ho] at e; exact (sfail_some e).elim

def stepG (tt : TT) (ctr : Ctr) (n : Fr) (ops : Array Oper) (o : Oper) : SM Unit :=
  match o.guard with
  | none => stepO tt ctr n o
  | some (j, want) =>
    match (ops[j]?).bind (·.dst) with
    | some g => do
      let e ← rdE g
      match e.t with
      | .d (.atom (.bool b)) => if b = want then stepO tt ctr n o else wrT n o.dst (.d (.tup []))
      | .d (.tup []) => wrT n o.dst (.d (.tup []))
      | _ => sfail
    | none => sfail

/-- The operation comes up: it is carried out, or passed over. -/
def GoodG (P : Program) (C : Ctx) (ops : Array Oper) (o : Oper) (a : Act) (w : World) (st' : St) : Prop :=
  ∀ (r : Option Nat) (m : Nat) (K : Act → World → Prop) (Q : Exit → Act → World → Prop), (∀ S Fp a' w', Sim C S Fp [] st' a' w' → K a' w') →
    if Region.wanted o (yielded ops a.tmps) then o.wpIn (fen r) m P a w K Q else (∀ f, o.about P w a.eval = some f → (fen r).fn f) ∧ K (a.put o.dst undef) w

theorem put_gone (h : Sim C S Fp [] st a w) {dst : Option Nat} {u : Unit} {R : List Nat} {U : List (Nat × Ent)} (e : wrT C.n dst .gone st = some (u, R, U)) (v : Value) : ∃ Fp', Sim C S Fp' [] (applyU U st) (a.put dst v) w := by
  rcases wrT_some e with ⟨rfl, rfl⟩ | ⟨k, rfl, hk, rfl⟩
  · exact ⟨Fp, h⟩
  · exact ⟨_, h.put hk .gone [] v (by simp [EntOk]) (by simp) (by simp) (by simp) (by simp) (by simp) (by simp)⟩

theorem put_undef (h : Sim C S Fp [] st a w) {dst : Option Nat} {u : Unit} {R : List Nat} {U : List (Nat × Ent)} (e : wrT C.n dst (.d (.tup [])) st = some (u, R, U)) : ∃ Fp', Sim C S Fp' [] (applyU U st) (a.put dst undef) w := by
  rcases wrT_some e with ⟨rfl, rfl⟩ | ⟨k, rfl, hk, rfl⟩
  · exact ⟨Fp, h⟩
  · exact ⟨_, h.put hk (.d (.tup [])) [] undef (by simp only [EntOk, and_true]; exact ⟨[], rfl, trivial⟩) (by simp) (by simp) (by simp) (by simp) (by simp) (by simp)⟩

theorem stepG_ok {P : Program} {tt : TT} {ctr : Ctr} (hT : TTok P tt) (hC : CtrOk P ctr) (h : Sim C S Fp [] st a w) {ops : Array Oper} {o : Oper} {u : Unit} {R : List Nat} {U : List (Nat × Ent)} (e : stepG tt ctr C.n ops o st = some (u, R, U)) : GoodG P C ops o a w (applyU U st) := by
  unfold stepG at e
  cases hg : o.guard with
  | none =>
    simp only [hg] at e
    intro rd m K Q hK
    simp only [Region.wanted, hg, if_true]
    exact stepO_ok hT hC h e rd m K Q hK
  | some q =>
    obtain ⟨j, want⟩ := q
    simp only [hg] at e
    cases hd : (ops[j]?).bind (·.dst) with
    | none => simp only [hd] at e; exact (sfail_some e).elim
    | some g =>
      simp only [hd] at e
      obtain ⟨en, R1, U1, R2, U2, h1, e1, rfl, rfl⟩ := bind_some e
      obtain ⟨rfl, rfl, rfl⟩ := rdE_some h1
      simp only [applyU, List.nil_append] at e1 ⊢
      have hent := h.ent g
      unfold EntOk at hent
      cases ht : (st g).t with
      | d y =>
        simp only [ht] at e1 hent
        cases y with
        | atom vv =>
          cases vv with
          | bool b =>
            simp only at e1
            have hv := (repV_atom.1 hent.1).1
            have hy : yielded ops a.tmps j = some b := by
              unfold yielded
              rw [hd]
              simp only [Option.bind_some]
              have : a.tmps[g]? = some (.bool b) := by
                unfold Act.tv at hv
                rw [Array.getD_eq_getD_getElem?] at hv
                cases hx : a.tmps[g]? with
                | none => rw [hx] at hv; simp [undef] at hv
                | some u => rw [hx] at hv; simp at hv; rw [hv]
              rw [this]
            intro rd m K Q hK
            simp only [Region.wanted, hg, hy]
            by_cases hb : b = want
            · rw [if_pos hb] at e1
              rw [if_pos (by simp [hb])]
              exact stepO_ok hT hC h e1 rd m K Q hK
            · rw [if_neg hb] at e1
              rw [if_neg (by simpa using hb)]
              obtain ⟨Fp', hs⟩ := put_undef h e1
              exact ⟨fun _ _ => trivial, hK _ _ _ _ hs⟩
          | _ => exact (sfail_some e1).elim
        | tup fs =>
          cases fs with
          | nil =>
            simp only at e1
            obtain ⟨vs, hv, hvs⟩ := hent.1
            have hvs0 : vs = [] := by cases vs <;> first | rfl | exact hvs.elim
            subst hvs0
            have hy : yielded ops a.tmps j = none := by
              unfold yielded
              rw [hd]
              simp only [Option.bind_some]
              unfold Act.tv at hv
              rw [Array.getD_eq_getD_getElem?] at hv
              cases hx : a.tmps[g]? with
              | none => rfl
              | some u => rw [hx] at hv; simp at hv; rw [hv]
            intro rd m K Q hK
            simp only [Region.wanted, hg, hy]
            rw [if_neg (by simp)]
            obtain ⟨Fp', hs⟩ := put_undef h e1
            exact ⟨fun _ _ => trivial, hK _ _ _ _ hs⟩
          | cons _ _ => exact (sfail_some e1).elim
        | _ => exact (sfail_some e1).elim
      | _ => simp only [ht] at e1; exact (sfail_some e1).elim

/-! ### In the order of the text -/

def runL (tt : TT) (ctr : Ctr) (n : Fr) (ops : Array Oper) : List Oper → St → Option St
  | [], st => some st
  | o :: os, st =>
    match stepG tt ctr n ops o st with
    | some (_, _, U) => runL tt ctr n ops os (applyU U st)
    | none => none

theorem runL_ok {rd : Option Nat} {m : Nat} {P : Program} {tt : TT} {ctr : Ctr} (hT : TTok P tt) (hC : CtrOk P ctr) {ops : Array Oper} {Q : Exit → Act → World → Prop} : ∀ (l : List Oper) {st st' : St} {S : Still} {Fp : Nat → List Nat} {a : Act} {w : World}, Sim C S Fp [] st a w → runL tt ctr C.n ops l st = some st' →
    (∀ S Fp a' w', Sim C S Fp [] st' a' w' → Q .normal a' w') → wpListIn (fen rd) m P ops Q l a w
  | [], st, st', S, Fp, a, w, h, e, hQ => by
    simp only [runL, Option.some.injEq] at e
    subst e
    exact hQ _ _ _ _ h
  | o :: os, st, st', S, Fp, a, w, h, e, hQ => by
    simp only [runL] at e
    cases hs : stepG tt ctr C.n ops o st with
    | none => simp [hs] at e
    | some q =>
      obtain ⟨u, R, U⟩ := q
      simp only [hs] at e
      refine wpListIn_step fun K hK => ?_
      exact stepG_ok hT hC h hs rd m K Q fun S' Fp' a' w' h' => hK _ _ (runL_ok hT hC os h' e hQ)

/-! ### In whatever order -/

def Loc {α : Type} (m : SM α) : Prop := ∀ st st' a R U, m st = some (a, R, U) → (∀ k ∈ R, st' k = st k) → m st' = some (a, R, U)

theorem applyU_congr (us : List (Nat × Ent)) {st st' : St} {k : Nat} (h : st' k = st k) : applyU us st' k = applyU us st k := by
  induction us generalizing st st' with
  | nil => exact h
  | cons u us ih =>
    simp only [applyU]
    refine ih ?_
    unfold upd
    split
    · rfl
    · exact h

theorem Loc.bind {α β : Type} {m : SM α} {f : α → SM β} (h1 : Loc m) (h2 : ∀ a, Loc (f a)) : Loc (m >>= f) := by
  intro st st' b R U e hR
  obtain ⟨a, R1, U1, R2, U2, q1, q2, rfl, rfl⟩ := bind_some e
  have k1 := h1 st st' a R1 U1 q1 (fun k hk => hR k (by simp [hk]))
  have k2 := h2 a _ (applyU U1 st') b R2 U2 q2 (fun k hk => applyU_congr U1 (hR k (by simp [hk])))
  show SM.bind m f st' = _
  unfold SM.bind
  rw [k1]
  simp only [k2]

theorem Loc.pure {α : Type} (a : α) : Loc (Pure.pure a : SM α) := by
  intro st st' b R U e _
  obtain ⟨rfl, rfl, rfl⟩ := pure_some e
  rfl
theorem Loc.fail {α : Type} : Loc (sfail : SM α) := by
  intro st st' b R U e _
  exact (sfail_some e).elim
theorem Loc.rdE (k : Nat) : Loc (rdE k) := by
  intro st st' b R U e h
  obtain ⟨rfl, rfl, rfl⟩ := rdE_some e
  simp [Go.Own.rdE, h k (by simp)]
theorem Loc.wrE (k : Nat) (x : Ent) : Loc (wrE k x) := by
  intro st st' b R U e _
  obtain ⟨rfl, rfl⟩ := wrE_some e
  rfl
theorem Loc.ofO {α : Type} (x : Option α) : Loc (ofO x) := by
  intro st st' b R U e _
  obtain ⟨h, rfl, rfl⟩ := ofO_some e
  simp [Go.Own.ofO, h]
theorem Loc.ghost {α : Type} {m : SM α} (h : Loc m) : Loc (ghost m) := by
  intro st st' b R U e hR
  unfold Go.Own.ghost at e ⊢
  cases hs : m st with
  | none => simp [hs] at e
  | some q =>
    obtain ⟨q1, q2, q3⟩ := q
    simp only [hs, Option.some.injEq, Prod.mk.injEq] at e
    obtain ⟨rfl, rfl, rfl⟩ := e
    rw [h st st' _ _ _ hs hR]

end
end Go.Own

namespace Go.Own

theorem Loc.opnd (x : Operand) : Loc (opnd x) := by
  cases x <;> simp only [Go.Own.opnd]
  · refine Loc.bind (Loc.rdE _) fun e => ?_
    split <;> first | exact Loc.pure _ | exact Loc.fail
  · split <;> first | exact Loc.pure _ | exact Loc.fail
  · exact Loc.fail
  · exact Loc.pure _

theorem Loc.look (r : Nat) (p : List Step) (er ec : Nat) : Loc (look r p er ec) := by
  unfold Go.Own.look
  refine Loc.bind (Loc.rdE _) fun e => ?_
  split
  · split <;> first | exact Loc.ofO _ | exact Loc.fail
  · split <;> first | exact Loc.pure _ | exact Loc.fail
  · exact Loc.fail

theorem Loc.lookP (r : Nat) (p : List Step) (er ec : Nat) : Loc (lookP r p er ec) := by
  unfold Go.Own.lookP
  refine Loc.bind (Loc.rdE _) fun e => ?_
  split
  · split <;> first | exact Loc.ofO _ | exact Loc.fail
  · exact Loc.fail

theorem Loc.val (x : T) : Loc (val x) := by
  unfold Go.Own.val
  split
  · exact Loc.pure _
  · refine Loc.bind (Loc.look _ _ _ _) fun y => ?_
    split <;> first | exact Loc.pure _ | exact Loc.fail
  · exact Loc.fail

theorem Loc.take (x : T) : Loc (take x) := by
  unfold Go.Own.take
  split
  · exact Loc.pure _
  · refine Loc.bind (Loc.look _ _ _ _) fun y => ?_
    split
    · exact Loc.pure _
    · refine Loc.bind (Loc.rdE _) fun e => ?_
      split
      · split
        · exact Loc.bind (Loc.wrE _ _) fun _ => Loc.pure _
        · exact Loc.bind (Loc.wrE _ _) fun _ => Loc.pure _
      · exact Loc.fail
  · exact Loc.fail

theorem Loc.takeC (tt : TT) (t : Nat) (x : T) : Loc (takeC tt t x) := Loc.bind (Loc.take x) fun _ => Loc.pure _

theorem Loc.wrT (n : Fr) (dst : Option Nat) (x : T) : Loc (wrT n dst x) := by
  unfold Go.Own.wrT
  split
  · exact Loc.pure _
  · split
    · exact Loc.bind (Loc.rdE _) fun _ => Loc.wrE _ _
    · exact Loc.fail

theorem Loc.ptrOf (x : T) : Loc (ptrOf x) := by
  unfold Go.Own.ptrOf
  split
  · exact Loc.pure _
  · exact Loc.pure _
  · refine Loc.bind (Loc.rdE _) fun e => Loc.bind (Loc.look _ _ _ _) fun y => ?_
    split <;> first | exact Loc.pure _ | exact Loc.fail
  · exact Loc.fail

theorem Loc.peek (x : T) : Loc (peek x) := by
  unfold Go.Own.peek
  split
  · exact Loc.pure _
  · exact Loc.look _ _ _ _
  · exact Loc.fail

theorem Loc.shutT (tt : TT) (t : Nat) (x : T) : Loc (shutT tt t x) := by
  unfold Go.Own.shutT
  split
  · exact Loc.fail
  · exact Loc.pure _
  · refine Loc.bind (Loc.look _ _ _ _) fun y => ?_
    split
    · exact Loc.pure _
    · split
      · refine Loc.bind (Loc.rdE _) fun e => ?_
        split
        · split
          · exact Loc.bind (Loc.wrE _ _) fun _ => Loc.pure _
          · exact Loc.bind (Loc.wrE _ _) fun _ => Loc.pure _
        · exact Loc.fail
      · exact Loc.fail
  · exact Loc.fail

theorem Loc.shutArgs (tt : TT) : ∀ as, Loc (shutArgs tt as)
  | [] => Loc.pure _
  | (x, t) :: as => Loc.bind (Loc.opnd x) fun _ => Loc.bind (Loc.shutT tt t _) fun _ => Loc.bind (Loc.shutArgs tt as) fun _ => Loc.pure _

theorem Loc.takes (tt : TT) : ∀ ps, Loc (takes ps tt)
  | [] => Loc.pure _
  | (x, t) :: ps => Loc.bind (Loc.opnd x) fun _ => Loc.bind (Loc.takeC tt t _) fun _ => Loc.bind (Loc.takes tt ps) fun _ => Loc.pure _

theorem Loc.ite {α : Type} {c : Prop} [Decidable c] {x y : SM α} (h1 : Loc x) (h2 : Loc y) : Loc (if c then x else y) := by split <;> assumption

theorem Loc.loadA (tt : TT) (n : Fr) (dst : Option Nat) (t : Nat) (x : T) : Loc (loadA tt n dst t x) := by
  unfold Go.Own.loadA
  refine Loc.bind (Loc.ptrOf x) fun q => ?_
  split
  · exact Loc.ite (Loc.wrT _ _ _) Loc.fail
  · exact Loc.bind (Loc.lookP _ _ _ _) fun y => Loc.ite (Loc.ite (Loc.wrT _ _ _) (Loc.wrT _ _ _)) Loc.fail

theorem Loc.storeA (tt : TT) (t : Nat) (x v : T) : Loc (storeA tt t x v) := by
  unfold Go.Own.storeA
  refine Loc.bind (Loc.ptrOf x) fun q => ?_
  split
  · exact Loc.fail
  · refine Loc.bind (Loc.takeC _ _ _) fun y => Loc.bind (Loc.rdE _) fun e => ?_
    split
    · refine Loc.ite ?_ Loc.fail
      split
      · exact Loc.ite (Loc.wrE _ _) Loc.fail
      · exact Loc.fail
    · exact Loc.fail

theorem Loc.fieldAddrA (tt : TT) (n : Fr) (dst : Option Nat) (t i : Nat) (x : T) : Loc (fieldAddrA tt n dst t i x) := by
  unfold Go.Own.fieldAddrA
  refine Loc.bind (Loc.ptrOf x) fun q => ?_
  split
  · split
    · exact Loc.ite (Loc.wrT _ _ _) Loc.fail
    · exact Loc.fail
  · exact Loc.fail
  · refine Loc.bind (Loc.lookP _ _ _ _) fun y => ?_
    split
    · exact Loc.ite (Loc.wrT _ _ _) Loc.fail
    · exact Loc.fail

theorem Loc.indexAddrA (tt : TT) (n : Fr) (dst : Option Nat) (t : Nat) (x : T) (i : A) : Loc (indexAddrA tt n dst t x i) := by
  unfold Go.Own.indexAddrA
  split
  · split
    · refine Loc.ite ?_ Loc.fail
      split
      · exact Loc.wrT _ _ _
      · exact Loc.fail
    · refine Loc.bind (Loc.rdE _) fun e => Loc.bind (Loc.look _ _ _ _) fun y => ?_
      split
      · exact Loc.ite (Loc.wrT _ _ _) Loc.fail
      · refine Loc.ite ?_ Loc.fail
        split
        · exact Loc.wrT _ _ _
        · exact Loc.fail
      · exact Loc.fail
    · exact Loc.fail
  · exact Loc.fail

theorem Loc.indexArrA (tt : TT) (n : Fr) (dst : Option Nat) (t : Nat) (x : T) (i : A) : Loc (indexArrA tt n dst t x i) := by
  unfold Go.Own.indexArrA
  split
  · refine Loc.bind (Loc.ptrOf x) fun q => ?_
    split
    · split
      · exact Loc.ite (Loc.wrT _ _ _) Loc.fail
      · exact Loc.fail
    · exact Loc.fail
    · refine Loc.bind (Loc.lookP _ _ _ _) fun y => ?_
      split
      · exact Loc.ite (Loc.wrT _ _ _) Loc.fail
      · exact Loc.fail
  · exact Loc.fail

theorem Loc.appendA (tt : TT) (n : Fr) (dst : Option Nat) (t : Nat) (s x : T) : Loc (appendA tt n dst t s x) := by
  unfold Go.Own.appendA
  split
  · split
    · refine Loc.bind (Loc.peek _) fun y => ?_
      split
      all_goals first
        | exact Loc.fail
        | (refine Loc.ite (Loc.bind (Loc.takeC _ _ _) fun z => ?_) Loc.fail
           split
           · exact Loc.ite (Loc.wrT _ _ _) Loc.fail
           · exact Loc.ite (Loc.wrT _ _ _) Loc.fail
           · exact Loc.fail)
    · exact Loc.fail
  · exact Loc.fail

theorem Loc.appendOwnA (tt : TT) (n : Fr) (dst : Option Nat) (t : Nat) (s x : Operand) : Loc (appendOwnA tt n dst t s x) := by
  unfold Go.Own.appendOwnA
  split
  · split
    · refine Loc.ite ?_ Loc.fail
      refine Loc.bind (Loc.opnd _) fun _ => Loc.bind (Loc.take _) fun y => Loc.bind (Loc.opnd _) fun _ => Loc.bind (Loc.takeC _ _ _) fun z => ?_
      split
      · exact Loc.ite (Loc.wrT _ _ _) Loc.fail
      · exact Loc.fail
    · exact Loc.fail
  · exact Loc.fail

theorem Loc.passArgs (tt : TT) : ∀ (as : List (Bool × Operand × Nat)), Loc (passArgs tt as)
  | [] => Loc.pure _
  | (g, x, t) :: as => Loc.bind (Loc.opnd x) fun y => Loc.bind (Loc.ite (Loc.takeC tt t y) (Loc.shutT tt t y)) fun _ => Loc.bind (Loc.passArgs tt as) fun _ => Loc.pure _

theorem Loc.lendA (tt : TT) (ctr : Ctr) (n : Fr) (dst : Option Nat) (k i : Nat) (caps : List A) (ops : List (Operand × Nat)) : Loc (lendA tt ctr n dst k i caps ops) := by
  unfold Go.Own.lendA
  split
  · refine Loc.bind (Loc.shutArgs tt _) fun xs => Loc.bind (Loc.shutArgs tt _) fun zs => Loc.bind (Loc.opnd _) fun tx => ?_
    split
    · refine Loc.bind (Loc.look _ _ _ _) fun y => Loc.bind (Loc.rdE _) fun e => ?_
      split
      · refine Loc.ite ?_ Loc.fail
        split
        · exact Loc.ite (Loc.bind (Loc.wrE _ _) fun _ => Loc.wrT _ _ _) Loc.fail
        · exact Loc.fail
      · exact Loc.fail
    · exact Loc.fail
  · exact Loc.fail

theorem Loc.callA (tt : TT) (ctr : Ctr) (n : Fr) (dst : Option Nat) (f : A) (as : List (Operand × Nat)) : Loc (callA tt ctr n dst f as) := by
  unfold Go.Own.callA
  split
  · split
    · exact Loc.lendA _ _ _ _ _ _ _ _
    refine Loc.ite (Loc.bind (Loc.shutArgs tt as).ghost fun xs => ?_) (Loc.ite (Loc.bind (Loc.passArgs tt _) fun xs => ?_) Loc.fail)
    · split
      · exact Loc.ite (Loc.wrT _ _ _) (Loc.bind (Loc.shutArgs tt as) fun _ => Loc.wrT _ _ _)
      · exact Loc.fail
    · split
      · exact Loc.wrT _ _ _
      · exact Loc.fail
  · exact Loc.fail

theorem Loc.nilCheckO (n : Fr) (dst : Option Nat) (x : Operand) : Loc (nilCheckO n dst x) := by
  unfold Go.Own.nilCheckO
  refine Loc.bind (Loc.opnd _) fun y => ?_
  split
  · exact Loc.wrT _ _ _
  · refine Loc.bind (Loc.ptrOf _) fun q => ?_
    split
    · exact Loc.wrT _ _ _
    · exact Loc.bind (Loc.lookP _ _ _ _) fun _ => Loc.wrT _ _ _

theorem Loc.bound (dflt : Nat) (x : Option Operand) : Loc (bound dflt x) := by
  cases x with
  | none => exact Loc.pure _
  | some x =>
    refine Loc.bind (Loc.opnd _) fun t => Loc.bind (Loc.val _) fun v => ?_
    split
    · exact Loc.ite (Loc.pure _) Loc.fail
    · exact Loc.fail

theorem Loc.sliceO (tt : TT) (n : Fr) (dst : Option Nat) (t : Nat) (x : Operand) (lo hi mx : Option Operand) : Loc (sliceO tt n dst t x lo hi mx) := by
  unfold Go.Own.sliceO
  refine Loc.bind (Loc.opnd _) fun y => ?_
  split
  · refine Loc.ite (Loc.bind (Loc.bound _ _) fun l => Loc.bind (Loc.bound _ _) fun h => ?_) Loc.fail
    split
    · exact Loc.ite (Loc.wrT _ _ _) Loc.fail
    · exact Loc.bind (Loc.bound _ _) fun m => Loc.ite (Loc.wrT _ _ _) Loc.fail
  · exact Loc.fail

theorem Loc.stepO (tt : TT) (ctr : Ctr) (n : Fr) (o : Oper) : Loc (stepO tt ctr n o) := by
  unfold Go.Own.stepO
  split
  · exact Loc.bind (Loc.opnd _) fun _ => Loc.wrT _ _ _
  · unfold assignA
    refine Loc.bind (Loc.opnd _) fun y => ?_
    split
    · exact Loc.wrT _ _ _
    · exact Loc.bind (Loc.takeC _ _ _) fun _ => Loc.wrT _ _ _
  · exact Loc.bind (Loc.opnd _) fun _ => Loc.bind (Loc.val _) fun _ => Loc.bind (Loc.opnd _) fun _ => Loc.bind (Loc.val _) fun _ => Loc.bind (Loc.ofO _) fun _ => Loc.wrT _ _ _
  · exact Loc.bind (Loc.opnd _) fun _ => Loc.bind (Loc.val _) fun _ => Loc.bind (Loc.ofO _) fun _ => Loc.wrT _ _ _
  · unfold convA
    refine Loc.bind (Loc.opnd _) fun _ => Loc.bind (Loc.val _) fun v => ?_
    split
    · split
      · split
        · exact Loc.wrT _ _ _
        · exact Loc.fail
      · exact Loc.fail
    · exact Loc.fail
  · unfold pickA
    refine Loc.bind (Loc.opnd _) fun _ => Loc.bind (Loc.val _) fun v => ?_
    split
    · exact Loc.bind (Loc.opnd _) fun _ => Loc.wrT _ _ _
    · exact Loc.bind (Loc.opnd _) fun _ => Loc.wrT _ _ _
    · exact Loc.fail
  · unfold extractA
    refine Loc.bind (Loc.opnd _) fun t => ?_
    split
    · split
      · exact Loc.wrT _ _ _
      · exact Loc.fail
    · exact Loc.fail
  · exact Loc.nilCheckO _ _ _
  · exact Loc.sliceO _ _ _ _ _ _ _ _
  · exact Loc.bind (Loc.opnd _) fun _ => Loc.loadA _ _ _ _ _
  · exact Loc.ite (Loc.bind (Loc.opnd _) fun _ => Loc.bind (Loc.opnd _) fun _ => Loc.storeA _ _ _ _) Loc.fail
  · exact Loc.bind (Loc.opnd _) fun _ => Loc.fieldAddrA _ _ _ _ _ _
  · exact Loc.bind (Loc.opnd _) fun _ => Loc.bind (Loc.opnd _) fun _ => Loc.bind (Loc.val _) fun _ => Loc.ite (Loc.indexArrA _ _ _ _ _ _) (Loc.indexAddrA _ _ _ _ _ _)
  · exact Loc.bind (Loc.ofO _) fun _ => Loc.bind (Loc.ofO _) fun _ => Loc.wrT _ _ _
  · unfold boxO
    refine Loc.bind (Loc.opnd _) fun _ => Loc.bind (Loc.takeC _ _ _) fun z => ?_
    split
    · exact Loc.fail
    · exact Loc.ite (Loc.wrT _ _ _) Loc.fail
  · unfold makeSliceO
    refine Loc.bind (Loc.opnd _) fun _ => Loc.bind (Loc.val _) fun vl => Loc.bind (Loc.opnd _) fun _ => Loc.bind (Loc.val _) fun vc => ?_
    split
    · split
      · split
        · split
          · exact Loc.ite (Loc.wrT _ _ _) Loc.fail
          · exact Loc.fail
        · exact Loc.fail
      · exact Loc.fail
    · exact Loc.fail
  · unfold buildSliceO
    split
    · split
      · split
        · exact Loc.bind (Loc.takes _ _) fun _ => Loc.ite (Loc.wrT _ _ _) Loc.fail
        · exact Loc.fail
      · exact Loc.fail
    · exact Loc.fail
  · unfold buildO
    split
    · split
      · exact Loc.bind (Loc.takes _ _) fun _ => Loc.ite (Loc.wrT _ _ _) Loc.fail
      · exact Loc.fail
    · exact Loc.fail
  · exact Loc.bind (Loc.shutArgs _ _) fun _ => Loc.ite (Loc.wrT _ _ _) Loc.fail
  · exact Loc.bind (Loc.opnd _) fun _ => Loc.bind (Loc.peek _) fun _ => Loc.bind (Loc.ofO _) fun _ => Loc.ite (Loc.wrT _ _ _) Loc.fail
  · exact Loc.bind (Loc.opnd _) fun _ => Loc.bind (Loc.peek _) fun _ => Loc.bind (Loc.ofO _) fun _ => Loc.ite (Loc.wrT _ _ _) Loc.fail
  · refine Loc.ite ?_ Loc.fail
    unfold appendO
    refine Loc.bind (Loc.opnd _) fun _ => Loc.bind (Loc.opnd _) fun _ => Loc.bind (Loc.peek _) fun y => ?_
    split
    · exact Loc.ite (Loc.appendA _ _ _ _ _ _) (Loc.appendOwnA _ _ _ _ _ _)
    · exact Loc.appendA _ _ _ _ _ _
  · exact Loc.ite (Loc.bind (Loc.opnd _) fun _ => Loc.bind (Loc.val _) fun _ => Loc.callA _ _ _ _ _ _) Loc.fail
  · exact Loc.fail

theorem Loc.stepG (tt : TT) (ctr : Ctr) (n : Fr) (ops : Array Oper) (o : Oper) : Loc (stepG tt ctr n ops o) := by
  unfold Go.Own.stepG
  split
  · exact Loc.stepO _ _ _ _
  · split
    · refine Loc.bind (Loc.rdE _) fun e => ?_
      split
      · exact Loc.ite (Loc.stepO _ _ _ _) (Loc.wrT _ _ _)
      · exact Loc.wrT _ _ _
      · exact Loc.fail
    · exact Loc.fail

end Go.Own

namespace Go.Own

abbrev Log := List Nat × List (Nat × Ent)

def logL (tt : TT) (ctr : Ctr) (n : Fr) (ops : Array Oper) : List Oper → St → Option (List Log × St)
  | [], st => some ([], st)
  | o :: os, st =>
    match stepG tt ctr n ops o st with
    | some (_, R, U) =>
      match logL tt ctr n ops os (applyU U st) with
      | some (l, st') => some ((R, U) :: l, st')
      | none => none
    | none => none

def ancOf (acc : List Nat) (o : Oper) : Nat := o.after.toList.foldl (fun s e => if Region.binds .any e = true then s ||| 2 ^ e.on ||| acc.getD e.on 0 else s) 0
def ancsL : List Oper → List Nat → List Nat
  | [], acc => acc
  | o :: os, acc => ancsL os (acc ++ [ancOf acc o])

def clash (R W R' W' : List Nat) : Bool := W.any (fun k => W'.contains k || R'.contains k) || R.any (fun k => W'.contains k)

def edgesOk (ops : List Oper) : Bool := ops.zipIdx.all fun p => p.1.after.toList.all fun e => !Region.binds .any e || e.on < p.2

def keysOf (l : Log) : List Nat × List Nat := (l.1, l.2.map (·.1))

def drawOk (ops : List Oper) (logs : List (List Nat × List Nat)) : Bool :=
  edgesOk ops && (List.range ops.length).all fun j => (List.range j).all fun i =>
    !(clash (logs.getD i ([], [])).1 (logs.getD i ([], [])).2 (logs.getD j ([], [])).1 (logs.getD j ([], [])).2) || ((ancsL ops []).getD j 0).testBit i

/-! ### States by sets of operations -/

def filt (k : Nat) (us : List (Nat × Ent)) : List (Nat × Ent) := us.filter fun u => u.1 == k

theorem applyU_filt (us : List (Nat × Ent)) (st : St) (k : Nat) : applyU us st k = applyU (filt k us) st k := by
  induction us generalizing st with
  | nil => rfl
  | cons u us ih =>
    simp only [applyU, filt, List.filter_cons]
    by_cases h : u.1 = k
    · simp only [h, beq_self_eq_true, if_true, applyU]
      exact ih _
    · have : (u.1 == k) = false := by simpa using h
      simp only [this, Bool.false_eq_true, if_false]
      rw [ih]
      exact applyU_congr _ (upd_ne _ _ (Ne.symm h))

theorem applyU_filt_eq {us vs : List (Nat × Ent)} (st : St) {k : Nat} (h : filt k us = filt k vs) : applyU us st k = applyU vs st k := by
  rw [applyU_filt us, applyU_filt vs, h]

theorem filt_append (k : Nat) (us vs : List (Nat × Ent)) : filt k (us ++ vs) = filt k us ++ filt k vs := by simp [filt]

def pickU (L : Nat → Bool) : Nat → List Log → List (Nat × Ent)
  | _, [] => []
  | i, l :: ls => (if L i then l.2 else []) ++ pickU L (i + 1) ls

theorem pickU_congr {L L' : Nat → Bool} : ∀ (ls : List Log) (o : Nat), (∀ j, o ≤ j → L j = L' j) → pickU L o ls = pickU L' o ls
  | [], _, _ => rfl
  | l :: ls, o, h => by
    simp only [pickU, h o (Nat.le_refl _), pickU_congr ls (o + 1) (fun j hj => h j (by omega))]

theorem pickU_filt_congr {L L' : Nat → Bool} {k : Nat} : ∀ (ls : List Log) (o : Nat), (∀ j l, ls[j]? = some l → filt k l.2 ≠ [] → L (o + j) = L' (o + j)) → filt k (pickU L o ls) = filt k (pickU L' o ls)
  | [], _, _ => rfl
  | l :: ls, o, h => by
    have ih := pickU_filt_congr (L := L) (L' := L') (k := k) ls (o + 1) (fun j l hj hne => by
      have := h (j + 1) l (by simpa using hj) hne
      have e : o + (j + 1) = o + 1 + j := by omega
      rw [e] at this
      exact this)
    simp only [pickU, filt_append]
    rw [ih]
    congr 1
    by_cases hne : filt k l.2 = []
    · have h0 : filt k ([] : List (Nat × Ent)) = [] := rfl
      split <;> split <;> first | rfl | rw [hne, h0]
    · have h0 := h 0 l rfl hne
      simp only [Nat.add_zero] at h0
      rw [h0]

theorem pickU_lt : ∀ (ls : List Log) (o i : Nat), pickU (fun j => decide (j < i)) o ls = ((ls.take (i - o)).map (·.2)).flatten
  | [], o, i => by simp [pickU]
  | l :: ls, o, i => by
    simp only [pickU, pickU_lt ls (o + 1) i]
    by_cases h : o < i
    · rw [show i - o = (i - (o + 1)) + 1 from by omega]
      simp [h]
    · rw [show i - o = 0 from by omega, show i - (o + 1) = 0 from by omega]
      simp [h]

theorem pickU_none {L : Nat → Bool} {k : Nat} : ∀ (ls : List Log) (o : Nat), (∀ j l, ls[j]? = some l → L (o + j) = true → filt k l.2 = []) → filt k (pickU L o ls) = []
  | [], _, _ => rfl
  | l :: ls, o, h => by
    simp only [pickU, filt_append]
    rw [pickU_none ls (o + 1) (fun j l hj hL => h (j + 1) l (by simpa using hj) (by rwa [show o + (j + 1) = o + 1 + j from by omega]))]
    split
    · rename_i hL; rw [h 0 l rfl (by simpa using hL)]; rfl
    · rfl

theorem pickU_set {L : Nat → Bool} {k i : Nat} (hi : L i = false) : ∀ (ls : List Log) (o : Nat), o ≤ i → ∀ {li : Log}, ls[i - o]? = some li →
    (filt k li.2 = [] ∨ ∀ j l, ls[j]? = some l → i < o + j → L (o + j) = true → filt k l.2 = []) →
    filt k (pickU (fun j => L j || j == i) o ls) = filt k (pickU L o ls) ++ filt k li.2
  | [], _, _, _, e, _ => by simp at e
  | l :: ls, o, ho, li, e, h => by
    simp only [pickU, filt_append]
    by_cases hoi : o = i
    · subst hoi
      rw [Nat.sub_self] at e
      simp only [List.getElem?_cons_zero, Option.some.injEq] at e
      subst e
      have hc : pickU (fun j => L j || j == o) (o + 1) ls = pickU L (o + 1) ls := pickU_congr ls (o + 1) (fun j hj => by
        have : (j == o) = false := by simp; omega
        simp [this])
      rw [hc]
      simp only [hi, Bool.false_or, beq_self_eq_true, if_true, Bool.false_eq_true, if_false]
      rcases h with h | h
      · have h0 : filt k ([] : List (Nat × Ent)) = [] := rfl
        rw [h, h0, List.append_nil]
      · rw [pickU_none ls (o + 1) (fun j l hj hL => h (j + 1) l (by simpa using hj) (by omega) (by rwa [show o + (j + 1) = o + 1 + j from by omega]))]
        simp [filt]
    · have hlt : o < i := by omega
      rw [show i - o = (i - (o + 1)) + 1 from by omega, List.getElem?_cons_succ] at e
      have ih := pickU_set hi ls (o + 1) (by omega) e (h.imp id (fun h j l hj hij hL => h (j + 1) l (by simpa using hj) (by omega) (by rwa [show o + (j + 1) = o + 1 + j from by omega])))
      rw [ih, ← List.append_assoc]
      have : (o == i) = false := by simpa using hoi
      simp [this]

/-! ### The text's order gives the logs -/

theorem logL_steps {tt : TT} {ctr : Ctr} {n : Fr} {ops : Array Oper} : ∀ {l : List Oper} {st st' : St} {logs : List Log}, logL tt ctr n ops l st = some (logs, st') →
    logs.length = l.length ∧ st' = applyU ((logs.map (·.2)).flatten) st ∧
    ∀ i o, l[i]? = some o → ∃ li, logs[i]? = some li ∧ stepG tt ctr n ops o (applyU (((logs.take i).map (·.2)).flatten) st) = some ((), li.1, li.2)
  | [], st, st', logs, e => by
    simp only [logL, Option.some.injEq, Prod.mk.injEq] at e
    obtain ⟨rfl, rfl⟩ := e
    exact ⟨rfl, rfl, fun i o h => by simp at h⟩
  | o :: os, st, st', logs, e => by
    simp only [logL] at e
    cases hs : stepG tt ctr n ops o st with
    | none => simp [hs] at e
    | some q =>
      obtain ⟨u, R, U⟩ := q
      simp only [hs] at e
      cases hl : logL tt ctr n ops os (applyU U st) with
      | none => simp [hl] at e
      | some q =>
        obtain ⟨ls, s2⟩ := q
        simp only [hl, Option.some.injEq, Prod.mk.injEq] at e
        obtain ⟨rfl, rfl⟩ := e
        obtain ⟨h1, h2, h3⟩ := logL_steps hl
        refine ⟨by simp [h1], by rw [h2]; simp [applyU_append], ?_⟩
        intro i o' hi
        cases i with
        | zero =>
          simp at hi
          subst hi
          exact ⟨(R, U), rfl, by simpa [applyU] using hs⟩
        | succ i =>
          simp at hi
          obtain ⟨li, q1, q2⟩ := h3 i o' hi
          refine ⟨li, by simpa using q1, ?_⟩
          simpa [applyU_append] using q2

/-! ### Ancestors -/

theorem ancOf_bit {acc : List Nat} {o : Oper} {i : Nat} (h : (ancOf acc o).testBit i = true) : ∃ e ∈ o.after.toList, Region.binds .any e = true ∧ (e.on = i ∨ (acc.getD e.on 0).testBit i = true) := by
  have gen : ∀ (l : List Edge) (s : Nat), (l.foldl (fun s e => if Region.binds .any e = true then s ||| 2 ^ e.on ||| acc.getD e.on 0 else s) s).testBit i = true → s.testBit i = true ∨ ∃ e ∈ l, Region.binds .any e = true ∧ (e.on = i ∨ (acc.getD e.on 0).testBit i = true) := by
    intro l
    induction l with
    | nil => intro s h; exact .inl h
    | cons e l ih =>
      intro s h
      simp only [List.foldl_cons] at h
      rcases ih _ h with h | ⟨e', h1, h2⟩
      · split at h
        · rename_i hb
          rw [Nat.testBit_or, Nat.testBit_or, Nat.testBit_two_pow] at h
          simp only [Bool.or_eq_true, decide_eq_true_eq] at h
          rcases h with (h | h) | h
          · exact .inl h
          · exact .inr ⟨e, by simp, hb, .inl h⟩
          · exact .inr ⟨e, by simp, hb, .inr h⟩
        · exact .inl h
      · exact .inr ⟨e', by simp [h1], h2⟩
  rcases gen _ 0 h with h | h
  · simp at h
  · exact h

/-- A set that is closed under the edges is closed under ancestors. -/
theorem ancs_closed {ops : List Oper} {L : Nat → Bool} (hcl : ∀ j o, ops[j]? = some o → L j = true → ∀ e ∈ o.after.toList, Region.binds .any e = true → L e.on = true) :
    ∀ (l : List Oper) (acc : List Nat) (done : List Oper), ops = done ++ l → acc.length = done.length →
      (∀ j i, (acc.getD j 0).testBit i = true → L j = true → L i = true) → ∀ j i, ((ancsL l acc).getD j 0).testBit i = true → L j = true → L i = true
  | [], acc, done, _, _, h => by simpa [ancsL] using h
  | o :: os, acc, done, e, hl, h => by
    simp only [ancsL]
    refine ancs_closed hcl os (acc ++ [ancOf acc o]) (done ++ [o]) (by simp [e]) (by simp [hl]) ?_
    intro j i hb hL
    rw [List.getD_eq_getElem?_getD] at hb
    by_cases hj : j < acc.length
    · rw [List.getElem?_append_left hj, ← List.getD_eq_getElem?_getD] at hb
      exact h j i hb hL
    · by_cases hj2 : j = acc.length
      · subst hj2
        rw [List.getElem?_append_right (by omega)] at hb
        simp only [Nat.sub_self, List.getElem?_cons_zero, Option.getD_some] at hb
        obtain ⟨ed, h1, h2, h3⟩ := ancOf_bit hb
        have hLe := hcl acc.length o (by rw [e, hl, List.getElem?_append_right (by omega)]; simp) hL ed h1 h2
        rcases h3 with h3 | h3
        · rw [← h3]; exact hLe
        · exact h _ _ h3 hLe
      · rw [List.getElem?_eq_none (by simp; omega)] at hb
        simp at hb

theorem clash_false {R W R' W' : List Nat} (h : clash R W R' W' = false) : (∀ k ∈ W, k ∉ W' ∧ k ∉ R') ∧ ∀ k ∈ R, k ∉ W' := by
  unfold clash at h
  rw [Bool.or_eq_false_iff] at h
  obtain ⟨h1, h2⟩ := h
  rw [List.any_eq_false] at h1 h2
  refine ⟨fun k hk => ?_, fun k hk => ?_⟩
  · have := h1 k hk
    simp only [Bool.or_eq_true, List.contains_iff_mem, not_or] at this
    exact this
  · have := h2 k hk
    simpa using this

theorem filt_ne {k : Nat} {us : List (Nat × Ent)} (h : filt k us ≠ []) : k ∈ us.map (·.1) := by
  cases hf : filt k us with
  | nil => exact absurd hf h
  | cons u l =>
    have hm : u ∈ filt k us := by rw [hf]; simp
    unfold filt at hm
    rw [List.mem_filter] at hm
    have : u.1 = k := by simpa using hm.2
    exact List.mem_map.2 ⟨u, hm.1, this⟩

section
variable {C : Ctx}

/-- How many are still to come. -/
def leftN (n : Nat) (listed : Array Bool) : Nat := ((List.range n).filter fun i => !listed.getD i true).length

theorem leftN_set {n : Nat} {listed : Array Bool} {i : Nat} (hi : i < n) (hl : listed.getD i true = false) : leftN n (listed.setIfInBounds i true) < leftN n listed := by
  unfold leftN
  have hsize : i < listed.size := by
    rcases Nat.lt_or_ge i listed.size with h | h
    · exact h
    · simp [Array.getD_eq_getD_getElem?, Array.getElem?_eq_none h] at hl
  have hget : ∀ j, (listed.setIfInBounds i true).getD j true = if j = i then true else listed.getD j true := by
    intro j
    simp only [Array.getD_eq_getD_getElem?, Array.getElem?_setIfInBounds]
    by_cases h : i = j
    · subst h; simp [hsize]
    · simp [h, Ne.symm h]
  have h1 : ((List.range n).filter fun j => !(listed.setIfInBounds i true).getD j true) = ((List.range n).filter fun j => !listed.getD j true).filter (fun j => j != i) := by
    rw [List.filter_filter]
    congr 1
    funext j
    rw [hget]
    by_cases h : j = i
    · simp [h]
    · simp [h]
  rw [h1]
  have hm : i ∈ (List.range n).filter fun j => !listed.getD j true := by
    rw [List.mem_filter]
    exact ⟨List.mem_range.2 hi, by simp [hl]⟩
  have := List.length_filter_lt_length_iff_exists (p := fun j => j != i) (l := (List.range n).filter fun j => !listed.getD j true)
  exact this.2 ⟨i, hm, by simp⟩

theorem draw_ok {rd : Option Nat} {m : Nat} {P : Program} {tt : TT} {ctr : Ctr} (hT : TTok P tt) (hC : CtrOk P ctr) {ops : Array Oper} {Q : Exit → Act → World → Prop} {st0 st' : St} {logs : List Log} (hlog : logL tt ctr C.n ops ops.toList st0 = some (logs, st'))
    (hok : drawOk ops.toList (logs.map keysOf) = true) (hQ : ∀ S Fp a' w', Sim C S Fp [] st' a' w' → Q .normal a' w') :
    ∀ (fuel : Nat) (listed : Array Bool) (a : Act) (w : World), leftN ops.size listed ≤ fuel →
      (∀ j o, ops[j]? = some o → listed.getD j true = true → ∀ e ∈ o.after.toList, Region.binds .any e = true → listed.getD e.on true = true) →
      (∃ S Fp, Sim C S Fp [] (applyU (pickU (fun j => listed.getD j true) 0 logs) st0) a w) → wpAnyIn (fen rd) m P .any ops Q fuel listed a w := by
  obtain ⟨hlen, hst', hsteps⟩ := logL_steps hlog
  unfold drawOk at hok
  rw [Bool.and_eq_true] at hok
  obtain ⟨hedges, hpairs⟩ := hok
  have hpair : ∀ i j li lj, i < j → logs[i]? = some li → logs[j]? = some lj → clash li.1 (li.2.map (·.1)) lj.1 (lj.2.map (·.1)) = false ∨ ((ancsL ops.toList []).getD j 0).testBit i = true := by
    intro i j li lj hij h1 h2
    have hj : j < ops.toList.length := by rw [← hlen]; exact (List.getElem?_eq_some_iff.1 h2).1
    have := List.all_eq_true.1 (List.all_eq_true.1 hpairs j (List.mem_range.2 hj)) i (List.mem_range.2 hij)
    simp only [List.getD_eq_getElem?_getD, List.getElem?_map, h1, h2, Option.map_some, Option.getD_some, keysOf, Bool.or_eq_true, Bool.not_eq_true'] at this
    exact this
  have hedge : ∀ j o, ops.toList[j]? = some o → ∀ e ∈ o.after.toList, Region.binds .any e = true → e.on < j := by
    intro j o hj e he hb
    unfold edgesOk at hedges
    have := List.all_eq_true.1 (List.all_eq_true.1 hedges (o, j) (by rw [List.mem_zipIdx_iff_getElem?]; exact hj)) e he
    simpa [hb] using this
  -- all listed: the end
  have hall : ∀ (listed : Array Bool) (a : Act) (w : World), (∀ j, j < ops.size → listed.getD j true = true) → (∃ S Fp, Sim C S Fp [] (applyU (pickU (fun j => listed.getD j true) 0 logs) st0) a w) → Q .normal a w := by
    intro listed a w hl hS
    obtain ⟨S, Fp, hS⟩ := hS
    have : applyU (pickU (fun j => listed.getD j true) 0 logs) st0 = st' := by
      rw [hst']
      have h1 : pickU (fun j => listed.getD j true) 0 logs = pickU (fun j => decide (j < logs.length)) 0 logs := by
        have gen : ∀ (ls : List Log) (o : Nat), (∀ j, j < ls.length → listed.getD (o + j) true = true) → (∀ j, j < ls.length → o + j < logs.length) → pickU (fun j => listed.getD j true) o ls = pickU (fun j => decide (j < logs.length)) o ls := by
          intro ls
          induction ls with
          | nil => intro o _ _; rfl
          | cons l ls ih =>
            intro o h1 h2
            have a1 := h1 0 (by simp)
            have a2 := h2 0 (by simp)
            simp only [Nat.add_zero] at a1 a2
            simp only [pickU, a1, a2, decide_true, if_true]
            rw [ih (o + 1) (fun j hj => by have := h1 (j + 1) (by simpa using hj); rwa [show o + 1 + j = o + (j + 1) from by omega]) (fun j hj => by have := h2 (j + 1) (by simpa using hj); omega)]
        refine gen logs 0 (fun j hj => ?_) (fun j hj => by omega)
        rw [Nat.zero_add]
        exact hl j (by rw [← Array.length_toList, ← hlen]; exact hj)
      rw [h1, pickU_lt]
      simp
    rw [this] at hS
    exact hQ _ _ _ _ hS
  have hready_none : ∀ (listed : Array Bool), Region.ready .any ops listed = [] → ∀ j, j < ops.size → listed.getD j true = true := by
    intro listed hr j
    induction j using Nat.strongRecOn with
    | _ j ih =>
      intro hj
      cases hl : listed.getD j true with
      | true => rfl
      | false =>
        exfalso
        have : j ∈ Region.ready .any ops listed := by
          unfold Region.ready
          rw [List.mem_filter]
          refine ⟨List.mem_range.2 hj, ?_⟩
          rw [hl]
          simp only [Bool.not_false, Bool.true_and, Array.getElem?_eq_getElem hj, Option.map_some, Option.getD_some, Array.all_eq_true_iff_forall_mem]
          intro e he
          by_cases hb : Region.binds .any e = true
          · have hlt := hedge j ops[j] (by simp [hj]) e (by simpa using he) hb
            have := ih e.on hlt (by omega)
            rw [Array.getD_eq_getD_getElem?] at this ⊢
            have hsz : e.on < listed.size := by
              rcases Nat.lt_or_ge e.on listed.size with h | h
              · exact h
              · exfalso
                have hjs : j < listed.size := by
                  rcases Nat.lt_or_ge j listed.size with h' | h'
                  · exact h'
                  · simp [Array.getD_eq_getD_getElem?, Array.getElem?_eq_none h'] at hl
                omega
            rw [Array.getElem?_eq_getElem hsz] at this ⊢
            simp only [Option.getD_some] at this ⊢
            simp [this]
          · simp [hb]
        rw [hr] at this
        cases this
  intro fuel
  induction fuel with
  | zero =>
    intro listed a w hfuel hcl hS
    have hl : ∀ j, j < ops.size → listed.getD j true = true := by
      intro j hj
      cases hx : listed.getD j true with
      | true => rfl
      | false =>
        have := leftN_set hj hx
        omega
    refine ⟨?_, hall listed a w hl hS⟩
    unfold Region.ready
    rw [List.filter_eq_nil_iff]
    intro j hj
    rw [hl j (List.mem_range.1 hj)]
    simp
  | succ fuel ih =>
    intro listed a w hfuel hcl hS
    refine ⟨fun hr => hall listed a w (hready_none listed hr) hS, ?_⟩
    intro i hi
    unfold Region.ready at hi
    rw [List.mem_filter] at hi
    obtain ⟨hi1, hi2⟩ := hi
    have hin : i < ops.size := List.mem_range.1 hi1
    simp only [Bool.and_eq_true, Bool.not_eq_true', Array.getElem?_eq_getElem hin, Option.map_some, Option.getD_some, Array.all_eq_true_iff_forall_mem] at hi2
    obtain ⟨hil, hdeps⟩ := hi2
    have hoi : ops.toList[i]? = some ops[i] := by simp [hin]
    obtain ⟨li, hli, hstep⟩ := hsteps i ops[i] hoi
    have hsz : i < listed.size := by
      rcases Nat.lt_or_ge i listed.size with h | h
      · exact h
      · simp [Array.getD_eq_getD_getElem?, Array.getElem?_eq_none h] at hil
    have hdep : ∀ e ∈ ops[i].after.toList, Region.binds .any e = true → listed.getD e.on true = true := by
      intro e he hb
      have := hdeps e (by simpa using he)
      simp only [hb, Bool.not_true, Bool.false_or] at this
      rw [Array.getD_eq_getD_getElem?] at this ⊢
      cases hx : listed[e.on]? with
      | none => rfl
      | some b => simpa [hx] using this
    -- ancestors of a listed operation are listed; ancestors of i are listed
    have hanc : ∀ j k, ((ancsL ops.toList []).getD j 0).testBit k = true → listed.getD j true = true → listed.getD k true = true :=
      ancs_closed (L := fun j => listed.getD j true) (ops := ops.toList) (fun j o hj hL e he hb => hcl j o (by simpa using hj) hL e he hb) ops.toList [] [] (by simp) rfl (by simp)
    have hanci : ∀ k, ((ancsL ops.toList []).getD i 0).testBit k = true → k ≠ i → listed.getD k true = true := by
      intro k hk hki
      have := ancs_closed (L := fun j => listed.getD j true || j == i) (ops := ops.toList) (fun j o hj hL e he hb => by
        simp only [Bool.or_eq_true, beq_iff_eq] at hL ⊢
        rcases hL with hL | rfl
        · exact .inl (hcl j o (by simpa using hj) hL e he hb)
        · rw [hoi] at hj
          simp only [Option.some.injEq] at hj
          subst hj
          exact .inl (hdep e he hb)) ops.toList [] [] (by simp) rfl (by simp) i k hk (by simp)
      simpa [hki] using this
    -- what i reads is as in the text's order
    have hreads : ∀ k ∈ li.1, applyU (pickU (fun j => listed.getD j true) 0 logs) st0 k = applyU (((logs.take i).map (·.2)).flatten) st0 k := by
      intro k hk
      rw [show ((logs.take i).map (·.2)).flatten = pickU (fun j => decide (j < i)) 0 logs from by rw [pickU_lt]; simp]
      refine applyU_filt_eq st0 (pickU_filt_congr logs 0 ?_)
      intro j lj hj hne
      rw [Nat.zero_add]
      have hkj := filt_ne hne
      rcases Nat.lt_trichotomy j i with hlt | rfl | hgt
      · have : listed.getD j true = true := by
          rcases hpair j i lj li hlt hj hli with hc | hb
          · exact absurd hk ((clash_false hc).1 k hkj).2
          · exact hanci j hb (by omega)
        simp [hlt, this]
      · simp [hil]
      · have : listed.getD j true = false := by
          cases hx : listed.getD j true with
          | false => rfl
          | true =>
            rcases hpair i j li lj hgt hli hj with hc | hb
            · exact absurd hkj ((clash_false hc).2 k hk)
            · have := hanc j i hb hx
              rw [hil] at this
              cases this
        rw [this]
        simp; omega
    have hstepL := Loc.stepG tt ctr C.n ops ops[i] _ _ _ _ _ hstep hreads
    -- the state behind it
    have hget : ∀ j, (listed.setIfInBounds i true).getD j true = (listed.getD j true || j == i) := by
      intro j
      simp only [Array.getD_eq_getD_getElem?, Array.getElem?_setIfInBounds]
      by_cases h : i = j
      · subst h; simp [hsz]
      · have : (j == i) = false := by simp; exact Ne.symm h
        simp [h, this]
    have hnext : applyU li.2 (applyU (pickU (fun j => listed.getD j true) 0 logs) st0) = applyU (pickU (fun j => (listed.setIfInBounds i true).getD j true) 0 logs) st0 := by
      rw [← applyU_append]
      funext k
      refine applyU_filt_eq st0 ?_
      rw [show (fun j => (listed.setIfInBounds i true).getD j true) = fun j => (fun j => listed.getD j true) j || j == i from funext hget, filt_append]
      refine (pickU_set (L := fun j => listed.getD j true) hil logs 0 (Nat.zero_le _) (li := li) (by simpa using hli) ?_).symm
      by_cases hke : filt k li.2 = []
      · exact .inl hke
      · right
        intro j lj hj hij hL
        rw [Nat.zero_add] at hij hL
        have hki := filt_ne hke
        rcases hpair i j li lj hij hli hj with hc | hb
        · have := ((clash_false hc).1 k hki).1
          cases hf : filt k lj.2 with
          | nil => rfl
          | cons u us => exact absurd (filt_ne (by rw [hf]; simp)) this
        · have := hanc j i hb hL
          rw [hil] at this
          cases this
    obtain ⟨S, Fp, hS⟩ := hS
    have hgood := stepG_ok hT hC hS hstepL rd m (wpAnyIn (fen rd) m P .any ops Q fuel (listed.setIfInBounds i true)) Q (fun S' Fp' a' w' h' => by
      refine ih _ a' w' (by have := leftN_set hin hil; omega) ?_ ⟨S', Fp', by rw [← hnext]; exact h'⟩
      intro j o hj hL e he hb
      rw [hget] at hL ⊢
      simp only [Bool.or_eq_true, beq_iff_eq] at hL ⊢
      rcases hL with hL | rfl
      · exact .inl (hcl j o hj hL e he hb)
      · rw [Array.getElem?_eq_getElem hin] at hj
        simp only [Option.some.injEq] at hj
        subst hj
        exact .inl (hdep e he hb))
    unfold wpOpIn
    rw [Array.getElem?_eq_getElem hin]
    exact hgood

end
end Go.Own

namespace Go.Own

def gone0 : Ent := ⟨.gone, 0, 0⟩

/-- The state that holds these, freshly counted; all else is gone. -/
def ofL : List (Nat × T) → St
  | [], _ => gone0
  | p :: L, t => if t = p.1 then ⟨p.2, 0, 0⟩ else ofL L t

theorem ofL_same (k : Nat) (x : T) (L : List (Nat × T)) : ofL ((k, x) :: L) k = ⟨x, 0, 0⟩ := by simp [ofL]
theorem ofL_ne {k t : Nat} (x : T) (L : List (Nat × T)) (h : t ≠ k) : ofL ((k, x) :: L) t = ofL L t := by simp [ofL, h]
theorem ofL_nil (t : Nat) : ofL [] t = gone0 := rfl

/-- What a slot holds, freshly counted: roots as they are, aliases if they still name what they named. -/
def canT (live : List Nat) (st : St) (k : Nat) : T :=
  match (st k).t with
  | .d a => .d a
  | .own a => .own a
  | .als r p er ec => if er = (st r).er ∧ ec = (st r).ec ∧ r ∈ live then .als r p 0 0 else .gone
  | .ptr r p er ec => if er = (st r).er ∧ ec = (st r).ec ∧ r ∈ live then .ptr r p 0 0 else .gone
  | .gone => .gone

def canon (live : List Nat) (st : St) : St := ofL (live.map fun k => (k, canT live st k))

theorem ofL_map (f : Nat → T) : ∀ (l : List Nat) (t : Nat), ofL (l.map fun k => (k, f k)) t = if t ∈ l then ⟨f t, 0, 0⟩ else gone0
  | [], t => by simp [ofL]
  | k :: l, t => by
    simp only [List.map_cons, ofL, ofL_map f l t]
    by_cases h : t = k
    · simp [h]
    · simp [h]

theorem canon_at (live : List Nat) (st : St) (t : Nat) : canon live st t = if t ∈ live then ⟨canT live st t, 0, 0⟩ else gone0 := ofL_map _ live t

section
variable {C : Ctx} {S : Still} {Fp : Nat → List Nat} {X : List Nat} {st : St} {a : Act} {w : World}

/-- What is no longer wanted is let go, and the counts begin anew. -/
theorem Sim.canon (h : Sim C S Fp [] st a w) (live : List Nat) : ∃ Fp', Sim C S Fp' [] (canon live st) a w := by
  refine ⟨fun t => if t ∈ live then (match (st t).t with | .own _ => Fp t | _ => []) else [], { size := h.size, pin := h.pin, defers := h.defers, below := h.below, mine := h.mine, still := h.still, sinc := h.sinc, sbase := h.sbase, ent := ?_, disj := ?_, base := ?_, xn := by simp, xd := by simp, xb := by simp }⟩
  · intro t
    rw [canon_at]
    by_cases ht : t ∈ live
    · simp only [ht, if_true]
      have q := h.ent t
      unfold EntOk canT at *
      cases htt : (st t).t with
      | gone => rfl
      | d x => simp only [htt] at q ⊢; exact ⟨q.1, trivial⟩
      | own x => simp only [htt] at q ⊢; exact q
      | als r p er ec =>
        simp only [htt] at q ⊢
        by_cases hc : er = (st r).er ∧ ec = (st r).ec ∧ r ∈ live
        · simp only [if_pos hc]
          obtain ⟨h1, h2, h3⟩ := hc
          refine ⟨trivial, ?_⟩
          obtain ⟨q1, q2, q3⟩ := q.2
          unfold AlsOk
          rw [canon_at]
          simp only [h3, if_true]
          refine ⟨Nat.le_refl _, Nat.le_refl _, ?_⟩
          unfold canT
          cases hr : (st r).t with
          | own x => simp only [hr] at q3 ⊢; exact fun _ _ => q3 h1.symm (.inr h2.symm)
          | d x => simp only [hr] at q3 ⊢; exact fun _ hp => q3 h1.symm hp
          | gone => trivial
          | als u _ e1 e2 =>
            by_cases hd : e1 = (st u).er ∧ e2 = (st u).ec ∧ u ∈ live
            · simp only [if_pos hd]
            · simp only [if_neg hd]
          | ptr u _ e1 e2 =>
            by_cases hd : e1 = (st u).er ∧ e2 = (st u).ec ∧ u ∈ live
            · simp only [if_pos hd]
            · simp only [if_neg hd]
        · simp only [if_neg hc]
      | ptr r p er ec =>
        simp only [htt] at q ⊢
        by_cases hc : er = (st r).er ∧ ec = (st r).ec ∧ r ∈ live
        · simp only [if_pos hc]
          obtain ⟨h1, h2, h3⟩ := hc
          refine ⟨trivial, ?_⟩
          obtain ⟨q1, q2, q3⟩ := q.2
          unfold PtrOk
          rw [canon_at]
          simp only [h3, if_true]
          refine ⟨Nat.le_refl _, Nat.le_refl _, ?_⟩
          unfold canT
          cases hr : (st r).t with
          | own x => simp only [hr] at q3 ⊢; exact fun _ _ => q3 h1.symm h2.symm
          | d x => trivial
          | gone => trivial
          | als u _ e1 e2 =>
            by_cases hd : e1 = (st u).er ∧ e2 = (st u).ec ∧ u ∈ live
            · simp only [if_pos hd]
            · simp only [if_neg hd]
          | ptr u _ e1 e2 =>
            by_cases hd : e1 = (st u).er ∧ e2 = (st u).ec ∧ u ∈ live
            · simp only [if_pos hd]
            · simp only [if_neg hd]
        · simp only [if_neg hc]
    · simp only [ht, if_false]
      rfl
  · intro t u k ht hu
    split at ht
    · split at hu
      · split at ht
        · split at hu
          · exact h.disj t u k ht hu
          · simp at hu
        · simp at ht
      · simp at hu
    · simp at ht
  · intro t k ht
    split at ht
    · split at ht
      · exact h.base t k ht
      · simp at ht
    · simp at ht

end

/-- From every frame and world that are in state st the code comes to an end in a state and by an exit of Q. -/
def AWP (P : Program) (n : Fr) (c : Code) (st : St) (Q : Exit → St → Prop) : Prop :=
  ∀ (rd : Option Nat) (m : Nat) (pv : Value) (w0 : World) (S0 : Still) (M : Nat → Prop) S Fp a w, Sim ⟨n, pv, w0, S0, M⟩ S Fp [] st a w →
    c.wpIn (fen rd) m P (fun ex a' w' => ∃ st' S' Fp', Sim ⟨n, pv, w0, S0, M⟩ S' Fp' [] st' a' w' ∧ Q ex st') a w

def thenQ (next : St → Prop) (Q : Exit → St → Prop) : Exit → St → Prop
  | .normal, st => next st
  | e, st => Q e st

def blockQ (id : Nat) (Q : Exit → St → Prop) : Exit → St → Prop
  | .exit id', st => if id' = id then Q .normal st else Q (.exit id') st
  | e, st => Q e st

section
variable {P : Program} {n : Fr} {st : St} {Q : Exit → St → Prop}

theorem AWP.mono {c : Code} {Q' : Exit → St → Prop} (h : AWP P n c st Q) (hq : ∀ e st, Q e st → Q' e st) : AWP P n c st Q' :=
  fun rd m pv w0 S0 M S Fp a w hs => wpIn_mono (h rd m pv w0 S0 M S Fp a w hs) fun _ _ _ ⟨st', S', Fp', h1, h2⟩ => ⟨st', S', Fp', h1, hq _ _ h2⟩

theorem AWP.seq {x y : Code} (h : AWP P n x st (thenQ (fun st' => AWP P n y st' Q) Q)) : AWP P n (.seq x y) st Q := by
  intro rd m pv w0 S0 M S Fp a w hs
  refine wpIn_seq (wpIn_mono (h rd m pv w0 S0 M S Fp a w hs) ?_)
  rintro e a' w' ⟨st', S', Fp', h1, h2⟩
  cases e with
  | normal => exact h2 rd m pv w0 S0 M S' Fp' a' w' h1
  | _ => exact ⟨st', S', Fp', h1, h2⟩

theorem AWP.skip (h : Q .normal st) : AWP P n .skip st Q := fun _ _ _ _ _ _ S Fp _ _ hs => wpIn_skip ⟨st, S, Fp, hs, h⟩
theorem AWP.exit {id : Nat} (h : Q (.exit id) st) : AWP P n (.exit id) st Q := fun _ _ _ _ _ _ S Fp _ _ hs => wpIn_exit ⟨st, S, Fp, hs, h⟩
theorem AWP.ret (h : Q .ret st) : AWP P n .ret st Q := fun _ _ _ _ _ _ S Fp _ _ hs => wpIn_ret ⟨st, S, Fp, hs, h⟩

theorem AWP.block {id : Nat} {c : Code} (h : AWP P n c st (blockQ id Q)) : AWP P n (.block id c) st Q := by
  intro rd m pv w0 S0 M S Fp a w hs
  refine wpIn_block (wpIn_mono (h rd m pv w0 S0 M S Fp a w hs) ?_)
  rintro e a' w' ⟨st', S', Fp', h1, h2⟩
  cases e with
  | exit id' =>
    simp only [blockQ, Exit.inBlock] at h2 ⊢
    split
    · rw [if_pos ‹_›] at h2; exact ⟨st', S', Fp', h1, h2⟩
    · rw [if_neg ‹_›] at h2; exact ⟨st', S', Fp', h1, h2⟩
  | _ => exact ⟨st', S', Fp', h1, h2⟩

/-- The truth value that a condition has. -/
def condB (st : St) : Operand → Option Bool
  | .tmp t => match (st t).t with | .d (.atom (.bool b)) => some b | _ => none
  | .const (.bool b) => some b
  | _ => none

theorem condB_ok {C : Ctx} {S : Still} {Fp : Nat → List Nat} {X : List Nat} {a : Act} {w : World} (h : Sim C S Fp X st a w) {c : Operand} {b : Bool} (e : condB st c = some b) : a.eval c = .bool b := by
  unfold condB at e
  split at e
  · rename_i t
    split at e
    · rename_i b' ht
      simp only [Option.some.injEq] at e
      subst e
      have := h.ent t
      unfold EntOk at this
      simp only [ht] at this
      exact (repV_atom.1 this.1).1
    · cases e
  · simp only [Option.some.injEq] at e
    subst e
    rfl
  · cases e

theorem AWP.cond {c : Operand} {x y : Code} {b : Bool} (hb : condB st c = some b) (h1 : b = true → AWP P n x st Q) (h2 : b = false → AWP P n y st Q) : AWP P n (.cond c x y) st Q := by
  intro rd m pv w0 S0 M S Fp a w hs
  refine wpIn_cond (condB_ok hs hb) ?_
  cases b
  · exact h2 rfl rd m pv w0 S0 M S Fp a w hs
  · exact h1 rfl rd m pv w0 S0 M S Fp a w hs

theorem AWP.canon (live : List Nat) {c : Code} (h : AWP P n c (canon live st) Q) : AWP P n c st Q := by
  intro rd m pv w0 S0 M S Fp a w hs
  obtain ⟨Fp', hs'⟩ := hs.canon live
  exact h rd m pv w0 S0 M S Fp' a w hs'

theorem AWP.loop {c : Code} (live : List Nat) (I : Nat → St → Prop) (n0 : Nat) (h0 : I n0 (Own.canon live st))
    (round : ∀ k st, I k st → AWP P n c st (thenQ (fun st' => ∃ k', k' < k ∧ I k' (Own.canon live st')) Q)) : AWP P n (.loop c) st Q := by
  intro rd m pv w0 S0 M S Fp a w hs
  obtain ⟨Fp0, hs0⟩ := hs.canon live
  refine wpIn_loop_ghost (fun k a w => ∃ st S Fp, Sim ⟨n, pv, w0, S0, M⟩ S Fp [] st a w ∧ I k st) n0 ⟨_, S, Fp0, hs0, h0⟩ ?_
  rintro k a w ⟨st1, S1, Fp1, hs1, h1⟩
  refine wpIn_mono (round k st1 h1 rd m pv w0 S0 M S1 Fp1 a w hs1) ?_
  rintro e a' w' ⟨st', S', Fp', q1, q2⟩
  cases e with
  | normal =>
    obtain ⟨k', hk, hI⟩ := q2
    obtain ⟨Fp2, hs2⟩ := q1.canon live
    exact ⟨k', hk, _, S', Fp2, hs2, hI⟩
  | _ => exact ⟨st', S', Fp', q1, q2⟩

/-! ### Regions -/

/-- The step's outcome handed on, with the keys that it has read and written. -/
def runR {α : Type} (m : SM α) (st : St) (R W : List Nat) (K : α → St → List Nat → List Nat → Prop) : Prop :=
  match m st with
  | some (x, r, u) => K x (applyU u st) (R ++ r) (W ++ u.map (·.1))
  | none => False

def seqR (tt : TT) (ctr : Ctr) (n : Fr) (ops : Array Oper) : List Oper → St → (St → Prop) → Prop
  | [], st, K => K st
  | o :: os, st, K => runR (stepG tt ctr n ops o) st [] [] fun _ st' _ _ => seqR tt ctr n ops os st' K

def drawR (tt : TT) (ctr : Ctr) (n : Fr) (ops : Array Oper) : List Oper → St → List (List Nat × List Nat) → (St → Prop) → Prop
  | [], st, logs, K => drawOk ops.toList logs = true ∧ K st
  | o :: os, st, logs, K => runR (stepG tt ctr n ops o) st [] [] fun _ st' R W => drawR tt ctr n ops os st' (logs ++ [(R, W)]) K

theorem seqR_run {tt : TT} {ctr : Ctr} {ops : Array Oper} {K : St → Prop} : ∀ (l : List Oper) (st : St), seqR tt ctr n ops l st K → ∃ st', runL tt ctr n ops l st = some st' ∧ K st'
  | [], st, h => ⟨st, rfl, h⟩
  | o :: os, st, h => by
    simp only [seqR, runR] at h
    cases hs : stepG tt ctr n ops o st with
    | none => simp [hs] at h
    | some q =>
      obtain ⟨x, r, u⟩ := q
      simp only [hs] at h
      obtain ⟨st', h1, h2⟩ := seqR_run os _ h
      exact ⟨st', by simp only [runL, hs]; exact h1, h2⟩

theorem drawR_run {tt : TT} {ctr : Ctr} {ops : Array Oper} {K : St → Prop} : ∀ (l : List Oper) (st : St) (logs : List (List Nat × List Nat)), drawR tt ctr n ops l st logs K → ∃ ls st', logL tt ctr n ops l st = some (ls, st') ∧ drawOk ops.toList (logs ++ ls.map keysOf) = true ∧ K st'
  | [], st, logs, h => ⟨[], st, rfl, by simpa using h.1, h.2⟩
  | o :: os, st, logs, h => by
    simp only [drawR, runR] at h
    cases hs : stepG tt ctr n ops o st with
    | none => simp [hs] at h
    | some q =>
      obtain ⟨x, r, u⟩ := q
      simp only [hs, List.nil_append] at h
      obtain ⟨ls, st', h1, h2, h3⟩ := drawR_run os _ _ h
      exact ⟨(r, u) :: ls, st', by simp only [logL, hs, h1], by simpa [keysOf, List.append_assoc] using h2, h3⟩

theorem AWP.region {tt : TT} {ctr : Ctr} (hT : TTok P tt) (hC : CtrOk P ctr) {id : Nat} {ops : Array Oper} (h : seqR tt ctr n ops ops.toList st (fun st' => Q .normal st')) : AWP P n (.region id ops false) st Q := by
  intro rd m pv w0 S0 M S Fp a w hs
  obtain ⟨st', h1, h2⟩ := seqR_run _ _ h
  exact wpIn_region_list (runL_ok (C := ⟨n, pv, w0, S0, M⟩) hT hC ops.toList hs h1 fun S' Fp' a' w' h' => ⟨st', S', Fp', h', h2⟩)

theorem AWP.drawn {tt : TT} {ctr : Ctr} (hT : TTok P tt) (hC : CtrOk P ctr) (hm : P.follows .mixedOrders = true) {id : Nat} {ops : Array Oper} (h : drawR tt ctr n ops ops.toList st [] (fun st' => Q .normal st')) : AWP P n (.region id ops true) st Q := by
  intro rd m pv w0 S0 M S Fp a w hs
  obtain ⟨ls, st', h1, h2, h3⟩ := drawR_run _ _ _ h
  refine wpIn_region_any hm (draw_ok (C := ⟨n, pv, w0, S0, M⟩) hT hC h1 (by simpa using h2) (fun S' Fp' a' w' h' => ⟨st', S', Fp', h', h3⟩) ops.size _ a _ ?_ ?_ ?_)
  · unfold leftN
    exact Nat.le_trans (List.length_filter_le _ _) (by simp)
  · intro j o hj hl
    exfalso
    have : j < ops.size := (Array.getElem?_eq_some_iff.1 hj).1
    simp [Array.getD_eq_getD_getElem?, this] at hl
  · refine ⟨S, Fp, ?_⟩
    have hk : pickU (fun j => (Array.replicate ops.size false).getD j true) 0 ls = [] := by
      have hlen := (logL_steps h1).1
      have gen : ∀ (ls : List Log) (o : Nat), o + ls.length ≤ ops.size → pickU (fun j => (Array.replicate ops.size false).getD j true) o ls = [] := by
        intro ls
        induction ls with
        | nil => intro o _; rfl
        | cons l ls ih =>
          intro o ho
          simp only [List.length_cons] at ho
          have : o < ops.size := by omega
          simp only [pickU]
          rw [ih (o + 1) (by omega)]
          have hf : (Array.replicate ops.size false).getD o true = false := by simp [Array.getD_eq_getD_getElem?, this]
          simp only [hf, Bool.false_eq_true, if_false, List.append_nil]
      exact gen ls 0 (by rw [hlen]; simp)
    rw [hk]
    exact hs.drew

end
end Go.Own
