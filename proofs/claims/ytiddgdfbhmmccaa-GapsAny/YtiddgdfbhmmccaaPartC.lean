/- -/
import Derived.Test.YtiddgdfbhmmccaaPartB
import Derived.RangeFuncWrites
import Derived.RangeFuncCalls
import Derived.OrdersIn
import Derived.TacticsIn
import Derived.LoopNIn
set_option linter.unusedVariables false
set_option linter.unusedSimpArgs false
namespace Go.Ex
open Go.Own (A z8 zu Rep zV kY)
def wL (P : Program) (t : Nat) : EK → Prop
 | .int k => P.underlying t = some (.int k)
 | .bool => P.underlying t = some .bool
 | .str => P.underlying t = some .string
 | .slice e => P.underlying t = some (.slice e)
 | .ptr e => P.underlying t = some (.pointer e)
 | .struct fs => ∃ fields, P.underlying t = some (.struct fields) ∧ fields.toList.map (fun f => (f.offset, f.type)) = fs ∧ ∀ f ∈ fields.toList, ∃ i, P.info? f.type = some i
 | .array n e => P.underlying t = some (.array n e)
 | .map k e => P.underlying t = some (.map k e)
 | .func => ∃ a b c, P.underlying t = some (.func a b c)
 | .iface => ∃ ms, P.underlying t = some (.interface ms)
 | .other => ∃ d, P.underlying t = some d ∧ (match d with | .struct _ | .array _ _ => false | _ => true) = true
structure z3v (P : Program) (t : Nat) (i : EI) : Prop where
 guard : P.eqGuardType P.depth t = false
 run : ∀ (vs us : List Value) (r : Bool) (w : World), vs.length = i.size → us.length = i.size → z7V i vs = true → zL vs us = some r → (Op.equal t (.agg vs.toArray) (.agg us.toArray)).run P w = .ok r w
 key : ∀ (vs : List Value) (e : Bool) (w : World), vs.length = i.size → (Instr.checkKey e 10000 t (.agg vs.toArray)).run P w = .ok () w
structure yj (P : Program) (t : Nat) (i : EI) : Prop where
 info : ∃ f, P.info? t = some f ∧ f.size = i.size ∧ f.bytes = i.bytes ∧ ∀ z, i.zero = some z → ∃ v, f.zero = some v ∧ v.cells.toList = z ∧ (∀ u ∈ z, u.oneCell' = true) ∧ z.length = i.size ∧ (if i.kind.isAgg = true then ∃ cs, v = .agg cs else v.oneCell' = true)
 kind : wL P t i.kind
 eqn : i.eqn = true → z3v P t i
def ue (P : Program) (tt : ET) : Prop := ∀ t i, tt t = some i → yj P t i
def Res (P : Program) (C : Ctx) (N n hi : Nat) (o : Oper) (ρ : Pl) (a : Act) (w : World) (Ds : List Nat) (v : V) (st' : St) : Prop :=
 ∃ ρ' w' cv, (execOp a.eval o).run P w = .ok (.value cv) w' ∧ Ext n hi ρ ρ' ∧ Sim C N ρ' st' a w' Ds ∧ VR C.S ρ' v cv
variable {R : List Key}{t : Nat}{U : Ups}{cs : List Value}{xs : List V}{u : Value}{v : V}{x : V}{ag : Bool}{i : EI}{b : Nat}{k : IntKind}{xt : Nat}{op : BinOp}
section
variable {P : Program} {tt : ET} {C : Ctx} {N n hi : Nat} {ρ : Pl} {st : St} {a : Act} {w : World} {Ds : List Nat} {o : Oper}
theorem Res.here (h : Sim C N ρ st a w Ds)  {cv : Value} (hr : (execOp a.eval o).run P w = .ok (.value cv) w) (hv : VR C.S ρ v cv) : Res P C N n hi o ρ a w Ds v st :=
 ⟨ρ, w, cv, hr, Ext.refl _ _ _, h, hv⟩
theorem zd9 {S : z8} (v : Value) : VR S ρ (cV v) v := by
 cases v <;> simp only [cV, VR]
 rename_i cs
 exact ⟨cs.toList, VRs.lits _, by simp⟩
theorem Wg {S : z8} (v : Value) : VR S ρ (.lit v) v := by simp only [VR]
theorem Jc (h : Sim C N ρ st a w Ds)     (e : rdS t st = some (v, R, U)) : U = [] ∧ VR C.S ρ v (Act.tv a t) := by
 unfold rdS at e
 obtain ⟨x, R1, U1, R2, U2, h1, h2, rfl, rfl⟩ := bind_some e
 obtain ⟨rfl, rfl, rfl⟩ := Zd h1
 obtain ⟨rfl, rfl, rfl⟩ := zf h2
 exact ⟨rfl, h.f.slot t⟩
theorem y5 (h : Sim C N ρ st a w Ds) {x : Operand}    (e : opV x st = some (v, R, U)) : U = [] ∧ VR C.S ρ v (a.eval x) := by
 cases x with
 | tmp t => exact Jc h e
 | const c => obtain ⟨rfl, rfl, rfl⟩ := zf e; exact ⟨rfl, zd9 c⟩
 | func f =>
  obtain ⟨rfl, rfl, rfl⟩ := zf e
  refine ⟨rfl, ?_⟩
  simp only [VR]
  exact ⟨[], by simp [VRs], rfl⟩
 | global g => exact (zn (st := st) e).elim
theorem WH (h : Sim C N ρ st a w Ds) : ∀ {xs : List Operand} {vs : List V} {R : List Key} {U : Ups}, opVs xs st = some (vs, R, U) → U = [] ∧ VRs C.S ρ vs (xs.map a.eval)
 | [], vs, R, U, e => by
  obtain ⟨rfl, rfl, rfl⟩ := zf e
  exact ⟨rfl, by simp [VRs]⟩
 | x :: xs, vs, R, U, e => by
  simp only [opVs] at e
  obtain ⟨v, R1, U1, R2, U2, h1, h2, rfl, rfl⟩ := bind_some e
  obtain ⟨rfl, q1⟩ := y5 h h1
  obtain ⟨us, R3, U3, R4, U4, h3, h4, rfl, rfl⟩ := bind_some h2
  simp only [z7] at h3 h4
  obtain ⟨rfl, q2⟩ := WH h h3
  obtain ⟨rfl, rfl, rfl⟩ := zf h4
  refine ⟨rfl, ?_⟩
  simp only [List.map_cons, VRs]
  exact ⟨_, _, rfl, q1, q2⟩
theorem XK {k : Blk}   (e : rdB b st = some (k, R, U)) : U = [] ∧ st (.b b) = .k k := by
 unfold rdB at e
 obtain ⟨x, R1, U1, R2, U2, h1, h2, rfl, rfl⟩ := bind_some e
 obtain ⟨rfl, rfl, rfl⟩ := Zd h1
 simp only [z7] at h2
 cases hk : st (.b b) with
 | k k' => simp only [hk] at h2; obtain ⟨rfl, rfl, rfl⟩ := zf h2; exact ⟨rfl, rfl⟩
 | _ => simp only [hk] at h2; exact (zn h2).elim
theorem z0g {f : Nat} {l : Fam}   (e : rdF f st = some (l, R, U)) : U = [] ∧ st (.f f) = .m l := by
 unfold rdF at e
 obtain ⟨x, R1, U1, R2, U2, h1, h2, rfl, rfl⟩ := bind_some e
 obtain ⟨rfl, rfl, rfl⟩ := Zd h1
 simp only [z7] at h2
 cases hk : st (.f f) with
 | m k' => simp only [hk] at h2; obtain ⟨rfl, rfl, rfl⟩ := zf h2; exact ⟨rfl, rfl⟩
 | _ => simp only [hk] at h2; exact (zn h2).elim
theorem UP {k : List (Value × V)}   (e : rdM b st = some (k, R, U)) : U = [] ∧ st (.b b) = .mp k := by
 unfold rdM at e
 obtain ⟨x, R1, U1, R2, U2, h1, h2, rfl, rfl⟩ := bind_some e
 obtain ⟨rfl, rfl, rfl⟩ := Zd h1
 simp only [z7] at h2
 cases hk : st (.b b) with
 | mp k' => simp only [hk] at h2; obtain ⟨rfl, rfl, rfl⟩ := zf h2; exact ⟨rfl, rfl⟩
 | _ => simp only [hk] at h2; exact (zn h2).elim
theorem jd {k : EK} (h : wL P t k) (w : World) : (Go.isAgg t).run P w = .ok k.isAgg w := by
 cases k with
 | struct fs => obtain ⟨f, h, _⟩ := h; simp [Go.isAgg, run_underlying h, EK.isAgg]
 | func => obtain ⟨_, _, _, h⟩ := h; simp [Go.isAgg, run_underlying h, EK.isAgg]
 | iface => obtain ⟨_, h⟩ := h; simp [Go.isAgg, run_underlying h, EK.isAgg]
 | other =>
  obtain ⟨d, h, hd⟩ := h
  cases d <;> first | (simp at hd; done) | simp [Go.isAgg, run_underlying h, EK.isAgg]
 | _ => simp only [wL] at h; simp [Go.isAgg, run_underlying h, EK.isAgg]
theorem WR {k : EK} (h : wL P t k) : ∃ d, P.underlying t = some d := by
 cases k <;> simp only [wL] at h <;> first | exact ⟨_, h⟩ | (obtain ⟨_, h, _⟩ := h; exact ⟨_, h⟩) | (obtain ⟨_, _, _, h⟩ := h; exact ⟨_, h⟩) | (obtain ⟨_, h⟩ := h; exact ⟨_, h⟩)
theorem zU (hT : ue P tt)   (h : tt t = some i) (w : World) : (Go.sizeOf t).run P w = .ok i.size w := by
 obtain ⟨f, f1, f2, _⟩ := (hT _ _ h).info
 simp [Go.sizeOf, typeInfo, f1, f2]
theorem xR (w : World) (b o : Nat) : w.cell? ⟨b, o, none⟩ = zu w.heap b o := by
 unfold World.cell? zu
 cases w.heap[b]? with
 | none => rfl
 | some x => cases x <;> rfl
theorem X8 {S : z8}    (e : jL ag xs = some x)  (h : VRs S ρ xs cs) : VR S ρ x (if ag = true then .agg cs.toArray else cs.headD undef) ∧ (ag = false → cs.length = 1) := by
 unfold jL at e
 cases ag with
 | true =>
  simp only [if_true, Option.some.injEq] at e
  subst e
  simp only [if_true, VR]
  exact ⟨⟨cs, h, rfl⟩, by simp⟩
 | false =>
  simp only [Bool.false_eq_true, if_false] at e ⊢
  rcases xs with _ | ⟨y, _ | ⟨z, l⟩⟩
  ·cases e
  ·simp only [Option.some.injEq] at e
   subst e
   simp only [VRs] at h
   obtain ⟨v, us, rfl, q, rfl⟩ := h
   exact ⟨q, by simp⟩
  ·cases e
theorem J0 (hT : ue P tt) {S : z8}   (ht : tt t = some i) {B o : Nat}  (hl : cs.length = i.size) (hs : ∀ j u, cs[j]? = some u → zu w.heap B (o + j) = some u)  {x : V} (hr : VRs S ρ xs cs)
  (hx : jL i.kind.isAgg xs = some x) : ∃ v, (loadVar t ⟨B, o, none⟩).run P w = .ok v w ∧ VR S ρ x v := by
 obtain ⟨q1, q2⟩ := X8 hx hr
 refine ⟨_, ?_, q1⟩
 have hk := jd (hT t i ht).kind w
 unfold loadVar
 simp only [Sem.run_bind, hk, Result.andThen_ok, Sem.run_ite]
 by_cases hag : i.kind.isAgg = true
 ·simp only [hag, if_true]
  have hc := run_loadCells_list (P := P) w ⟨B, o, none⟩ cs (fun j v hj => by rw [Addr.add_lit, xR]; exact hs j v hj)
  simp only [zU hT ht, Result.andThen_ok, ← hl, hc, Sem.run_pure]
 ·simp only [hag, if_false, Bool.false_eq_true]
  have h1 := q2 (by simpa using hag)
  rcases cs with _ | ⟨c, _ | ⟨d, l⟩⟩
  ·simp at h1
  ·have := hs 0 c rfl
   rw [Nat.add_zero] at this
   rw [run_load, xR, this]
   rfl
  ·simp at h1
theorem z4c {x y : Int} {r : Value} (e : z3y op k x y = some r) (xt : Nat) (p q : Operand) (w : World) :
    (do eqGuard op xt p q (.int k x) (.int k y); Go.binOp op xt (.int k x) (.int k y)).run P w = .ok r w := by
  cases op <;> simp only [z3y] at e
  all_goals first
    | (simp only [Option.some.injEq] at e; subst e
       simp [eqGuard, Go.binOp, Op.intArith, Op.intCmp]; done)
    | (split at e
       · cases e
       · rename_i h0
         simp only [Option.some.injEq] at e; subst e
         simp [eqGuard, Go.binOp, Op.intDiv, h0]; done)
    | (simp only [z8f, Option.map_some, Option.some.injEq] at e; subst e
       simp [eqGuard, Go.binOp, Op.intBits]; done)
    | (simp [z8f] at e; done)
theorem VD {k k' : IntKind} {x y : Int} {r : Value} (e : QM op k x y = some r) (hop : op = .shl ∨ op = .shr) (xt : Nat) (p q : Operand) (w : World) :
  (do eqGuard op xt p q (.int k x) (.int k' y); Go.binOp op xt (.int k x) (.int k' y)).run P w = .ok r w := by
 unfold QM at e
 split at e
 ·cases e
 ·rename_i h0
  rcases hop with rfl | rfl
  ·simp only [Option.some.injEq] at e; subst e
   simp [eqGuard, Go.binOp, Op.shift, h0]
  ·simp only [Option.some.injEq] at e; subst e
   simp [eqGuard, Go.binOp, Op.shift, h0]
theorem vR (hb : P.underlying xt = some .bool) (x y : Bool) (w : World) : (Op.equal xt (.bool x) (.bool y)).run P w = .ok (x == y) w := by
 have : ∀ d, (Op.equalIn (d + 1) xt (.bool x) (.bool y)).run P w = .ok (x == y) w := by
  intro d
  simp [Op.equalIn, run_underlying hb]
 exact this 9999
theorem uw {x y : Value} {r : Bool} {w : World} (h : ∀ d, (Op.equalIn (d + 1) xt x y).run P w = .ok r w) : (Op.equal xt x y).run P w = .ok r w := h 9999
theorem XR {S : z8} : ∀ {xs : List V} {vs us : List Value}, Jx xs = some vs → VRs S ρ xs us → us = vs
 | [], vs, us, e, h => by simp only [Jx, Option.some.injEq] at e; simp only [VRs] at h; rw [h, ← e]
 | x :: xs, vs, us, e, h => by
  cases x with
  | lit v =>
   simp only [Jx, Option.map_eq_some_iff] at e
   obtain ⟨ws, e1, rfl⟩ := e
   simp only [VRs, VR] at h
   obtain ⟨v', us', rfl, rfl, h3⟩ := h
   rw [XR e1 h3]
  | _ => simp [Jx] at e
theorem z0p {S : z8} {k : EK}  {b : Bool} (e : z8z k x = some b) {v : Value} (h : VR S ρ x v) :
  (∃ el, k = .slice el ∧ ((b = true ∧ ∃ n c, v = .slice none n c) ∨ (b = false ∧ ∃ p n c, v = .slice (some p) n c))) ∨
  (k = .func ∧ ((b = true ∧ v = .nilFunc) ∨ (b = false ∧ ∃ f x y, v = .func f x y))) ∨
  (∃ el, k = .ptr el ∧ ((b = true ∧ v = .pointer none) ∨ (b = false ∧ ∃ p, v = .pointer (some p)))) ∨
  (∃ kk el, k = .map kk el ∧ ((b = true ∧ v = .map none) ∨ (b = false ∧ ∃ r, v = .map (some r)))) := by
 unfold z8z at e
 split at e <;> first | (cases e; done) | skip
 all_goals simp only [Option.some.injEq] at e; subst e
 all_goals simp only [VR] at h
 ·subst h; exact .inl ⟨_, rfl, .inl ⟨rfl, _, _, rfl⟩⟩
 ·obtain ⟨_, _, _, _, rfl, _⟩ := h; exact .inl ⟨_, rfl, .inr ⟨rfl, _, _, _, rfl⟩⟩
 ·subst h; exact .inr (.inl ⟨rfl, .inl ⟨rfl, rfl⟩⟩)
 ·obtain ⟨_, _, rfl⟩ := h; exact .inr (.inl ⟨rfl, .inr ⟨rfl, _, _, _, rfl⟩⟩)
 ·obtain ⟨_, _, rfl⟩ := h; exact .inr (.inl ⟨rfl, .inr ⟨rfl, _, _, _, rfl⟩⟩)
 ·subst h; exact .inr (.inr (.inl ⟨_, rfl, .inl ⟨rfl, rfl⟩⟩))
 ·obtain ⟨_, _, rfl⟩ := h; exact .inr (.inr (.inl ⟨_, rfl, .inr ⟨rfl, _, rfl⟩⟩))
 ·subst h; exact .inr (.inr (.inr ⟨_, _, rfl, .inl ⟨rfl, rfl⟩⟩))
 ·obtain ⟨_, _, rfl⟩ := h; exact .inr (.inr (.inr ⟨_, _, rfl, .inr ⟨rfl, _, rfl⟩⟩))
theorem uO {x y : Value} {r : Bool} {p q : Operand} {w : World} (hr : (Op.equal xt x y).run P w = .ok r w) (h1 : ∀ op, (eqGuard op xt p q x y).run P w = .ok () w) (h2 : Go.binOp .eql xt x y = (do pure (.bool (← Op.equal xt x y)))) (h3 : Go.binOp .neq xt x y = (do pure (.bool (!(← Op.equal xt x y))))) :
  (do eqGuard .eql xt p q x y; Go.binOp .eql xt x y).run P w = .ok (.bool r) w ∧ (do eqGuard .neq xt p q x y; Go.binOp .neq xt x y).run P w = .ok (.bool (!r)) w := by
 rw [h2, h3]
 constructor <;> simp only [Sem.run_bind, Sem.run_pure, Result.andThen_ok, h1, hr]
theorem z2Y (hT : ue P tt) {S : z8}  {x y : V} {r : Bool} (e : zcw tt xt x y = some r) {u v : Value} (hx : VR S ρ x u) (hy : VR S ρ y v) (p q : Operand) (w : World) :
  (do eqGuard .eql xt p q u v; Go.binOp .eql xt u v).run P w = .ok (.bool r) w ∧ (do eqGuard .neq xt p q u v; Go.binOp .neq xt u v).run P w = .ok (.bool (!r)) w := by
 unfold zcw at e
 split at e
 ·rename_i i ht
  have hi := hT _ _ ht
  split at e
  ·
   rename_i a b
   split at e
   ·rename_i hk
    simp only [Option.some.injEq] at e
    have hb : P.underlying xt = some .bool := by have := hi.kind; rw [hk] at this; exact this
    simp only [VR] at hx hy
    subst hx; subst hy; subst e
    exact uO (vR hb _ _ w) (fun op => by cases op <;> rfl) rfl rfl
   ·cases e
  ·
   rename_i xs ys
   split at e
   ·rename_i hc
    obtain ⟨c1, c2, c3⟩ := hc
    split at e
    ·rename_i vs us hvs hus
     split at e
     case isFalse => cases e
     rename_i hfit
     simp only [VR] at hx hy
     obtain ⟨vs', g1, rfl⟩ := hx
     obtain ⟨us', g2, rfl⟩ := hy
     have l1 := g1.len
     have l2 := g2.len
     have := XR hvs g1
     have := XR hus g2
     subst vs'; subst us'
     have heq := hi.eqn c1
     refine uO (heq.run _ _ _ w (by omega) (by omega) hfit e) (fun op => ?_) rfl rfl
     cases op <;> first | rfl | skip
     ·show (do if !(← program).eqGuardType (← program).depth xt then pure () else _ : Sem Unit).run P w = _
      simp [program, Sem.run, heq.guard]
     ·show (do if !(← program).eqGuardType (← program).depth xt then pure () else _ : Sem Unit).run P w = _
      simp [program, Sem.run, heq.guard]
    ·cases e
   ·cases e
  ·
   have key : ∃ b c, z8z i.kind x = some b ∧ z8z i.kind y = some c ∧ ((b = true ∧ r = c) ∨ (c = true ∧ r = b)) := by
    split at e
    ·rename_i b h1 h2
     simp only [Option.some.injEq] at e; subst e
     exact ⟨_, _, h1, h2, .inl ⟨rfl, rfl⟩⟩
    ·rename_i b _ h1 h2
     simp only [Option.some.injEq] at e; subst e
     exact ⟨_, _, h1, h2, .inr ⟨rfl, rfl⟩⟩
    ·cases e
   obtain ⟨b, c, e1, e2, e3⟩ := key
   have hk := hi.kind
   rcases z0p e1 hx with ⟨el, hk1, h1⟩ | ⟨hk1, h1⟩ | ⟨el, hk1, h1⟩ | ⟨kk, el, hk1, h1⟩ <;> rcases z0p e2 hy with ⟨el', hk2, h2⟩ | ⟨hk2, h2⟩ | ⟨el', hk2, h2⟩ | ⟨kk', el', hk2, h2⟩ <;>
    (rw [hk1] at hk2 hk) <;> first | (cases hk2; done) | skip
   ·have hk : P.underlying xt = some (.slice el) := hk
    rcases h1 with ⟨rfl, _, _, rfl⟩ | ⟨rfl, _, _, _, rfl⟩ <;> rcases h2 with ⟨rfl, _, _, rfl⟩ | ⟨rfl, _, _, _, rfl⟩ <;> simp at e3 <;> subst e3 <;>
     exact uO (uw (fun d => by simp [Op.equalIn, run_underlying hk])) (fun op => by cases op <;> rfl) rfl rfl
   ·obtain ⟨_, _, _, hk⟩ := hk
    rcases h1 with ⟨rfl, rfl⟩ | ⟨rfl, _, _, _, rfl⟩ <;> rcases h2 with ⟨rfl, rfl⟩ | ⟨rfl, _, _, _, rfl⟩ <;> simp at e3 <;> subst e3 <;>
     exact uO (uw (fun d => by simp [Op.equalIn, run_underlying hk])) (fun op => by cases op <;> rfl) rfl rfl
   ·have hk : P.underlying xt = some (.pointer el) := hk
    rcases h1 with ⟨rfl, rfl⟩ | ⟨rfl, _, rfl⟩ <;> rcases h2 with ⟨rfl, rfl⟩ | ⟨rfl, _, rfl⟩ <;> simp at e3 <;> subst e3 <;>
     exact uO (uw (fun d => by simp [Op.equalIn, run_underlying hk])) (fun op => by cases op <;> rfl) rfl rfl
   ·have hk : P.underlying xt = some (.map kk el) := hk
    rcases h1 with ⟨rfl, rfl⟩ | ⟨rfl, _, rfl⟩ <;> rcases h2 with ⟨rfl, rfl⟩ | ⟨rfl, _, rfl⟩ <;> simp at e3 <;> subst e3 <;>
     exact uO (uw (fun d => by simp [Op.equalIn, run_underlying hk])) (fun op => by cases op <;> rfl) rfl rfl
 ·cases e
theorem z8g (hT : ue P tt) {S : z8}   {x y z : V} (e : z8h tt op xt x y = some z) {u v : Value} (hx : VR S ρ x u) (hy : VR S ρ y v) (p q : Operand) (w : World) :
  ∃ r, VR S ρ z r ∧ (do eqGuard op xt p q u v; Go.binOp op xt u v).run P w = .ok r w := by
 unfold z8h at e
 split at e
 ·simp only [VR] at hx hy
  subst hx; subst hy
  split at e
  ·obtain ⟨r, e1, rfl⟩ := Option.map_eq_some_iff.1 e
   exact ⟨r, Wg _, VD e1 (.inl rfl) xt p q w⟩
  ·obtain ⟨r, e1, rfl⟩ := Option.map_eq_some_iff.1 e
   exact ⟨r, Wg _, VD e1 (.inr rfl) xt p q w⟩
  ·split at e
   ·rename_i hk
    subst hk
    obtain ⟨r, e1, rfl⟩ := Option.map_eq_some_iff.1 e
    exact ⟨r, Wg _, z4c e1 xt p q w⟩
   ·cases e
 ·simp only [VR] at hx hy
  subst hx; subst hy
  split at e <;> first | (cases e; done) | skip
  ·simp only [Option.some.injEq] at e; subst e
   exact ⟨_, Wg _, by simp [eqGuard, Go.binOp, Op.stringOp]⟩
  ·simp only [Option.some.injEq] at e; subst e
   exact ⟨_, Wg _, by simp [eqGuard, Go.binOp, Op.stringOp]⟩
 ·split at e <;> first | (cases e; done) | skip
  ·obtain ⟨r, e1, rfl⟩ := Option.map_eq_some_iff.1 e
   exact ⟨_, Wg _, (z2Y hT e1 hx hy p q w).1⟩
  ·obtain ⟨r, e1, rfl⟩ := Option.map_eq_some_iff.1 e
   exact ⟨_, Wg _, (z2Y hT e1 hx hy p q w).2⟩
theorem z8H {S : z8} {op : UnOp} {x z : V} (e : unV op x = some z)  (hx : VR S ρ x u) (w : World) : ∃ r, VR S ρ z r ∧ (Op.unary op u).run P w = .ok r w := by
 unfold unV at e
 split at e <;> first | (cases e; done) | skip
 ·simp only [Option.some.injEq] at e; subst e
  simp only [VR] at hx; subst hx
  exact ⟨_, Wg _, by simp [Op.unary]⟩
 ·simp only [Option.some.injEq] at e; subst e
  simp only [VR] at hx; subst hx
  exact ⟨_, Wg _, by simp [Op.unary, Op.intArith]⟩
theorem z53 (hT : ue P tt) {S : z8} {s t : Nat} {x z : V} (e : z54 tt s t x = some z)  (hx : VR S ρ x u) (w : World) : ∃ r, VR S ρ z r ∧ (convert s t u).run P w = .ok r w := by
 unfold z54 at e
 split at e
 ·rename_i is kt _ _ _ _ _ a hs ht
  simp only [Option.some.injEq] at e; subst e
  simp only [VR] at hx; subst hx
  obtain ⟨d, hd⟩ := WR (hT _ _ hs).kind
  have hk : P.underlying t = some (.int kt) := (hT _ _ ht).kind
  exact ⟨_, Wg _, by simp [convert, run_underlying hd, run_underlying hk, Conv.intToInt]⟩
 ·cases e
theorem KP {h : vN C ρ st w}  {k : Blk} (hk : st (.b b) = .k k) : ∃ p arr ty, ρ b = some p ∧ w.heap[p.B]? = some (.cells arr ty (0, 0)) ∧ p.Z = arr.size ∧ p.O + k.cells.length ≤ arr.size ∧ (k.ex = true → p.O + k.cells.length = p.Z) ∧
  ∀ (i : Nat) (x : V), k.cells[i]? = some x → ∃ v, arr[p.O + i]? = some v ∧ z62 C.S ρ x v := by
 obtain ⟨p, h1, h2⟩ := h.ent b (by rw [hk]; rfl)
 rw [hk] at h2
 obtain ⟨arr, ty, q1, q2, q3, q4, q5⟩ := h2
 exact ⟨p, arr, ty, h1, q1, q2, q3, q4, q5⟩
theorem W1 (h : vN C ρ st w)  {k : Blk} (hk : st (.b b) = .k k) {p : Loc} (hp : ρ b = some p) (o m : Nat) (hm : o + m ≤ k.cells.length) :
  ∃ cs : List Value, VRs C.S ρ ((k.cells.drop o).take m) cs ∧ cs.length = m ∧ (∀ u ∈ cs, u.oneCell' = true) ∧ ∀ (j : Nat) (u : Value), cs[j]? = some u → zu w.heap p.B (p.O + o + j) = some u := by
 obtain ⟨p', arr, ty, h1, h2, h3, h4, h5, h6⟩ := KP (h := h) hk
 rw [hp] at h1; cases h1
 refine ⟨(arr.toList.drop (p.O + o)).take m, ?_, ?_, ?_, ?_⟩
 ·refine VRs.of_get ?_ ?_
  ·simp only [List.length_take, List.length_drop, Array.length_toList]; omega
  ·intro i x hx
   simp only [List.getElem?_take, List.getElem?_drop] at hx ⊢
   split at hx
   ·rename_i hi
    obtain ⟨v, g1, g2⟩ := h6 (o + i) x hx
    rw [if_pos hi]
    exact ⟨v, by rw [Array.getElem?_toList]; rw [← Nat.add_assoc] at g1; exact g1, g2.1⟩
   ·cases hx
 ·simp only [List.length_take, List.length_drop, Array.length_toList]; omega
 ·intro u hu
  obtain ⟨i, hi⟩ := List.mem_iff_getElem?.1 hu
  simp only [List.getElem?_take, List.getElem?_drop] at hi
  split at hi
  ·rename_i hlt
   obtain ⟨v, g1, g2⟩ := h6 (o + i) k.cells[o + i] (List.getElem?_eq_getElem (by omega))
   rw [Array.getElem?_toList, Nat.add_assoc, g1] at hi
   cases hi
   exact g2.2
  ·cases hi
 ·intro j u hj
  simp only [List.getElem?_take, List.getElem?_drop] at hj
  split at hj
  ·rw [Array.getElem?_toList] at hj
   unfold zu
   rw [h2]
   exact hj
  ·cases hj
end
mutual
theorem JW {S : z8} {ρ : Pl} : ∀ {a : A} {xs : List V} {cs : List Value}, jq a = some xs → Rep S a cs → VRs S ρ xs cs
 | .atom v, xs, cs, e, r => by
  simp only [jq, Option.some.injEq] at e; subst e
  simp only [Rep] at r
  obtain ⟨rfl, _⟩ := r
  simp [VRs, VR]
 | .fn _ _, xs, cs, e, _ => by simp [jq] at e
 | .agg fs, xs, cs, e, r => by
  simp only [jq] at e
  simp only [Rep] at r
  exact Zr e r
 | .tup _, xs, cs, e, _ => by simp [jq] at e
 | .sl sz t ys, xs, cs, e, r => by
  simp only [jq, Option.some.injEq] at e; subst e
  have hl := r.len
  simp only [A.size] at hl
  rcases cs with _ | ⟨c, _ | ⟨d, l⟩⟩ <;> simp at hl
  simp only [VRs, VR]
  exact ⟨c, [], rfl, r, rfl⟩
 | .sptr x, xs, cs, e, r => by
  simp only [jq, Option.some.injEq] at e; subst e
  have hl := r.len
  simp only [A.size] at hl
  rcases cs with _ | ⟨c, _ | ⟨d, l⟩⟩ <;> simp at hl
  simp only [VRs, VR]
  exact ⟨c, [], rfl, r, rfl⟩
 | .osl _ _ _, xs, cs, e, _ => by simp [jq] at e
 | .box _, xs, cs, e, _ => by simp [jq] at e
 | .dead _, xs, cs, e, _ => by simp [jq] at e
theorem Zr {S : z8} {ρ : Pl} : ∀ {as' : List A} {xs : List V} {cs : List Value}, qC as' = some xs → zV S as' cs → VRs S ρ xs cs
 | [], xs, cs, e, r => by
  simp only [qC, Option.some.injEq] at e; subst e
  simp only [zV] at r
  simp [VRs, r]
 | b :: bs, xs, cs, e, r => by
  simp only [qC] at e
  split at e
  ·rename_i x1 x2 e1 e2
   simp only [Option.some.injEq] at e; subst e
   simp only [zV] at r
   obtain ⟨c1, c2, rfl, r1, r2⟩ := r
   exact (JW e1 r1).append (Zr e2 r2)
  ·cases e
end
open Go.Own (A z8 zu Rep zV kY)
variable {z : List Value}{xu : Value}{α : Type}{vs us : List Value}{j : Int}
section
variable {P : Program} {tt : ET} {C : Ctx} {N n : Nat} {ρ : Pl} {st : St} {a : Act} {w : World} {Ds : List Nat} {o : Oper}
theorem z1S (k : Blk) (lo hi : Nat) : Wk k (Yn k lo hi) := by
 refine ⟨rfl, rfl, rfl, by simp [Yn], ?_⟩
 intro i x hx
 simp only [Yn, List.getElem?_mapIdx, Option.map_eq_some_iff] at hx
 obtain ⟨y, h1, h2⟩ := hx
 split at h2
 ·exact .inl h2.symm
 ·exact .inr (h2 ▸ h1)
theorem z1T (k : Blk) (lo hi : Nat) {i : Nat}  (hx : (Yn k lo hi).cells[i]? = some x) (h1 : lo ≤ k.foff + i) (h2 : k.foff + i < hi) : x = .un := by
 simp only [Yn, List.getElem?_mapIdx, Option.map_eq_some_iff] at hx
 obtain ⟨y, h3, h4⟩ := hx
 rw [if_pos ⟨h1, h2⟩] at h4
 exact h4.symm
theorem z3J {st : St} {m : Nat} {k k' : Blk} (h : st (.b m) = .k k) (hk : Wk k k') : K1 st (upd st (.b m) (.k k')) := {
 s := fun t => zt _ _ (by simp)
 f := fun t => zt _ _ (by simp)
 b := fun i => by
  by_cases e : i = m
  ·subst e; exact .inr ⟨k, k', h, zC _ _ _, hk⟩
  ·exact .inl (zt _ _ (by simpa using e)) }
theorem Yl (b fam lo hi : Nat) : ∀ (l : List Nat) {st : St} {u : Unit} {R : List Key} {U : Ups}, touch b fam lo hi l st = some (u, R, U) →
  K1 st (z7 U st) ∧ (z7 U st) (.b b) = st (.b b) ∧ ∀ m ∈ l, m ≠ b → ∀ k, (z7 U st) (.b m) = .k k → k.fam = fam → ∀ (i : Nat) (x : V), k.cells[i]? = some x → lo ≤ k.foff + i → k.foff + i < hi → x = .un
 | [], st, u, R, U, e => by
  obtain ⟨_, rfl, rfl⟩ := zf e
  exact ⟨K1.refl _, rfl, by simp⟩
 | m :: l, st, u, R, U, e => by
  simp only [touch] at e
  by_cases hm : m = b
  ·rw [if_pos hm] at e
   obtain ⟨h1, h2, h3⟩ := Yl b fam lo hi l e
   refine ⟨h1, h2, ?_⟩
   intro m' hm' hne
   rcases List.mem_cons.1 hm' with rfl | hm'
   ·exact absurd hm hne
   ·exact h3 m' hm' hne
  ·rw [if_neg hm] at e
   obtain ⟨x, R1, U1, R2, U2, g1, g2, rfl, rfl⟩ := bind_some e
   obtain ⟨rfl, rfl, rfl⟩ := Zd g1
   simp only [z7, List.nil_append] at g2 ⊢
   have skip : ∀ {U : Ups} {R : List Key}, touch b fam lo hi l st = some (u, R, U) → (∀ k, st (.b m) = .k k → k.fam = fam → ¬ (lo < k.foff + k.cells.length ∧ k.foff < hi)) →
     K1 st (z7 U st) ∧ (z7 U st) (.b b) = st (.b b) ∧ ∀ m' ∈ m :: l, m' ≠ b → ∀ k, (z7 U st) (.b m') = .k k → k.fam = fam → ∀ (i : Nat) (x : V), k.cells[i]? = some x → lo ≤ k.foff + i → k.foff + i < hi → x = .un := by
    intro U R e hk
    obtain ⟨h1, h2, h3⟩ := Yl b fam lo hi l e
    refine ⟨h1, h2, ?_⟩
    intro m' hm' hne k hk' hf i x hx c1 c2
    rcases List.mem_cons.1 hm' with rfl | hm'
    ·obtain ⟨k0, f1, f2⟩ := h1.blk hk'
     have hlt : i < k.cells.length := (List.getElem?_eq_some_iff.1 hx).1
     have := hk k0 f1 (f2.1 ▸ hf)
     obtain ⟨q1, q2, q3, q4, q5⟩ := f2
     omega
    ·exact h3 m' hm' hne k hk' hf i x hx c1 c2
   cases hk : st (.b m) with
   | k k =>
    simp only [hk] at g2
    split at g2
    ·obtain ⟨u3, R3, U3, R4, U4, g3, g4, rfl, rfl⟩ := bind_some g2
     obtain ⟨rfl, rfl⟩ := wd g3
     simp only [List.cons_append, List.nil_append, z7] at g4 ⊢
     have hw := z3J hk (z1S k lo hi)
     obtain ⟨h1, h2, h3⟩ := Yl b fam lo hi l g4
     refine ⟨hw.trans h1, ?_, ?_⟩
     ·rw [h2, zt _ _ (by simpa using Ne.symm hm)]
     ·intro m' hm' hne k' hk' hf i x hx c1 c2
      by_cases hmm : m' = m
      ·subst hmm
       obtain ⟨k0, f1, f2⟩ := h1.blk hk'
       rw [zC] at f1
       cases f1
       rcases f2.2.2.2.2 i x hx with h | h
       ·exact h
       ·refine z1T k lo hi h ?_ ?_
        ·have := f2.2.1; simp only [Yn] at this; omega
        ·have := f2.2.1; simp only [Yn] at this; omega
      ·rcases List.mem_cons.1 hm' with h | hm'
       ·exact absurd h hmm
       ·exact h3 m' hm' hne k' hk' hf i x hx c1 c2
    ·rename_i hc
     refine skip g2 ?_
     intro k' hk' hf
     cases hk'.symm.trans hk
     intro hcc
     exact hc ⟨hf, hcc⟩
   | _ => simp only [hk] at g2; exact skip g2 (by intro k' hk'; cases hk'.symm.trans hk)
theorem z2f (h : Sim C N ρ st a w Ds) {b q : Nat}  {u : Unit}   (e : putB b q xs st = some (u, R, U))  (hr : VRs C.S ρ xs cs) (h1 : ∀ u ∈ cs, u.oneCell' = true) :
  ∃ p arr ty, ρ b = some p ∧ w.heap[p.B]? = some (.cells arr ty (0, 0)) ∧ p.O + q + cs.length ≤ arr.size ∧ Sim C N ρ (z7 U st) a (w.setRow p.B (ud arr (p.O + q) cs)) Ds := by
 unfold putB at e
 obtain ⟨k, R1, U1, R2, U2, g1, g2, rfl, rfl⟩ := bind_some e
 obtain ⟨rfl, hk⟩ := XK g1
 simp only [z7, List.nil_append] at g2 ⊢
 split at g2
 ·rename_i hfit
  obtain ⟨l, R3, U3, R4, U4, g3, g4, rfl, rfl⟩ := bind_some g2
  obtain ⟨rfl, hl⟩ := z0g g3
  simp only [z7, List.nil_append] at g4 ⊢
  obtain ⟨u5, R5, U5, R6, U6, g5, g6, rfl, rfl⟩ := bind_some g4
  obtain ⟨rfl, rfl⟩ := wd g6
  obtain ⟨t1, t2, t3⟩ := Yl b _ _ _ l.l g5
  have hs := h.weak t1
  have hkb : (z7 U5 st) (.b b) = .k k := by rw [t2]; exact hk
  obtain ⟨p, arr, ty, f1, f2, f3, f4, f5, f6⟩ := KP (h := h.h) hk
  have hlen := hr.len
  refine ⟨p, arr, ty, f1, f2, by omega, ?_⟩
  rw [zl]
  refine hs.store hkb f1 f2 (by omega) (by omega) (fun _ => hfit) hr h1 ?_
  intro m km hm hkm hf i x hx c1 c2
  obtain ⟨km0, d1, d2⟩ := t1.blk hkm
  obtain ⟨_, l', d3, d4⟩ := h.h.fam m km0 d1
  rw [← d2.1, hf, hl] at d3
  cases d3
  exact t3 m d4.1 hm km hkm hf i x hx c1 c2
 ·exact (zn g2).elim
theorem z2p {S : z8}   (h : xs.all z5O = true) (hr : VRs S ρ xs cs) : ∀ u ∈ cs, u.oneCell' = true := by
 intro u hu
 obtain ⟨i, hi⟩ := List.mem_iff_getElem?.1 hu
 have hlt : i < xs.length := by rw [← hr.len]; exact (List.getElem?_eq_some_iff.1 hi).1
 obtain ⟨v, h1, h2⟩ := hr.get (List.getElem?_eq_getElem hlt)
 rw [hi] at h1; cases h1
 exact h2.one (List.all_eq_true.1 h _ (List.getElem_mem hlt))
theorem Qa {S : z8}  {v : Value} (h : VR S ρ x v) (hx : x.cells.all z5O = true) : VRs S ρ x.cells v.cells.toList := by
 cases x with
 | agg xs =>
  simp only [VR] at h
  obtain ⟨vs, h1, rfl⟩ := h
  simpa [V.cells, Value.cells] using h1
 | _ =>
  simp only [V.cells, List.all_cons, List.all_nil, Bool.and_true] at hx
  have := VR.one hx h
  have hc : v.cells = #[v] := by cases v <;> first | rfl | simp [Value.oneCell'] at this
  rw [hc]
  simp only [V.cells, VRs]
  exact ⟨v, [], rfl, h, rfl⟩
theorem kC (hT : ue P tt)   (ht : tt t = some i) {v : Value} {b o : Nat} {arr : Array Value} {ty : TypeId} (hl : v.cells.toList.length = i.size) (h1 : ∀ u ∈ v.cells.toList, u.oneCell' = true)
  (hb : w.heap[b]? = some (.cells arr ty (0, 0))) (hfit : o + v.cells.toList.length ≤ arr.size) : (storeVar t ⟨b, o, none⟩ v).run P w = .ok () (w.setRow b (ud arr o v.cells.toList)) := by
 have hst := run_storeCells_at P b o ty v.cells.toList 0 arr w hb (by simpa using hfit) h1
 simp only [Nat.add_zero] at hst
 rw [xa hfit] at hst
 unfold storeVar
 have hsz : v.cells.size = i.size := by simpa using hl
 simp only [Sem.run_bind, zU hT ht, Result.andThen_ok, hsz, ne_eq, not_true, if_false]
 exact hst
theorem UB (hT : ue P tt) (h : Sim C N ρ st a w Ds)  {x v : V} {u : Unit}   (e : storeV tt t x v st = some (u, R, U)) {xu vu : Value} (hx : VR C.S ρ x xu) (hv : VR C.S ρ v vu) :
  ∃ w', (Instr.storeAt t xu vu).run P w = .ok () w' ∧ Sim C N ρ (z7 U st) a w' Ds := by
 unfold storeV at e
 obtain ⟨i, R1, U1, R2, U2, g1, g2, rfl, rfl⟩ := bind_some e
 obtain ⟨ht, rfl, rfl⟩ := zp g1
 simp only [z7, List.nil_append] at g2 ⊢
 split at g2
 ·rename_i b q
  split at g2
  ·rename_i hf
   unfold zcX at hf
   simp only [Bool.and_eq_true, beq_iff_eq] at hf
   obtain ⟨⟨f1, f2⟩, f3⟩ := hf
   have hc := Qa hv f3
   have h1 := z2p f3 hc
   obtain ⟨p, arr, ty, k1, k2, k3, k4⟩ := z2f h g2 hc h1
   simp only [VR] at hx
   obtain ⟨p', k5, rfl⟩ := hx
   rw [k1] at k5; cases k5
   refine ⟨_, ?_, k4⟩
   simp only [Instr.storeAt, Instr.sureAddr, Sem.run_bind, Sem.run_pure, Result.andThen_ok]
   exact kC hT ht (by rw [hc.len, f2]) h1 k2 k3
  ·exact (zn g2).elim
 ·exact (zn g2).elim
theorem WO (hT : ue P tt) (h : Sim C N ρ st a w Ds)  {x v : V}   (e : loadV tt t x st = some (v, R, U))  (hx : VR C.S ρ x xu) :
  U = [] ∧ ∃ vu, (Instr.loadAt t xu).run P w = .ok vu w ∧ VR C.S ρ v vu := by
 unfold loadV at e
 obtain ⟨i, R1, U1, R2, U2, g1, g2, rfl, rfl⟩ := bind_some e
 obtain ⟨ht, rfl, rfl⟩ := zp g1
 simp only [z7, List.nil_append] at g2 ⊢
 split at g2
 ·rename_i b q
  obtain ⟨k, R3, U3, R4, U4, g3, g4, rfl, rfl⟩ := bind_some g2
  obtain ⟨rfl, hk⟩ := XK g3
  simp only [z7] at g4
  split at g4
  ·rename_i hc
   obtain ⟨g5, rfl, rfl⟩ := zp g4
   refine ⟨rfl, ?_⟩
   simp only [VR] at hx
   obtain ⟨p, hp, rfl⟩ := hx
   obtain ⟨cs, c1, c2, c3, c4⟩ := W1 h.h hk hp q i.size hc.1
   obtain ⟨vu, d1, d2⟩ := J0 (w := w) hT ht c2 c4 c1 g5
   exact ⟨vu, by simp only [Instr.loadAt, Instr.sureAddr, Sem.run_bind, Sem.run_pure, Result.andThen_ok]; exact d1, d2⟩
  ·exact (zn g4).elim
 ·rename_i y
  obtain ⟨cs, R3, U3, R4, U4, g3, g4, rfl, rfl⟩ := bind_some g2
  obtain ⟨hcs, rfl, rfl⟩ := zp g3
  simp only [z7] at g4
  split at g4
  ·rename_i hc
   obtain ⟨g5, rfl, rfl⟩ := zp g4
   refine ⟨rfl, ?_⟩
   simp only [VR, Rep] at hx
   obtain ⟨b, q, l, hl, r1, r2⟩ := hx
   simp only [List.cons.injEq, and_true] at hl
   subst hl
   have hv := JW (ρ := ρ) hcs r1
   obtain ⟨vu, d1, d2⟩ := J0 (w := w) hT ht (by rw [hv.len, hc.1]) (fun j u hj => h.h.still _ _ _ (r2 j u hj)) hv g5
   exact ⟨vu, by simp only [Instr.loadAt, Instr.sureAddr, Sem.run_bind, Sem.run_pure, Result.andThen_ok]; exact d1, d2⟩
  ·exact (zn g4).elim
 ·exact (zn g2).elim
theorem VK (hT : ue P tt) {fs : List (Nat × Nat)} {i off sz : Nat} (e : z4t tt fs i = some (off, sz)) : ∃ ft j, fs[i]? = some (off, ft) ∧ tt ft = some j ∧ j.size = sz := by
 unfold z4t at e
 split at e
 ·rename_i off' ft h
  obtain ⟨j, h1, h2⟩ := Option.map_eq_some_iff.1 e
  cases h2
  exact ⟨ft, j, h, h1, rfl⟩
 ·cases e
theorem q9 (hT : ue P tt) {t i off sz : Nat} (e : Q8 tt t i = some (off, sz)) (hsz : sz ≠ 0) (B O : Nat) (w : World) : (Instr.fieldAt t (.pointer (some ⟨B, O, none⟩)) i).run P w = .ok (.pointer (some ⟨B, O + off, none⟩)) w := by
 unfold Q8 at e
 split at e
 ·rename_i fs _ _ _ _ ht
  obtain ⟨ft, j, h1, h2, h3⟩ := VK hT e
  obtain ⟨fields, g1, g2, _⟩ := (hT _ _ ht).kind
  rw [← g2, List.getElem?_map] at h1
  obtain ⟨f, h4, h5⟩ := Option.map_eq_some_iff.1 h1
  cases h5
  have hfi : fields[i]? = some f := by simpa using h4
  have hs := zU hT h2 w
  simp only [Instr.fieldAt, Sem.run_bind, run_underlying g1, Result.andThen_ok, hfi, Instr.sureAddr, Sem.run_pure, fieldPlace, hs, h3, hsz, if_false, Addr.add_lit]
 ·cases e
theorem uz {S : z8} : ∀ {as_ : List A} {cs : List Value} {i : Nat} {x : A}, zV S as_ cs → as_[i]? = some x → ∃ c1 ci c2, cs = c1 ++ ci ++ c2 ∧ c1.length = A.sizes (as_.take i) ∧ Rep S x ci
 | [], _, _, _, _, e => by simp at e
 | a :: as_, cs, 0, x, r, e => by
  simp at e; subst e
  simp only [zV] at r
  obtain ⟨c1, c2, rfl, r1, r2⟩ := r
  exact ⟨[], c1, c2, rfl, rfl, r1⟩
 | a :: as_, cs, i + 1, x, r, e => by
  simp at e
  simp only [zV] at r
  obtain ⟨c1, c2, rfl, r1, r2⟩ := r
  obtain ⟨d1, di, d2, rfl, h1, h2⟩ := uz r2 e
  exact ⟨c1 ++ d1, di, d2, by simp, by simp [A.sizes, r1.len, h1], h2⟩
theorem z0v {S : z8} {b o : Nat} {c1 ci c2 : List Value} (h : kY S b o (c1 ++ ci ++ c2)) : kY S b (o + c1.length) ci := by
 intro j v hj
 have := h (c1.length + j) v (by
  rw [List.append_assoc, List.getElem?_append_right (by omega), Nat.add_sub_cancel_left, List.getElem?_append_left (List.getElem?_eq_some_iff.1 hj).1]
  exact hj)
 rw [Nat.add_assoc]; exact this
theorem kT (hT : ue P tt) {S : z8} {t i : Nat} {x z : V} (e : Zm tt t i x = some z)  (hx : VR S ρ x xu) (w : World) : ∃ vu, (Instr.fieldAt t xu i).run P w = .ok vu w ∧ VR S ρ z vu := by
 unfold Zm at e
 split at e
 ·rename_i off sz hoff
  split at e
  ·rename_i hsz
   split at e
   ·rename_i b q
    simp only [Option.some.injEq] at e; subst e
    simp only [VR] at hx
    obtain ⟨p, hp, rfl⟩ := hx
    exact ⟨_, q9 hT hoff hsz _ _ w, by simp only [VR]; exact ⟨p, hp, by rw [Nat.add_assoc]⟩⟩
   ·rename_i fs
    split at e
    ·rename_i hoo
     obtain ⟨y, h1, rfl⟩ := Option.map_eq_some_iff.1 e
     simp only [VR, Rep] at hx
     obtain ⟨b, q, l, hl, r1, r2⟩ := hx
     simp only [List.cons.injEq, and_true] at hl
     subst hl
     obtain ⟨c1, ci, c2, rfl, h2, h3⟩ := uz r1 h1
     refine ⟨_, q9 hT hoff hsz _ _ w, ?_⟩
     simp only [VR, Rep]
     exact ⟨b, q + off, ci, rfl, h3, by rw [← hoo, ← h2]; exact z0v r2⟩
    ·cases e
   ·cases e
  ·cases e
 ·cases e
theorem jy (hT : ue P tt) {t e : Nat}  (h : Yp tt t = some (e, i)) : P.underlying t = some (.slice e) ∧ tt e = some i := by
 unfold Yp at h
 split at h
 ·rename_i el _ _ _ _ ht
  obtain ⟨j, hj, h2⟩ := Option.map_eq_some_iff.1 h
  cases h2
  exact ⟨(hT _ _ ht).kind, hj⟩
 ·cases h
theorem Y8 (hT : ue P tt) {t n e : Nat}  (h : JZ tt t = some (n, e, i)) : P.underlying t = some (.array n e) ∧ tt e = some i := by
 unfold JZ at h
 split at h
 ·rename_i m el _ _ _ _ ht
  obtain ⟨j, hj, h2⟩ := Option.map_eq_some_iff.1 h
  cases h2
  exact ⟨(hT _ _ ht).kind, hj⟩
 ·cases h
theorem X9 (hT : ue P tt) {t k e : Nat} (h : Jv tt t = some (k, e)) : P.underlying t = some (.map k e) := by
 unfold Jv at h
 split at h
 ·rename_i k' el _ _ _ _ ht
  cases h
  exact (hT _ _ ht).kind
 ·cases h
theorem xk (hT : ue P tt) {t sz : Nat} (h : yX tt t = some sz) (w : World) : ∃ e, P.underlying t = some (.slice e) ∧ (Go.sizeOf e).run P w = .ok sz w := by
 unfold yX at h
 obtain ⟨⟨e, i⟩, h1, rfl⟩ := Option.map_eq_some_iff.1 h
 obtain ⟨h2, h3⟩ := jy hT h1
 exact ⟨e, h2, zU hT h3 w⟩
theorem uZ {t e sz : Nat} {w : World} (h1 : P.underlying t = some (.slice e)) (h2 : (Go.sizeOf e).run P w = .ok sz w) {b o n c : Nat} {k : IntKind}  (h0 : 0 ≤ j) (hj : j.toNat < n) :
  (Instr.indexAt t (.slice (some ⟨b, o, none⟩) n c) (.int k j)).run P w = .ok (.pointer (some ⟨b, o + j.toNat * sz, none⟩)) w := by
 have : j < (n : Int) := by omega
 simp [Instr.indexAt, asIntOf, run_underlying h1, h0, this, h2, Addr.add_lit]
theorem kP (hT : ue P tt) {S : z8}  {x z : V}   (e : Zl tt t x j = some z)  (hx : VR S ρ x xu) (w : World) : ∃ vu, (Instr.indexAt t xu (.int k j)).run P w = .ok vu w ∧ VR S ρ z vu := by
 unfold Zl at e
 split at e
 ·rename_i h0
  split at e
  ·rename_i b q z' m c
   split at e
   ·rename_i hc
    simp only [Option.some.injEq] at e; subst e
    simp only [VR] at hx
    obtain ⟨p, o', c', hp, rfl, h1, h2, _⟩ := hx
    have ho := h2 (by omega)
    subst ho
    obtain ⟨el, g1, g2⟩ := xk hT hc.1 w
    exact ⟨_, uZ g1 g2 h0 hc.2, by simp only [VR]; exact ⟨p, hp, by rw [Nat.add_assoc]⟩⟩
   ·cases e
  ·rename_i z' tg xs
   split at e
   ·rename_i hc
    obtain ⟨y, h1, rfl⟩ := Option.map_eq_some_iff.1 e
    simp only [VR, Rep] at hx
    obtain ⟨p, c, hl, q1, q2, q3, q4⟩ := hx
    simp only [List.cons.injEq, and_true] at hl
    subst hl
    have hlt : j.toNat < xs.length := (List.getElem?_eq_some_iff.1 h1).1
    rcases q4 with rfl | ⟨b, q, l, rfl, r1, r2⟩
    ·simp at hlt
    ·obtain ⟨el, g1, g2⟩ := xk hT hc w
     refine ⟨_, uZ g1 g2 h0 hlt, ?_⟩
     obtain ⟨c1, ci, c2, rfl, h2, h3⟩ := uz r1 h1
     simp only [VR, Rep]
     refine ⟨b, q + j.toNat * z', ci, rfl, h3, ?_⟩
     have : c1.length = j.toNat * z' := by
      rw [h2, A.sizes_const (sz := z') (fun x hx => q3 x (List.mem_of_mem_take hx)), List.length_take]
      congr 1; omega
     rw [← this]
     exact z0v r2
   ·cases e
  ·rename_i b q
   split at e
   ·rename_i m el i ha
    obtain ⟨hk, hi⟩ := Y8 hT ha
    split at e
    ·rename_i hj
     simp only [Option.some.injEq] at e; subst e
     simp only [VR] at hx
     obtain ⟨p, hp, rfl⟩ := hx
     refine ⟨.pointer (some ⟨p.B, p.O + q + j.toNat * i.size, none⟩), ?_, by simp only [VR]; exact ⟨p, hp, by rw [Nat.add_assoc]⟩⟩
     have hj' : j < (m : Int) := by omega
     simp [Instr.indexAt, asIntOf, run_underlying hk, Instr.sureAddr, h0, hj', zU hT hi, Addr.add_lit]
    ·cases e
   ·cases e
  ·cases e
 ·cases e
theorem z2E (hT : ue P tt) (h : Sim C N ρ st a w Ds) {t ty : Nat} {x v : V}   (e : lenV tt t x st = some (v, R, U))  (hx : VR C.S ρ x xu) :
  U = [] ∧ ∃ vu, (Builtin.len_ #[t] ty #[xu]).run P w = .ok vu w ∧ VR C.S ρ v vu := by
 unfold lenV at e
 obtain ⟨i, R1, U1, R2, U2, g1, g2, rfl, rfl⟩ := bind_some e
 obtain ⟨ht, rfl, rfl⟩ := zp g1
 simp only [z7, List.nil_append] at g2 ⊢
 have hk := (hT _ _ ht).kind
 generalize hkk : i.kind = kd at g2
 split at g2
 ·rename_i el b q z m c
  obtain ⟨rfl, rfl, rfl⟩ := zf g2
  rw [hkk] at hk
  have hk : P.underlying t = some (.slice el) := hk
  simp only [VR] at hx
  obtain ⟨p, o', c', hp, rfl, _⟩ := hx
  exact ⟨rfl, _, by simp [Builtin.len_, run_underlying hk, goInt]; done, Wg _⟩
 ·rename_i el p m c
  obtain ⟨rfl, rfl, rfl⟩ := zf g2
  rw [hkk] at hk
  have hk : P.underlying t = some (.slice el) := hk
  simp only [VR] at hx
  subst hx
  exact ⟨rfl, _, by simp [Builtin.len_, run_underlying hk, goInt]; done, Wg _⟩
 ·rename_i el z tg xs
  obtain ⟨rfl, rfl, rfl⟩ := zf g2
  rw [hkk] at hk
  have hk : P.underlying t = some (.slice el) := hk
  simp only [VR, Rep] at hx
  obtain ⟨p, c, hl, _⟩ := hx
  simp only [List.cons.injEq, and_true] at hl
  subst hl
  exact ⟨rfl, _, by simp [Builtin.len_, run_underlying hk, goInt]; done, Wg _⟩
 ·rename_i s
  obtain ⟨rfl, rfl, rfl⟩ := zf g2
  rw [hkk] at hk
  have hk : P.underlying t = some .string := hk
  simp only [VR] at hx
  subst hx
  exact ⟨rfl, _, by simp [Builtin.len_, run_underlying hk, goInt]; done, Wg _⟩
 ·rename_i kk el
  obtain ⟨rfl, rfl, rfl⟩ := zf g2
  rw [hkk] at hk
  have hk : P.underlying t = some (.map kk el) := hk
  simp only [VR] at hx
  subst hx
  exact ⟨rfl, _, by simp [Builtin.len_, run_underlying hk, goInt]; done, Wg _⟩
 ·rename_i kk el b
  rw [hkk] at hk
  have hk : P.underlying t = some (.map kk el) := hk
  obtain ⟨es, R3, U3, R4, U4, g3, g4, rfl, rfl⟩ := bind_some g2
  obtain ⟨rfl, hes⟩ := UP g3
  simp only [z7] at g4
  obtain ⟨rfl, rfl, rfl⟩ := zf g4
  simp only [VR] at hx
  obtain ⟨p, hp, rfl⟩ := hx
  obtain ⟨p', h1, h2⟩ := h.h.ent b (by rw [hes]; rfl)
  rw [hp] at h1; cases h1
  rw [hes] at h2
  obtain ⟨ents, cl, q1, q2, q3⟩ := h2
  have hlen : ents.size = es.length := by have := congrArg List.length q2; simpa using this
  exact ⟨rfl, _, by simp [Builtin.len_, run_underlying hk, getObj, Sem.run, q1, hlen, goInt], Wg _⟩
 ·exact (zn g2).elim
theorem z3d (hT : ue P tt) {S : z8} {t ty : Nat} {x z : V} (e : zcy tt t x = some z)  (hx : VR S ρ x xu) (w : World) : ∃ vu, (Builtin.cap_ #[t] ty #[xu]).run P w = .ok vu w ∧ VR S ρ z vu := by
 unfold zcy at e
 split at e
 ·rename_i el _ _ _ _ b q zz m c ht
  simp only [Option.some.injEq] at e; subst e
  have hk : P.underlying t = some (.slice el) := (hT _ _ ht).kind
  simp only [VR] at hx
  obtain ⟨p, o', c', hp, rfl, _, _, rfl⟩ := hx
  exact ⟨_, by simp [Builtin.cap_, run_underlying hk, goInt]; done, Wg _⟩
 ·rename_i el _ _ _ _ p m c ht
  simp only [Option.some.injEq] at e; subst e
  have hk : P.underlying t = some (.slice el) := (hT _ _ ht).kind
  simp only [VR] at hx
  subst hx
  exact ⟨_, by simp [Builtin.cap_, run_underlying hk, goInt]; done, Wg _⟩
 ·rename_i el _ _ _ _ zz xs ht
  simp only [Option.some.injEq] at e; subst e
  have hk : P.underlying t = some (.slice el) := (hT _ _ ht).kind
  simp only [VR, Rep] at hx
  obtain ⟨p, c, hl, hc, _⟩ := hx
  simp only [List.cons.injEq, and_true] at hl
  subst hl
  exact ⟨_, by simp [Builtin.cap_, run_underlying hk, hc trivial, goInt]; done, Wg _⟩
 ·cases e
theorem Jq (h : Sim C N ρ st a w Ds) (hn : ρ n = none)   (hr : VRs C.S ρ xs cs) (h1 : ∀ u ∈ cs, u.oneCell' = true) (ex : Bool) (arr : Array Value) (harr : arr.toList.take cs.length = cs) (hex : ex = true → arr.size = cs.length) (ty : TypeId)
    {u : Unit} {R : List Key} {U : Ups} (e : wrNew n ⟨xs, ex, n, 0⟩ st = some (u, R, U)) : Sim C N (wT ρ n ⟨w.heap.size, 0, arr.size⟩) (z7 U st) a (w.alloc (.cells arr ty)) Ds := by
  unfold wrNew at e
  obtain ⟨u1, R1, U1, R2, U2, g1, g2, rfl, rfl⟩ := bind_some e
  obtain ⟨rfl, rfl⟩ := wd g1
  obtain ⟨rfl, rfl⟩ := wd g2
  simp only [List.cons_append, List.nil_append, z7]
  have hle : cs.length ≤ arr.size := by
    have := congrArg List.length harr
    simp only [List.length_take, Array.length_toList] at this
    omega
  refine h.new hn (.cells arr ty) (.k ⟨xs, ex, n, 0⟩) arr.size ?_ ?_ ?_ ?_ ?_
  · refine ⟨arr, ty, World.alloc_heap_new w _, rfl, ?_, ?_, ?_⟩
    · simp only [Nat.zero_add, ← hr.len]; exact hle
    · intro hx; simp only [Nat.zero_add, ← hr.len]; exact (hex hx).symm
    · intro i x hx
      obtain ⟨v, q1, q2⟩ := hr.get hx
      refine ⟨v, ?_, q2.mono (jz _ hn), h1 v (List.mem_of_getElem? q1)⟩
      rw [Nat.zero_add]
      rw [← harr, List.getElem?_take] at q1
      split at q1
      · simpa using q1
      · cases q1
  · intro i
    rw [zt _ _ (by simp)]
    by_cases e : i = n
    · subst e; simp [zC]
    · rw [zt _ _ (by simpa using e)]; simp [e]
  · intro t
    rw [zt _ _ (by simp), zt _ _ (by simp)]
  · intro b k hk
    obtain ⟨⟨⟨p, hp⟩, _⟩, l, hl, hm⟩ := h.h.fam b k hk
    have hne : k.fam ≠ n := by rintro q; rw [q, hn] at hp; cases hp
    exact ⟨l, by rw [zt _ _ (by simpa using hne), zt _ _ (by simp)]; exact hl, hm⟩
  · intro k hk
    cases hk
    exact ⟨⟨⟨_, zS _ _ _⟩, Nat.le_refl _⟩, _, zC _ _ _, by simp [Fam.has]⟩
theorem Ye (hT : ue P tt)   (ht : tt t = some i)  (hz : i.zero = some z) : ∃ v, (zeroValue t).run P w = .ok v w ∧ v.cells.toList = z ∧ (∀ u ∈ z, u.oneCell' = true) ∧ z.length = i.size ∧ (if i.kind.isAgg = true then ∃ cs, v = .agg cs else v.oneCell' = true) := by
 obtain ⟨f, f1, f2, f3, f4⟩ := (hT _ _ ht).info
 obtain ⟨v, g1, g2⟩ := f4 z hz
 exact ⟨v, by simp [zeroValue, typeInfo, f1, g1], g2⟩
theorem Qk (hT : ue P tt) (h : Sim C N ρ st a w Ds) (hn : ρ n = none)     (e : allocV tt n t st = some (v, R, U)) (ho : o.op = .alloc t) : Res P C N n (n + 1) o ρ a w Ds v (z7 U st) := by
 unfold allocV at e
 obtain ⟨i, R1, U1, R2, U2, g1, g2, rfl, rfl⟩ := bind_some e
 obtain ⟨ht, rfl, rfl⟩ := zp g1
 obtain ⟨z, R3, U3, R4, U4, g3, g4, rfl, rfl⟩ := bind_some g2
 obtain ⟨hz, rfl, rfl⟩ := zp g3
 simp only [z7, List.nil_append] at g4 ⊢
 obtain ⟨u5, R5, U5, R6, U6, g5, g6, rfl, rfl⟩ := bind_some g4
 obtain ⟨rfl, rfl, rfl⟩ := zf g6
 simp only [List.append_nil]
 obtain ⟨zv, z1, z2, z3, z4, _⟩ := Ye (w := w) hT ht hz
 have := Jq h hn (VRs.lits z) z3 true zv.cells (by rw [← z2]; exact List.take_of_length_le (Nat.le_refl _)) (by intro _; rw [← z2]; simp) t g5
 refine ⟨_, _, .pointer (some ⟨w.heap.size, 0, none⟩), ?_, Ext.set _ hn (Nat.lt_succ_self _), this, ?_⟩
 ·simp [execOp, ho, Instr.alloc, newVar, newRow, z1]
 ·simp only [VR]; exact ⟨_, zS _ _ _, rfl⟩
theorem z3g (h : Sim C N ρ st a w Ds) (hn : ρ n = none)  {x : Operand} {y v : V}   (e : boxV n y st = some (v, R, U)) (hy : VR C.S ρ y (a.eval x)) (ho : o.op = .box t x) : Res P C N n (n + 1) o ρ a w Ds v (z7 U st) := by
 unfold boxV at e
 split at e
 ·rename_i hone
  obtain ⟨u5, R5, U5, R6, U6, g5, g6, rfl, rfl⟩ := bind_some e
  obtain ⟨rfl, rfl, rfl⟩ := zf g6
  simp only [List.append_nil]
  have hc := Qa hy hone
  have := Jq h hn hc (z2p hone hc) true (a.eval x).cells (List.take_of_length_le (Nat.le_refl _)) (by intro _; simp) t g5
  refine ⟨_, _, .pointer (some ⟨w.heap.size, 0, none⟩), ?_, Ext.set _ hn (Nat.lt_succ_self _), this, ?_⟩
  ·simp [execOp, ho, Instr.box, newVar, newRow]
  ·simp only [VR]; exact ⟨_, zS _ _ _, rfl⟩
 ·exact (zn e).elim
theorem YG (l : List α) : ∀ (n k : Nat), (List.replicate n l).flatten[k]? = if k < n * l.length then l[k % l.length]? else none
 | 0, k => by simp
 | n + 1, k => by
  rw [List.replicate_succ, List.flatten_cons]
  by_cases hk : k < l.length
  ·rw [List.getElem?_append_left hk, if_pos (by rw [Nat.add_mul]; omega), Nat.mod_eq_of_lt hk]
  ·rw [List.getElem?_append_right (by omega), YG l n]
   have hm : (k - l.length) % l.length = k % l.length := (Nat.mod_eq_sub_mod (by omega)).symm
   rw [hm]
   by_cases h2 : k - l.length < n * l.length
   ·rw [if_pos h2, if_pos (by rw [Nat.add_mul]; omega)]
   ·rw [if_neg h2, if_neg (by rw [Nat.add_mul]; omega)]
theorem KB (z : Array Value) (c : Nat) : madeCells z (c * z.size) = (List.replicate c z.toList).flatten.toArray := by
 symm
 apply Array.ext_getElem?
 intro k
 rw [List.getElem?_toArray, YG, Array.length_toList]
 simp only [madeCells, Array.getElem?_map, Array.getElem?_range]
 split
 ·rename_i hk
  have hz : 0 < z.size := by
   rcases Nat.eq_zero_or_pos z.size with h0 | h0
   ·rw [h0] at hk; simp at hk
   ·exact h0
  have hmod : k % z.size < z.size := Nat.mod_lt _ hz
  simp only [Option.map_some, Array.getElem?_toList]
  rw [Array.getElem?_eq_getElem hmod, getElem!_pos z _ hmod]
 ·rfl
theorem VRs.flat {S : z8}   (h : VRs S ρ xs cs) : ∀ c, VRs S ρ (List.replicate c xs).flatten (List.replicate c cs).flatten
 | 0 => by simp [VRs]
 | c + 1 => by simp only [List.replicate_succ, List.flatten_cons]; exact h.append (VRs.flat h c)
theorem z0M (h : ∀ u ∈ cs, u.oneCell' = true) (c : Nat) : ∀ u ∈ (List.replicate c cs).flatten, u.oneCell' = true := by
 intro u hu
 obtain ⟨l, h1, h2⟩ := List.mem_flatten.1 hu
 rw [List.eq_of_mem_replicate h1] at h2
 exact h u h2
theorem kN (hT : ue P tt) (h : Sim C N ρ st a w Ds) (hn : ρ n = none)  {l c : Operand} {k1 k2 : IntKind} {x y : Int}    (e : makeSliceV tt n t x y st = some (v, R, U)) (hl : a.eval l = .int k1 x) (hc : a.eval c = .int k2 y)
  (ho : o.op = .makeSlice t l c) : Res P C N n (n + 1) o ρ a w Ds v (z7 U st) := by
 unfold makeSliceV at e
 obtain ⟨⟨el, i⟩, R1, U1, R2, U2, g1, g2, rfl, rfl⟩ := bind_some e
 obtain ⟨hsl, rfl, rfl⟩ := zp g1
 obtain ⟨z, R3, U3, R4, U4, g3, g4, rfl, rfl⟩ := bind_some g2
 obtain ⟨hz, rfl, rfl⟩ := zp g3
 simp only [z7, List.nil_append] at g4 ⊢
 obtain ⟨hel, hi⟩ := jy hT hsl
 split at g4
 ·rename_i hcond
  obtain ⟨c1, c2, c3, c4⟩ := hcond
  obtain ⟨u5, R5, U5, R6, U6, g5, g6, rfl, rfl⟩ := bind_some g4
  obtain ⟨rfl, rfl, rfl⟩ := zf g6
  simp only [List.append_nil]
  obtain ⟨f, f1, f2, f3, f4⟩ := (hT _ _ hi).info
  obtain ⟨zv, v1, v2, v3, v4, v5⟩ := f4 z hz
  have hlim : y ≤ 16777216 := by simpa [lim] using c3
  have hbytes : (f.bytes : Int) * y ≤ 281474976710656 := by
   rw [f3]
   have h1 : (i.bytes : Int) ≤ 4096 := by omega
   have h2 : (i.bytes : Int) * y ≤ 4096 * 16777216 := Int.mul_le_mul h1 hlim (by omega) (by omega)
   omega
  have hrun := run_make (P := P) w t el f zv hel f1 v1 k1 k2 x y c1 c2 hbytes (by omega)
  have hzs : zv.cells.size = i.size := by rw [← v4, ← v2]; simp
  rw [f2, ← hzs, KB, v2] at hrun
  have hnew := Jq h hn (VRs.flat (VRs.lits z) y.toNat) (z0M v3 _) true (List.replicate y.toNat z).flatten.toArray (List.take_of_length_le (Nat.le_refl _)) (by intro _; simp) el g5
  refine ⟨_, _, .slice (some ⟨w.heap.size, 0, none⟩) x.toNat y.toNat, ?_, Ext.set _ hn (Nat.lt_succ_self _), hnew, ?_⟩
  ·simp only [execOp, ho, hl, hc, Sem.run_bind, hrun, Result.andThen_ok, Sem.run_pure]
  ·simp only [VR]
   exact ⟨_, 0, y.toNat, zS _ _ _, rfl, by omega, fun _ => rfl, rfl⟩
 ·exact (zn g4).elim
theorem XM (h : Sim C N ρ st a w Ds) : ∀ {ps : List (Nat × Operand)} {qs : List (Nat × V)} {R : List Key} {U : Ups}, parts ps st = some (qs, R, U) →
  U = [] ∧ qs.map (·.1) = ps.map (·.1) ∧ VRs C.S ρ (qs.map (·.2)) (ps.map fun p => a.eval p.2)
 | [], qs, R, U, e => by
  obtain ⟨rfl, rfl, rfl⟩ := zf e
  exact ⟨rfl, rfl, by simp [VRs]⟩
 | (i, x) :: ps, qs, R, U, e => by
  simp only [parts] at e
  obtain ⟨v, R1, U1, R2, U2, h1, h2, rfl, rfl⟩ := bind_some e
  obtain ⟨rfl, q1⟩ := y5 h h1
  obtain ⟨us, R3, U3, R4, U4, h3, h4, rfl, rfl⟩ := bind_some h2
  simp only [z7] at h3 h4
  obtain ⟨rfl, q2, q3⟩ := XM h h3
  obtain ⟨rfl, rfl, rfl⟩ := zf h4
  refine ⟨rfl, by simp [q2], ?_⟩
  simp only [List.map_cons, VRs]
  exact ⟨_, _, rfl, q1, q3⟩
theorem z1j (cs : List Value) : ∀ (arr : Array Value) (off : Nat) (j : Nat), off + j + cs.length ≤ arr.size → (cs.zipIdx j).foldl (fun acc p => acc.setIfInBounds (off + p.2) p.1) arr = ud arr (off + j) cs := by
 induction cs with
 | nil =>
  intro arr off j _
  simp only [List.zipIdx_nil, List.foldl_nil]
  apply Array.ext_getElem?
  intro k
  rw [vo (by simp; omega)]
 | cons c cs ih =>
  intro arr off j hfit
  simp only [List.length_cons] at hfit
  simp only [List.zipIdx_cons, List.foldl_cons]
  rw [ih _ _ _ (by simp; omega)]
  apply Array.ext_getElem?
  intro k
  by_cases hk : k < off + j
  ·rw [vo (.inl (by omega)), vo (.inl hk), Array.getElem?_setIfInBounds_ne (by omega)]
  ·by_cases hk2 : k = off + j
   ·subst hk2
    rw [vo (.inl (by omega))]
    have h1 : (ud arr (off + j) (c :: cs))[off + j + 0]? = some c := X6 (by simp; omega) rfl
    rw [Nat.add_zero] at h1
    rw [h1, Array.getElem?_setIfInBounds, if_pos rfl, if_pos (by omega)]
   ·by_cases hk3 : k < off + j + 1 + cs.length
    ·have hj : cs[k - (off + j + 1)]? = some cs[k - (off + j + 1)] := List.getElem?_eq_getElem (by omega)
     have h1 := X6 (arr := arr.setIfInBounds (off + j) c) (o := off + (j + 1)) (l := cs) (by simp; omega) hj
     have h2 : (c :: cs)[k - (off + j)]? = some cs[k - (off + j + 1)] := by
      rw [show k - (off + j) = (k - (off + j + 1)) + 1 from by omega, List.getElem?_cons_succ]; exact hj
     have h3 := X6 (arr := arr) (o := off + j) (l := c :: cs) (by simp; omega) h2
     rw [show off + (j + 1) + (k - (off + j + 1)) = k from by omega] at h1
     rw [show off + j + (k - (off + j)) = k from by omega] at h3
     rw [h1, h3]
    ·rw [vo (.inr (by omega)), vo (.inr (by simp; omega)), Array.getElem?_setIfInBounds_ne (by omega)]
theorem WG (arr : Array Value) (o : Nat) (cs : List Value) (h : o + cs.length ≤ arr.size) : (ud arr o cs).toList = arr.toList.take o ++ cs ++ arr.toList.drop (o + cs.length) := by
 rw [← xa h]
theorem VRs.put {S : z8} {xs ys : List V}  (h1 : VRs S ρ xs vs) (h2 : VRs S ρ ys us) (o : Nat) : VRs S ρ (Qq xs o ys) (vs.take o ++ us ++ vs.drop (o + us.length)) := by
 unfold Qq
 rw [h2.len]
 exact ((h1.take o).append h2).append (h1.drop _)
theorem kS {S : z8} {pl pl' : Nat → Option (Nat × Nat)} (hpl' : ∀ j x, pl j = some x → pl' j = some x) : ∀ {ps : List (Nat × V)} {us : List Value} {cells cs' : List V} {arr : Array Value}, JP pl cells ps = some cs' → VRs S ρ (ps.map (·.2)) us → VRs S ρ cells arr.toList → (∀ u ∈ arr.toList, u.oneCell' = true) →
  ∃ arr', Instr.fill pl' arr ((ps.map (·.1)).zip us) = some arr' ∧ VRs S ρ cs' arr'.toList ∧ (∀ u ∈ arr'.toList, u.oneCell' = true) ∧ arr'.size = arr.size
 | [], us, cells, cs', arr, e, h1, h2, h3 => by
  simp only [JP, Option.some.injEq] at e; subst e
  simp only [List.map_nil, VRs] at h1; subst h1
  exact ⟨arr, rfl, h2, h3, rfl⟩
 | (i, v) :: ps, us, cells, cs', arr, e, h1, h2, h3 => by
  simp only [List.map_cons, VRs] at h1
  obtain ⟨u, us', rfl, q1, q2⟩ := h1
  simp only [JP] at e
  split at e
  ·cases e
  ·rename_i off size hpl
   split at e
   ·cases e
   ·rename_i hc
    simp only [not_or, ne_eq, Decidable.not_not, Bool.not_eq_false] at hc
    obtain ⟨c1, c2, c3⟩ := hc
    have hcl := Qa q1 c3
    have hone := z2p c3 hcl
    have hl1 : u.cells.size = size := by have := hcl.len; rw [c1] at this; simpa using this
    have hl2 : arr.size = cells.length := by have := h2.len; simpa using this
    have hfit : off + u.cells.toList.length ≤ arr.size := by simp only [Array.length_toList]; omega
    have hov : u.cells.zipIdx.foldl (fun cs (c, j) => cs.setIfInBounds (off + j) c) arr = ud arr off u.cells.toList := by
     have := z1j u.cells.toList arr off 0 (by simpa using hfit)
     rw [Nat.add_zero] at this
     rw [← this]
     rw [← Array.foldl_toList]
     simp
    have hput : VRs S ρ (Qq cells off v.cells) (ud arr off u.cells.toList).toList := by
     rw [WG _ _ _ hfit]
     exact h2.put hcl off
    obtain ⟨arr', g1, g2, g3, g4⟩ := kS hpl' e q2 hput (by
     rw [WG _ _ _ hfit]
     intro z hz
     simp only [List.mem_append] at hz
     rcases hz with (hz | hz) | hz
     ·exact h3 z (List.mem_of_mem_take hz)
     ·exact hone z hz
     ·exact h3 z (List.mem_of_mem_drop hz))
    refine ⟨arr', ?_, g2, g3, by rw [g4]; simp⟩
    simp only [List.map_cons, List.zip_cons_cons, Instr.fill, hpl' _ _ hpl]
    rw [if_neg (by simp only [Bool.or_eq_true, decide_eq_true_eq, not_or]; omega), hov]
    exact g1
theorem Qt (ps : List (Nat × Operand)) : (ps.map (·.1)).zip (ps.map fun p => a.eval p.2) = ps.map fun p => (p.1, a.eval p.2) := by
 induction ps with
 | nil => rfl
 | cons p ps ih => simp [ih]
theorem WW (w : World) : ∀ (l : List Field) (acc : Array (Nat × Nat)), (∀ f ∈ l, ∃ j, P.info? f.type = some j) →
  (l.foldlM (fun bs f => bs.push <$> (do pure (f.offset, ← Go.sizeOf f.type) : Sem (Nat × Nat))) acc).run P w = .ok (acc ++ (l.map fun f => (f.offset, P.cellsOf f.type)).toArray) w
 | [], acc, _ => by simp
 | f :: l, acc, h => by
  obtain ⟨j, hj⟩ := h f (by simp)
  rw [List.foldlM_cons, Sem.run_bind]
  have : (acc.push <$> (do pure (f.offset, ← Go.sizeOf f.type) : Sem (Nat × Nat))).run P w = .ok (acc.push (f.offset, P.cellsOf f.type)) w := by
   rw [map_eq_pure_bind, Sem.run_bind, Sem.run_bind]
   simp [Go.sizeOf, typeInfo, hj, Program.cellsOf]
  rw [this, Result.andThen_ok, WW w l _ (fun g hg => h g (by simp [hg]))]
  simp
end
open Go.Own (A z8 zu Rep zV kY)
variable {ps : Array (Nat × Operand)}{qs : List (Nat × V)}
section
variable {P : Program} {tt : ET} {C : Ctx} {N n hi : Nat} {ρ : Pl} {st : St} {a : Act} {w : World} {Ds : List Nat} {o : Oper}
theorem QL (hT : ue P tt)   (h : tt t = some i) : P.cellsOf t = i.size := by
 obtain ⟨f, f1, f2, _⟩ := (hT _ _ h).info
 simp [Program.cellsOf, f1, f2]
theorem Qd (hT : ue P tt) (h : Sim C N ρ st a w Ds) {hi t : Nat}     (e : parts ps.toList st = some (qs, R, U))  (hv : z0Z tt t qs = some v) (ho : o.op = .build t ps) :
  U = [] ∧ Res P C N n hi o ρ a w Ds v st := by
 obtain ⟨rfl, q1, q2⟩ := XM h e
 refine ⟨rfl, ?_⟩
 have hparts : (ps.map fun (i, x) => (i, a.eval x)).toList = (qs.map (·.1)).zip (ps.toList.map fun p => a.eval p.2) := by
  rw [q1, Qt]; simp
 unfold z0Z at hv
 split at hv
 ·rename_i i ht
  split at hv
  ·rename_i z hz
   obtain ⟨zv, z1, z2, z3, z4, z5⟩ := Ye (w := w) hT ht hz
   split at hv
   ·rename_i fs hk
    obtain ⟨cs', hf, rfl⟩ := Option.map_eq_some_iff.1 hv
    obtain ⟨fields, g1, g2, g3⟩ : wL P t (.struct fs) := by rw [← hk]; exact (hT _ _ ht).kind
    have hm := WW (P := P) w fields.toList #[] g3
    have hplaces : (fields.mapM fun f => do pure (f.offset, ← Go.sizeOf f.type) : Sem (Array (Nat × Nat))).run P w = .ok (fields.toList.map fun f => (f.offset, P.cellsOf f.type)).toArray w := by
     rw [Array.mapM_eq_foldlM]
     rw [← Array.foldlM_toList]
     rw [hm]; simp
    obtain ⟨arr', f1, f2, f3, f4⟩ := kS (S := C.S) (pl' := fun j => (fields.toList.map fun f => (f.offset, P.cellsOf f.type)).toArray[j]?) (arr := zv.cells) (by
     intro j x hx
     obtain ⟨off, sz⟩ := x
     obtain ⟨ft, jj, d1, d2, d3⟩ := VK hT hx
     rw [← g2, List.getElem?_map] at d1
     obtain ⟨f, d4, d5⟩ := Option.map_eq_some_iff.1 d1
     cases d5
     simp only [List.getElem?_toArray, List.getElem?_map, d4, Option.map_some, QL hT d2, d3]) hf q2 (by rw [z2]; exact VRs.lits z) (by rw [z2]; exact z3)
    refine Res.here h (cv := .agg arr') ?_ ?_
    ·simp only [execOp, ho, Instr.build, Sem.run_bind, z1, Result.andThen_ok, run_underlying g1, hplaces, hparts, f1, Sem.run_pure]
    ·simp only [VR]; exact ⟨arr'.toList, f2, by simp⟩
   ·rename_i m el hk
    split at hv
    ·rename_i ie hie
     obtain ⟨cs', hf, rfl⟩ := Option.map_eq_some_iff.1 hv
     have hkk : P.underlying t = some (.array m el) := by
      have : wL P t (.array m el) := by rw [← hk]; exact (hT _ _ ht).kind
      exact this
     obtain ⟨arr', f1, f2, f3, f4⟩ := kS (S := C.S) (fun _ _ hx => hx) (arr := zv.cells) hf q2 (by rw [z2]; exact VRs.lits z) (by rw [z2]; exact z3)
     refine Res.here h (cv := .agg arr') ?_ ?_
     ·simp only [execOp, ho, Instr.build, Sem.run_bind, z1, Result.andThen_ok, run_underlying hkk, zU hT hie, hparts, f1, Sem.run_pure]
     ·simp only [VR]; exact ⟨arr'.toList, f2, by simp⟩
    ·cases hv
   ·cases hv
  ·cases hv
 ·cases hv
theorem jX (hT : ue P tt) (h : Sim C N ρ st a w Ds) (hn : ρ n = none) {t len : Nat}   {R1 : List Key} {U1 : Ups} (e1 : parts ps.toList st = some (qs, R1, U1)) {v : V} {R : List Key} {U : Ups}
  (e : buildSliceV tt n t len qs st = some (v, R, U)) (ho : o.op = .buildSlice t len ps) : U1 = [] ∧ Res P C N n (n + 1) o ρ a w Ds v (z7 U st) := by
 obtain ⟨rfl, q1, q2⟩ := XM h e1
 refine ⟨rfl, ?_⟩
 have hparts : (ps.map fun (i, x) => (i, a.eval x)).toList = (qs.map (·.1)).zip (ps.toList.map fun p => a.eval p.2) := by
  rw [q1, Qt]; simp
 unfold buildSliceV at e
 obtain ⟨⟨el, i⟩, R1, U1, R2, U2, g1, g2, rfl, rfl⟩ := bind_some e
 obtain ⟨hsl, rfl, rfl⟩ := zp g1
 obtain ⟨z, R3, U3, R4, U4, g3, g4, rfl, rfl⟩ := bind_some g2
 obtain ⟨hz, rfl, rfl⟩ := zp g3
 simp only [z7, List.nil_append] at g4 ⊢
 obtain ⟨hel, hi⟩ := jy hT hsl
 split at g4
 ·rename_i hlim
  obtain ⟨cs', R5, U5, R6, U6, g5, g6, rfl, rfl⟩ := bind_some g4
  obtain ⟨hf, rfl, rfl⟩ := zp g5
  simp only [z7, List.nil_append] at g6 ⊢
  obtain ⟨u7, R7, U7, R8, U8, g7, g8, rfl, rfl⟩ := bind_some g6
  obtain ⟨rfl, rfl, rfl⟩ := zf g8
  simp only [List.append_nil]
  obtain ⟨zv, z1, z2, z3, z4, z5⟩ := Ye (w := w) hT hi hz
  have hzs : zv.cells.size = i.size := by rw [← z4, ← z2]; simp
  let arr : Array Value := (List.replicate len z).flatten.toArray
  obtain ⟨arr', f1, f2, f3, f4⟩ := kS (S := C.S) (fun _ _ hx => hx) (arr := arr) hf q2 (VRs.flat (VRs.lits z) len) (z0M z3 len)
  have hnew := Jq h hn f2 f3 true arr' (List.take_of_length_le (Nat.le_refl _)) (by intro _; simp) el g7
  refine ⟨_, _, .slice (some ⟨w.heap.size, 0, none⟩) len len, ?_, Ext.set _ hn (Nat.lt_succ_self _), hnew, ?_⟩
  ·have hl : ¬ (len * i.size > 2 ^ 24) := by unfold lim at hlim; omega
   have harr : ∀ zc : Array Value, zc.toList = z → (Array.range (len * i.size)).map (zc[· % zc.size]!) = arr := by
    intro zc hzc
    have : zc = zv.cells := by rw [← Array.toArray_toList (xs := zc), hzc, ← z2]
    subst this
    show madeCells zv.cells (len * i.size) = arr
    rw [← hzs, KB, z2]
   by_cases h0 : len * i.size = 0
   ·have : (Array.range (len * i.size)).map ((#[] : Array Value)[· % (#[] : Array Value).size]!) = arr := by
     rw [h0]
     have : arr.size = 0 := by
      have : arr = madeCells zv.cells (len * i.size) := by rw [← hzs, KB, z2]
      rw [this, size_madeCells, h0]
     apply Array.ext_getElem?
     intro k
     rw [Array.getElem?_eq_none (by simp), Array.getElem?_eq_none (by omega)]
    simp only [execOp, ho, Instr.buildSlice, Sem.run_bind, run_underlying hel, Result.andThen_ok, zU hT hi, h0, if_true, Sem.run_pure, hparts, gt_iff_lt, Nat.not_lt_zero, if_false]
    rw [h0] at this
    simp only [this, f1, newRow, Sem.run_bind, run_newObj_alloc, Result.andThen_ok, Sem.run_pure]
   ·simp only [execOp, ho, Instr.buildSlice, Sem.run_bind, run_underlying hel, Result.andThen_ok, zU hT hi, hl, if_false, h0, z1, Sem.run_pure, hparts, harr zv.cells z2, f1, newRow, run_newObj_alloc]
  ·simp only [VR]
   exact ⟨_, 0, len, zS _ _ _, rfl, Nat.le_refl _, fun _ => rfl, rfl⟩
 ·exact (zn g4).elim
theorem wU {t ty e : TypeId} {i : TypeInfo} (ht : P.underlying t = some (.slice e)) (hi : P.info? e = some i) (p q : Option Addr) (n c m : Nat) (hn : n ≤ c) (w : World) :
  (Builtin.append_ #[t, t] ty #[.slice p n c, .slice q 0 m]).run P w = .ok (.slice p n c) w := by
 cases p <;> cases q <;> simp [Builtin.append_, run_underlying ht, Go.sizeOf, typeInfo, hi, Builtin.lenOf, hn, Builtin.firstCells, loadCells, loadCellsFrom, storeCells]
theorem kD {t ty e bty : TypeId} {i : TypeInfo} (ht : P.underlying t = some (.slice e)) (hi : P.info? e = some i) (w : World)
  (g q n c : Nat) (cur : Array Value) (hg : w.heap[g]? = some (.cells cur bty (0, 0)))
  (a : Addr) (m d : Nat) (news : List Value) (hl : news.length = m * i.size) (hnews : ∀ j u, news[j]? = some u → w.cell? (a.add j) = some u) (h1 : ∀ u ∈ news, u.oneCell' = true)
  (hroom : n + m ≤ c) (hfit : q + n * i.size + news.length ≤ cur.size) :
  (Builtin.append_ #[t, t] ty #[.slice (some ⟨g, q, none⟩) n c, .slice (some a) m d]).run P w = .ok (.slice (some ⟨g, q, none⟩) (n + m) c) (w.setRow g (ud cur (q + n * i.size) news)) := by
 have hf := run_firstCells_some (P := P) w i.size m a m d news hl hnews
 have hst := run_storeCells_at P g (q + n * i.size) bty news 0 cur w hg (by simpa using hfit) h1
 simp only [Nat.add_zero] at hst
 rw [xa hfit] at hst
 simp [Builtin.append_, run_underlying ht, Go.sizeOf, typeInfo, hi, Builtin.lenOf, hroom, hf, Addr.add_lit, hst]
theorem kx (z : Array Value) (k : Nat) : (Builtin.zeroCells z k).size = k * z.size := by simp [Builtin.zeroCells]
def Src (C : Ctx) (ρ : Pl) (w : World) (z m : Nat) (ys : List V) (u : Value) : Prop :=
 ∃ p d cs, u = .slice p m d ∧ VRs C.S ρ ys cs ∧ cs.length = m * z ∧ (∀ v ∈ cs, v.oneCell' = true) ∧ (m = 0 ∨ ∃ ad, p = some ad ∧ ∀ (j : Nat) (v : Value), cs[j]? = some v → w.cell? (ad.add j) = some v)
theorem z0c {S : z8} : ∀ {as_ : List A} {cs : List Value}, zV S as_ cs → ∀ u ∈ cs, u.oneCell' = true := fun h => h.one
theorem z4Z (h : Sim C N ρ st a w Ds) {z m : Nat}  {ys : List V}   (e : elems z x st = some ((m, ys), R, U))  (hx : VR C.S ρ x u) : U = [] ∧ Src C ρ w z m ys u := by
 unfold elems at e
 split at e
 ·obtain ⟨q, rfl, rfl⟩ := zf e
  cases q
  simp only [VR] at hx
  subst hx
  exact ⟨rfl, none, 0, [], rfl, by simp [VRs], by simp, by simp, .inl rfl⟩
 ·rename_i b q z' ll c
  obtain ⟨k, R1, U1, R2, U2, g1, g2, rfl, rfl⟩ := bind_some e
  obtain ⟨rfl, hk⟩ := XK g1
  simp only [z7] at g2
  split at g2
  ·rename_i hc
   obtain ⟨q', rfl, rfl⟩ := zf g2
   cases q'
   obtain ⟨rfl, hfit⟩ := hc
   simp only [VR] at hx
   obtain ⟨p, o', c', hp, rfl, h1, h2, h3⟩ := hx
   obtain ⟨cs, c1, c2, c3, c4⟩ := W1 h.h hk hp q (m * z') hfit
   refine ⟨rfl, some ⟨p.B, o', none⟩, c', cs, rfl, c1, c2, c3, ?_⟩
   by_cases hl : m = 0
   ·exact .inl hl
   ·have ho := h2 (by omega)
    subst ho
    refine .inr ⟨_, rfl, ?_⟩
    intro j v hj
    rw [Addr.add_lit, xR]
    exact c4 j v hj
  ·exact (zn g2).elim
 ·rename_i z' tg xs
  obtain ⟨cs, R1, U1, R2, U2, g1, g2, rfl, rfl⟩ := bind_some e
  obtain ⟨hcs, rfl, rfl⟩ := zp g1
  simp only [z7] at g2
  split at g2
  ·rename_i hc
   obtain ⟨q', rfl, rfl⟩ := zf g2
   cases q'
   obtain ⟨rfl, hlen⟩ := hc
   simp only [VR, Rep] at hx
   obtain ⟨p, c, hl, q1, q2, q3, q4⟩ := hx
   simp only [List.cons.injEq, and_true] at hl
   subst hl
   rcases q4 with rfl | ⟨b, q, l, rfl, r1, r2⟩
   ·simp only [qC, Option.some.injEq] at hcs; subst hcs
    exact ⟨rfl, p, c, [], rfl, by simp [VRs], by simp, by simp, .inl rfl⟩
   ·have hv := Zr (ρ := ρ) hcs r1
    refine ⟨rfl, _, c, l, rfl, hv, by rw [hv.len, hlen], z0c r1, .inr ⟨_, rfl, ?_⟩⟩
    intro j v hj
    rw [Addr.add_lit, xR]
    exact h.h.still _ _ _ (r2 j v hj)
  ·exact (zn g2).elim
 ·exact (zn e).elim
theorem YC (h : Sim C N ρ st a w Ds) (hn : ρ n = none) {z m cap : Nat}   (hr : VRs C.S ρ xs cs) (h1 : ∀ u ∈ cs, u.oneCell' = true) (hl : cs.length = m * z) (hcap : m ≤ cap) (zs : Array Value) (hz : zs.size = z) (ty : TypeId)
    {v : V} {R : List Key} {U : Ups} (e : grow n z m xs st = some (v, R, U)) :
    ∃ ρ', Ext n (n + 1) ρ ρ' ∧ Sim C N ρ' (z7 U st) a (w.drew.alloc (.cells (cs.toArray ++ Builtin.zeroCells zs (cap - m)) ty)) Ds ∧ VR C.S ρ' v (.slice (some ⟨w.heap.size, 0, none⟩) m cap) := by
  unfold grow at e
  obtain ⟨u7, R7, U7, R8, U8, g7, g8, rfl, rfl⟩ := bind_some e
  obtain ⟨rfl, rfl, rfl⟩ := zf g8
  simp only [List.append_nil]
  have hsz : (cs.toArray ++ Builtin.zeroCells zs (cap - m)).size = cap * z := by
    simp only [Array.size_append, List.size_toArray, kx, hz, hl, ← Nat.add_mul]
    congr 1; omega
  have hnew := Jq h.drew hn hr h1 false (cs.toArray ++ Builtin.zeroCells zs (cap - m)) (by
    rw [Array.toList_append]; exact List.take_left) (by simp) ty g7
  refine ⟨_, Ext.set _ hn (Nat.lt_succ_self _), hnew, ?_⟩
  simp only [VR]
  refine ⟨_, 0, cap, zS _ _ _, rfl, hcap, fun _ => rfl, ?_⟩
  simp only [Nat.zero_add, Nat.add_zero]
  exact hsz.symm
theorem z4m (l xs : List V) {q : Nat} (h : l.length = q) : Qq l q xs = l ++ xs := by subst h; simp [Qq]
theorem V6 (hT : ue P tt) (h : Sim C N ρ st a w Ds) (hn : ρ n = none)  {s x : Operand} {sv xv v : V}   (e : appendV tt n t sv xv st = some (v, R, U)) (hs : VR C.S ρ sv (a.eval s)) (hx : VR C.S ρ xv (a.eval x))
  (ho : o.op = .call { callee := .builtin .append, args := #[s, x], argTypes := #[t, t] }) : Res P C N n (n + 1) o ρ a w Ds v (z7 U st) := by
 unfold appendV at e
 obtain ⟨⟨el, i⟩, R1, U1, R2, U2, g1, g2, rfl, rfl⟩ := bind_some e
 obtain ⟨hsl, rfl, rfl⟩ := zp g1
 simp only [z7, List.nil_append] at g2 ⊢
 obtain ⟨hel, hi⟩ := jy hT hsl
 obtain ⟨f, f1, f2, f3, f4⟩ := (hT _ _ hi).info
 split at g2
 ·rename_i hcond
  obtain ⟨cb, csz, czs⟩ := hcond
  obtain ⟨z, hz⟩ := Option.isSome_iff_exists.1 czs
  obtain ⟨zv, v1, v2, v3, v4, v5⟩ := f4 z hz
  have hzs : zv.cells.size = i.size := by rw [← v4, ← v2]; simp
  obtain ⟨⟨m, ys⟩, R3, U3, R4, U4, g3, g4, rfl, rfl⟩ := bind_some g2
  obtain ⟨rfl, p, d, cs, exv, y1, y2, y3, y4⟩ := z4Z h g3 hx
  simp only [z7, List.nil_append] at g4 ⊢
  have fin : ∀ {w' : World} {cv : Value}, (Builtin.append_ #[t, t] o.type #[a.eval s, a.eval x]).run P w = .ok cv w' → (execOp a.eval o).run P w = .ok (.value cv) w' := by
   intro w' cv hr
   simp [execOp, ho, resolve, invoke, builtin, hr]
  have lit : ∀ q, q ≤ lim → q ≤ 16777216 := fun q hq => hq
  have bytes : ∀ q, q ≤ lim → q * f.bytes ≤ 140737488355328 := by
   intro q hq
   have : q * f.bytes ≤ 16777216 * 4096 := Nat.mul_le_mul (lit q hq) (by omega)
   omega
  split at g4
  ·
   simp only [VR] at hs
   by_cases hm : m = 0
   ·subst hm
    simp only [if_true] at g4
    obtain ⟨rfl, rfl, rfl⟩ := zf g4
    refine Res.here h (fin ?_) (Wg _)
    rw [exv, hs]
    exact wU hel f1 none p 0 0 d (Nat.le_refl _) w
   ·rw [if_neg hm] at g4
    split at g4
    ·rename_i hlim
     rcases y4 with y4 | ⟨ad, rfl, y4⟩
     ·exact absurd y4 hm
     ·have hr := run_append_nil (P := P) w t o.type el f zv hel f1 v1 ad m d cs (by rw [f2]; exact y2) y4 (by omega) (by have := lit m hlim; omega) (by have := bytes m hlim; omega)
      obtain ⟨ρ', k1, k2, k3⟩ := YC h hn y1 y3 y2 (grownCap_ge w m 0 el) zv.cells hzs el g4
      exact ⟨ρ', _, _, fin (by rw [exv, hs]; exact hr), k1, k2, k3⟩
    ·exact (zn g4).elim
  ·
   rename_i z' xs
   obtain ⟨cx, R5, U5, R6, U6, g5, g6, rfl, rfl⟩ := bind_some g4
   obtain ⟨hcx, rfl, rfl⟩ := zp g5
   simp only [z7, List.nil_append] at g6 ⊢
   split at g6
   ·rename_i hc
    obtain ⟨rfl, hm, hlim⟩ := hc
    simp only [VR, Rep] at hs
    obtain ⟨pp, c, hl, q1, q2, q3, q4⟩ := hs
    simp only [List.cons.injEq, and_true] at hl
    have hcc := q1 trivial
    subst hcc
    rcases y4 with y4 | ⟨ad, rfl, y4⟩
    ·exact absurd y4 hm
    ·rcases q4 with rfl | ⟨b, q, l, rfl, r1, r2⟩
     ·simp only [qC, Option.some.injEq] at hcx; subst hcx
      simp only [List.length_nil, Nat.zero_add, List.nil_append] at g6 hlim hl
      cases pp with
      | none =>
       have hr := run_append_nil (P := P) w t o.type el f zv hel f1 v1 ad m d cs (by rw [f2]; exact y2) y4 (by omega) (by have := lit m hlim; omega) (by have := bytes m hlim; omega)
       obtain ⟨ρ', k1, k2, k3⟩ := YC h hn y1 y3 y2 (grownCap_ge w m 0 el) zv.cells hzs el g6
       exact ⟨ρ', _, _, fin (by rw [exv, hl]; exact hr), k1, k2, k3⟩
      | some pa =>
       have hr := run_append_grow (P := P) w t o.type el f zv hel f1 v1 pa 0 0 [] (by simp) (by simp) ad m d cs (by rw [f2]; exact y2) y4 (by omega) (by have := lit m hlim; omega) (growslice_fits (by omega) (by have := bytes m hlim; simpa using this))
       simp only [Nat.zero_add] at hr
       obtain ⟨ρ', k1, k2, k3⟩ := YC h hn y1 y3 y2 (grownCap_ge w m 0 el) zv.cells hzs el g6
       exact ⟨ρ', _, _, fin (by rw [exv, hl]; simpa using hr), k1, k2, k3⟩
     ·have hv := Zr (ρ := ρ) hcx r1
      have hll : l.length = xs.length * i.size := by rw [r1.len, A.sizes_const q3]
      have hr := run_append_grow (P := P) w t o.type el f zv hel f1 v1 ⟨b, q, none⟩ xs.length xs.length l (by rw [f2]; exact hll) (fun j u hj => by rw [Addr.add_lit, xR]; exact h.h.still _ _ _ (r2 j u hj)) ad m d cs (by rw [f2]; exact y2) y4 (by omega) (by have := lit _ hlim; omega) (growslice_fits (by omega) (bytes _ hlim))
      obtain ⟨ρ', k1, k2, k3⟩ := YC h hn (hv.append y1) (by intro u hu; rcases List.mem_append.1 hu with hu | hu; exact z0c r1 u hu; exact y3 u hu) (by rw [List.length_append, hll, y2, Nat.add_mul]) (grownCap_ge w (xs.length + m) xs.length el) zv.cells hzs el g6
      refine ⟨ρ', _, _, fin (by rw [exv, hl]; exact hr), k1, ?_, k3⟩
      simpa using k2
   ·exact (zn g6).elim
  ·
   rename_i b q z' l c
   simp only [VR] at hs
   obtain ⟨pl, o', c', hpl, es, s1, s2, s3⟩ := hs
   by_cases hm : m = 0
   ·subst hm
    simp only [if_true] at g4
    obtain ⟨rfl, rfl, rfl⟩ := zf g4
    refine Res.here h (fin ?_) (by simp only [VR]; exact ⟨pl, o', c', hpl, es, s1, s2, s3⟩)
    rw [exv, es]
    exact wU hel f1 _ p l c' d s1 w
   ·rw [if_neg hm] at g4
    rcases y4 with y4 | ⟨ad, rfl, y4⟩
    ·exact absurd y4 hm
    split at g4
    ·rename_i hc
     obtain ⟨rfl, hlim⟩ := hc
     unfold appendSl at g4
     obtain ⟨k, R5, U5, R6, U6, g5, g6, rfl, rfl⟩ := bind_some g4
     obtain ⟨rfl, hk⟩ := XK g5
     simp only [z7, List.nil_append] at g6 ⊢
     obtain ⟨p', arr, ty, t1, t2, t3, t4, t5, t6⟩ := KP (h := h.h) hk
     rw [hpl] at t1; cases t1
     have hlm : (l + m) * i.size = l * i.size + m * i.size := Nat.add_mul _ _ _
     have hmpos : 0 < m * i.size := Nat.mul_pos (by omega) csz
     split at g6
     ·
      rename_i hroom
      obtain ⟨hr1, hr2⟩ := hroom
      obtain ⟨u7, R7, U7, R8, U8, g7, g8, rfl, rfl⟩ := bind_some g6
      obtain ⟨rfl, rfl, rfl⟩ := zf g8
      simp only [List.append_nil]
      have hle : l + m ≤ c' := by
       cases c with
       | some r =>
        simp only at s3
        subst s3
        simpa [z6X] using hr2
       | none =>
        simp only at s3
        have h1 : (l + m) * i.size ≤ c' * i.size := by omega
        exact Nat.le_of_mul_le_mul_right h1 csz
      have ho' := s2 (by omega)
      subst ho'
      obtain ⟨p', arr', ty', d1, d2, d3, d4⟩ := z2f h g7 y1 y3
      rw [hpl] at d1; cases d1
      have hrun := kD (ty := o.type) hel f1 w pl.B (pl.O + q) l c' arr' d2 ad m d cs (by rw [f2]; exact y2) y4 y3 hle (by rw [f2]; omega)
      refine ⟨ρ, _, _, fin (by rw [exv, es]; exact hrun), Ext.refl _ _ _, ?_, ?_⟩
      ·rw [f2, Nat.add_assoc pl.O q (l * i.size)]; exact d4
      ·simp only [VR]; exact ⟨pl, _, c', hpl, rfl, hle, fun _ => rfl, s3⟩
     ·split at g6
      ·
       rename_i hfull
       obtain ⟨hr1, hr2⟩ := hfull
       cases c with
       | none => simp [JL] at hr2
       | some r =>
        simp only at s3
        subst s3
        have hlt : c' < l + m := by simpa [JL] using hr2
        obtain ⟨olds, c1, c2, c3, c4⟩ := W1 h.h hk hpl q (l * i.size) hr1
        have hr := run_append_grow (P := P) w t o.type el f zv hel f1 v1 ⟨pl.B, o', none⟩ l c' olds (by rw [f2]; exact c2) (fun j u hj => by
         have hlp : l ≠ 0 := by
          rintro rfl
          have := (List.getElem?_eq_some_iff.1 hj).1
          rw [c2] at this; simp at this
         have ho' := s2 (by omega)
         subst ho'
         rw [Addr.add_lit, xR]; exact c4 j u hj) ad m d cs (by rw [f2]; exact y2) y4 hlt (by have := lit _ hlim; omega) (growslice_fits hlt (bytes _ hlim))
        obtain ⟨ρ', k1, k2, k3⟩ := YC h hn (c1.append y1) (by intro u hu; rcases List.mem_append.1 hu with hu | hu; exact c3 u hu; exact y3 u hu) (by rw [List.length_append, c2, y2, Nat.add_mul]) (grownCap_ge w (l + m) c' el) zv.cells hzs el g6
        refine ⟨ρ', _, _, fin (by rw [exv, es]; exact hr), k1, ?_, k3⟩
        simpa using k2
      ·split at g6
       ·
        rename_i hmove
        obtain ⟨hr1, rfl, hex⟩ := hmove
        simp only at s3
        unfold moveV at g6
        obtain ⟨fl, R7, U7, R8, U8, g7, g8, rfl, rfl⟩ := bind_some g6
        have hfn : k.fam ≤ n := by
         rcases Nat.lt_or_ge n k.fam with h1 | h1
         ·rw [if_neg (by omega)] at g7; exact (zn g7).elim
         ·exact h1
        rw [if_pos hfn] at g7
        obtain ⟨rfl, hfl⟩ := z0g g7
        obtain ⟨u8, R8', U8', R8'', U8'', g8', g80, rfl, rfl⟩ := bind_some g8
        have htop : fl.top ≤ n + 1 := by
         rcases Nat.lt_or_ge (n + 1) fl.top with h1 | h1
         ·rw [if_neg (by omega)] at g8'; exact (zn g8').elim
         ·exact h1
        rw [if_pos htop] at g8'
        obtain ⟨_, rfl, rfl⟩ := zf g8'
        simp only [z7, List.nil_append] at g80 ⊢
        obtain ⟨u9, R9, U9, R10, U10, g9, g10, rfl, rfl⟩ := bind_some g80
        obtain ⟨rfl, rfl⟩ := wd g9
        obtain ⟨u11, R11, U11, R12, U12, g11, g12, rfl, rfl⟩ := bind_some g10
        obtain ⟨rfl, rfl⟩ := wd g11
        obtain ⟨u13, R13, U13, R14, U14, g13, g14, rfl, rfl⟩ := bind_some g12
        obtain ⟨u15, R15, U15, R16, U16, g15, g16, rfl, rfl⟩ := bind_some g14
        obtain ⟨rfl, rfl⟩ := wd g15
        obtain ⟨rfl, rfl, rfl⟩ := zf g16
        simp only [List.append_nil, List.cons_append, List.nil_append, z7, zl] at g13 ⊢
        obtain ⟨tk1, tk2, tk3⟩ := Yl n _ _ _ fl.l g13
        have hbn : b ≠ n := by rintro rfl; rw [hn] at hpl; cases hpl
        obtain ⟨n0, hn0⟩ : ∃ n0 : Blk, n0 = ⟨(k.cells.drop q).take (l * i.size), false, k.fam, k.foff + q⟩ := ⟨_, rfl⟩
        have hlen0 : n0.cells.length = l * i.size := by
         rw [hn0]; simp only [List.length_take, List.length_drop]; omega
        obtain ⟨st1, hst1⟩ : ∃ st1 : St, st1 = upd (upd st (.b n) (.k ⟨(k.cells.drop q).take (l * i.size), false, k.fam, k.foff + q⟩)) (.f k.fam) (.m ⟨n + 1, n :: fl.l⟩) := ⟨_, rfl⟩
        rw [← hst1] at g13 tk1 tk2 tk3 ⊢
        have hb1 : ∀ j, st1 (.b j) = if j = n then .k n0 else st (.b j) := by
         intro j
         rw [hst1, zt _ _ (by simp), hn0]
         by_cases e : j = n
         ·subst e; simp [zC]
         ·rw [zt _ _ (by simpa using e)]; simp [e]
        have hf1 : ∀ j, st1 (.f j) = if j = k.fam then .m ⟨n + 1, n :: fl.l⟩ else st (.f j) := by
         intro j
         rw [hst1]
         by_cases e : j = k.fam
         ·subst e; simp [zC]
         ·rw [zt _ _ (by simpa using e), zt _ _ (by simp)]; simp [e]
        have hs1 : ∀ j, st1 (.s j) = st (.s j) := by
         intro j
         rw [hst1, zt _ _ (by simp), zt _ _ (by simp)]
        have hall : (⟨(k.cells.drop q).take (l * i.size) ++ ys, false, k.fam, k.foff + q⟩ : Blk) = { n0 with cells := Qq n0.cells (l * i.size) ys } := by
         rw [hn0]
         have : ((k.cells.drop q).take (l * i.size)).length = l * i.size := by simp only [List.length_take, List.length_drop]; omega
         simp only [Blk.mk.injEq, and_true]
         exact (z4m _ _ this).symm
        rw [hall]
        by_cases hcap : l + m ≤ c'
        ·
         have ho' := s2 (by omega)
         subst ho'
         have hfit : pl.O + q + (l + m) * i.size ≤ arr.size := by
          have : (l + m) * i.size ≤ c' * i.size := Nat.mul_le_mul_right _ hcap
          omega
         have hal := h.alias hn hk hpl hfl hfn htop q (l * i.size) hr1
         rw [← hst1] at hal
         have hs2 := hal.weak tk1
         have hstore := hs2.store (b := n) (k := n0) (p := ⟨pl.B, pl.O + q, pl.Z⟩) (by rw [tk2, hb1]; simp) (zS _ _ _) (arr := arr) (ty := ty) t2 (o := l * i.size) (xs := ys) (cs := cs) (by omega) (by show pl.O + q + l * i.size + cs.length ≤ _; omega) (by rw [hn0]; simp) (y1.mono (jz _ hn)) y3 (by
          intro mm km hmn hkm hf i' x' hx' e1 e2
          obtain ⟨km0, j1, j2⟩ := tk1.blk hkm
          rw [hb1] at j1
          simp only [hmn, if_false] at j1
          obtain ⟨_, l', j3, j4⟩ := h.h.fam mm km0 j1
          have hfam : km.fam = k.fam := by rw [hf, hn0]
          rw [← j2.1, hfam, hfl] at j3
          cases j3
          have hfo : n0.foff = k.foff + q := by rw [hn0]
          rw [hfo] at e1 e2
          exact tk3 mm j4.1 hmn km hkm hfam i' x' hx' e1 e2)
         have hrun := kD (ty := o.type) hel f1 w pl.B (pl.O + q) l c' arr t2 ad m d cs (by rw [f2]; exact y2) y4 y3 hcap (by rw [f2]; omega)
         refine ⟨wT ρ n ⟨pl.B, pl.O + q, pl.Z⟩, _, _, fin (by rw [exv, es]; exact hrun), Ext.set _ hn (Nat.lt_succ_self _), ?_, ?_⟩
         ·rw [f2]; exact hstore
         ·simp only [VR]
          exact ⟨_, pl.O + q, c', zS _ _ _, rfl, hcap, fun _ => rfl, by simp only [Nat.add_zero]; exact s3⟩
        ·
         have hlt : c' < l + m := by omega
         obtain ⟨olds, c1, c2, c3, c4⟩ := W1 h.h hk hpl q (l * i.size) hr1
         have hr := run_append_grow (P := P) w t o.type el f zv hel f1 v1 ⟨pl.B, o', none⟩ l c' olds (by rw [f2]; exact c2) (fun j u hj => by
          have hlp : l ≠ 0 := by
           rintro rfl
           have := (List.getElem?_eq_some_iff.1 hj).1
           rw [c2] at this; simp at this
          have ho' := s2 (by omega)
          subst ho'
          rw [Addr.add_lit, xR]; exact c4 j u hj) ad m d cs (by rw [f2]; exact y2) y4 hlt (by have := lit _ hlim; omega) (growslice_fits hlt (bytes _ hlim))
         have hge := grownCap_ge w (l + m) c' el
         obtain ⟨cap, hcapd⟩ : ∃ cap, cap = grownCap w (l + m) c' el := ⟨_, rfl⟩
         rw [← hcapd] at hr hge
         obtain ⟨row, hrow⟩ : ∃ row : Array Value, row = olds.toArray ++ cs.toArray ++ Builtin.zeroCells zv.cells (cap - (l + m)) := ⟨_, rfl⟩
         rw [← hrow] at hr
         have hrsz : row.size = cap * i.size := by
          rw [hrow]
          simp only [Array.size_append, List.size_toArray, kx, hzs, c2, y2, ← Nat.add_mul]
          congr 1; omega
         obtain ⟨stW, hstW⟩ : ∃ stW : St, stW = fun key => match key with | .b j => if j = n then st (.b n) else (z7 U13 st1) (.b j) | key => st key := ⟨_, rfl⟩
         have hwk : K1 st stW := by
          rw [hstW]
          refine ⟨fun _ => rfl, fun _ => rfl, fun j => ?_⟩
          by_cases e : j = n
          ·subst e; left; simp
          ·simp only [e, if_false]
           rcases tk1.b j with d1 | ⟨k1, k2, d1, d2, d3⟩
           ·left; rw [d1, hb1]; simp [e]
           ·right; rw [hb1] at d1; simp only [e, if_false] at d1; exact ⟨k1, k2, d1, d2, d3⟩
         have hsW := h.drew.weak hwk
         have hnew := hsW.new hn (.cells row el) (.k { n0 with cells := Qq n0.cells (l * i.size) ys }) row.size (by
          refine ⟨row, el, World.alloc_heap_new _ _, rfl, ?_, ?_, ?_⟩
          ·simp only [Nat.zero_add, ZX (show l * i.size ≤ n0.cells.length by omega), y1.len.symm, y2, hrsz, hlen0]
           have : (l + m) * i.size ≤ cap * i.size := Nat.mul_le_mul_right _ hge
           omega
          ·rw [hn0]; simp
          ·intro j x hx
           have hxx : (VRs C.S ρ ((k.cells.drop q).take (l * i.size) ++ ys) (olds ++ cs)) := c1.append y1
           have hx2 : ((k.cells.drop q).take (l * i.size) ++ ys)[j]? = some x := by
            have := congrArg Blk.cells hall
            simp only at this
            rw [this]; exact hx
           obtain ⟨vv, e1, e2⟩ := hxx.get hx2
           refine ⟨vv, ?_, e2.mono (jz _ hn), ?_⟩
           ·rw [Nat.zero_add, hrow, ← Array.getElem?_toList]
            simp only [Array.toList_append]
            rw [List.getElem?_append_left (by have := (List.getElem?_eq_some_iff.1 e1).1; simpa using this)]
            exact e1
           ·rcases List.mem_append.1 (List.mem_of_getElem? e1) with hu | hu
            ·exact c3 _ hu
            ·exact y3 _ hu) (st' := upd (z7 U13 st1) (.b n) (.k { n0 with cells := Qq n0.cells (l * i.size) ys }))
          (by
           intro j
           by_cases e : j = n
           ·subst e; simp [zC]
           ·rw [zt _ _ (by simpa using e), hstW]; simp [e])
          (by intro j; rw [zt _ _ (by simp), tk1.s, hs1, hstW])
          (by
           intro b' k' hk'
           obtain ⟨_, l', j3, j4⟩ := hsW.h.fam b' k' hk'
           rw [zt _ _ (by simp), tk1.f, hf1]
           have j3' : st (.f k'.fam) = .m l' := by rw [hstW] at j3; exact j3
           by_cases e : k'.fam = k.fam
           ·rw [e, hfl] at j3'; cases j3'
            exact ⟨⟨n + 1, n :: fl.l⟩, by simp [e], by simp [j4.1], by have := j4.2; show b' < n + 1; omega⟩
           ·exact ⟨l', by simp [e, j3'], j4⟩)
          (by
           intro k' hk'
           cases hk'
           obtain ⟨⟨⟨pf, hpf⟩, _⟩, _⟩ := h.h.fam b k hk
           have hfam : n0.fam = k.fam := by rw [hn0]
           refine ⟨⟨⟨pf, ?_⟩, by simp only [hfam]; exact hfn⟩, ⟨n + 1, n :: fl.l⟩, ?_, by simp [Fam.has]⟩
           ·simp only [hfam]; exact jz _ hn _ _ hpf
           ·simp only [hfam]; rw [zt _ _ (by simp), tk1.f, hf1]; simp)
         refine ⟨_, _, _, fin (by rw [exv, es]; exact hr), Ext.set _ hn (Nat.lt_succ_self _), hnew, ?_⟩
         simp only [VR]
         exact ⟨_, 0, cap, zS _ _ _, rfl, hge, fun _ => rfl, by simp only [Nat.zero_add]; exact hrsz.symm⟩
       ·exact (zn g6).elim
    ·exact (zn g4).elim
  ·exact (zn g4).elim
 ·exact (zn g2).elim
end
open Go.Own (A z8 zu Rep zV kY)
variable {vl vh vm : Option Value}{es : List (Value × V)}{c : Option Nat}
section
variable {P : Program} {tt : ET} {C : Ctx} {N n : Nat} {ρ : Pl} {st : St} {a : Act} {w : World} {Ds : List Nat} {o : Oper}
def wn (S : z8) (ρ : Pl) (x : Option V) (v : Option Value) : Prop :=
 match x, v with
 | none, none => True
 | some x, some v => VR S ρ x v
 | _, _ => False
theorem z2n (h : Sim C N ρ st a w Ds) {x : Option Operand} {v : Option V}   (e : opO x st = some (v, R, U)) : U = [] ∧ wn C.S ρ v (x.map a.eval) := by
 cases x with
 | none => obtain ⟨rfl, rfl, rfl⟩ := zf e; exact ⟨rfl, trivial⟩
 | some x =>
  simp only [opO] at e
  obtain ⟨y, R1, U1, R2, U2, h1, h2, rfl, rfl⟩ := bind_some e
  obtain ⟨rfl, q⟩ := y5 h h1
  obtain ⟨rfl, rfl, rfl⟩ := zf h2
  exact ⟨rfl, q⟩
theorem jY {S : z8} {d l : Nat} {v : Option Value} (e : qE d none = some l) (h : wn S ρ none v) : v = none ∧ l = d := by
 simp only [qE, Option.some.injEq] at e
 cases v with
 | none => exact ⟨rfl, e.symm⟩
 | some _ => exact h.elim
theorem vM {S : z8} {d l : Nat}  {v : Option Value} (e : qE d (some x) = some l) (h : wn S ρ (some x) v) : ∃ k, v = some (.int k l) := by
 cases v with
 | none => exact h.elim
 | some v =>
  unfold qE at e
  split at e
  ·cases ‹some _ = none›
  ·rename_i k m hx
   cases hx
   split at e
   ·rename_i hm
    simp only [Option.some.injEq] at e
    simp only [wn, VR] at h
    subst h
    exact ⟨k, by rw [← e, Int.toNat_of_nonneg hm]⟩
   ·cases e
  ·cases e
theorem yu (k : IntKind) (i y : Nat) (c : BoundsCode) (h : i ≤ y) (w : World) : (Instr.sliceBound (.int k i) y c).run P w = .ok i w := by
 have : (0 : Int) ≤ i ∧ (i : Int) ≤ y := by omega
 simp [Instr.sliceBound, asIntOf, this]
theorem je {S : z8} (sl : Bool) (n c l h : Nat) {lo hi mx : Option V}  (hlo : wn S ρ lo vl) (hhi : wn S ρ hi vh) (hmx : wn S ρ mx vm) (e1 : qE 0 lo = some l) (e2 : qE n hi = some h) (m : Nat)
  (e3 : (mx = none ∧ m = c) ∨ (∃ x, mx = some x ∧ qE 0 mx = some m ∧ hi ≠ none)) (h1 : l ≤ h) (h2 : h ≤ m) (h3 : m ≤ c) (w : World) : (Instr.sliceBounds sl n c vl vh vm).run P w = .ok (l, h, m) w := by
 unfold Instr.sliceBounds
 rcases e3 with ⟨rfl, rfl⟩ | ⟨x, rfl, e3, e4⟩
 ·cases vm with
  | some _ => exact hmx.elim
  | none =>
   cases hi with
   | none =>
    obtain ⟨rfl, rfl⟩ := jY e2 hhi
    cases lo with
    | none => obtain ⟨rfl, rfl⟩ := jY e1 hlo; simp
    | some x => obtain ⟨k, rfl⟩ := vM e1 hlo; simp [yu k l h _ h1]
   | some y =>
    obtain ⟨k2, rfl⟩ := vM e2 hhi
    cases lo with
    | none => obtain ⟨rfl, rfl⟩ := jY e1 hlo; simp [yu k2 h m _ h2]
    | some x => obtain ⟨k, rfl⟩ := vM e1 hlo; simp [yu k l h _ h1, yu k2 h m _ h2]
 ·obtain ⟨k3, rfl⟩ := vM e3 hmx
  cases hi with
  | none => exact absurd rfl e4
  | some y =>
   obtain ⟨k2, rfl⟩ := vM e2 hhi
   cases lo with
   | none => obtain ⟨rfl, rfl⟩ := jY e1 hlo; simp [yu k2 h m _ h2, yu k3 m c _ h3]
   | some x => obtain ⟨k, rfl⟩ := vM e1 hlo; simp [yu k l h _ h1, yu k2 h m _ h2, yu k3 m c _ h3]
def z8c : Option Nat → Nat → Prop
 | some k, c' => c' = k
 | none, _ => True
theorem z0J {q c' : Nat} (h : JL c q = false ∧ c ≠ none) (hc : z8c c c') : q ≤ c' := by
 cases c with
 | none => exact absurd rfl h.2
 | some r => have := h.1; simp only [JL, decide_eq_false_iff_not] at this; simp only [z8c] at hc; omega
theorem z1a {S : z8} {t e b q z n' : Nat}  {lo hi mx : Option V}  (hv : Ke b q z n' c lo hi mx = some v)  (hx : VR S ρ (.sl b q z n' c) u)  (hlo : wn S ρ lo vl) (hhi : wn S ρ hi vh) (hmx : wn S ρ mx vm)
  (hk : P.underlying t = some (.slice e)) (hsz : (Go.sizeOf e).run P w = .ok z w) : ∃ vu, (Instr.sliceAt t u vl vh vm).run P w = .ok vu w ∧ VR S ρ v vu := by
 simp only [VR] at hx
 obtain ⟨p, o', c', hp, rfl, s1, s2, s3⟩ := hx
 have c3 : z8c c c' := by cases c with | none => trivial | some k => exact s3
 have run : ∀ l h m, (Instr.sliceBounds true n' c' vl vh vm).run P w = .ok (l, h, m) w → (Instr.sliceAt t (.slice (some ⟨p.B, o', none⟩) n' c') vl vh vm).run P w = .ok (.slice (if m = l then some ⟨p.B, o', none⟩ else some ⟨p.B, o' + l * z, none⟩) (h - l) (m - l)) w := by
  intro l h m hb
  simp only [Instr.sliceAt, Instr.slice, Sem.run_bind, run_underlying hk, Result.andThen_ok, hb, hsz, Sem.run_pure]
  split <;> simp [Addr.add_lit]
 have rel : ∀ l h m (cc : Option Nat), l ≤ h → h ≤ m → m ≤ c' → (match cc with | some k => m - l = k | none => p.O + (q + l * z) + (m - l) * z = p.Z) →
   VR S ρ (.sl b (q + l * z) z (h - l) cc) (.slice (if m = l then some ⟨p.B, o', none⟩ else some ⟨p.B, o' + l * z, none⟩) (h - l) (m - l)) := by
  intro l h m cc h1 h2 h3 h4
  simp only [VR]
  by_cases hml : m = l
  ·rw [if_pos hml]
   exact ⟨p, o', m - l, hp, rfl, by omega, by omega, h4⟩
  ·rw [if_neg hml]
   exact ⟨p, o' + l * z, m - l, hp, rfl, by omega, fun _ => by rw [s2 (by omega), Nat.add_assoc], h4⟩
 unfold Ke at hv
 split at hv
 ·rename_i l h e1 e2
  split at hv
  ·rename_i hc
   simp only [Option.some.injEq] at hv; subst hv
   have hh : h ≤ c' := by
    rcases hc.2 with h1 | h1
    ·omega
    ·exact z0J h1 c3
   have hb := je (P := P) true n' c' l h hlo hhi hmx e1 e2 c' (.inl ⟨rfl, rfl⟩) hc.1 hh (Nat.le_refl _) w
   refine ⟨_, run l h c' hb, rel l h c' _ hc.1 hh (Nat.le_refl _) ?_⟩
   cases c with
   | some r => simp only at s3 ⊢; simp only [Option.map_some]; omega
   | none =>
    simp only at s3 ⊢
    simp only [Option.map_none]
    have : c' * z = l * z + (c' - l) * z := by rw [← Nat.add_mul]; congr 1; omega
    omega
  ·cases hv
 ·rename_i l h m e1 e2
  split at hv
  ·rename_i mm hh e3
   split at hv
   ·rename_i hc
    simp only [Option.some.injEq] at hv; subst hv
    have hmm : mm ≤ c' := by
     rcases hc.2.2 with h1 | h1
     ·omega
     ·exact z0J h1 c3
    have hb := je (P := P) true n' c' l h hlo hhi hmx e1 e2 mm (.inr ⟨m, rfl, e3, by simp⟩) hc.1 hc.2.1 hmm w
    exact ⟨_, run l h mm hb, rel l h mm _ hc.1 hc.2.1 hmm rfl⟩
   ·cases hv
  ·cases hv
 ·cases hv
theorem Kf {S : z8} {t e z : Nat} {lo hi mx : Option V}  (hv : UF lo hi mx = some v)  (hlo : wn S ρ lo vl) (hhi : wn S ρ hi vh) (hmx : wn S ρ mx vm)
  (hk : P.underlying t = some (.slice e)) (hsz : (Go.sizeOf e).run P w = .ok z w) : ∃ vu, (Instr.sliceAt t (.slice none 0 0) vl vh vm).run P w = .ok vu w ∧ VR S ρ v vu := by
 have run : (Instr.sliceBounds true 0 0 vl vh vm).run P w = .ok (0, 0, 0) w → (Instr.sliceAt t (.slice none 0 0) vl vh vm).run P w = .ok (.slice none 0 0) w := by
  intro hb
  simp only [Instr.sliceAt, Instr.slice, Sem.run_bind, run_underlying hk, Result.andThen_ok, hb, hsz, Sem.run_pure]
  simp
 unfold UF at hv
 split at hv
 ·rename_i e1 e2
  simp only [Option.some.injEq] at hv; subst hv
  exact ⟨_, run (je (P := P) true 0 0 0 0 hlo hhi hmx e1 e2 0 (.inl ⟨rfl, rfl⟩) (Nat.le_refl _) (Nat.le_refl _) (Nat.le_refl _) w), Wg _⟩
 ·rename_i m e1 e2
  split at hv
  ·rename_i hh e3
   simp only [Option.some.injEq] at hv; subst hv
   exact ⟨_, run (je (P := P) true 0 0 0 0 hlo hhi hmx e1 e2 0 (.inr ⟨m, rfl, e3, by simp⟩) (Nat.le_refl _) (Nat.le_refl _) (Nat.le_refl _) w), Wg _⟩
  ·cases hv
 ·cases hv
theorem UE (hT : ue P tt) {S : z8}  {x v : V} {lo hi mx : Option V} (hv : z01 tt t x lo hi mx = some v)  (hx : VR S ρ x u)  (hlo : wn S ρ lo vl) (hhi : wn S ρ hi vh) (hmx : wn S ρ mx vm) (w : World) :
  ∃ vu, (Instr.sliceAt t u vl vh vm).run P w = .ok vu w ∧ VR S ρ v vu := by
 unfold z01 at hv
 split at hv
 ·split at hv
  ·rename_i he
   obtain ⟨e, h1, h2⟩ := xk hT he w
   exact z1a hv hx hlo hhi hmx h1 h2
  ·cases hv
 ·split at hv
  ·rename_i he
   obtain ⟨z, he⟩ := Option.isSome_iff_exists.1 he
   obtain ⟨e, h1, h2⟩ := xk hT he w
   simp only [VR] at hx
   subst hx
   exact Kf hv hlo hhi hmx h1 h2
  ·cases hv
 ·rename_i b q
  split at hv
  ·rename_i m el i ha
   obtain ⟨hk, hi'⟩ := Y8 hT ha
   split at hv
   ·rename_i l h e1 e2
    split at hv
    ·rename_i hc
     simp only [Option.some.injEq] at hv; subst hv
     simp only [VR] at hx
     obtain ⟨p, hp, rfl⟩ := hx
     have hb := je (P := P) false m m l h hlo hhi hmx e1 e2 m (.inl ⟨rfl, rfl⟩) hc.1 hc.2 (Nat.le_refl _) w
     refine ⟨_, by
      simp only [Instr.sliceAt, Sem.run_bind, run_underlying hk, Result.andThen_ok, Instr.sureAddr, hb, zU hT hi', Sem.run_pure]
      rfl, ?_⟩
     simp only [VR]
     by_cases hml : m = l
     ·rw [if_pos hml]
      exact ⟨p, p.O + q, m - l, hp, rfl, by omega, by omega, rfl⟩
     ·rw [if_neg hml]
      exact ⟨p, p.O + q + l * i.size, m - l, hp, by rw [Addr.add_lit], by omega, fun _ => by rw [Nat.add_assoc], rfl⟩
    ·cases hv
   ·cases hv
  ·cases hv
 ·cases hv
theorem z2k (hT : ue P tt) {S : z8} {t off : Nat}   (e : z4r tt t xs off = some x)  (h : VRs S ρ xs cs) (w : World) : ∃ v, (Go.part t cs.toArray off).run P w = .ok v w ∧ VR S ρ x v := by
 unfold z4r at e
 split at e
 ·rename_i i ht
  split at e
  ·rename_i hc
   have hsub : VRs S ρ ((xs.drop off).take i.size) ((cs.drop off).take i.size) := (h.drop off).take i.size
   obtain ⟨q1, q2⟩ := X8 e hsub
   refine ⟨_, ?_, q1⟩
   have hk := jd (hT t i ht).kind w
   have hlen := h.len
   unfold Go.part
   simp only [Sem.run_bind, hk, Result.andThen_ok, Sem.run_ite]
   by_cases hag : i.kind.isAgg = true
   ·simp only [hag, if_true, zU hT ht, Result.andThen_ok, Sem.run_pure]
    congr 2
    apply Array.ext_getElem?
    intro k
    simp [List.getElem?_take, List.getElem?_drop]
   ·simp only [hag, if_false, Bool.false_eq_true]
    have h1 := q2 (by simpa using hag)
    have hi1 : i.size = 1 := by
     rcases hc.2 with h2 | h2
     ·exact absurd h2 hag
     ·exact h2
    have hlt : off < cs.length := by omega
    have : cs.toArray[off]? = some cs[off] := by simp [hlt]
    simp only [this, Sem.run_pure]
    congr 1
    rw [hi1, List.take_one, List.head?_drop, List.getElem?_eq_getElem hlt]
    rfl
  ·cases e
 ·cases e
theorem z4T (hT : ue P tt) {S : z8} {t i : Nat} {x z : V} (e : z0O tt t i x = some z)  (hx : VR S ρ x u) (w : World) : ∃ v, (Instr.field t u i).run P w = .ok v w ∧ VR S ρ z v := by
 unfold z0O at e
 split at e
 ·rename_i fs _ _ _ _ xs ht
  split at e
  ·rename_i off ft hf
   simp only [VR] at hx
   obtain ⟨cs, h1, rfl⟩ := hx
   obtain ⟨fields, g1, g2, _⟩ := (hT _ _ ht).kind
   rw [← g2, List.getElem?_map] at hf
   obtain ⟨f, h4, h5⟩ := Option.map_eq_some_iff.1 hf
   cases h5
   have hfi : fields[i]? = some f := by simpa using h4
   obtain ⟨v, d1, d2⟩ := z2k hT e h1 w
   exact ⟨v, by simp only [Instr.field, Sem.run_bind, run_underlying g1, Result.andThen_ok, hfi, asAgg, Sem.run_pure]; exact d1, d2⟩
  ·cases e
 ·cases e
theorem Q4 (hT : ue P tt) {S : z8}  {x z : V}   (e : z0E tt t x j = some z)  (hx : VR S ρ x u) (w : World) : ∃ v, (Instr.index t u (.int k j)).run P w = .ok v w ∧ VR S ρ z v := by
 unfold z0E at e
 split at e
 ·rename_i h0
  split at e
  ·rename_i xs
   split at e
   ·rename_i m el i ha
    obtain ⟨hk, hi⟩ := Y8 hT ha
    split at e
    ·rename_i hj
     simp only [VR] at hx
     obtain ⟨cs, h1, rfl⟩ := hx
     obtain ⟨v, d1, d2⟩ := z2k hT e h1 w
     have hj' : j < (m : Int) := by omega
     exact ⟨v, by simp only [Instr.index, asIntOf, Sem.run_bind, Sem.run_pure, Result.andThen_ok, run_underlying hk, h0, hj', and_self, if_true, zU hT hi]; exact d1, d2⟩
    ·cases e
   ·cases e
  ·rename_i s
   split at e
   ·rename_i ht
    obtain ⟨b, hb, rfl⟩ := Option.map_eq_some_iff.1 e
    have hk : P.underlying t = some .string := (hT _ _ ht).kind
    simp only [VR] at hx
    subst hx
    exact ⟨_, by simp only [Instr.index, asIntOf, Sem.run_bind, Sem.run_pure, Result.andThen_ok, run_underlying hk, h0, if_true, hb], Wg _⟩
   ·cases e
  ·cases e
 ·cases e
theorem Xh {S : z8} {x z : V} {i : Nat} (e : XW x i = some z)  (hx : VR S ρ x u) (w : World) : ∃ v, (Instr.extract u i).run P w = .ok v w ∧ VR S ρ z v := by
 unfold XW at e
 split at e
 ·simp only [VR] at hx
  obtain ⟨vs, h1, rfl⟩ := hx
  obtain ⟨v, h2, h3⟩ := h1.get e
  exact ⟨v, by simp [Instr.extract, h2], h3⟩
 ·cases e
theorem Y1 {S : z8} {x : Operand} {y z : V} (e : Yz y = some z) (hx : VR S ρ y (a.eval x)) (ho : o.op = .nilCheck x) (w : World) : (execOp a.eval o).run P w = .ok (.value (a.eval x)) w ∧ VR S ρ z (a.eval x) := by
 unfold Yz at e
 split at e
 ·simp only [Option.some.injEq] at e; subst e
  refine ⟨?_, hx⟩
  simp only [VR] at hx
  obtain ⟨p, _, hv⟩ := hx
  simp [execOp, ho, hv]
 ·simp only [Option.some.injEq] at e; subst e
  refine ⟨?_, hx⟩
  simp only [VR] at hx
  obtain ⟨vs, _, hv⟩ := hx
  simp [execOp, ho, hv]
 ·simp only [Option.some.injEq] at e; subst e
  refine ⟨?_, hx⟩
  simp only [VR] at hx
  obtain ⟨p, _, hv⟩ := hx
  simp [execOp, ho, hv]
 ·simp only [Option.some.injEq] at e; subst e
  refine ⟨?_, hx⟩
  simp only [VR, Rep] at hx
  obtain ⟨b, q, l, hv, _⟩ := hx
  simp only [List.cons.injEq, and_true] at hv
  simp [execOp, ho, hv]
 ·cases e
theorem z7e {S : z8} {mx : Bool} {x y z : V} (e : zcM mx x y = some z) {u v : Value} (hx : VR S ρ x u) (hy : VR S ρ y v) (w : World) : ∃ r, (if mx = true then Builtin.max2 u v else Builtin.min2 u v).run P w = .ok r w ∧ VR S ρ z r := by
 unfold zcM at e
 split at e
 ·simp only [Option.some.injEq] at e; subst e
  simp only [VR] at hx hy
  subst hx; subst hy
  cases mx
  ·exact ⟨_, by simp [Builtin.min2]; rfl, by simp only [VR, Bool.false_eq_true, if_false]⟩
  ·exact ⟨_, by simp [Builtin.max2]; rfl, by simp only [VR, if_true]⟩
 ·cases e
theorem Q2 {S : z8} (mx : Bool) (w : World) : ∀ {ys : List V} {x z : V} {u : Value} {vs : List Value}, Jt mx x ys = some z → VR S ρ x u → VRs S ρ ys vs → ∃ r, (vs.foldlM (fun x y => if mx = true then Builtin.max2 x y else Builtin.min2 x y) u).run P w = .ok r w ∧ VR S ρ z r
 | [], x, z, u, vs, e, hx, hy => by
  simp only [Jt, Option.some.injEq] at e; subst e
  simp only [VRs] at hy; subst hy
  exact ⟨u, by simp, hx⟩
 | y :: ys, x, z, u, vs, e, hx, hy => by
  simp only [Jt] at e
  obtain ⟨m, e1, e2⟩ := Option.bind_eq_some_iff.1 e
  simp only [VRs] at hy
  obtain ⟨v, us, rfl, q1, q2⟩ := hy
  obtain ⟨r, d1, d2⟩ := z7e (P := P) e1 hx q1 w
  obtain ⟨r', d3, d4⟩ := Q2 mx w e2 d2 q2
  exact ⟨r', by rw [List.foldlM_cons, Sem.run_bind, d1, Result.andThen_ok]; exact d3, d4⟩
theorem XZ {x y : ByteArray} (h : (x == y) = true) : x = y := by
 cases x; cases y
 simp only [BEq.beq] at h
 unfold ByteArray.beq at h
 simpa using h
theorem YI : ∀ {vs us : List Value}, zL vs us = some true → vs = us
 | [], [], _ => rfl
 | v :: vs, u :: us, e => by
  unfold zL at e
  split at e <;> first | (cases e; done) | skip
  ·rename_i e1 e2; cases e1
  ·rename_i k x xs k' y ys e1 e2
   cases e1; cases e2
   split at e
   ·rename_i hk
    obtain ⟨r, h1, h2⟩ := Option.map_eq_some_iff.1 e
    simp only [Bool.and_eq_true, beq_iff_eq] at h2
    obtain ⟨rfl, rfl⟩ := h2
    subst hk
    rw [YI h1]
   ·cases e
  ·rename_i x xs y ys e1 e2
   cases e1; cases e2
   obtain ⟨r, h1, h2⟩ := Option.map_eq_some_iff.1 e
   simp only [Bool.and_eq_true, beq_iff_eq] at h2
   obtain ⟨rfl, rfl⟩ := h2
   rw [YI h1]
  ·rename_i x xs y ys e1 e2
   cases e1; cases e2
   obtain ⟨r, h1, h2⟩ := Option.map_eq_some_iff.1 e
   simp only [Bool.and_eq_true] at h2
   obtain ⟨h3, rfl⟩ := h2
   rw [XZ h3, YI h1]
 | [], _ :: _, e => by simp [zL] at e
 | _ :: _, [], e => by unfold zL at e; split at e <;> simp_all
theorem Zn : ∀ {vs us : List Value} {r : Bool}, zL vs us = some r → vs.length = us.length
 | [], [], _, _ => rfl
 | v :: vs, u :: us, r, e => by
  unfold zL at e
  split at e <;> first | (cases e; done) | skip
  ·rename_i e1 e2; cases e1
  ·rename_i k x xs k' y ys e1 e2
   cases e1; cases e2
   split at e
   ·obtain ⟨r, h1, h2⟩ := Option.map_eq_some_iff.1 e
    simp [Zn h1]
   ·cases e
  ·rename_i x xs y ys e1 e2
   cases e1; cases e2
   obtain ⟨r, h1, h2⟩ := Option.map_eq_some_iff.1 e
   simp [Zn h1]
  ·rename_i x xs y ys e1 e2
   cases e1; cases e2
   obtain ⟨r, h1, h2⟩ := Option.map_eq_some_iff.1 e
   simp [Zn h1]
 | [], _ :: _, _, e => by simp [zL] at e
 | _ :: _, [], _, e => by unfold zL at e; split at e <;> simp_all
theorem z4K {k k' : Value} (e : kO k k' = some true) : k = k' := by
 unfold kO at e
 split at e <;> first | (cases e; done) | skip
 ·split at e
  ·rename_i hk; simp only [Option.some.injEq, beq_iff_eq] at e; subst hk; rw [e]
  ·cases e
 ·simp only [Option.some.injEq, beq_iff_eq] at e; rw [e]
 ·simp only [Option.some.injEq] at e; rw [XZ e]
 ·exact congrArg Value.agg (Array.toList_inj.1 (YI e))
theorem z0A {S : z8}  {k : Value} (e : z1i x = some k)  (hx : VR S ρ x u) : u = k := by
 unfold z1i at e
 split at e <;> first | (cases e; done) | skip
 ·simp only [Option.some.injEq] at e; subst e; simpa only [VR] using hx
 ·simp only [Option.some.injEq] at e; subst e; simpa only [VR] using hx
 ·simp only [Option.some.injEq] at e; subst e; simpa only [VR] using hx
 ·obtain ⟨vs, h1, rfl⟩ := Option.map_eq_some_iff.1 e
  simp only [VR] at hx
  obtain ⟨us, h2, rfl⟩ := hx
  rw [XR h1 h2]
theorem Xn (hT : ue P tt)  {k : Value} (h : JC tt t k = true) (e : Bool) (w : World) : (Instr.checkKey e 10000 t k).run P w = .ok () w := by
 unfold JC at h
 split at h
 ·rename_i i ht
  have hk := (hT _ _ ht).kind
  have leaf : ∀ d, P.underlying t = some d → (match d with | .interface _ | .array _ _ | .struct _ => False | _ => True) → (Instr.checkKey e 10000 t k).run P w = .ok () w := by
   intro d hd hc
   show (Instr.checkKey e (9999 + 1) t k).run P w = _
   generalize 9999 = q
   unfold Instr.checkKey
   simp only [Sem.run_bind, run_underlying hd, Result.andThen_ok]
   cases d <;> first | exact hc.elim | simp
  split at h <;> first | (cases h; done) | skip
  ·rename_i kk _ _ hkk; exact leaf _ (by rw [hkk] at hk; exact hk) trivial
  ·rename_i _ hkk; exact leaf _ (by rw [hkk] at hk; exact hk) trivial
  ·rename_i _ hkk; exact leaf _ (by rw [hkk] at hk; exact hk) trivial
  ·rename_i xs hkk
   simp only [Bool.and_eq_true, beq_iff_eq] at h
   have := ((hT _ _ ht).eqn h.1.1).key xs.toList e w (by simpa using h.1.2)
   simpa using this
  ·rename_i xs hkk
   simp only [Bool.and_eq_true, beq_iff_eq] at h
   have := ((hT _ _ ht).eqn h.1.1).key xs.toList e w (by simpa using h.1.2)
   simpa using this
 ·cases h
theorem z2V (hT : ue P tt) {S : z8}  {k : Value} (hk : JC tt t k = true)  {r : Option (Nat × V)} (e : XC k es 0 = some r) {ents : List MapEntry} (h1 : ents.map (·.key) = es.map (·.1)) (h2 : VRs S ρ (es.map (·.2)) (ents.map (·.val))) (w : World) :
  ∃ r', (Instr.findKey t k ents).run P w = .ok r' w ∧ (match r, r' with | some (i, x), some (i', v) => i' = i ∧ i < es.length ∧ VR S ρ x v ∧ (ents[i]?).map (·.key) = some k | none, none => True | _, _ => False) := by
 unfold JC at hk
 split at hk
 ·rename_i i ht
  have hkind := (hT _ _ ht).kind
  have rel : ∀ {es : List (Value × V)} {r : Option (Nat × V)} {ents : List MapEntry} (j : Nat), XC k es j = some r → ents.map (·.key) = es.map (·.1) → VRs S ρ (es.map (·.2)) (ents.map (·.val)) →
    (∃ r', (match r, r' with | some (i, x), some (i', v) => i' = i ∧ j ≤ i ∧ i < j + es.length ∧ VR S ρ x v ∧ (ents[i - j]?).map (·.key) = some k | none, none => True | _, _ => False) ∧
     (∀ d, (∀ k', kO k k' = some true → Instr.sameNow d k k' = some true) → (∀ k', kO k k' = some false → Instr.sameNow d k k' = some false) → Instr.findNow d k ents j = some r') ∧
     ((∀ k' b, kO k k' = some b → (Op.equal t k k').run P w = .ok b w) → (Instr.findAsking t k ents j).run P w = .ok r' w)) := by
   intro es
   induction es with
   | nil =>
    intro r ents j e h1 h2
    simp only [XC, Option.some.injEq] at e; subst e
    cases ents with
    | nil => exact ⟨none, trivial, fun _ _ _ => rfl, fun _ => by simp [Instr.findAsking]⟩
    | cons _ _ => simp at h1
   | cons p es ih =>
    intro r ents j e h1 h2
    cases ents with
    | nil => simp at h1
    | cons en ents =>
     simp only [List.map_cons, List.cons.injEq] at h1
     simp only [List.map_cons, VRs] at h2
     obtain ⟨v, us, hv, q1, q2⟩ := h2
     cases hv
     simp only [XC] at e
     split at e
     ·rename_i he
      simp only [Option.some.injEq] at e; subst e
      refine ⟨some (j, en.val), ⟨rfl, Nat.le_refl _, by simp, q1, by simp [h1.1, ← z4K he]⟩, ?_, ?_⟩
      ·intro d hd _
       simp only [Instr.findNow, h1.1, hd _ he]
      ·intro hd
       simp only [Instr.findAsking, Sem.run_bind, h1.1, hd _ _ he, Result.andThen_ok, if_true, Sem.run_pure]
     ·rename_i he
      obtain ⟨r', g1, g2, g3⟩ := ih (j + 1) e h1.2 q2
      refine ⟨r', ?_, ?_, ?_⟩
      ·cases r with
       | none => cases r' <;> first | exact g1 | exact g1.elim
       | some x =>
        obtain ⟨i1, x1⟩ := x
        cases r' with
        | none => exact g1.elim
        | some y =>
         obtain ⟨i2, v2⟩ := y
         obtain ⟨c1, c2, c3, c4, c5⟩ := g1
         refine ⟨c1, by omega, by simp only [List.length_cons]; omega, c4, ?_⟩
         rw [show i1 - j = (i1 - (j + 1)) + 1 from by omega, List.getElem?_cons_succ]
         exact c5
      ·intro d hd1 hd2
       simp only [Instr.findNow, h1.1, hd2 _ he]
       exact g2 d hd1 hd2
      ·intro hd
       simp only [Instr.findAsking, Sem.run_bind, h1.1, hd _ _ he, Result.andThen_ok, Bool.false_eq_true, if_false]
       exact g3 hd
     ·cases e
  obtain ⟨r', g1, g2, g3⟩ := rel 0 e h1 h2
  refine ⟨r', ?_, ?_⟩
  ·have scalar : ∀ d, P.underlying t = some d → (∀ k', kO k k' = some true → Instr.sameNow d k k' = some true) → (∀ k', kO k k' = some false → Instr.sameNow d k k' = some false) → (Instr.findKey t k ents).run P w = .ok r' w := by
    intro d hd c1 c2
    simp only [Instr.findKey, Sem.run_bind, run_underlying hd, Result.andThen_ok, g2 d c1 c2, Sem.run_pure]
   have asking : ∀ d xs, P.underlying t = some d → k = .agg xs → (∀ k', Instr.sameNow d k k' = none) → (∀ k' b, kO k k' = some b → (Op.equal t k k').run P w = .ok b w) → (Instr.findKey t k ents).run P w = .ok r' w := by
    intro d xs hd hkk c1 c2
    cases ents with
    | nil =>
     have := g3 c2
     simp only [Instr.findKey, Sem.run_bind, run_underlying hd, Result.andThen_ok, Instr.findNow, Sem.run_pure]
     simpa [Instr.findAsking] using this
    | cons en l =>
     simp only [Instr.findKey, Sem.run_bind, run_underlying hd, Result.andThen_ok, Instr.findNow, c1]
     exact g3 c2
   have agg : ∀ xs, k = .agg xs → i.eqn = true → xs.size = i.size → z7V i xs.toList = true → ∀ k' b, kO k k' = some b → (Op.equal t k k').run P w = .ok b w := by
    intro xs hkk he hsz hfit k' b hb
    subst hkk
    cases k' <;> simp only [kO] at hb <;> first | (cases hb; done) | skip
    rename_i ys
    have hl := Zn hb
    have := ((hT _ _ ht).eqn he).run xs.toList ys.toList b w (by simpa using hsz) (by simp at hl; simp; omega) hfit hb
    simpa using this
   split at hk <;> first | (cases hk; done) | skip
   ·rename_i kk k1 m hkk
    rw [hkk] at hkind
    refine scalar _ hkind ?_ ?_ <;>
    ·intro k' hb
     cases k' <;> simp only [kO] at hb <;> first | (cases hb; done) | skip
     split at hb
     ·rename_i h3; simp only [Instr.sameNow, h3, if_true]; exact hb
     ·cases hb
   ·rename_i b hkk
    rw [hkk] at hkind
    refine scalar _ hkind ?_ ?_ <;>
    ·intro k' hb
     cases k' <;> simp only [kO] at hb <;> first | (cases hb; done) | skip
     simp only [Instr.sameNow]; exact hb
   ·rename_i s hkk
    rw [hkk] at hkind
    refine scalar _ hkind ?_ ?_ <;>
    ·intro k' hb
     cases k' <;> simp only [kO] at hb <;> first | (cases hb; done) | skip
     simp only [Instr.sameNow]; exact hb
   ·rename_i fs xs hkk
    rw [hkk] at hkind
    obtain ⟨fields, hd, _⟩ := hkind
    simp only [Bool.and_eq_true, beq_iff_eq] at hk
    exact asking _ xs hd rfl (fun k' => by cases k' <;> rfl) (agg xs rfl hk.1.1 hk.1.2 hk.2)
   ·rename_i m el xs hkk
    rw [hkk] at hkind
    simp only [Bool.and_eq_true, beq_iff_eq] at hk
    exact asking _ xs hkind rfl (fun k' => by cases k' <;> rfl) (agg xs rfl hk.1.1 hk.1.2 hk.2)
  ·cases r with
   | none => cases r' <;> first | exact g1 | exact g1.elim
   | some x =>
    cases r' with
    | none => exact g1.elim
    | some y => obtain ⟨c1, c2, c3, c4, c5⟩ := g1; exact ⟨c1, by omega, c4, by simpa using c5⟩
 ·cases hk
theorem z2A (h : vN C ρ st w)   (hes : st (.b b) = .mp es) : ∃ p ents cl, ρ b = some p ∧ w.heap[p.B]? = some (.map ents cl) ∧ ents.toList.map (·.key) = es.map (·.1) ∧ VRs C.S ρ (es.map (·.2)) (ents.toList.map (·.val)) := by
 obtain ⟨p, h1, h2⟩ := h.ent b (by rw [hes]; rfl)
 rw [hes] at h2
 obtain ⟨ents, cl, q1, q2, q3⟩ := h2
 exact ⟨p, ents, cl, h1, q1, q2, q3⟩
theorem z3D (hT : ue P tt) {S : z8}   (e : z3E tt t = some x) (w : World) : ∃ v, (zeroValue t).run P w = .ok v w ∧ VR S ρ x v := by
 unfold z3E at e
 split at e
 ·rename_i i ht
  obtain ⟨z, hz, e1⟩ := Option.bind_eq_some_iff.1 e
  obtain ⟨v, z1, z2, z3, z4, z5⟩ := Ye (w := w) hT ht hz
  obtain ⟨q1, q2⟩ := X8 (ρ := ρ) (S := S) e1 (VRs.lits z)
  refine ⟨v, z1, ?_⟩
  cases hag : i.kind.isAgg with
  | true =>
   rw [hag] at q1 z5
   simp only [if_true] at q1 z5
   obtain ⟨cs, rfl⟩ := z5
   have : z.toArray = cs := by rw [← z2]; simp [Value.cells]
   rwa [this] at q1
  | false =>
   rw [hag] at q1 z5
   simp only [Bool.false_eq_true, if_false] at q1 z5
   have : z = [v] := by rw [← z2]; cases v <;> first | rfl | simp [Value.oneCell'] at z5
   rw [this] at q1
   exact q1
 ·cases e
theorem z2C (hT : ue P tt) (h : Sim C N ρ st a w Ds)  {x i v : V} {ok : Bool}   (e : lookupV tt t x i ok st = some (v, R, U)) {xu iu : Value} (hx : VR C.S ρ x xu) (hi : VR C.S ρ i iu) :
  U = [] ∧ ∃ vu, (Instr.lookup t xu iu ok).run P w = .ok vu w ∧ VR C.S ρ v vu := by
 unfold lookupV at e
 obtain ⟨⟨kt, et⟩, R1, U1, R2, U2, g1, g2, rfl, rfl⟩ := bind_some e
 obtain ⟨hm, rfl, rfl⟩ := zp g1
 obtain ⟨k, R3, U3, R4, U4, g3, g4, rfl, rfl⟩ := bind_some g2
 obtain ⟨hk, rfl, rfl⟩ := zp g3
 obtain ⟨es, R5, U5, R6, U6, g5, g6, rfl, rfl⟩ := bind_some g4
 simp only [z7, List.nil_append] at g5 g6 ⊢
 have hkind := X9 hT hm
 have := z0A hk hi
 subst this
 have hents : U5 = [] ∧ ∃ ents : Array MapEntry, ents.toList.map (·.key) = es.map (·.1) ∧ VRs C.S ρ (es.map (·.2)) (ents.toList.map (·.val)) ∧
   ∀ (f : Array MapEntry → Sem Value), (do
    let es ← match xu with
     | .map none => pure #[]
     | .map (some r) => do
      let .map es _ ← getObj r | stuck "Lookup: map expected"
      pure es
     | _ => stuck "Lookup: map expected"
    f es : Sem Value).run P w = (f ents).run P w := by
  unfold entsV at g5
  split at g5
  ·obtain ⟨rfl, rfl, rfl⟩ := zf g5
   simp only [VR] at hx
   subst hx
   exact ⟨rfl, #[], rfl, by simp [VRs], fun f => by simp⟩
  ·rename_i b
   obtain ⟨rfl, hes⟩ := UP g5
   obtain ⟨p, ents, cl, h1, h2, h3, h4⟩ := z2A h.h hes
   simp only [VR] at hx
   obtain ⟨p', h5, rfl⟩ := hx
   rw [h1] at h5; cases h5
   refine ⟨rfl, ents, h3, h4, fun f => ?_⟩
   simp [getObj, Sem.run, h2]
  ·exact (zn g5).elim
 obtain ⟨rfl, ents, n1, n2, n3⟩ := hents
 simp only [z7, List.nil_append] at g6 ⊢
 split at g6
 ·rename_i hko
  obtain ⟨r, R7, U7, R8, U8, g7, g8, rfl, rfl⟩ := bind_some g6
  obtain ⟨hr, rfl, rfl⟩ := zp g7
  simp only [z7, List.nil_append] at g8 ⊢
  obtain ⟨r', f1, f2⟩ := z2V hT hko hr n1 n2 w
  have hck := Xn hT hko ents.isEmpty w
  have run : (Instr.lookup t xu iu ok).run P w = (do
    let (v, b) ← match r' with
     | some (_, v) => pure (v, true)
     | none => pure (← zeroValue et, false)
    pure (if ok then .tuple #[v, .bool b] else v) : Sem Value).run P w := by
   unfold Instr.lookup
   rw [Sem.run_bind, run_underlying hkind, Result.andThen_ok]
   refine (n3 _).trans ?_
   rw [Sem.run_bind, hck, Result.andThen_ok, Sem.run_bind, f1, Result.andThen_ok]
   cases r' <;> rfl
  cases r with
  | some y =>
   obtain ⟨j, y⟩ := y
   cases r' with
   | none => exact f2.elim
   | some y' =>
    obtain ⟨j', v'⟩ := y'
    obtain ⟨rfl, _, q1, _⟩ := f2
    simp only at g8
    obtain ⟨rfl, rfl, rfl⟩ := zf g8
    refine ⟨rfl, if ok = true then .tuple #[v', .bool true] else v', ?_, ?_⟩
    ·rw [run]; simp
    ·cases ok
     ·simpa using q1
     ·simp only [if_true, VR, VRs]
      exact ⟨[v', .bool true], ⟨v', [.bool true], rfl, q1, .bool true, [], rfl, rfl, rfl⟩, rfl⟩
  | none =>
   cases r' with
   | some _ => exact f2.elim
   | none =>
    simp only at g8
    obtain ⟨z, R9, U9, R10, U10, g9, g10, rfl, rfl⟩ := bind_some g8
    obtain ⟨hz, rfl, rfl⟩ := zp g9
    obtain ⟨rfl, rfl, rfl⟩ := zf g10
    obtain ⟨zv, z1, z2⟩ := z3D (ρ := ρ) (S := C.S) hT hz w
    refine ⟨rfl, if ok = true then .tuple #[zv, .bool false] else zv, ?_, ?_⟩
    ·rw [run]; simp [z1]
    ·cases ok
     ·simpa using z2
     ·simp only [if_true, VR, VRs]
      exact ⟨[zv, .bool false], ⟨zv, [.bool false], rfl, z2, .bool false, [], rfl, rfl, rfl⟩, rfl⟩
 ·exact (zn g6).elim
theorem z2z (h : Sim C N ρ st a w Ds)  {es es' : List (Value × V)} (hes : st (.b b) = .mp es) {p : Loc} (hp : ρ b = some p) {ents : Array MapEntry} {cl cl' : Nat} (hb : w.heap[p.B]? = some (.map ents cl)) {ents' : Array MapEntry}
  (h1 : ents'.toList.map (·.key) = es'.map (·.1)) (h2 : VRs C.S ρ (es'.map (·.2)) (ents'.toList.map (·.val))) : Sim C N ρ (upd st (.b b) (.mp es')) a (w.putObj p.B (.map ents' cl')) Ds := by
 have hmem : (st (.b b)).mem = true := by rw [hes]; rfl
 have hmem' : ∀ i, ((upd st (.b b) (.mp es')) (.b i)).mem = (st (.b i)).mem := by
  intro i
  by_cases e : i = b
  ·subst e; rw [zC, hes]; rfl
  ·rw [zt _ _ (by simpa using e)]
 have hM := h.h.base b p hmem hp
 have hlt := h.h.lt b p hp
 have hoth : ∀ B, B ≠ p.B → (w.putObj p.B (.map ents' cl')).heap[B]? = w.heap[B]? := fun B hB => World.putObj_heap_other hB
 have alone : ∀ i q, i ≠ b → (st (.b i)).mem = true → ρ i = some q → q.B ≠ p.B := by
  intro i q hi hm hq hB
  obtain ⟨k, k', _, d2, _⟩ := h.h.dis i b q p hi hm hmem hq hp hB
  rw [hes] at d2; cases d2
 refine ⟨⟨?_, ?_, ?_, ?_, ?_, ?_, h.h.sfree, ?_, h.h.mine⟩, ?_⟩
 ·intro i q
  rw [hmem'] at q
  by_cases e : i = b
  ·subst e
   rw [zC]
   exact ⟨p, hp, ents', cl', World.putObj_heap_same hlt, h1, h2⟩
  ·obtain ⟨p', q1, q2⟩ := h.h.ent i q
   refine ⟨p', q1, ?_⟩
   rw [zt _ _ (by simpa using e)]
   exact q2.mem_world (hoth _ (alone i p' e q q1))
 ·intro i i' q q' g1 g2 g3 g4 g5 g6
  rw [hmem'] at g2 g3
  by_cases e : i = b
  ·subst e
   rw [hp] at g4; cases g4
   exact absurd g6.symm (alone i' q' (Ne.symm g1) g3 g5)
  ·by_cases e' : i' = b
   ·subst e'
    rw [hp] at g5; cases g5
    exact absurd g6 (alone i q g1 g2 g4)
   ·rw [zt _ _ (by simpa using e), zt _ _ (by simpa using e')]
    exact h.h.dis i i' q q' g1 g2 g3 g4 g5 g6
 ·intro i k q
  rw [zt _ _ (by simp)]
  by_cases e : i = b
  ·subst e; rw [zC] at q; cases q
  ·rw [zt _ _ (by simpa using e)] at q
   exact h.h.fam i k q
 ·intro i q g1
  rw [hmem'] at g1
  exact h.h.base i q g1
 ·intro i q g
  rw [World.putObj_size]
  exact h.h.lt i q g
 ·intro B o' v hS
  have hne : B ≠ p.B := by rintro rfl; exact h.h.sfree _ _ _ hS hM
  have := h.h.still B o' v hS
  unfold zu at this ⊢
  rw [hoth B hne]; exact this
 ·exact h.h.kept.trans ⟨rfl, rfl, rfl, Nat.le_refl _, by rw [World.putObj_size]; exact Nat.le_refl _, fun B hB => hoth B (by rintro rfl; exact hB hM)⟩
 ·refine h.f.step (Pl.le_refl _) (fun t => zt _ _ (by simp)) ?_ ?_
  ·intro D hD
   exact hoth D (by have := h.f.dx D hD b p hmem hp; exact Ne.symm this)
  ·intro D hD i q g
   rw [hmem'] at g
   exact h.f.dx D hD i q g
theorem UK : ∀ {k k' : Value}, kO k k' = some true → Instr.sameBits 10000 k k = true := by
 have cell : ∀ {vs us : List Value}, zL vs us = some true → (vs.zip vs).all (fun (x, y) => Instr.sameBits 9999 x y) = true := by
  intro vs
  induction vs with
  | nil => intro _ _; rfl
  | cons v vs ih =>
   intro us e
   cases us with
   | nil => unfold zL at e; split at e <;> simp_all
   | cons u us =>
    unfold zL at e
    split at e <;> first | (cases e; done) | skip
    ·rename_i e1 e2; cases e1
    ·rename_i k x xs k' y ys e1 e2
     cases e1; cases e2
     split at e
     ·obtain ⟨r, h1, h2⟩ := Option.map_eq_some_iff.1 e
      simp only [Bool.and_eq_true] at h2
      simp only [List.zip_cons_cons, List.all_cons, Bool.and_eq_true]
      exact ⟨by simp [Instr.sameBits], ih (h2.2 ▸ h1)⟩
     ·cases e
    ·rename_i x xs y ys e1 e2
     cases e1; cases e2
     obtain ⟨r, h1, h2⟩ := Option.map_eq_some_iff.1 e
     simp only [Bool.and_eq_true] at h2
     simp only [List.zip_cons_cons, List.all_cons, Bool.and_eq_true]
     exact ⟨by simp [Instr.sameBits], ih (h2.2 ▸ h1)⟩
    ·rename_i x xs y ys e1 e2
     cases e1; cases e2
     obtain ⟨r, h1, h2⟩ := Option.map_eq_some_iff.1 e
     simp only [Bool.and_eq_true] at h2
     simp only [List.zip_cons_cons, List.all_cons, Bool.and_eq_true]
     have hxy := XZ h2.1
     subst hxy
     exact ⟨by simp only [Instr.sameBits]; exact h2.1, ih (h2.2 ▸ h1)⟩
 intro k k' e
 unfold kO at e
 split at e <;> first | (cases e; done) | skip
 ·simp [Instr.sameBits]
 ·simp [Instr.sameBits]
 ·simp only [Option.some.injEq] at e
  have hxy := XZ e
  subst hxy
  simp only [Instr.sameBits]; exact e
 ·simp only [Instr.sameBits, beq_self_eq_true, Bool.true_and]
  exact cell e
theorem JO {k : Value} : ∀ {es : List (Value × V)} {j i : Nat} {x : V}, XC k es j = some (some (i, x)) → ∃ k', kO k k' = some true
 | [], _, _, _, e => by simp [XC] at e
 | p :: es, j, i, x, e => by
  simp only [XC] at e
  split at e
  ·rename_i he; exact ⟨_, he⟩
  ·exact JO e
  ·cases e
theorem Xr (hT : ue P tt) (h : Sim C N ρ st a w Ds)  {x i v : V} {u : Unit}   (e : mapUpdateV tt t x i v st = some (u, R, U)) {xu iu vu : Value} (hx : VR C.S ρ x xu) (hi : VR C.S ρ i iu) (hv : VR C.S ρ v vu) :
  ∃ w', (Instr.mapUpdate t xu iu vu).run P w = .ok () w' ∧ Sim C N ρ (z7 U st) a w' Ds := by
 unfold mapUpdateV at e
 obtain ⟨⟨kt, et⟩, R1, U1, R2, U2, g1, g2, rfl, rfl⟩ := bind_some e
 obtain ⟨hm, rfl, rfl⟩ := zp g1
 obtain ⟨k, R3, U3, R4, U4, g3, g4, rfl, rfl⟩ := bind_some g2
 obtain ⟨hk, rfl, rfl⟩ := zp g3
 simp only [z7, List.nil_append] at g4 ⊢
 have hkind := X9 hT hm
 have := z0A hk hi
 subst this
 split at g4
 ·rename_i b
  obtain ⟨es, R5, U5, R6, U6, g5, g6, rfl, rfl⟩ := bind_some g4
  obtain ⟨rfl, hes⟩ := UP g5
  simp only [z7, List.nil_append] at g6 ⊢
  obtain ⟨p, ents, cl, h1, h2, h3, h4⟩ := z2A h.h hes
  simp only [VR] at hx
  obtain ⟨p', h5, rfl⟩ := hx
  rw [h1] at h5; cases h5
  split at g6
  ·rename_i hko
   obtain ⟨r, R7, U7, R8, U8, g7, g8, rfl, rfl⟩ := bind_some g6
   obtain ⟨hr, rfl, rfl⟩ := zp g7
   simp only [z7, List.nil_append] at g8 ⊢
   obtain ⟨r', f1, f2⟩ := z2V hT hko hr h3 h4 w
   have hck := Xn hT hko false w
   have hget : (getObj p.B).run P w = .ok (.map ents cl) w := by simp [getObj, Sem.run, h2]
   have hset : ∀ o', (setObj p.B o').run P w = .ok () (w.putObj p.B o') := by intro o'; simp [setObj, Sem.run, h2, World.putObj]
   have run : (Instr.mapUpdate t (.map (some p.B)) iu vu).run P w = (do
     match r' with
     | some (i, _) => do
      let key ← Instr.keyThatStays (((ents[i]?).map (·.key)).getD iu) iu
      setObj p.B (.map (ents.modify i fun e => { e with key, val := vu }) cl)
     | none => setObj p.B (.map (ents.push { key := iu, val := vu, born := cl }) (cl + 1)) : Sem Unit).run P w := by
    unfold Instr.mapUpdate
    rw [Sem.run_bind, run_underlying hkind, Result.andThen_ok]
    show (do
     let .map es clock ← getObj p.B | stuck "MapUpdate: map expected"
     _ : Sem Unit).run P w = _
    rw [Sem.run_bind, hget, Result.andThen_ok]
    show (do
     Instr.checkKey false 10000 kt iu
     _ : Sem Unit).run P w = _
    rw [Sem.run_bind, hck, Result.andThen_ok, Sem.run_bind, f1, Result.andThen_ok]
    cases r' <;> rfl
   cases r with
   | some y =>
    obtain ⟨j, y⟩ := y
    cases r' with
    | none => exact f2.elim
    | some y' =>
     obtain ⟨j', v'⟩ := y'
     obtain ⟨rfl, hj, _, q1⟩ := f2
     simp only at g8
     obtain ⟨rfl, rfl⟩ := wd g8
     obtain ⟨k', hk'⟩ := JO hr
     have hkey : (ents[j']?).map (·.key) = some iu := by rw [← Array.getElem?_toList]; exact q1
     have hstay : (Instr.keyThatStays (((ents[j']?).map (·.key)).getD iu) iu).run P w = .ok iu w := by
      rw [hkey]
      simp only [Option.getD_some, Instr.keyThatStays, UK hk', if_true, Sem.run_pure]
     refine ⟨_, ?_, z2z h hes h1 h2 (ents' := ents.modify j' fun e => { e with key := iu, val := vu }) (cl' := cl) ?_ ?_⟩
     ·rw [run]
      simp only [Sem.run_bind, hstay, Result.andThen_ok, hset]
     ·apply List.ext_getElem?
      intro q
      simp only [List.getElem?_map, Array.getElem?_toList, Array.getElem?_modify, List.getElem?_set]
      by_cases e : j' = q
      ·subst e
       simp only [if_true, hj, Option.map_some]
       cases hq : ents[j']? with
       | none => rw [hq] at hkey; cases hkey
       | some en => rfl
      ·simp only [e, if_false]
       rw [← Array.getElem?_toList, ← List.getElem?_map, h3, List.getElem?_map]
     ·refine VRs.of_get ?_ ?_
      ·have := h4.len; simp only [List.length_map, Array.length_toList] at this; simpa using this
      ·intro q z hz
       simp only [List.getElem?_map, List.getElem?_set] at hz
       simp only [List.getElem?_map, Array.getElem?_toList, Array.getElem?_modify]
       by_cases e : j' = q
       ·subst e
        simp only [if_true, hj, Option.map_some, Option.some.injEq] at hz
        subst hz
        cases hq : ents[j']? with
        | none => rw [hq] at hkey; cases hkey
        | some en => exact ⟨vu, by simp, hv⟩
       ·simp only [e, if_false] at hz ⊢
        have : (es.map (·.2))[q]? = some z := by rw [List.getElem?_map]; exact hz
        obtain ⟨v2, d1, d2⟩ := h4.get this
        rw [List.getElem?_map, Array.getElem?_toList] at d1
        exact ⟨v2, d1, d2⟩
   | none =>
    cases r' with
    | some _ => exact f2.elim
    | none =>
     simp only at g8
     obtain ⟨rfl, rfl⟩ := wd g8
     refine ⟨_, ?_, z2z h hes h1 h2 (ents' := ents.push { key := iu, val := vu, born := cl }) (cl' := cl + 1) ?_ ?_⟩
     ·rw [run, hset]
     ·simp [h3]
     ·simp only [List.map_append, List.map_cons, List.map_nil, Array.toList_push]
      refine h4.append ?_
      simp only [VRs]
      exact ⟨vu, [], rfl, hv, rfl⟩
  ·exact (zn g6).elim
 ·exact (zn g4).elim
theorem VN (h : Sim C N ρ st a w Ds) (hn : ρ n = none)  {r : Option Operand}    (e : makeMapV n st = some (v, R, U)) (hr : r = none ∨ ((∃ kt et, P.underlying t = some (.map kt et)) ∧ ∃ x k j, r = some x ∧ a.eval x = .int k j)) (ho : o.op = .makeMap t r) : Res P C N n (n + 1) o ρ a w Ds v (z7 U st) := by
 unfold makeMapV at e
 obtain ⟨u1, R1, U1, R2, U2, g1, g2, rfl, rfl⟩ := bind_some e
 obtain ⟨rfl, rfl⟩ := wd g1
 obtain ⟨rfl, rfl, rfl⟩ := zf g2
 simp only [List.append_nil, z7]
 have hnew := h.new hn (.map #[] 0) (.mp []) 0 ⟨#[], 0, World.alloc_heap_new w _, rfl, by simp [VRs]⟩ (st' := upd st (.b n) (.mp [])) (by
  intro i
  by_cases e : i = n
  ·subst e; simp [zC]
  ·rw [zt _ _ (by simpa using e)]; simp [e]) (fun t => zt _ _ (by simp)) (by
  intro b k hk
  obtain ⟨_, l, h1, h2⟩ := h.h.fam b k hk
  exact ⟨l, by rw [zt _ _ (by simp)]; exact h1, h2⟩) (by intro k hk; cases hk)
 refine ⟨_, _, .map (some w.heap.size), ?_, Ext.set _ hn (Nat.lt_succ_self _), hnew, ?_⟩
 ·rcases hr with rfl | ⟨⟨kt, et, hk⟩, x, k, j, rfl, hx⟩
  ·simp [execOp, ho, Instr.makeMap]
  ·simp [execOp, ho, Instr.makeMap, run_underlying hk, hx, asInt, asIntOf]
 ·simp only [VR]; exact ⟨_, zS _ _ _, rfl⟩
end
open Go.Own (A z8 zu Rep zV kY)
def mkV (ag : Bool) (cs : List Value) : Value := if ag = true then .agg cs.toArray else cs.headD undef
theorem Y5 : ∀ {z1 z2 vs : List Value}, Qr (z1 ++ z2) vs = true → Qr z1 (vs.take z1.length) = true ∧ Qr z2 (vs.drop z1.length) = true
 | [], z2, vs, h => ⟨rfl, h⟩
 | a :: z1, z2, [], h => by cases a <;> simp [Qr] at h
 | a :: z1, z2, v :: vs, h => by
  have : Qr (z1 ++ z2) vs = true ∧ (∀ l l', Qr l l' = true → Qr (a :: l) (v :: l') = true) := by
   cases a <;> cases v <;> simp only [List.cons_append, Qr, Bool.false_eq_true] at h ⊢ <;> exact ⟨h, fun l l' q => q⟩
  obtain ⟨h1, h2⟩ := this
  obtain ⟨q1, q2⟩ := Y5 h1
  exact ⟨h2 _ _ q1, q2⟩
theorem kU : ∀ {n : Nat} {vs us : List Value} {r : Bool}, zL vs us = some r → ∃ r1 r2, zL (vs.take n) (us.take n) = some r1 ∧ zL (vs.drop n) (us.drop n) = some r2 ∧ r = (r1 && r2)
 | 0, vs, us, r, h => ⟨true, r, by simp [zL], by simpa using h, by simp⟩
 | n + 1, [], us, r, h => by
  cases us with
  | nil => simp only [zL, Option.some.injEq] at h; subst h; exact ⟨true, true, by simp [zL], by simp [zL], rfl⟩
  | cons u us => simp [zL] at h
 | n + 1, v :: vs, [], r, h => by unfold zL at h; split at h <;> simp_all
 | n + 1, v :: vs, u :: us, r, h => by
  have : ∃ b r', zL vs us = some r' ∧ r = (b && r') ∧ ∀ l l' q, zL l l' = some q → zL (v :: l) (u :: l') = some (b && q) := by
   unfold zL at h
   split at h
   ·rename_i h1 _; cases h1
   ·rename_i k a xs k' b ys h1 h2
    cases h1; cases h2
    split at h
    ·rename_i hk
     rw [Option.map_eq_some_iff] at h
     obtain ⟨r', e1, rfl⟩ := h
     exact ⟨_, r', e1, rfl, fun l l' q hq => by simp [zL, hk, hq]⟩
    ·cases h
   ·rename_i a xs b ys h1 h2
    cases h1; cases h2
    rw [Option.map_eq_some_iff] at h
    obtain ⟨r', e1, rfl⟩ := h
    exact ⟨_, r', e1, rfl, fun l l' q hq => by simp [zL, hq]⟩
   ·rename_i a xs b ys h1 h2
    cases h1; cases h2
    rw [Option.map_eq_some_iff] at h
    obtain ⟨r', e1, rfl⟩ := h
    exact ⟨_, r', e1, rfl, fun l l' q hq => by simp [zL, hq]⟩
   ·cases h
  obtain ⟨b, r', h1, rfl, h2⟩ := this
  obtain ⟨r1, r2, q1, q2, rfl⟩ := kU (n := n) h1
  exact ⟨b && r1, r2, h2 _ _ _ q1, q2, by rw [Bool.and_assoc]⟩
structure EqP (P : Program) (t : Nat) (z : List Value) (ag : Bool) (dep : Nat) : Prop where
 pos : 1 ≤ dep
 part : ∀ (cs : List Value) (off : Nat) (w : World), off + z.length ≤ cs.length → (Go.part t cs.toArray off).run P w = .ok (mkV ag ((cs.drop off).take z.length)) w
 size : ∀ w, (Go.sizeOf t).run P w = .ok z.length w
 eq : ∀ d, dep ≤ d → ∀ (vs us : List Value) (r : Bool) (w : World), vs.length = z.length → us.length = z.length → Qr z vs = true → zL vs us = some r → (Op.equalIn d t (mkV ag vs) (mkV ag us)).run P w = .ok r w
 guard : ∀ d, dep ≤ d → P.eqGuardType d t = false
 key : ∀ d e, dep ≤ d → ∀ (vs : List Value) (w : World), vs.length = z.length → (Instr.checkKey e d t (mkV ag vs)).run P w = .ok () w
variable {dep d : Nat}{zs : List (List Value × Bool)}
section
variable {P : Program} {t : Nat}
theorem jo {n : Nat} (h : ∃ f, P.info? t = some f ∧ f.size = n) (w : World) : (Go.sizeOf t).run P w = .ok n w := by
 obtain ⟨f, f1, f2⟩ := h
 simp [Go.sizeOf, typeInfo, f1, f2]
theorem z4p {k : EK} (hk : wL P t k) {n : Nat} (hs : ∃ f, P.info? t = some f ∧ f.size = n) (h1 : k.isAgg = true ∨ n = 1) (cs : List Value) (off : Nat) (w : World) (hle : off + n ≤ cs.length) : (Go.part t cs.toArray off).run P w = .ok (mkV k.isAgg ((cs.drop off).take n)) w := by
 have hk' := jd hk w
 unfold Go.part
 simp only [Sem.run_bind, hk', Result.andThen_ok, Sem.run_ite]
 by_cases hag : k.isAgg = true
 ·simp only [hag, if_true, jo hs, Result.andThen_ok, Sem.run_pure, mkV]
  congr 2
  apply Array.ext_getElem?
  intro j
  simp [List.getElem?_take, List.getElem?_drop]
 ·have hn : n = 1 := h1.resolve_left hag
  subst hn
  have hlt : off < cs.length := by omega
  have : cs.toArray[off]? = some cs[off] := by simp [hlt]
  simp only [hag, if_false, Bool.false_eq_true, mkV, this, Sem.run_pure]
  congr 1
  rw [List.take_one, List.head?_drop, List.getElem?_eq_getElem hlt]
  rfl
def z4I : EK → Value → Bool
 | .int _, .int _ _ => true
 | .bool, .bool _ => true
 | .str, .string _ => true
 | _, _ => false
theorem z4X {k : EK} (hk : wL P t k) (hs : ∃ f, P.info? t = some f ∧ f.size = 1) {z : Value} (hz : z4I k z = true) : EqP P t [z] false 1 := by
 have hag : k.isAgg = false := by cases k <;> first | rfl | (cases z <;> cases hz)
 refine ⟨Nat.le_refl _, fun cs off w h => ?_, fun w => jo hs w, ?_, ?_, ?_⟩
 ·have := z4p hk hs (.inr rfl) cs off w h
  rw [hag] at this
  exact this
 ·intro d hd vs us r w hv hu hf he
  obtain ⟨d, rfl⟩ : ∃ d', d = d' + 1 := ⟨d - 1, by omega⟩
  rcases vs with _ | ⟨v, _ | ⟨_, _⟩⟩ <;> simp at hv
  rcases us with _ | ⟨u, _ | ⟨_, _⟩⟩ <;> simp at hu
  simp only [mkV, Bool.false_eq_true, if_false, List.headD_cons]
  unfold Op.equalIn
  cases k <;> cases z <;> simp only [z4I, Bool.false_eq_true] at hz <;> cases v <;> simp only [Qr, Bool.false_eq_true] at hf <;> cases u <;> simp only [zL, reduceCtorEq] at he
  ·split at he
   ·rename_i hkk
    simp only [Option.map_some, Bool.and_true, Option.some.injEq] at he
    subst he
    simp only [wL] at hk
    simp [Sem.run_bind, run_underlying hk, hkk]
   ·cases he
  ·simp only [Option.map_some, Bool.and_true, Option.some.injEq] at he
   subst he
   simp only [wL] at hk
   simp [Sem.run_bind, run_underlying hk]
  ·simp only [Option.map_some, Bool.and_true, Option.some.injEq] at he
   subst he
   simp only [wL] at hk
   simp [Sem.run_bind, run_underlying hk]
 ·intro d hd
  obtain ⟨d, rfl⟩ : ∃ d', d = d' + 1 := ⟨d - 1, by omega⟩
  unfold Program.eqGuardType
  cases k <;> cases z <;> simp only [z4I, Bool.false_eq_true] at hz <;> simp only [wL] at hk <;> simp [hk]
 ·intro d e hd vs w hv
  obtain ⟨d, rfl⟩ : ∃ d', d = d' + 1 := ⟨d - 1, by omega⟩
  unfold Instr.checkKey
  cases k <;> cases z <;> simp only [z4I, Bool.false_eq_true] at hz <;> simp only [wL] at hk <;> simp [Sem.run_bind, run_underlying hk]
def zZ (P : Program) (dep : Nat) : List Field → Nat → List (List Value × Bool) → Prop
 | [], _, [] => True
 | f :: fs, off, (z, ag) :: zs => f.name ≠ "_" ∧ f.offset = off ∧ EqP P f.type z ag dep ∧ zZ P dep fs (off + z.length) zs
 | _, _, _ => False
def kn (zs : List (List Value × Bool)) : List Value := (zs.map (·.1)).flatten
theorem JQ (hd : dep ≤ d)  (w : World) : ∀ {fs : List Field} {off : Nat} {zs : List (List Value × Bool)} {r : Bool}, zZ P dep fs off zs → off + (kn zs).length = vs.length → off + (kn zs).length = us.length → Qr (kn zs) (vs.drop off) = true → zL (vs.drop off) (us.drop off) = some r →
  Sem.run P (forIn fs ((none, ()) : Option Bool × Unit) fun f _ =>
   if f.name ≠ "_" then do
    let a ← Go.part f.type vs.toArray f.offset
    let b ← Go.part f.type us.toArray f.offset
    let q ← Op.equalIn d f.type a b
    if (!q) = true then pure (ForInStep.done (some false, ())) else pure (ForInStep.yield (none, ()))
   else pure (ForInStep.yield (none, ()))) w = .ok (if r = true then (none, ()) else (some false, ())) w
 | [], off, [], r, _, h1, h2, hf, he => by
  have hv : vs.drop off = [] := List.drop_eq_nil_of_le (by simp [kn] at h1; omega)
  have hu : us.drop off = [] := List.drop_eq_nil_of_le (by simp [kn] at h2; omega)
  rw [hv, hu] at he
  simp only [zL, Option.some.injEq] at he
  subst he
  simp
 | f :: fs, off, (z, ag) :: zs, r, hok, h1, h2, hf, he => by
  obtain ⟨g1, g2, g3, g4⟩ := hok
  have hz : kn ((z, ag) :: zs) = z ++ kn zs := by simp [kn]
  rw [hz] at h1 h2 hf
  simp only [List.length_append] at h1 h2
  obtain ⟨f1, f2⟩ := Y5 hf
  rw [List.drop_drop] at f2
  obtain ⟨r1, r2, e1, e2, rfl⟩ := kU (n := z.length) he
  rw [List.drop_drop, List.drop_drop] at e2
  have p1 := g3.part vs off w (by omega)
  have p2 := g3.part us off w (by omega)
  have p3 := g3.eq d hd _ _ r1 w (by simp; omega) (by simp; omega) f1 e1
  simp only [List.forIn_cons, Sem.run_bind, ne_eq, g1, not_false_eq_true, if_true, g2, p1, p2, p3, Result.andThen_ok]
  cases r1
  ·simp
  ·simp only [Bool.not_true, Bool.false_eq_true, if_false, Sem.run_pure, Result.andThen_ok, Bool.true_and]
   exact JQ hd w g4 (by omega) (by omega) f2 e2
 | [], _, _ :: _, _, h, _, _, _, _ => by simp [zZ] at h
 | _ :: _, _, [], _, h, _, _, _, _ => by simp [zZ] at h
theorem VV (hd : dep ≤ d) {e : Bool} {vs : List Value} (w : World) : ∀ {fs : List Field} {off : Nat} {zs : List (List Value × Bool)}, zZ P dep fs off zs → off + (kn zs).length = vs.length →
  Sem.run P (forIn fs PUnit.unit fun f _ =>
   if f.name ≠ "_" then do
    let a ← Go.part f.type vs.toArray f.offset
    Instr.checkKey e d f.type a
    pure (ForInStep.yield PUnit.unit)
   else pure (ForInStep.yield PUnit.unit)) w = .ok PUnit.unit w
 | [], off, [], _, h1 => by simp
 | f :: fs, off, (z, ag) :: zs, hok, h1 => by
  obtain ⟨g1, g2, g3, g4⟩ := hok
  have hz : kn ((z, ag) :: zs) = z ++ kn zs := by simp [kn]
  rw [hz] at h1
  simp only [List.length_append] at h1
  have p1 := g3.part vs off w (by omega)
  have p3 := g3.key d e hd ((vs.drop off).take z.length) w (by simp; omega)
  simp only [List.forIn_cons, Sem.run_bind, ne_eq, g1, not_false_eq_true, if_true, g2, p1, p3, Result.andThen_ok, Sem.run_pure]
  exact VV hd w g4 (by omega)
 | [], _, _ :: _, h, _ => by simp [zZ] at h
 | _ :: _, _, [], h, _ => by simp [zZ] at h
theorem Xu (hd : dep ≤ d) : ∀ {fs : List Field} {off : Nat} {zs : List (List Value × Bool)}, zZ P dep fs off zs → fs.any (fun f => f.name != "_" && P.eqGuardType d f.type) = false
 | [], _, _, _ => rfl
 | f :: fs, off, (z, ag) :: zs, hok => by
  obtain ⟨g1, g2, g3, g4⟩ := hok
  simp only [List.any_cons, g3.guard d hd, Bool.and_false, Bool.false_or]
  exact Xu hd g4
 | _ :: _, _, [], h => by simp [zZ] at h
theorem Zo {fields : Array Field} (hu : P.underlying t = some (.struct fields)) (hst : P.stoodInHeld t = false)  (hs : ∃ f, P.info? t = some f ∧ f.size = (kn zs).length) {dep : Nat} (h1 : 1 ≤ dep) (hf : zZ P dep fields.toList 0 zs) : EqP P t (kn zs) true (dep + 1) := by
 have hk : wL P t (.struct (fields.toList.map fun f => (f.offset, f.type))) ∨ True := .inr trivial
 refine ⟨by omega, fun cs off w h => ?_, fun w => jo hs w, ?_, ?_, ?_⟩
 ·unfold Go.part Go.isAgg
  simp only [Sem.run_bind, run_underlying hu, Result.andThen_ok, Sem.run_pure, if_true, jo hs, mkV]
  congr 2
  apply Array.ext_getElem?
  intro j
  simp [List.getElem?_take, List.getElem?_drop]
 ·intro d hd vs us r w hv hu' hfit he
  obtain ⟨d, rfl⟩ : ∃ d', d = d' + 1 := ⟨d - 1, by omega⟩
  simp only [mkV, if_true]
  unfold Op.equalIn
  simp only [Sem.run_bind, run_underlying hu, Result.andThen_ok, program, Sem.run, hst, Bool.false_eq_true, if_false]
  rw [← Array.forIn_toList]
  have := JQ (P := P) (d := d) (dep := dep) (by omega) (vs := vs) (us := us) w (off := 0) (r := r) hf (by simpa using hv.symm) (by simpa using hu'.symm) (by simpa using hfit) (by simpa using he)
  rw [this]
  cases r <;> simp
 ·intro d hd
  obtain ⟨d, rfl⟩ : ∃ d', d = d' + 1 := ⟨d - 1, by omega⟩
  unfold Program.eqGuardType
  simp only [hu]
  rw [← Array.any_toList]
  exact Xu (by omega) hf
 ·intro d e hd vs w hv
  obtain ⟨d, rfl⟩ : ∃ d', d = d' + 1 := ⟨d - 1, by omega⟩
  simp only [mkV, if_true]
  unfold Instr.checkKey
  simp only [Sem.run_bind, run_underlying hu, Result.andThen_ok]
  rw [← Array.forIn_toList]
  have := VV (P := P) (dep := dep) (d := d) (e := e) (vs := vs) (by omega) w (off := 0) hf (by simpa using hv.symm)
  rw [this]
  simp
def z2a (n : Nat) (z : List Value) : List Value := (List.replicate n z).flatten
theorem z0e (n : Nat) (z : List Value) : (z2a n z).length = n * z.length := by simp [z2a]
theorem z0C (hd : dep ≤ d) {el : Nat}   (hE : EqP P el z ag dep)  (w : World) : ∀ {n i : Nat} {r : Bool}, i * z.length + n * z.length = vs.length → i * z.length + n * z.length = us.length → Qr (z2a n z) (vs.drop (i * z.length)) = true → zL (vs.drop (i * z.length)) (us.drop (i * z.length)) = some r →
  Sem.run P (forIn (List.range' i n) ((none, ()) : Option Bool × Unit) fun j _ => do
    let a ← Go.part el vs.toArray (j * z.length)
    let b ← Go.part el us.toArray (j * z.length)
    let q ← Op.equalIn d el a b
    if (!q) = true then pure (ForInStep.done (some false, ())) else pure (ForInStep.yield (none, ()))) w = .ok (if r = true then (none, ()) else (some false, ())) w
 | 0, i, r, h1, h2, hf, he => by
  have hv : vs.drop (i * z.length) = [] := List.drop_eq_nil_of_le (by omega)
  have hu : us.drop (i * z.length) = [] := List.drop_eq_nil_of_le (by omega)
  rw [hv, hu] at he
  simp only [zL, Option.some.injEq] at he
  subst he
  simp
 | n + 1, i, r, h1, h2, hf, he => by
  have hz : z2a (n + 1) z = z ++ z2a n z := by simp [z2a, List.replicate_succ]
  rw [hz] at hf
  rw [Nat.add_mul, Nat.one_mul] at h1 h2
  obtain ⟨f1, f2⟩ := Y5 hf
  have hi : i * z.length + z.length = (i + 1) * z.length := by rw [Nat.add_mul, Nat.one_mul]
  rw [List.drop_drop, hi] at f2
  obtain ⟨r1, r2, e1, e2, rfl⟩ := kU (n := z.length) he
  rw [List.drop_drop, List.drop_drop, hi] at e2
  have p1 := hE.part vs (i * z.length) w (by omega)
  have p2 := hE.part us (i * z.length) w (by omega)
  have p3 := hE.eq d hd _ _ r1 w (by simp; omega) (by simp; omega) f1 e1
  simp only [List.range'_succ, List.forIn_cons, Sem.run_bind, p1, p2, p3, Result.andThen_ok]
  cases r1
  ·simp
  ·simp only [Bool.not_true, Bool.false_eq_true, if_false, Sem.run_pure, Result.andThen_ok, Bool.true_and]
   exact z0C hd hE w (by omega) (by omega) f2 e2
theorem JE (hd : dep ≤ d) {e : Bool} {el : Nat}   (hE : EqP P el z ag dep) {vs : List Value} (w : World) : ∀ {n i : Nat}, i * z.length + n * z.length = vs.length →
  Sem.run P (forIn (List.range' i n) PUnit.unit fun j _ => do
    let s ← Go.sizeOf el
    let a ← Go.part el vs.toArray (j * s)
    Instr.checkKey e d el a
    pure (ForInStep.yield PUnit.unit)) w = .ok PUnit.unit w
 | 0, i, h1 => by simp
 | n + 1, i, h1 => by
  rw [Nat.add_mul, Nat.one_mul] at h1
  have hi : i * z.length + z.length = (i + 1) * z.length := by rw [Nat.add_mul, Nat.one_mul]
  have p1 := hE.part vs (i * z.length) w (by omega)
  have p3 := hE.key d e hd ((vs.drop (i * z.length)).take z.length) w (by simp; omega)
  simp only [List.range'_succ, List.forIn_cons, Sem.run_bind, hE.size, p1, p3, Result.andThen_ok, Sem.run_pure]
  exact JE hd hE w (by omega)
theorem WY {n el : Nat} (hu : P.underlying t = some (.array n el))   {dep : Nat} (hE : EqP P el z ag dep) (hs : ∃ f, P.info? t = some f ∧ f.size = (z2a n z).length) : EqP P t (z2a n z) true (dep + 1) := by
 refine ⟨by omega, fun cs off w h => ?_, fun w => jo hs w, ?_, ?_, ?_⟩
 ·unfold Go.part Go.isAgg
  simp only [Sem.run_bind, run_underlying hu, Result.andThen_ok, Sem.run_pure, if_true, jo hs, mkV]
  congr 2
  apply Array.ext_getElem?
  intro j
  simp [List.getElem?_take, List.getElem?_drop]
 ·intro d hd vs us r w hv hu' hfit he
  obtain ⟨d, rfl⟩ : ∃ d', d = d' + 1 := ⟨d - 1, by omega⟩
  rw [z0e] at hv hu'
  simp only [mkV, if_true]
  unfold Op.equalIn
  simp only [Sem.run_bind, run_underlying hu, Result.andThen_ok, hE.size]
  simp only [Std.Legacy.Range.forIn_eq_forIn_range', Std.Legacy.Range.size, Nat.sub_zero, Nat.add_one_sub_one, Nat.div_one]
  have := z0C (P := P) (d := d) (dep := dep) (by omega) hE (vs := vs) (us := us) w (n := n) (i := 0) (r := r) (by simpa using hv.symm) (by simpa using hu'.symm) (by simpa using hfit) (by simpa using he)
  rw [this]
  cases r <;> simp
 ·intro d hd
  obtain ⟨d, rfl⟩ : ∃ d', d = d' + 1 := ⟨d - 1, by omega⟩
  unfold Program.eqGuardType
  simp only [hu]
  exact hE.guard d (by omega)
 ·intro d e hd vs w hv
  obtain ⟨d, rfl⟩ : ∃ d', d = d' + 1 := ⟨d - 1, by omega⟩
  rw [z0e] at hv
  simp only [mkV, if_true]
  unfold Instr.checkKey
  simp only [Sem.run_bind, run_underlying hu, Result.andThen_ok]
  simp only [Std.Legacy.Range.forIn_eq_forIn_range', Std.Legacy.Range.size, Nat.sub_zero, Nat.add_one_sub_one, Nat.div_one]
  have := JE (P := P) (dep := dep) (d := d) (e := e) (vs := vs) (by omega) hE w (n := n) (i := 0) (by simpa using hv.symm)
  rw [this]
  simp
theorem EqP.mono {dep dep' : Nat} (h : EqP P t z ag dep) (hd : dep ≤ dep') : EqP P t z ag dep' :=
 ⟨Nat.le_trans h.pos hd, h.part, h.size, fun d q => h.eq d (Nat.le_trans hd q), fun d q => h.guard d (Nat.le_trans hd q), fun d e q => h.key d e (Nat.le_trans hd q)⟩
theorem zZ.nil {dep off : Nat} : zZ P dep [] off [] := trivial
theorem zZ.cons {dep off : Nat} {f : Field} {fs : List Field}    (h1 : f.name ≠ "_") (h2 : f.offset = off) (h3 : EqP P f.type z ag dep) (h4 : zZ P dep fs (off + z.length) zs) : zZ P dep (f :: fs) off ((z, ag) :: zs) := ⟨h1, h2, h3, h4⟩
theorem kV {dep : Nat} (h : EqP P t z true dep) (hz : i.zero = some z) (hsz : i.size = z.length) (h1 : dep ≤ P.depth) (h2 : dep ≤ 10000) : z3v P t i := {
 guard := h.guard _ h1
 run := fun vs us r w hv hu hf he => h.eq _ h2 vs us r w (hv.trans hsz) (hu.trans hsz) (by simpa only [z7V, hz] using hf) he
 key := fun vs e w hv => h.key _ e h2 vs w (hv.trans hsz) }
end
inductive TrT (α : Type) where
 | nil
 | node (v : Option α) (l r : TrT α)
def TrT.get0 : TrT α → Nat → Option α
 | .nil, _ => none
 | .node v _ _, 0 => v
 | .node _ l r, k + 1 => match k % 2 with
  | 0 => l.get0 (k / 2)
  | _ => r.get0 (k / 2)
noncomputable def TrT.get (t : TrT α) : Nat → Option α :=
 TrT.rec (motive := fun _ => Nat → Option α) (fun _ => none) (fun v _ _ gl gr k => Nat.rec (motive := fun _ => Option α) v (fun k _ => Bool.rec (motive := fun _ => Option α) (gl (Nat.div k 2)) (gr (Nat.div k 2)) (Nat.beq (Nat.mod k 2) 1)) k) t
theorem TrT.get_eq : ∀ (t : TrT α) (k : Nat), t.get k = t.get0 k
 | .nil, k => by cases k <;> rfl
 | .node v l r, 0 => rfl
 | .node v l r, k + 1 => by
  show (Bool.rec (l.get (Nat.div k 2)) (r.get (Nat.div k 2)) (Nat.beq (Nat.mod k 2) 1) : Option α) = TrT.get0 (.node v l r) (k + 1)
  have e1 := TrT.get_eq l (Nat.div k 2)
  have e2 := TrT.get_eq r (Nat.div k 2)
  rw [e1, e2]
  have h0 : Nat.mod k 2 = k % 2 := rfl
  rcases Nat.mod_two_eq_zero_or_one k with h | h
  ·simp only [TrT.get0, h, h0]; rfl
  ·simp only [TrT.get0, h, h0]; rfl
inductive TrT.All {α : Type} (p : Nat → α → Prop) : TrT α → (Nat → Nat) → Prop
 | nil {f : Nat → Nat} : All p .nil f
 | some {f : Nat → Nat} {a : α} {l r : TrT α} (h : p (f 0) a) (hl : All p l (fun k => f (2 * k + 1))) (hr : All p r (fun k => f (2 * k + 2))) : All p (.node (some a) l r) f
 | none {f : Nat → Nat} {l r : TrT α} (hl : All p l (fun k => f (2 * k + 1))) (hr : All p r (fun k => f (2 * k + 2))) : All p (.node none l r) f
theorem TrT.All.get' {p : Nat → α → Prop} {t : TrT α} {f : Nat → Nat} (h : t.All p f) : ∀ (k : Nat) {a : α}, t.get0 k = Option.some a → p (f k) a := by
 have step : ∀ {v : Option α} {l r : TrT α} {f : Nat → Nat}, (∀ (k : Nat) {a : α}, l.get0 k = Option.some a → p (f (2 * k + 1)) a) → (∀ (k : Nat) {a : α}, r.get0 k = Option.some a → p (f (2 * k + 2)) a) → ∀ (k : Nat) {a : α}, (TrT.node v l r).get0 (k + 1) = Option.some a → p (f (k + 1)) a := by
  intro v l r f hl hr k a e
  simp only [TrT.get0] at e
  rcases Nat.mod_two_eq_zero_or_one k with h0 | h0
  ·simp only [h0] at e
   have := hl _ e
   rwa [show 2 * (k / 2) + 1 = k + 1 from by omega] at this
  ·simp only [h0] at e
   have := hr _ e
   rwa [show 2 * (k / 2) + 2 = k + 1 from by omega] at this
 induction h with
 | nil => intro k a e; cases k <;> simp [TrT.get0] at e
 | some h hl hr ihl ihr =>
  intro k a e
  cases k with
  | zero => simp only [TrT.get0, Option.some.injEq] at e; subst e; exact h
  | succ k => exact step ihl ihr k e
 | none hl hr ihl ihr =>
  intro k a e
  cases k with
  | zero => simp [TrT.get0] at e
  | succ k => exact step ihl ihr k e
theorem TrT.All.get {p : Nat → α → Prop} {t : TrT α} (h : t.All p (fun k => k)) (k : Nat) {a : α} (e : t.get k = Option.some a) : p k a := h.get' k (by rw [← TrT.get_eq]; exact e)
theorem zh (h : z.all (·.oneCell') = true) : ∀ u ∈ z, u.oneCell' = true := List.all_eq_true.1 h
end Go.Ex

namespace Go.Own
inductive H where
 | a (x : A)
 | l (xs : List A)
 | b (x : Bool)
 | g (gs : List Bool)
 | cut (n : Nat)
 | n (m : Nat) (ks : List Nat)
 | v (m : Nat) (ks : List Nat)
 | u (m : Nat)
 | f
 | op (m : Nat)
 | stp (m : Nat)
def HM (α : Type) := St → List H → Option (α × List Nat × List (Nat × Ent) × List H × List Prop)
def HM.bind {α β : Type} (m : HM α) (f : α → HM β) : HM β := fun st hs =>
 match m st hs with
 | none => none
 | some (a, R, U, hs', ob) =>
  match f a (z7 U st) hs' with
  | none => none
  | some (b, R', U', hs'', ob') => some (b, R ++ R', U ++ U', hs'', ob ++ ob')
variable {α : Type}
def HM.pure (a : α) : HM α := fun _ hs => some (a, [], [], hs, [])
instance : Monad HM := { pure := HM.pure, bind := HM.bind }
def zD : HM α := fun _ _ => none
def ye (m : SM α) : HM α := fun st hs => match m st with | some (a, R, U) => some (a, R, U, hs, []) | none => none
def z77 (p : Prop) : HM Unit := fun _ hs => some ((), [], [], hs, [p])
def z4O : HM (List A) := fun _ hs => match hs with | .l x :: hs => some (x, [], [], hs, []) | _ => none
def zaD : HM (List Bool) := fun _ hs => match hs with | .g x :: hs => some (x, [], [], hs, []) | _ => none
def Vt : List Prop → Prop
 | [] => True
 | p :: ps => p ∧ Vt ps
theorem ya : ∀ {l m : List Prop}, Vt (l ++ m) → Vt l ∧ Vt m
 | [], _, h => ⟨trivial, h⟩
 | _ :: _, _, h => ⟨⟨h.1, (ya h.2).1⟩, (ya h.2).2⟩
def Snd (m : SM α) (h : HM α) : Prop := ∀ st hs a R U hs' ob, h st hs = some (a, R, U, hs', ob) → Vt ob → m st = some (a, R, U)
theorem zk (m : SM α) : Snd m (ye m) := by
 intro st hs a R U hs' ob e _
 unfold Go.Own.ye at e
 split at e
 ·rename_i h; cases e; exact h
 ·cases e
theorem zb {α β : Type} {m : SM α} {h : HM α} {f : α → SM β} {g : α → HM β} (h1 : Snd m h) (h2 : ∀ a, Snd (f a) (g a)) : Snd (m >>= f) (h >>= g) := by
 intro st hs b R U hs' ob e ho
 change HM.bind h g st hs = _ at e
 change SM.bind m f st = _
 unfold HM.bind at e
 split at e
 ·cases e
 ·rename_i a R1 U1 hs1 ob1 e1
  split at e
  ·cases e
  ·rename_i b' R2 U2 hs2 ob2 e2
   cases e
   have ⟨o1, o2⟩ := ya ho
   unfold SM.bind
   rw [h1 _ _ _ _ _ _ _ e1 o1]
   dsimp only
   rw [h2 _ _ _ _ _ _ _ _ e2 o2]
theorem xe (a : α) : Snd (pure a) (pure a : HM α) := by
 intro st hs b R U hs' ob e _
 change HM.pure a st hs = _ at e
 unfold HM.pure at e
 cases e
 rfl
theorem zi (m : SM α) : Snd m (zD : HM α) := by intro st hs b R U hs' ob e; cases e
def z1y (x : Option A) : HM A := fun _ hs => match hs with | .a y :: hs => some (y, [], [], hs, [x = some y]) | _ => none
theorem VC (x : Option A) : Snd (ofO x) (z1y x) := by
 intro st hs a R U hs' ob e ho
 unfold Go.Own.z1y at e
 split at e
 ·cases e
  have : x = some _ := ho.1
  subst this
  rfl
 ·cases e
def eqA (x : A) : HM A := fun _ hs => match hs with | .a y :: hs => some (y, [], [], hs, [x = y]) | _ => none
theorem Kk (x : A) : Snd (pure x) (eqA x) := by
 intro st hs a R U hs' ob e ho
 unfold Go.Own.eqA at e
 split at e
 ·cases e
  have : x = _ := ho.1
  subst this
  rfl
 ·cases e
def eqL (x : List A) : HM (List A) := fun _ hs => match hs with | .l y :: hs => some (y, [], [], hs, [x = y]) | _ => none
theorem z6R (x : List A) : Snd (pure x) (eqL x) := by
 intro st hs a R U hs' ob e ho
 unfold Go.Own.eqL at e
 split at e
 ·cases e
  have : x = _ := ho.1
  subst this
  rfl
 ·cases e
def zcf (x : Bool) : HM Bool := fun _ hs => match hs with | .b y :: hs => some (y, [], [], hs, [x = y]) | _ => none
theorem z21 (x : Bool) : Snd (pure x) (zcf x) := by
 intro st hs a R U hs' ob e ho
 unfold Go.Own.zcf at e
 split at e
 ·cases e
  have : x = _ := ho.1
  subst this
  rfl
 ·cases e
def YO (p : Prop)  (h : HM α) : HM α := z77 p >>= fun _ => h
variable {p : Prop}
theorem Wp {m m' : SM α} {h : HM α} [Decidable p] (h1 : Snd m h) : Snd (if p then m else m') (YO p h) := by
 intro st hs b R U hs' ob e ho
 change HM.bind (z77 p) (fun _ => h) st hs = _ at e
 unfold HM.bind z77 at e
 dsimp only at e
 split at e
 ·cases e
 ·rename_i b' R2 U2 hs2 ob2 e2
  simp [Option.some.injEq, Prod.mk.injEq, List.nil_append] at e
  obtain ⟨rfl, rfl, rfl, rfl, rfl⟩ := e
  have : p := ho.1
  rw [if_pos this]
  exact h1 _ _ _ _ _ _ _ e2 ho.2
theorem UI {m : SM α} {h : HM α} (h1 : p → Snd m h) : Snd m (YO p h) := by
 intro st hs b R U hs' ob e ho
 change HM.bind (z77 p) (fun _ => h) st hs = _ at e
 unfold HM.bind z77 at e
 dsimp only at e
 split at e
 ·cases e
 ·rename_i b' R2 U2 hs2 ob2 e2
  simp [Option.some.injEq, Prod.mk.injEq, List.nil_append] at e
  obtain ⟨rfl, rfl, rfl, rfl, rfl⟩ := e
  exact h1 ho.1 _ _ _ _ _ _ _ e2 ho.2
theorem xY [Decidable p] {m m' : SM α} {h h' : HM α} (h1 : Snd m h) (h2 : Snd m' h') : Snd (if p then m else m') (if p then h else h') := by
 split <;> assumption
theorem X1 {m m' : SM α} {h : HM α} (e : m = m') (h1 : Snd m' h) : Snd m h := e ▸ h1
def z2N (m : HM α) : HM α := fun st hs => match m st hs with | some (a, R, _, hs', ob) => some (a, R, [], hs', ob) | none => none
theorem z6Q {m : SM α} {h : HM α} (h1 : Snd m h) : Snd (ghost m) (z2N h) := by
 intro st hs b R U hs' ob e ho
 unfold z2N at e
 split at e
 ·rename_i a R1 U1 hs1 ob1 e1
  cases e
  unfold Go.Own.ghost
  rw [h1 _ _ _ _ _ _ _ e1 ho]
 ·cases e
def orH (x y : HM α) : HM α := fun st hs => match hs with | .f :: hs' => x st hs' | hs => y st hs
theorem zeH {m : SM α} {x y : HM α} (h1 : Snd m x) (h2 : Snd m y) : Snd m (orH x y) := by
 intro st hs a R U hs' ob e ho
 unfold orH at e
 split at e
 ·exact h1 _ _ _ _ _ _ _ e ho
 ·exact h2 _ _ _ _ _ _ _ e ho
def z3z : List uK → A → HM A
 | [], x => pure x
 | .deref :: p, .box x => z3z p x
 | .fld i :: p, .agg fs => orH (z1y fs[i]? >>= fun y => z3z p y) (match fs[i]? with | some y => z3z p y | none => zD)
 | .idx i :: p, .osl _ _ es => z1y es[i]? >>= fun y => z3z p y
 | _, _ => zD
theorem zQ {α β : Type} (x : α) (f : α → SM β) : (pure x >>= f) = f x := by
 funext st
 change SM.bind (SM.pure x) f st = _
 unfold SM.bind SM.pure
 simp [List.nil_append]
 show (match f x st with | none => none | some (b, R', U') => some (b, R', U')) = f x st
 cases f x st with
 | _ => rfl
theorem Jm (e : Option A) (f : A → Option α) : (ofO (match e with | some y => f y | none => none) : SM α) = (ofO e >>= fun y => ofO (f y)) := by
 funext st
 change _ = SM.bind (ofO e) _ st
 cases e with
 | none => rfl
 | some y =>
  unfold SM.bind ofO
  simp [List.nil_append]
  cases f y <;> rfl
theorem Kj : ∀ (p : List uK) (x : A), Snd (ofO (yD p x)) (z3z p x)
 | [], x => xe x
 | .deref :: p, .box x => Kj p x
 | .fld i :: p, .agg fs => by
  simp [yD, z3z]
  refine zeH ?_ ?_
  ·refine X1 (Jm _ (fun y => yD p y)) ?_
   exact zb (VC _) fun y => Kj p y
  ·cases h : fs[i]? with
   | some y => exact Kj p y
   | none => exact zi _
 | .idx i :: p, .osl sz t es => by
  simp [yD, z3z]
  refine X1 (Jm _ (fun y => yD p y)) ?_
  exact zb (VC _) fun y => Kj p y
 | .deref :: p, .atom _ | .deref :: p, .fn _ _ | .deref :: p, .agg _ | .deref :: p, .tup _ | .deref :: p, .sl _ _ _ | .deref :: p, .sptr _ | .deref :: p, .dop _ | .deref :: p, .osl _ _ _ | .deref :: p, .dead _ | .deref :: p, .opq _ => zi _
 | .fld i :: p, .atom _ | .fld i :: p, .fn _ _ | .fld i :: p, .box _ | .fld i :: p, .tup _ | .fld i :: p, .sl _ _ _ | .fld i :: p, .sptr _ | .fld i :: p, .dop _ | .fld i :: p, .osl _ _ _ | .fld i :: p, .dead _ | .fld i :: p, .opq _ => zi _
 | .idx i :: p, .atom _ | .idx i :: p, .fn _ _ | .idx i :: p, .box _ | .idx i :: p, .tup _ | .idx i :: p, .sl _ _ _ | .idx i :: p, .sptr _ | .idx i :: p, .dop _ | .idx i :: p, .agg _ | .idx i :: p, .dead _ | .idx i :: p, .opq _ => zi _
def z1w : List uK → A → A → HM A
 | [], _, z => pure z
 | .deref :: p, .box x, z => z1w p x z >>= fun y => pure (.box y)
 | .fld i :: p, .agg fs, z => orH (z1y fs[i]? >>= fun y => z1w p y z >>= fun w => eqL (fs.set i w) >>= fun es' => pure (.agg es')) (match fs[i]? with | some y => z1w p y z >>= fun w => pure (.agg (fs.set i w)) | none => zD)
 | .idx i :: p, .osl sz t es, z => z1y es[i]? >>= fun y => z1w p y z >>= fun w => eqL (es.set i w) >>= fun es' => pure (.osl sz t es')
 | _, _, _ => zD
variable {U : List (Nat × Ent)}{R : List Nat}{st : St}{hs : List H}{hs' : List H}
theorem z3m {x : Option A}   {a : A}    {ob : List Prop} (e : z1y x st hs = some (a, R, U, hs', ob)) (ho : Vt ob) : x = some a ∧ R = [] ∧ U = [] := by
 unfold z1y at e
 split at e
 ·cases e
  exact ⟨ho.1, rfl, rfl⟩
 ·cases e
theorem z2Z {x : List A}   {a : List A}    {ob : List Prop} (e : eqL x st hs = some (a, R, U, hs', ob)) (ho : Vt ob) : x = a ∧ R = [] ∧ U = [] := by
 unfold eqL at e
 split at e
 ·cases e
  exact ⟨ho.1, rfl, rfl⟩
 ·cases e
theorem kQ {α β : Type} {m : HM α} {f : α → HM β}   {b : β}    {ob : List Prop} (e : (m >>= f) st hs = some (b, R, U, hs', ob)) :
  ∃ a R1 U1 hs1 ob1 R2 U2 ob2, m st hs = some (a, R1, U1, hs1, ob1) ∧ f a (z7 U1 st) hs1 = some (b, R2, U2, hs', ob2) ∧ R = R1 ++ R2 ∧ U = U1 ++ U2 ∧ ob = ob1 ++ ob2 := by
 change HM.bind m f st hs = _ at e
 unfold HM.bind at e
 split at e
 ·cases e
 ·rename_i a R1 U1 hs1 ob1 e1
  split at e
  ·cases e
  ·rename_i b' R2 U2 hs2 ob2 e2
   cases e
   exact ⟨a, R1, U1, hs1, ob1, R2, U2, ob2, e1, e2, rfl, rfl, rfl⟩
theorem Y4 {x b : α}      {ob : List Prop} (e : (pure x : HM α) st hs = some (b, R, U, hs', ob)) : x = b ∧ R = [] ∧ U = [] ∧ ob = [] := by
 change HM.pure x st hs = _ at e
 unfold HM.pure at e
 cases e
 exact ⟨rfl, rfl, rfl, rfl⟩
theorem Yr : ∀ (p : List uK) (x z : A) {st : St} {hs : List H} {a : A} {R : List Nat} {U : List (Nat × Ent)} {hs' : List H} {ob : List Prop}, z1w p x z st hs = some (a, R, U, hs', ob) → Vt ob → wT p x z = a ∧ R = [] ∧ U = []
 | [], x, z, st, hs, a, R, U, hs', ob, e, _ => by have ⟨h1, h2, h3, _⟩ := Y4 e; exact ⟨h1, h2, h3⟩
 | .deref :: p, .box x, z, st, hs, a, R, U, hs', ob, e, ho => by
  simp [z1w] at e
  obtain ⟨b, R1, U1, hs1, ob1, R2, U2, ob2, e1, e2, rfl, rfl, rfl⟩ := kQ e
  have ⟨o1, o2⟩ := ya ho
  obtain ⟨h1, rfl, rfl⟩ := Yr p x z e1 o1
  obtain ⟨h2, rfl, rfl, _⟩ := Y4 e2
  exact ⟨by rw [wT, h1]; exact h2, rfl, rfl⟩
 | .fld i :: p, .agg fs, z, st, hs, a, R, U, hs', ob, e, ho => by
  simp [z1w] at e
  unfold orH at e
  split at e
  ·obtain ⟨b, R1, U1, hs1, ob1, R2, U2, ob2, e1, e2, rfl, rfl, rfl⟩ := kQ e
   have ⟨o1, o2⟩ := ya ho
   obtain ⟨g1, rfl, rfl⟩ := z3m e1 o1
   obtain ⟨w, R3, U3, hs3, ob3, R4, U4, ob4, e3, e4, rfl, rfl, rfl⟩ := kQ e2
   have ⟨o3, o4⟩ := ya o2
   obtain ⟨h1, rfl, rfl⟩ := Yr p b z e3 o3
   obtain ⟨es', R5, U5, hs5, ob5, R6, U6, ob6, e5, e6, rfl, rfl, rfl⟩ := kQ e4
   have ⟨o5, o6⟩ := ya o4
   obtain ⟨g2, rfl, rfl⟩ := z2Z e5 o5
   obtain ⟨h2, rfl, rfl, _⟩ := Y4 e6
   refine ⟨?_, rfl, rfl⟩
   rw [wT, g1]
   dsimp only
   rw [h1, g2]
   exact h2
  ·cases hy : fs[i]? with
   | some y =>
    simp [hy] at e
    obtain ⟨b, R1, U1, hs1, ob1, R2, U2, ob2, e1, e2, rfl, rfl, rfl⟩ := kQ e
    have ⟨o1, o2⟩ := ya ho
    obtain ⟨h1, rfl, rfl⟩ := Yr p y z e1 o1
    obtain ⟨h2, rfl, rfl, _⟩ := Y4 e2
    refine ⟨?_, rfl, rfl⟩
    rw [wT, hy]
    dsimp only
    rw [h1]
    exact h2
   | none => simp [hy] at e; cases e
 | .idx i :: p, .osl sz t es, z, st, hs, a, R, U, hs', ob, e, ho => by
  simp [z1w] at e
  obtain ⟨b, R1, U1, hs1, ob1, R2, U2, ob2, e1, e2, rfl, rfl, rfl⟩ := kQ e
  have ⟨o1, o2⟩ := ya ho
  obtain ⟨g1, rfl, rfl⟩ := z3m e1 o1
  obtain ⟨w, R3, U3, hs3, ob3, R4, U4, ob4, e3, e4, rfl, rfl, rfl⟩ := kQ e2
  have ⟨o3, o4⟩ := ya o2
  obtain ⟨h1, rfl, rfl⟩ := Yr p b z e3 o3
  obtain ⟨es', R5, U5, hs5, ob5, R6, U6, ob6, e5, e6, rfl, rfl, rfl⟩ := kQ e4
  have ⟨o5, o6⟩ := ya o4
  obtain ⟨g2, rfl, rfl⟩ := z2Z e5 o5
  obtain ⟨h2, rfl, rfl, _⟩ := Y4 e6
  refine ⟨?_, rfl, rfl⟩
  rw [wT, g1]
  dsimp only
  rw [h1, g2]
  exact h2
 | .deref :: p, .atom _, _, _, _, _, _, _, _, _, e, _ | .deref :: p, .fn _ _, _, _, _, _, _, _, _, _, e, _ | .deref :: p, .agg _, _, _, _, _, _, _, _, _, e, _ | .deref :: p, .tup _, _, _, _, _, _, _, _, _, e, _ | .deref :: p, .sl _ _ _, _, _, _, _, _, _, _, _, e, _
 | .deref :: p, .sptr _, _, _, _, _, _, _, _, _, e, _ | .deref :: p, .dop _, _, _, _, _, _, _, _, _, e, _ | .deref :: p, .osl _ _ _, _, _, _, _, _, _, _, _, e, _ | .deref :: p, .dead _, _, _, _, _, _, _, _, _, e, _ | .deref :: p, .opq _, _, _, _, _, _, _, _, _, e, _ => by cases e
 | .fld i :: p, .atom _, _, _, _, _, _, _, _, _, e, _ | .fld i :: p, .fn _ _, _, _, _, _, _, _, _, _, e, _ | .fld i :: p, .box _, _, _, _, _, _, _, _, _, e, _ | .fld i :: p, .tup _, _, _, _, _, _, _, _, _, e, _ | .fld i :: p, .sl _ _ _, _, _, _, _, _, _, _, _, e, _
 | .fld i :: p, .sptr _, _, _, _, _, _, _, _, _, e, _ | .fld i :: p, .dop _, _, _, _, _, _, _, _, _, e, _ | .fld i :: p, .osl _ _ _, _, _, _, _, _, _, _, _, e, _ | .fld i :: p, .dead _, _, _, _, _, _, _, _, _, e, _ | .fld i :: p, .opq _, _, _, _, _, _, _, _, _, e, _ => by cases e
 | .idx i :: p, .atom _, _, _, _, _, _, _, _, _, e, _ | .idx i :: p, .fn _ _, _, _, _, _, _, _, _, _, e, _ | .idx i :: p, .agg _, _, _, _, _, _, _, _, _, e, _ | .idx i :: p, .tup _, _, _, _, _, _, _, _, _, e, _ | .idx i :: p, .sl _ _ _, _, _, _, _, _, _, _, _, e, _
 | .idx i :: p, .sptr _, _, _, _, _, _, _, _, _, e, _ | .idx i :: p, .dop _, _, _, _, _, _, _, _, _, e, _ | .idx i :: p, .box _, _, _, _, _, _, _, _, _, e, _ | .idx i :: p, .dead _, _, _, _, _, _, _, _, _, e, _ | .idx i :: p, .opq _, _, _, _, _, _, _, _, _, e, _ => by cases e
theorem z6J (p : List uK) (x z : A) : Snd (pure (wT p x z)) (z1w p x z) := by
 intro st hs a R U hs' ob e ho
 obtain ⟨rfl, rfl, rfl⟩ := Yr p x z e ho
 rfl
def Zx : A → HM A
 | .osl sz t es => z4O >>= fun xs => YO (A.lives es = true ∧ A.shuts es = xs) (pure (.sl sz t xs))
 | .agg fs => shutAs fs >>= fun gs => pure (.agg gs)
 | .box x => Zx x >>= fun y => pure (.sptr y)
 | .dead _ | .opq _ | .tup _ => zD
 | x => pure x
where shutAs : List A → HM (List A)
 | [] => pure []
 | x :: xs => Zx x >>= fun y => shutAs xs >>= fun ys => pure (y :: ys)
theorem Q0 {h : HM α}   {a : α}    {ob : List Prop} (e : YO p h st hs = some (a, R, U, hs', ob)) (ho : Vt ob) : p ∧ ∃ ob', h st hs = some (a, R, U, hs', ob') ∧ Vt ob' := by
 obtain ⟨_, R1, U1, hs1, ob1, R2, U2, ob2, e1, e2, rfl, rfl, rfl⟩ := kQ e
 unfold z77 at e1
 cases e1
 exact ⟨ho.1, ob2, e2, ho.2⟩
mutual
theorem Wm : ∀ (x : A) {st : St} {hs : List H} {a : A} {R : List Nat} {U : List (Nat × Ent)} {hs' : List H} {ob : List Prop}, Zx x st hs = some (a, R, U, hs', ob) → Vt ob → x.live = true ∧ x.shut = a ∧ R = [] ∧ U = []
 | .osl sz t es, st, hs, a, R, U, hs', ob, e, ho => by
  simp only [Zx] at e
  obtain ⟨xs, R1, U1, hs1, ob1, R2, U2, ob2, e1, e2, rfl, rfl, rfl⟩ := kQ e
  have ⟨o1, o2⟩ := ya ho
  have hh : R1 = [] ∧ U1 = [] := by
   unfold z4O at e1
   split at e1
   ·simp only [Option.some.injEq, Prod.mk.injEq] at e1; exact ⟨e1.2.1.symm, e1.2.2.1.symm⟩
   ·cases e1
  obtain ⟨rfl, rfl⟩ := hh
  have ⟨⟨q1, q2⟩, ob', e3, _⟩ := Q0 e2 o2
  obtain ⟨h1, rfl, rfl, _⟩ := Y4 e3
  exact ⟨by simp only [A.live]; exact q1, by simp only [A.shut]; rw [q2]; exact h1, rfl, rfl⟩
 | .agg fs, st, hs, a, R, U, hs', ob, e, ho => by
  simp only [Zx] at e
  obtain ⟨xs, R1, U1, hs1, ob1, R2, U2, ob2, e1, e2, rfl, rfl, rfl⟩ := kQ e
  have ⟨o1, o2⟩ := ya ho
  obtain ⟨q1, q2, rfl, rfl⟩ := Vw fs e1 o1
  obtain ⟨h1, rfl, rfl, _⟩ := Y4 e2
  exact ⟨by simp only [A.live]; exact q1, by simp only [A.shut]; rw [q2]; exact h1, rfl, rfl⟩
 | .box x, st, hs, a, R, U, hs', ob, e, ho => by
  simp only [Zx] at e
  obtain ⟨xs, R1, U1, hs1, ob1, R2, U2, ob2, e1, e2, rfl, rfl, rfl⟩ := kQ e
  have ⟨o1, o2⟩ := ya ho
  obtain ⟨q1, q2, rfl, rfl⟩ := Wm x e1 o1
  obtain ⟨h1, rfl, rfl, _⟩ := Y4 e2
  exact ⟨by simp only [A.live]; exact q1, by simp only [A.shut]; rw [q2]; exact h1, rfl, rfl⟩
 | .dead _, _, _, _, _, _, _, _, e, _ => by cases e
 | .opq _, _, _, _, _, _, _, _, e, _ => by cases e
 | .tup _, _, _, _, _, _, _, _, e, _ => by cases e
 | .atom v, _, _, _, _, _, _, _, e, _ => by simp only [Zx] at e; obtain ⟨h1, rfl, rfl, _⟩ := Y4 e; exact ⟨rfl, h1, rfl, rfl⟩
 | .fn _ _, _, _, _, _, _, _, _, e, _ => by simp only [Zx] at e; obtain ⟨h1, rfl, rfl, _⟩ := Y4 e; exact ⟨rfl, h1, rfl, rfl⟩
 | .sl _ _ _, _, _, _, _, _, _, _, e, _ => by simp only [Zx] at e; obtain ⟨h1, rfl, rfl, _⟩ := Y4 e; exact ⟨rfl, h1, rfl, rfl⟩
 | .sptr _, _, _, _, _, _, _, _, e, _ => by simp only [Zx] at e; obtain ⟨h1, rfl, rfl, _⟩ := Y4 e; exact ⟨rfl, h1, rfl, rfl⟩
 | .dop _, _, _, _, _, _, _, _, e, _ => by simp only [Zx] at e; obtain ⟨h1, rfl, rfl, _⟩ := Y4 e; exact ⟨rfl, h1, rfl, rfl⟩
theorem Vw : ∀ (x : List A) {st : St} {hs : List H} {a : List A} {R : List Nat} {U : List (Nat × Ent)} {hs' : List H} {ob : List Prop}, Zx.shutAs x st hs = some (a, R, U, hs', ob) → Vt ob → A.lives x = true ∧ A.shuts x = a ∧ R = [] ∧ U = []
 | [], _, _, _, _, _, _, _, e, _ => by simp only [Zx.shutAs] at e; obtain ⟨h1, rfl, rfl, _⟩ := Y4 e; exact ⟨rfl, h1, rfl, rfl⟩
 | x :: xs, st, hs, a, R, U, hs', ob, e, ho => by
  simp only [Zx.shutAs] at e
  obtain ⟨y, R1, U1, hs1, ob1, R2, U2, ob2, e1, e2, rfl, rfl, rfl⟩ := kQ e
  have ⟨o1, o2⟩ := ya ho
  obtain ⟨q1, q2, rfl, rfl⟩ := Wm x e1 o1
  obtain ⟨ys, R3, U3, hs3, ob3, R4, U4, ob4, e3, e4, rfl, rfl, rfl⟩ := kQ e2
  have ⟨o3, o4⟩ := ya o2
  obtain ⟨q3, q4, rfl, rfl⟩ := Vw xs e3 o3
  obtain ⟨h1, rfl, rfl, _⟩ := Y4 e4
  exact ⟨by simp only [A.lives, Bool.and_eq_true]; exact ⟨q1, q3⟩, by simp only [A.shuts]; rw [q2, q4]; exact h1, rfl, rfl⟩
end
theorem QS {p c q : Prop} [Decidable p] [Decidable c] {m m' : SM α} {h : HM α} (hpq : c → q → p) (h1 : Snd m h) : Snd (if p then m else m') (if c then YO q h else zD) := by
 by_cases hc : c
 ·rw [if_pos hc]
  exact UI fun hq => X1 (if_pos (hpq hc hq)) h1
 ·rw [if_neg hc]
  exact zi _
def KD (r : Nat) (p : List uK) (er ec : Nat) : HM A := ye (rdE r) >>= fun e =>
 match e.t with
 | .own x => if e.er = er ∧ (p = [] ∨ e.ec = ec) then z3z p x else zD
 | .d x => if e.er = er ∧ p = [] then pure x else zD
 | _ => zD
theorem VB (r : Nat) (p : List uK) (er ec : Nat) : Snd (look r p er ec) (KD r p er ec) := by
 refine zb (zk _) fun e => ?_
 have ⟨t, a, b⟩ := e
 cases t with
 | own x => exact xY (Kj _ _) (zi _)
 | d x => exact xY (xe _) (zi _)
 | _ => exact zi _
def VP (r : Nat) (p : List uK) (er ec : Nat) : HM A := ye (rdE r) >>= fun e =>
 match e.t with
 | .own x => if e.er = er ∧ e.ec = ec then z3z p x else zD
 | _ => zD
theorem UJ (r : Nat) (p : List uK) (er ec : Nat) : Snd (lookP r p er ec) (VP r p er ec) := by
 refine zb (zk _) fun e => ?_
 have ⟨t, a, b⟩ := e
 cases t with
 | own x => exact xY (Kj _ _) (zi _)
 | _ => exact zi _
def Qo : T → HM A
 | .d a => pure a
 | .als r p er ec => KD r p er ec >>= fun y => if y.isD = true then pure y else zD
 | _ => zD
theorem kA (x : T) : Snd (val x) (Qo x) := by
 cases x with
 | d a => exact xe _
 | als r p er ec => exact zb (VB _ _ _ _) fun y => xY (xe _) (zi _)
 | _ => exact zi _
def z6A : T → HM A
 | .d a => pure a
 | .als r p er ec => KD r p er ec >>= fun y =>
  if y.isD = true then pure y else if y.plain = true then ye (rdE r) >>= fun e =>
   match e.t with
   | .own x =>
    if p = [] then ye (wrE r ⟨.gone, e.er + 1, e.ec + 1⟩) >>= fun _ => pure y
    else z1w p x (.dead y.size) >>= fun z => ye (wrE r ⟨.own z, e.er, e.ec + 1⟩) >>= fun _ => pure y
   | _ => zD
  else zD
 | _ => zD
theorem z5D (x : T) : Snd (take x) (z6A x) := by
 cases x with
 | d a => exact xe _
 | als r p er ec =>
  refine zb (VB _ _ _ _) fun y => xY (xe _) (xY (zb (zk _) fun e => ?_) (zi _))
  have ⟨t, a, b⟩ := e
  cases t with
  | own x =>
   refine xY (sdLift' _ _) ?_
   refine X1 (m' := pure (wT p x (.dead y.size)) >>= fun z => wrE r ⟨.own z, a, b + 1⟩ >>= fun _ => pure y) (zQ _ _).symm ?_
   exact zb (z6J _ _ _) fun z => sdLift' _ _
  | _ => exact zi _
 | _ => exact zi _
where sdLift' {β : Type} (m : SM Unit) (y : β) : Snd (m >>= fun _ => pure y) (ye m >>= fun _ => pure y) := zb (zk m) fun _ => xe y
def Ym (tt : TT) (t : Nat) (x : T) : HM A := z6A x >>= fun y => pure (ke tt t y)
theorem ZV (tt : TT) (t : Nat) (x : T) : Snd (takeC tt t x) (Ym tt t x) := zb (z5D x) fun _ => xe _
def WA : T → HM (A ⊕ (Nat × List uK × Nat × Nat))
 | .d (.sptr y) => pure (.inl y)
 | .ptr r p er ec => pure (.inr (r, p, er, ec))
 | .als r p er ec => ye (rdE r) >>= fun e => KD r p er ec >>= fun y =>
  match y with
  | .box _ => pure (.inr (r, p ++ [.deref], e.er, e.ec))
  | .sptr z => pure (.inl z)
  | _ => zD
 | _ => zD
theorem Wo (x : T) : Snd (ptrOf x) (WA x) := by
 cases x with
 | d a => cases a <;> first | exact xe _ | exact zi _
 | ptr r p er ec => exact xe _
 | als r p er ec =>
  refine zb (zk _) fun e => zb (VB _ _ _ _) fun y => ?_
  cases y <;> first | exact xe _ | exact zi _
 | _ => exact zi _
def Kv : T → HM A
 | .d a => pure a
 | .als r p er ec => KD r p er ec
 | _ => zD
theorem Vz (x : T) : Snd (peek x) (Kv x) := by
 cases x with
 | d a => exact xe _
 | als r p er ec => exact VB _ _ _ _
 | _ => exact zi _
def z5V (tt : TT) (n : Fr) (dst : Option Nat) (t : Nat) (x : T) : HM Unit := WA x >>= fun q =>
 match q with
 | .inl y => if j8 tt t y = true ∧ y.isD = true then ye (wrT n dst (.d y)) else zD
 | .inr (r, p, er, ec) => VP r p er ec >>= fun y =>
  if j8 tt t y = true then
   (if y.isD = true then ye (wrT n dst (.d y)) else ye (wrT n dst (.als r p er ec)))
  else zD
theorem z6O (tt : TT) (n : Fr) (dst : Option Nat) (t : Nat) (x : T) : Snd (loadA tt n dst t x) (z5V tt n dst t x) := by
 refine zb (Wo _) fun q => ?_
 rcases q with y | ⟨r, p, er, ec⟩
 ·exact xY (zk _) (zi _)
 ·exact zb (UJ _ _ _ _) fun y => xY (xY (zk _) (zk _)) (zi _)
def z1O (tt : TT) (t : Nat) (x v : T) : HM Unit := WA x >>= fun q =>
 match q with
 | .inl _ => zD
 | .inr (r, p, er, ec) => Ym tt t v >>= fun y => ye (rdE r) >>= fun e =>
  match e.t with
  | .own x0 =>
   if e.er = er ∧ e.ec = ec then z3z p x0 >>= fun y0 =>
    if y.size = y0.size ∧ j8 tt t y = true then z1w p x0 y >>= fun z => ye (wrE r ⟨.own z, e.er, e.ec + 1⟩) else zD
   else zD
  | _ => zD
theorem z49 (tt : TT) (t : Nat) (x v : T) : Snd (storeA tt t x v) (z1O tt t x v) := by
 refine zb (Wo _) fun q => ?_
 rcases q with y | ⟨r, p, er, ec⟩
 ·exact zi _
 ·refine zb (ZV _ _ _) fun y => zb (zk _) fun e => ?_
  have ⟨t', a, b⟩ := e
  cases t' with
  | own x0 =>
   refine xY ?_ (zi _)
   refine X1 (m' := ofO (yD p x0) >>= fun y0 => if y.size = y0.size ∧ j8 tt t y = true then wrE r ⟨.own (wT p x0 y), a, b + 1⟩ else zm) ?_ ?_
   ·cases yD p x0 with
    | none => rfl
    | some y0 => exact (zQ _ _).symm
   ·refine zb (Kj _ _) fun y0 => xY ?_ (zi _)
    refine X1 (m' := pure (wT p x0 y) >>= fun z => wrE r ⟨.own z, a, b + 1⟩) (zQ _ _).symm ?_
    exact zb (z6J _ _ _) fun z => zk _
  | _ => exact zi _
def WX (tt : TT) (n : Fr) (dst : Option Nat) (t i : Nat) (x : T) : HM Unit := WA x >>= fun q =>
 match q with
 | .inl (.agg fs) =>
  match fs[i]? with
  | some y => if Xf tt t i fs = true then ye (wrT n dst (.d (.sptr y))) else zD
  | none => zD
 | .inl _ => zD
 | .inr (r, p, er, ec) => VP r p er ec >>= fun y =>
  match y with
  | .agg fs => if Xf tt t i fs = true ∧ i < fs.length then ye (wrT n dst (.ptr r (p ++ [.fld i]) er ec)) else zD
  | _ => zD
theorem QT (tt : TT) (n : Fr) (dst : Option Nat) (t i : Nat) (x : T) : Snd (fieldAddrA tt n dst t i x) (WX tt n dst t i x) := by
 refine zb (Wo _) fun q => ?_
 rcases q with y | ⟨r, p, er, ec⟩
 ·cases y with
  | agg fs =>
   dsimp only
   cases fs[i]? with
   | some y => exact xY (zk _) (zi _)
   | none => exact zi _
  | _ => exact zi _
 ·refine zb (UJ _ _ _ _) fun y => ?_
  cases y with
  | agg fs => exact xY (zk _) (zi _)
  | _ => exact zi _
def z7k (tt : TT) (n : Fr) (dst : Option Nat) (t : Nat) (sz : Nat) (xs : List A) (j : Int) : HM Unit :=
 if yX tt t = some sz then YO (0 ≤ j) (z1y xs[j.toNat]? >>= fun y => ye (wrT n dst (.d (.sptr y)))) else zD
theorem z20 (tt : TT) (n : Fr) (dst : Option Nat) (t : Nat) (sz : Nat) (xs : List A) (j : Int) :
  Snd (if yX tt t = some sz ∧ 0 ≤ j then (match xs[j.toNat]? with | some y => wrT n dst (.d (.sptr y)) | none => zm) else zm) (z7k tt n dst t sz xs j) := by
 refine QS (fun h1 h2 => ⟨h1, h2⟩) ?_
 refine X1 (m' := ofO xs[j.toNat]? >>= fun y => wrT n dst (.d (.sptr y))) ?_ (zb (VC _) fun y => zk _)
 cases xs[j.toNat]? with
 | none => rfl
 | some y0 => exact (zQ _ _).symm
def WV (tt : TT) (n : Fr) (dst : Option Nat) (t : Nat) (x : T) (i : A) : HM Unit :=
 match i with
 | .atom (.int _ j) =>
  match x with
  | .d (.sl sz _ xs) => z7k tt n dst t sz xs j
  | .als r p er ec => ye (rdE r) >>= fun e => KD r p er ec >>= fun y =>
   match y with
   | .osl sz _ es => if yX tt t = some sz then YO (0 ≤ j ∧ j.toNat < es.length) (ye (wrT n dst (.ptr r (p ++ [.idx j.toNat]) e.er e.ec))) else zD
   | .sl sz _ xs => z7k tt n dst t sz xs j
   | _ => zD
  | _ => zD
 | _ => zD
theorem QR (tt : TT) (n : Fr) (dst : Option Nat) (t : Nat) (x : T) (i : A) : Snd (indexAddrA tt n dst t x i) (WV tt n dst t x i) := by
 cases i with
 | atom v =>
  cases v with
  | int k j =>
   cases x with
   | d a =>
    cases a with
    | sl sz tg xs => exact z20 tt n dst t sz xs j
    | _ => exact zi _
   | als r p er ec =>
    refine zb (zk _) fun e => zb (VB _ _ _ _) fun y => ?_
    cases y with
    | osl sz tg es => exact QS (fun h1 h2 => ⟨h1, h2.1, h2.2⟩) (zk _)
    | sl sz tg xs => exact z20 tt n dst t sz xs j
    | _ => exact zi _
   | _ => exact zi _
  | _ => exact zi _
 | _ => exact zi _
def VS (tt : TT) (n : Fr) (dst : Option Nat) (t : Nat) (x : T) (i : A) : HM Unit :=
 match i with
 | .atom (.int _ j) => WA x >>= fun q =>
  match q with
  | .inl (.agg fs) => z1y fs[j.toNat]? >>= fun y => YO (XE tt t fs j = true) (ye (wrT n dst (.d (.sptr y))))
  | .inl _ => zD
  | .inr (r, p, er, ec) => VP r p er ec >>= fun y =>
   match y with
   | .agg fs => YO (XE tt t fs j = true ∧ j.toNat < fs.length) (ye (wrT n dst (.ptr r (p ++ [.fld j.toNat]) er ec)))
   | _ => zD
 | _ => zD
theorem Ki (tt : TT) (n : Fr) (dst : Option Nat) (t : Nat) (x : T) (i : A) : Snd (indexArrA tt n dst t x i) (VS tt n dst t x i) := by
 cases i with
 | atom v =>
  cases v with
  | int k j =>
   refine zb (Wo _) fun q => ?_
   rcases q with y | ⟨r, p, er, ec⟩
   ·cases y with
    | agg fs =>
     refine X1 (m' := ofO fs[j.toNat]? >>= fun y => if XE tt t fs j = true then wrT n dst (.d (.sptr y)) else zm) ?_ (zb (VC _) fun y => Wp (zk _))
     dsimp only
     cases fs[j.toNat]? with
     | none => rfl
     | some y0 => exact (zQ _ _).symm
    | _ => exact zi _
   ·refine zb (UJ _ _ _ _) fun y => ?_
    cases y with
    | agg fs => exact Wp (zk _)
    | _ => exact zi _
  | _ => exact zi _
 | _ => exact zi _
def W2 (tt : TT) (n : Fr) (dst : Option Nat) (t : Nat) (s x : T) : HM Unit :=
 match tt t with
 | some ⟨.slice e, _, _, _, _⟩ =>
  match tt e with
  | some i => Kv x >>= fun y =>
   match y with
   | .sl sz _ ys | .osl sz _ ys =>
    if sz = i.size ∧ i.bytes ≤ 4096 ∧ 0 < i.size ∧ i.zero.isSome = true then YO (A.areD ys = true) (Ym tt t s >>= fun z =>
     match z with
     | .osl sz' tg es => if sz' = i.size then YO (es.length + ys.length ≤ lim) (eqL (es ++ ys) >>= fun zs => ye (wrT n dst (.own (.osl sz' false zs)))) else zD
     | .sl sz' tg es => if sz' = i.size ∧ tg = true then YO (es.length + ys.length ≤ lim ∧ ys ≠ [] ∧ A.areD es = true) (eqL (es ++ ys) >>= fun zs => ye (wrT n dst (.own (.osl sz' false zs)))) else zD
     | _ => zD)
    else zD
   | _ => zD
  | none => zD
 | _ => zD
theorem QY (tt : TT) (n : Fr) (dst : Option Nat) (t : Nat) (s : T) (i : TI) (sz : Nat) (ys : List A) :
    Snd (if sz = i.size ∧ A.areD ys = true ∧ i.bytes ≤ 4096 ∧ 0 < i.size ∧ i.zero.isSome = true then do
          let z ← takeC tt t s
          match z with
          | .osl sz' tg es => if sz' = i.size ∧ es.length + ys.length ≤ lim then wrT n dst (.own (.osl sz' false (es ++ ys))) else zm
          | .sl sz' tg es => if sz' = i.size ∧ es.length + ys.length ≤ lim ∧ tg = true ∧ ys ≠ [] ∧ A.areD es = true then wrT n dst (.own (.osl sz' false (es ++ ys))) else zm
          | _ => zm
        else zm)
      (if sz = i.size ∧ i.bytes ≤ 4096 ∧ 0 < i.size ∧ i.zero.isSome = true then YO (A.areD ys = true) (Ym tt t s >>= fun z =>
          match z with
          | .osl sz' tg es => if sz' = i.size then YO (es.length + ys.length ≤ lim) (eqL (es ++ ys) >>= fun zs => ye (wrT n dst (.own (.osl sz' false zs)))) else zD
          | .sl sz' tg es => if sz' = i.size ∧ tg = true then YO (es.length + ys.length ≤ lim ∧ ys ≠ [] ∧ A.areD es = true) (eqL (es ++ ys) >>= fun zs => ye (wrT n dst (.own (.osl sz' false zs)))) else zD
          | _ => zD)
        else zD) := by
  refine QS (fun h1 h2 => ⟨h1.1, h2, h1.2⟩) (zb (ZV _ _ _) fun z => ?_)
  cases z with
  | osl sz' tg es =>
    refine QS (fun h1 h2 => ⟨h1, h2⟩) ?_
    exact X1 (zQ (es ++ ys) fun zs => wrT n dst (.own (.osl sz' false zs))).symm (zb (z6R _) fun _ => zk _)
  | sl sz' tg es =>
    refine QS (fun h1 h2 => ⟨h1.1, h2.1, h1.2, h2.2⟩) ?_
    exact X1 (zQ (es ++ ys) fun zs => wrT n dst (.own (.osl sz' false zs))).symm (zb (z6R _) fun _ => zk _)
  | _ => exact zi _
theorem QX (tt : TT) (n : Fr) (dst : Option Nat) (t : Nat) (s x : T) : Snd (appendA tt n dst t s x) (W2 tt n dst t s x) := by
 unfold appendA W2
 generalize tt t = q
 rcases q with _ | ⟨k, a1, a2, a3, a4⟩
 ·exact zi _
 ·cases k with
  | slice e =>
   dsimp only
   generalize tt e = q
   cases q with
   | none => exact zi _
   | some i =>
    refine zb (Vz _) fun y => ?_
    cases y with
    | sl sz _ ys => exact QY tt n dst t s _ sz ys
    | osl sz _ ys => exact QY tt n dst t s _ sz ys
    | _ => exact zi _
  | _ => exact zi _
def Ya (tt : TT) (n : Fr) (dst : Option Nat) (t : Nat) (s x : Operand) : HM Unit :=
 match tt t with
 | some ⟨.slice e, _, _, _, _⟩ =>
  match tt e with
  | some i =>
   if i.bytes ≤ 4096 ∧ 0 < i.size ∧ i.zero.isSome = true then ye (opnd x) >>= fun tx => z6A tx >>= fun y => ye (opnd s) >>= fun ts => Ym tt t ts >>= fun z =>
    match y, z with
    | .osl sz _ ys, .osl sz' tg es => if sz = i.size ∧ sz' = i.size ∧ A.plains ys = true then YO (es.length + ys.length ≤ lim) (eqL (es ++ ys) >>= fun zs => ye (wrT n dst (.own (.osl sz' false zs)))) else zD
    | _, _ => zD
   else zD
  | none => zD
 | _ => zD
theorem QV (tt : TT) (n : Fr) (dst : Option Nat) (t : Nat) (s x : Operand) : Snd (appendOwnA tt n dst t s x) (Ya tt n dst t s x) := by
 unfold appendOwnA Ya
 generalize tt t = q
 rcases q with _ | ⟨k, a1, a2, a3, a4⟩
 ·exact zi _
 ·cases k with
  | slice e =>
   dsimp only
   generalize tt e = q
   cases q with
   | none => exact zi _
   | some i =>
    refine xY (zb (zk _) fun tx => zb (z5D _) fun y => zb (zk _) fun ts => zb (ZV _ _ _) fun z => ?_) (zi _)
    cases y with
    | osl sz tg' ys =>
     cases z with
     | osl sz' tg es =>
      refine QS (fun h1 h2 => ⟨h1.1, h1.2.1, h1.2.2, h2⟩) ?_
      exact X1 (zQ (es ++ ys) fun zs => wrT n dst (.own (.osl sz' false zs))).symm (zb (z6R _) fun _ => zk _)
     | _ => exact zi _
    | _ => exact zi _
  | _ => exact zi _
def Vv (tt : TT) (t : Nat) : T → HM A
 | .d (.tup _) => zD
 | .d a => pure (ke tt t a).shut
 | .als r p er ec => KD r p er ec >>= fun y =>
  if y.isD = true then pure y else Zx y >>= fun ys => ye (rdE r) >>= fun e =>
    match e.t with
    | .own x =>
     if p = [] then ye (wrE r ⟨.d ys, e.er, e.ec + 1⟩) >>= fun _ => pure ys
     else z1w p x ys >>= fun z => ye (wrE r ⟨.own z, e.er, e.ec + 1⟩) >>= fun _ => pure ys
    | _ => zD
 | _ => zD
theorem z6I (y : A) {f : A → SM α} {g : A → HM α} (h : Snd (f y.shut) (g y.shut)) : Snd (if y.live = true then f y.shut else zm) (Zx y >>= g) := by
 intro st hs b R U hs' ob e ho
 obtain ⟨a, R1, U1, hs1, ob1, R2, U2, ob2, e1, e2, rfl, rfl, rfl⟩ := kQ e
 have ⟨o1, o2⟩ := ya ho
 obtain ⟨q1, rfl, rfl, rfl⟩ := Wm y e1 o1
 rw [if_pos q1]
 exact h _ _ _ _ _ _ _ e2 o2
theorem kB (tt : TT) (t : Nat) (x : T) : Snd (shutT tt t x) (Vv tt t x) := by
 cases x with
 | d a => cases a <;> first | exact zi _ | exact xe _
 | als r p er ec =>
  refine zb (VB _ _ _ _) fun y => xY (xe _) ?_
  refine z6I y (f := fun ys => do
    let e ← rdE r
    match e.t with
    | .own x =>
     if p = [] then do
      wrE r ⟨.d ys, e.er, e.ec + 1⟩
      pure ys
     else do
      wrE r ⟨.own (wT p x ys), e.er, e.ec + 1⟩
      pure ys
    | _ => zm) ?_
  refine zb (zk _) fun e => ?_
  have ⟨t', a, b⟩ := e
  cases t' with
  | own x =>
   refine xY (zb (zk _) fun _ => xe _) ?_
   refine X1 (m' := pure (wT p x y.shut) >>= fun z => wrE r ⟨.own z, a, b + 1⟩ >>= fun _ => pure y.shut) (zQ _ _).symm ?_
   exact zb (z6J _ _ _) fun z => zb (zk _) fun _ => xe _
  | _ => exact zi _
 | _ => exact zi _
def wS (tt : TT) : List (Operand × Nat) → HM (List A)
 | [] => pure []
 | (x, t) :: as_ => ye (opnd x) >>= fun y => Vv tt t y >>= fun a => wS tt as_ >>= fun bs => pure (a :: bs)
theorem uN (tt : TT) : ∀ as_, Snd (shutArgs tt as_) (wS tt as_)
 | [] => xe _
 | (x, t) :: as_ => zb (zk _) fun y => zb (kB _ _ _) fun a => zb (uN tt as_) fun bs => xe _
def WF (tt : TT) : List (Bool × Operand × Nat) → HM (List A)
 | [] => pure []
 | (g, x, t) :: as_ => ye (opnd x) >>= fun y => (if g = true then Ym tt t y else Vv tt t y) >>= fun a => WF tt as_ >>= fun bs => pure (a :: bs)
theorem VA (tt : TT) : ∀ as_, Snd (passArgs tt as_) (WF tt as_)
 | [] => xe _
 | (g, x, t) :: as_ => zb (zk _) fun y => zb (xY (ZV _ _ _) (kB _ _ _)) fun a => zb (VA tt as_) fun bs => xe _
def z3e (tt : TT) (ctr : Ctr) (n : Fr) (dst : Option Nat) (f : A) (as_ : List (Operand × Nat)) : HM Unit :=
 match f with
 | .fn k caps => zaD >>= fun gs => YO (ctr.gives k = gs) (
  if gs.isEmpty = true then z2N (wS tt as_) >>= fun xs => z1y (ctr.run k (ctr.norm k (xs ++ caps))) >>= fun r =>
    if r.flat = true then ye (wrT n dst (.d r))
    else wS tt as_ >>= fun _ => ye (wrT n dst (mkT r))
  else if gs.length = as_.length then WF tt (gs.zip as_) >>= fun xs => z1y (ctr.run k (ctr.norm k (xs ++ caps))) >>= fun r => ye (wrT n dst (mkT r))
  else zD)
 | _ => zD
theorem z6S (tt : TT) (ctr : Ctr) (n : Fr) (dst : Option Nat) (f : A) (as_ : List (Operand × Nat)) : Snd (callA tt ctr n dst f as_) (z3e tt ctr n dst f as_) := by
 cases f with
 | fn k caps =>
  intro st hs b R U hs' ob e ho
  unfold z3e at e
  obtain ⟨gs, R1, U1, hs1, ob1, R2, U2, ob2, e1, e2, rfl, rfl, rfl⟩ := kQ e
  have ⟨o1, o2⟩ := ya ho
  have hh : R1 = [] ∧ U1 = [] := by
   unfold zaD at e1
   split at e1
   ·simp only [Option.some.injEq, Prod.mk.injEq] at e1; exact ⟨e1.2.1.symm, e1.2.2.1.symm⟩
   ·cases e1
  obtain ⟨rfl, rfl⟩ := hh
  have ⟨q2, ob', e3, o3⟩ := Q0 e2 o2
  subst q2
  simp only [callA]
  revert e3
  have main : ∀ {h : HM Unit} {m : SM Unit}, Snd m h → h (z7 [] st) hs1 = some (b, R2, U2, hs', ob') → m st = some (b, [] ++ R2, [] ++ U2) := fun hs e => hs _ _ _ _ _ _ _ e o3
  intro e3
  refine main ?_ e3
  refine xY ?_ (xY ?_ (zi _))
  ·refine zb (z6Q (uN _ _)) fun xs => ?_
   refine X1 (m' := ofO (ctr.run k (ctr.norm k (xs ++ caps))) >>= fun r => if r.flat = true then wrT n dst (.d r) else shutArgs tt as_ >>= fun _ => wrT n dst (mkT r)) ?_ (zb (VC _) fun r => xY (zk _) (zb (uN _ _) fun _ => zk _))
   cases ctr.run k (ctr.norm k (xs ++ caps)) with
   | none => rfl
   | some r => exact (zQ _ _).symm
  ·refine zb (VA _ _) fun xs => ?_
   refine X1 (m' := ofO (ctr.run k (ctr.norm k (xs ++ caps))) >>= fun r => wrT n dst (mkT r)) ?_ (zb (VC _) fun r => zk _)
   cases ctr.run k (ctr.norm k (xs ++ caps)) with
   | none => rfl
   | some r => exact (zQ _ _).symm
 | _ => exact zi _
def KV : List (Operand × Nat) → TT → HM (List A)
 | [], _ => pure []
 | (x, t) :: ps, tt => ye (opnd x) >>= fun y => Ym tt t y >>= fun a => KV ps tt >>= fun bs => pure (a :: bs)
theorem Kg (tt : TT) : ∀ ps, Snd (takes ps tt) (KV ps tt)
 | [] => xe _
 | (x, t) :: ps => zb (zk _) fun y => zb (ZV _ _ _) fun a => zb (Kg tt ps) fun bs => xe _
def zcc (tt : TT) (n : Fr) (dst : Option Nat) (op : BinOp) (xt : Nat) (vx vy : A) : HM Unit :=
 match op with
 | .quo | .rem =>
  match vx, vy with
  | .atom (.int k a), .atom (.int k' b) => if k = k' then YO (b ≠ 0) (ye (wrT n dst (.d (.atom (.int k (match op with | .quo => k.wrap (a.tdiv b) | _ => a.tmod b)))))) else zD
  | _, _ => zD
 | _ => ye (ofO (z8j tt op xt vx vy) >>= fun r => wrT n dst (.d r))
theorem z97 (tt : TT) (n : Fr) (dst : Option Nat) (op : BinOp) (xt : Nat) (vx vy : A) : Snd (ofO (z8j tt op xt vx vy) >>= fun r => wrT n dst (.d r)) (zcc tt n dst op xt vx vy) := by
 have main : ∀ op, op = .quo ∨ op = .rem → Snd (ofO (z8j tt op xt vx vy) >>= fun r => wrT n dst (.d r)) (match vx, vy with
  | .atom (.int k a), .atom (.int k' b) => if k = k' then YO (b ≠ 0) (ye (wrT n dst (.d (.atom (.int k (match op with | .quo => k.wrap (a.tdiv b) | _ => a.tmod b)))))) else zD
  | _, _ => zD) := by
  intro op hop
  cases vx with
  | atom v =>
   cases v with
   | int k a =>
    cases vy with
    | atom u =>
     cases u with
     | int k' b =>
      dsimp only
      by_cases hk : k = k'
      ·rw [if_pos hk]
       refine UI fun hb => ?_
       refine X1 ?_ (zk _)
       rcases hop with rfl | rfl <;> simp [z8j, if_pos hk, z4M, if_neg hb] <;> exact zQ _ _
      ·rw [if_neg hk]; exact zi _
     | _ => exact zi _
    | _ => exact zi _
   | _ => exact zi _
  | _ => exact zi _
 cases op with
 | quo => exact main _ (.inl rfl)
 | rem => exact main _ (.inr rfl)
 | _ => exact zk _
def z9b (n : Fr) (dst : Option Nat) (c x y : Operand) : HM Unit := ye (opnd c) >>= fun tc => Qo tc >>= fun vc =>
 match vc with
 | .atom (.bool b) => zcf b >>= fun b => match b with | true => ye (opnd x >>= fun t => wrT n dst t) | false => ye (opnd y >>= fun t => wrT n dst t)
 | _ => zD
theorem z93 (n : Fr) (dst : Option Nat) (c x y : Operand) : Snd (z2j n dst c x y) (z9b n dst c x y) := by
 refine zb (zk _) fun tc => zb (kA _) fun vc => ?_
 cases vc with
 | atom v =>
  cases v with
  | bool b =>
   refine X1 (m' := pure b >>= fun b => match b with | true => (opnd x >>= fun t => wrT n dst t) | false => (opnd y >>= fun t => wrT n dst t)) ?_ (zb (z21 _) fun b => ?_)
   ·rw [zQ]; cases b <;> rfl
   ·cases b <;> exact zk _
  | _ => exact zi _
 | _ => exact zi _
def Jp (n : Fr) (dst : Option Nat) (x : Operand) : HM Unit := ye (opnd x) >>= fun y =>
 match y with
 | .d (.fn f cs) => ye (wrT n dst (.d (.fn f cs)))
 | y => WA y >>= fun q =>
  match q with
  | .inl _ => ye (wrT n dst y)
  | .inr (r, p, er, ec) => VP r p er ec >>= fun _ => ye (wrT n dst y)
theorem z1b (n : Fr) (dst : Option Nat) (x : Operand) : Snd (nilCheckO n dst x) (Jp n dst x) := by
 refine zb (zk _) fun y => ?_
 have main : ∀ y : T, Snd (ptrOf y >>= fun q => match q with
  | .inl _ => wrT n dst y
  | .inr (r, p, er, ec) => lookP r p er ec >>= fun _ => wrT n dst y) (WA y >>= fun q =>
  match q with
  | .inl _ => ye (wrT n dst y)
  | .inr (r, p, er, ec) => VP r p er ec >>= fun _ => ye (wrT n dst y)) := by
  intro y
  refine zb (Wo _) fun q => ?_
  rcases q with z | ⟨r, p, er, ec⟩
  ·exact zk _
  ·exact zb (UJ _ _ _ _) fun _ => zk _
 cases y with
 | d a =>
  cases a with
  | fn f cs => exact zk _
  | _ => exact main _
 | _ => exact main _
def z10 (dflt : Nat) : Option Operand → HM Nat
 | none => pure dflt
 | some x => ye (opnd x) >>= fun t => Qo t >>= fun v =>
  match v with
  | .atom (.int _ j) => YO (0 ≤ j) (pure j.toNat)
  | _ => zD
theorem Kl (dflt : Nat) (x : Option Operand) : Snd (bound dflt x) (z10 dflt x) := by
 cases x with
 | none => exact xe _
 | some x =>
  refine zb (zk _) fun t => zb (kA _) fun v => ?_
  cases v with
  | atom v =>
   cases v with
   | int k j => exact Wp (xe _)
   | _ => exact zi _
  | _ => exact zi _
def z5y (tt : TT) (n : Fr) (dst : Option Nat) (t : Nat) (x : Operand) (lo hi mx : Option Operand) : HM Unit := ye (opnd x) >>= fun y =>
 match y with
 | .d (.sl sz tg xs) =>
  if yX tt t = some sz then z10 0 lo >>= fun l => z10 xs.length hi >>= fun h =>
   match mx with
   | none => YO (l ≤ h ∧ h ≤ xs.length) (eqA (.sl sz (tg && h == xs.length) ((xs.drop l).take (h - l))) >>= fun z => ye (wrT n dst (.d z)))
   | some _ => z10 0 mx >>= fun m => if hi.isSome = true then YO (l ≤ h ∧ h ≤ m ∧ m ≤ xs.length) (eqA (.sl sz (m == h) ((xs.drop l).take (h - l))) >>= fun z => ye (wrT n dst (.d z))) else zD
  else zD
 | _ => zD
theorem z6H (tt : TT) (n : Fr) (dst : Option Nat) (t : Nat) (x : Operand) (lo hi mx : Option Operand) : Snd (sliceO tt n dst t x lo hi mx) (z5y tt n dst t x lo hi mx) := by
 refine zb (zk _) fun y => ?_
 cases y with
 | d a =>
  cases a with
  | sl sz tg xs =>
   refine xY (zb (Kl _ _) fun l => zb (Kl _ _) fun h => ?_) (zi _)
   cases mx with
   | none =>
    refine Wp ?_
    exact X1 (zQ _ fun z => wrT n dst (.d z)).symm (zb (Kk _) fun _ => zk _)
   | some m =>
    refine zb (Kl _ _) fun m => QS (fun h1 h2 => ⟨h2.1, h2.2.1, h2.2.2, h1⟩) ?_
    exact X1 (zQ _ fun z => wrT n dst (.d z)).symm (zb (Kk _) fun _ => zk _)
  | _ => exact zi _
 | _ => exact zi _
def VL (tt : TT) (n : Fr) (dst : Option Nat) (t : Nat) (l c : Operand) : HM Unit := ye (opnd l) >>= fun tl => Qo tl >>= fun vl => ye (opnd c) >>= fun tc => Qo tc >>= fun vc =>
 match vl, vc with
 | .atom (.int _ x), .atom (.int _ y) =>
  match tt t with
  | some ⟨.slice e, _, _, _, _⟩ =>
   match tt e with
   | some i =>
    match i.zero with
    | some z => if i.bytes ≤ 4096 then YO (0 ≤ x ∧ x ≤ y ∧ y ≤ lim) (eqA (.osl i.size (decide (x = y)) (List.replicate x.toNat z)) >>= fun r => ye (wrT n dst (.own r))) else zD
    | none => zD
   | none => zD
  | _ => zD
 | _, _ => zD
theorem Kh (tt : TT) (n : Fr) (dst : Option Nat) (t : Nat) (l c : Operand) : Snd (jk tt n dst t l c) (VL tt n dst t l c) := by
 refine zb (zk _) fun tl => zb (kA _) fun vl => zb (zk _) fun tc => zb (kA _) fun vc => ?_
 cases vl with
 | atom v =>
  cases v with
  | int k x =>
   cases vc with
   | atom u =>
    cases u with
    | int k' y =>
     dsimp only
     generalize tt t = q
     rcases q with _ | ⟨k, a1, a2, a3, a4⟩
     ·exact zi _
     ·cases k with
      | slice e =>
       dsimp only
       generalize tt e = q
       cases q with
       | none => exact zi _
       | some i =>
        dsimp only
        cases i.zero with
        | none => exact zi _
        | some z =>
         refine QS (fun h1 h2 => ⟨h2.1, h2.2.1, h2.2.2, h1⟩) ?_
         exact X1 (zQ _ fun z => wrT n dst (.own z)).symm (zb (Kk _) fun _ => zk _)
      | _ => exact zi _
    | _ => exact zi _
   | _ => exact zi _
  | _ => exact zi _
 | _ => exact zi _
def Y7 (tt : TT) (n : Fr) (dst : Option Nat) (t len : Nat) (ps : List (Nat × Operand)) : HM Unit :=
 match tt t with
 | some ⟨.slice e, _, _, _, _⟩ =>
  match tt e with
  | some i =>
   match i.zero with
   | some z => KV (ps.map fun p => (p.2, e)) tt >>= fun xs =>
    if WI (List.replicate len z) ((ps.map (·.1)).zip xs) = true ∧ len * i.size ≤ 16777216 ∧ len ≤ lim then
     ye (wrT n dst (.own (.osl i.size true (YZ (List.replicate len z) ((ps.map (·.1)).zip xs)))))
    else zD
   | none => zD
  | none => zD
 | _ => zD
theorem QU (tt : TT) (n : Fr) (dst : Option Nat) (t len : Nat) (ps : List (Nat × Operand)) : Snd (vL tt n dst t len ps) (Y7 tt n dst t len ps) := by
 unfold vL Y7
 generalize tt t = q
 rcases q with _ | ⟨k, a1, a2, a3, a4⟩
 ·exact zi _
 ·cases k with
  | slice e =>
   dsimp only
   generalize tt e = q
   cases q with
   | none => exact zi _
   | some i =>
    dsimp only
    cases i.zero with
    | none => exact zi _
    | some z => exact zb (Kg _ _) fun xs => xY (zk _) (zi _)
  | _ => exact zi _
def z3f (tt : TT) (n : Fr) (dst : Option Nat) (t : Nat) (ps : List (Nat × Operand)) : HM Unit :=
 match tt t with
 | some i =>
  match i.zero with
  | some (.agg zs) => KV (ps.map fun p => (p.2, 0)) tt >>= fun xs =>
   if WI zs ((ps.map (·.1)).zip xs) = true ∧ z0k tt t zs ((ps.map (·.1)).zip xs) = true ∧ i.kind.isAgg = true ∧ ((qt tt t 0).isSome = true ∨ WT i.kind = true) then
    ye (wrT n dst (mkT (.agg (YZ zs ((ps.map (·.1)).zip xs)))))
   else zD
  | _ => zD
 | none => zD
theorem z6T (tt : TT) (n : Fr) (dst : Option Nat) (t : Nat) (ps : List (Nat × Operand)) : Snd (Ua tt n dst t ps) (z3f tt n dst t ps) := by
 unfold Ua z3f
 generalize tt t = q
 cases q with
 | none => exact zi _
 | some i =>
  dsimp only
  cases i.zero with
  | none => exact zi _
  | some z =>
   cases z with
   | agg zs => exact zb (Kg _ _) fun xs => xY (zk _) (zi _)
   | _ => exact zi _
def z1P (tt : TT) (ctr : Ctr) (n : Fr) (o : Oper) : HM Unit :=
 match o.op with
 | .assign x => ye (opnd x) >>= fun y =>
  match y with
  | .ptr r p er ec => ye (wrT n o.dst (.ptr r p er ec))
  | y => Ym tt o.type y >>= fun z => ye (wrT n o.dst (mkT z))
 | .binOp op xt x y _ => ye (opnd x) >>= fun tx => Qo tx >>= fun vx => ye (opnd y) >>= fun ty => Qo ty >>= fun vy => zcc tt n o.dst op xt vx vy
 | .unOp op _ x => ye (opnd x) >>= fun t => Qo t >>= fun y => ye (ofO (unA op y) >>= fun r => wrT n o.dst (.d r))
 | .convert s t x => ye (opnd x) >>= fun y => Qo y >>= fun v =>
  match v with
  | .atom (.int _ m) =>
   match tt s with
   | some _ =>
    match tt t with
    | some ⟨.int k, _, _, _, _⟩ => ye (wrT n o.dst (.d (.atom (.int k (k.wrap m)))))
    | _ => zD
   | none => zD
  | _ => zD
 | .pick c x y => z9b n o.dst c x y
 | .nilCheck x => Jp n o.dst x
 | .slice t x lo hi mx => z5y tt n o.dst t x lo hi mx
 | .load t x => ye (opnd x) >>= fun y => z5V tt n o.dst t y
 | .store t x v => if o.dst = none then ye (opnd x) >>= fun y => ye (opnd v) >>= fun z => z1O tt t y z else zD
 | .fieldAddr t x i => ye (opnd x) >>= fun y => WX tt n o.dst t i y
 | .indexAddr t x i => ye (opnd x) >>= fun y => ye (opnd i) >>= fun ti => Qo ti >>= fun vi =>
  if (z5m tt t).isSome = true then VS tt n o.dst t y vi else WV tt n o.dst t y vi
 | .box t x => ye (opnd x) >>= fun y => Ym tt t y >>= fun z =>
  match z with
  | .tup _ => zD
  | z => if z.isAgg = true ∨ z.size = 1 then ye (wrT n o.dst (.own (.box z))) else zD
 | .makeSlice t l c => VL tt n o.dst t l c
 | .buildSlice t len ps => Y7 tt n o.dst t len ps.toList
 | .build t ps => z3f tt n o.dst t ps.toList
 | .makeFunc (.func f) ⟨[]⟩ caps => wS tt (caps.toList.map fun x => (x, 0)) >>= fun xs => if xs.all X7 = true then ye (wrT n o.dst (.d (.fn f xs))) else zD
 | .call ⟨.builtin .len, ⟨[x]⟩, ⟨[t]⟩⟩ => ye (opnd x) >>= fun y => Kv y >>= fun z => ye (ofO (lenOf z)) >>= fun m => if Zk tt t = true then eqA (.atom (.int .i64 m)) >>= fun r => ye (wrT n o.dst (.d r)) else zD
 | .call ⟨.builtin .cap, ⟨[x]⟩, ⟨[t]⟩⟩ => ye (opnd x) >>= fun y => Kv y >>= fun z => ye (ofO (z5e z)) >>= fun m => if Zk tt t = true then eqA (.atom (.int .i64 m)) >>= fun r => ye (wrT n o.dst (.d r)) else zD
 | .call ⟨.builtin .append, ⟨[s, x]⟩, ⟨[t, t']⟩⟩ => if t = t' then ye (opnd s) >>= fun ts => ye (opnd x) >>= fun tx => Kv tx >>= fun y =>
   match y with
   | .osl _ _ ys => zcf (A.areD ys) >>= fun b => match b with | true => W2 tt n o.dst t ts tx | false => Ya tt n o.dst t s x
   | _ => W2 tt n o.dst t ts tx
  else zD
 | .call ⟨.value f, args, tys⟩ => if args.size = tys.size then ye (opnd f) >>= fun tf => Qo tf >>= fun vf => z3e tt ctr n o.dst vf (args.toList.zip tys.toList) else zD
 | _ => ye (stepO tt ctr n o)
theorem z96 (tt : TT) (n : Fr) (dst : Option Nat) (s t : Nat) (v : A) : Snd (match v with
  | .atom (.int _ m) =>
   match tt s with
   | some _ =>
    match tt t with
    | some ⟨.int k, _, _, _, _⟩ => wrT n dst (.d (.atom (.int k (k.wrap m))))
    | _ => zm
   | none => zm
  | _ => zm : SM Unit) (match v with
  | .atom (.int _ m) =>
   match tt s with
   | some _ =>
    match tt t with
    | some ⟨.int k, _, _, _, _⟩ => ye (wrT n dst (.d (.atom (.int k (k.wrap m)))))
    | _ => zD
   | none => zD
  | _ => zD) := by
 cases v with
 | atom u =>
  cases u with
  | int k m =>
   dsimp only
   generalize tt s = q
   cases q with
   | none => exact zi _
   | some _ =>
    dsimp only
    generalize tt t = q
    rcases q with _ | ⟨k, a1, a2, a3, a4⟩
    ·exact zi _
    ·cases k <;> first | exact zk _ | exact zi _
  | _ => exact zi _
 | _ => exact zi _
theorem z6G (tt : TT) (ctr : Ctr) (n : Fr) (o : Oper) : Snd (stepO tt ctr n o) (z1P tt ctr n o) := by
 unfold stepO z1P
 cases ho : o.op with
 | move x => exact sdLift' ho
 | assign x =>
  refine zb (zk _) fun y => ?_
  cases y with
  | ptr r p er ec => exact zk _
  | _ => exact zb (ZV _ _ _) fun z => zk _
 | binOp op xt x y yt => exact zb (zk _) fun tx => zb (kA _) fun vx => zb (zk _) fun ty => zb (kA _) fun vy => z97 _ _ _ _ _ _ _
 | unOp op xt x => exact zb (zk _) fun t => zb (kA _) fun y => zk _
 | convert s t x => exact zb (zk _) fun y => zb (kA _) fun v => z96 _ _ _ _ _ _
 | pick c x y => exact z93 _ _ _ _ _
 | extract x i => exact sdLift' ho
 | nilCheck x => exact z1b _ _ _
 | slice t x lo hi mx => exact z6H _ _ _ _ _ _ _ _
 | load t x => exact zb (zk _) fun y => z6O _ _ _ _ _
 | store t x v => exact xY (zb (zk _) fun y => zb (zk _) fun z => z49 _ _ _ _) (zi _)
 | fieldAddr t x i => exact zb (zk _) fun y => QT _ _ _ _ _ _
 | indexAddr t x i => exact zb (zk _) fun y => zb (zk _) fun ti => zb (kA _) fun vi => xY (Ki _ _ _ _ _ _) (QR _ _ _ _ _ _)
 | alloc t => exact sdLift' ho
 | box t x =>
  refine zb (zk _) fun y => zb (ZV _ _ _) fun z => ?_
  cases z <;> first | exact zi _ | exact xY (zk _) (zi _)
 | makeSlice t l c => exact Kh _ _ _ _ _ _
 | buildSlice t len ps => exact QU _ _ _ _ _ _
 | build t ps => exact z6T _ _ _ _ _
 | makeFunc fn first caps =>
  cases fn with
  | func f =>
   have ⟨l⟩ := first
   cases l with
   | nil => exact zb (uN _ _) fun xs => xY (zk _) (zi _)
   | cons _ _ => exact sdLift' ho
  | _ => exact sdLift' ho
 | call c =>
  have ⟨callee, ⟨args⟩, ⟨tys⟩⟩ := c
  cases callee with
  | value f => exact xY (zb (zk _) fun tf => zb (kA _) fun vf => z6S _ _ _ _ _ _) (zi _)
  | invoke r m => exact sdLift' ho
  | builtin b =>
   cases b with
   | len =>
    rcases args with _ | ⟨x, _ | ⟨y, l⟩⟩ <;> rcases tys with _ | ⟨t, _ | ⟨t', l'⟩⟩ <;> first | exact sdLift' ho | exact zb (zk _) fun y => zb (Vz _) fun z => zb (zk _) fun m => xY (X1 (zQ _ fun r => wrT n o.dst (.d r)).symm (zb (Kk _) fun r => zk _)) (zi _)
   | cap =>
    rcases args with _ | ⟨x, _ | ⟨y, l⟩⟩ <;> rcases tys with _ | ⟨t, _ | ⟨t', l'⟩⟩ <;> first | exact sdLift' ho | exact zb (zk _) fun y => zb (Vz _) fun z => zb (zk _) fun m => xY (X1 (zQ _ fun r => wrT n o.dst (.d r)).symm (zb (Kk _) fun r => zk _)) (zi _)
   | append =>
    rcases args with _ | ⟨x, _ | ⟨y, _ | ⟨z, l⟩⟩⟩ <;> rcases tys with _ | ⟨t, _ | ⟨t', _ | ⟨t'', l'⟩⟩⟩ <;> first | exact sdLift' ho | skip
    refine xY (zb (zk _) fun ts => zb (zk _) fun tx => zb (Vz _) fun w => ?_) (zi _)
    cases w with
    | osl sz tg ys =>
     dsimp only
     refine X1 (m' := pure (A.areD ys) >>= fun b => match b with | true => appendA tt n o.dst t ts tx | false => appendOwnA tt n o.dst t x y) ?_ (zb (z21 _) fun b => ?_)
     ·rw [zQ]
      cases A.areD ys <;> rfl
     ·cases b
      ·exact QV _ _ _ _ _ _
      ·exact QX _ _ _ _ _ _
    | _ => exact QX _ _ _ _ _ _
   | _ => exact sdLift' ho
 | _ => exact sdLift' ho
where sdLift' {op : Op} {tt : TT} {ctr : Ctr} {n : Fr} {o : Oper} {m : SM Unit} (ho : o.op = op) (e : stepO tt ctr n o = m := by first | rfl | (unfold stepO; simp [ho])) : Snd m (ye (stepO tt ctr n o)) := e ▸ zk _
def zcO (mx : Bool) : A → A → Option A
 | .atom (.int k a), .atom (.int k' b) => if k = k' then some (.atom (.int k (if mx = true then (if a < b then b else a) else (if b < a then b else a)))) else none
 | _, _ => none
def minO (n : Fr) (dst : Option Nat) (mx : Bool) (x y : Operand) : SM Unit := do
 let tx ← opnd x
 let vx ← val tx
 let ty ← opnd y
 let vy ← val ty
 let r ← ofO (zcO mx vx vy)
 wrT n dst (.d r)
variable {P : Program}{u : Unit}
section
variable {C : Ctx} {S : z8} {Fp : Nat → List Nat} {X : List Nat} {st : St} {a : Act} {w : World}
theorem z5R (h : Sim C S Fp [] st a w) {o : Oper} {mx : Bool} {x y : Operand} {t1 t2 : Nat} (ho : o.op = .call ⟨.builtin (if mx = true then .max else .min), ⟨[x, y]⟩, ⟨[t1, t2]⟩⟩)    (e : minO C.n o.dst mx x y st = some (u, R, U)) : uU P C o a w (z7 U st) := by
 unfold minO at e
 have ⟨tx, _, hx, e1⟩ := bR (zK h) e
 have ⟨vx, _, qx, e2⟩ := bR (ub h hx) e1
 have ⟨ty, _, hy, e3⟩ := bR (zK h) e2
 have ⟨vy, _, qy, e4⟩ := bR (ub h hy) e3
 have ⟨r, _, hr, e5⟩ := bO e4
 unfold zcO at hr
 split at hr
 ·split at hr
  ·rename_i hk
   simp [Option.some.injEq] at hr
   subst hr hk
   have ⟨ex, _⟩ := zw.1 qx
   have ⟨ey, _⟩ := zw.1 qy
   have ⟨Fp', hs⟩ := wl h e5 (x := .d _) (zw.2 ⟨rfl, rfl⟩)
   refine zo ?_ hs
   cases mx
   ·simp [execOp, ho, resolve, invoke, builtin, ex, ey, Builtin.min_, Builtin.min2]
   ·simp [execOp, ho, resolve, invoke, builtin, ex, ey, Builtin.max_, Builtin.max2]
  ·cases hr
 ·cases hr
end
variable {tt : TT}
theorem z4b (hT : ut P tt) {t : Nat} {y : A} (hf : j8 tt t y = true) {w : World} {c1 cs c2 : List Value} (hl : cs.length = y.size) :
  (part t (c1 ++ cs ++ c2).toArray c1.length).run P w = .ok (zT y cs) w := by
 unfold j8 at hf
 split at hf
 ·rename_i i hi
  simp only [Bool.and_eq_true, beq_iff_eq, Bool.or_eq_true] at hf
  have ⟨⟨h1, h2⟩, h3⟩ := hf
  have hk := jd (hT t i hi).kind w
  unfold part
  simp only [Sem.run_bind, hk, Result.andThen_ok, Sem.run_ite]
  by_cases ha : i.kind.isAgg = true
  ·rw [if_pos ha]
   rw [h1] at ha
   cases y <;> simp [A.isAgg] at ha
   simp only [zU hT hi, Result.andThen_ok, h2, ← hl, Sem.run_pure, zT]
   congr 2
   simp [List.extract_eq_take_drop]
  ·rw [if_neg ha]
   have h4 : i.size = 1 := by simpa [ha] using h3
   have hlen : cs.length = 1 := by omega
   obtain ⟨c, rfl⟩ := List.length_eq_one_iff.1 hlen
   rw [h1] at ha
   have : ((c1 ++ [c] ++ c2).toArray)[c1.length]? = some c := by simp
   rw [this]
   cases y <;> simp_all [A.isAgg, zT]
 ·cases hf
def zcA (tt : TT) (t : Nat) : Option (Nat × Nat) :=
 match tt t with
 | some ⟨.array n e, _, _, _, _⟩ => some (n, e)
 | _ => none
def indexO (tt : TT) (n : Fr) (dst : Option Nat) (t : Nat) (x i : Operand) : SM Unit := do
 let tx ← opnd x
 let vx ← val tx
 let ti ← opnd i
 let vi ← val ti
 match vx, vi with
 | .agg fs, .atom (.int _ j) =>
  match zcA tt t with
  | some (m, e) => match fs[j.toNat]? with
   | some y => if 0 ≤ j ∧ j < (m : Int) ∧ j8 tt e y = true ∧ y.isD = true ∧ (fs.take j.toNat).all (fun z => z.size == y.size) = true then wrT n dst (.d y) else zm
   | none => zm
  | none => zm
 | _, _ => zm
variable {Fp : Nat → List Nat}{C : Ctx}{a : Act}
theorem Q4 {P : Program}  (hT : ut P tt)  {S : z8}    {w : World} (h : Sim C S Fp [] st a w) {o : Oper} {t : Nat} {x i : Operand} (ho : o.op = .index t x i)    (e : indexO tt C.n o.dst t x i st = some (u, R, U)) : uU P C o a w (z7 U st) := by
 unfold indexO at e
 have ⟨tx, _, hx, e1⟩ := bR (zK h) e
 have ⟨vx, _, qx, e2⟩ := bR (ub h hx) e1
 have ⟨ty, _, hy, e3⟩ := bR (zK h) e2
 have ⟨vy, _, qy, e4⟩ := bR (ub h hy) e3
 split at e4
 ·rename_i fs k j
  cases ha : zcA tt t with
  | none => simp only [ha] at e4; cases e4
  | some q =>
   have ⟨m, el⟩ := q
   simp only [ha] at e4
   cases hf : fs[j.toNat]? with
   | none => simp only [hf] at e4; cases e4
   | some y =>
    simp only [hf] at e4
    split at e4
    ·rename_i hc
     have ⟨c1, c2, c3, c4, c5⟩ := hc
     have hk : P.underlying t = some (.array m el) := by
      unfold zcA at ha
      split at ha
      ·rename_i ht; cases ha; exact (hT _ _ ht).kind
      ·cases ha
     obtain ⟨i', hi⟩ : ∃ i', tt el = some i' := by
      unfold j8 at c3
      split at c3
      ·exact ⟨_, by assumption⟩
      ·cases c3
     have ⟨cs, r1, r2⟩ := (qx : wi S (.agg fs) (a.eval x))
     simp only [Rep] at r1
     obtain ⟨d1, ci, d2, rfl, hl, hr⟩ := uz r1 hf
     have ei := (zw.1 qy).1
     have hsz : i'.size = y.size := by
      unfold j8 at c3
      rw [hi] at c3
      simp only [Bool.and_eq_true, beq_iff_eq] at c3
      exact c3.1.2
     have hoff : d1.length = j.toNat * i'.size := by
      rw [hl, A.sizes_const (sz := y.size) (fun z hz => by simpa using List.all_eq_true.1 c5 z hz), List.length_take, hsz]
      congr 1
      have := (List.getElem?_eq_some_iff.1 hf).1
      omega
     have ⟨Fp', hs⟩ := wl h e4 (x := .d y) (wi.repV ⟨ci, hr, rfl⟩)
     refine zo ?_ hs
     have hp := z4b (P := P) hT c3 (w := w) (c1 := d1) (c2 := d2) hr.len
     rw [hoff] at hp
     have ex : a.eval x = .agg (d1 ++ ci ++ d2).toArray := r2
     simp only [execOp, ho, Instr.index, asIntOf, ei, ex, Sem.run_bind, Sem.run_pure, Result.andThen_ok, run_underlying hk, c1, c2, and_self, if_true, zU hT hi, hp]
    ·cases e4
 ·cases e4
def z8B (tt : TT) (n : Fr) (o : Oper) : Option (SM Unit) :=
 match o.op with
 | .call ⟨.builtin .min, ⟨[x, y]⟩, ⟨[_, _]⟩⟩ => some (minO n o.dst false x y)
 | .call ⟨.builtin .max, ⟨[x, y]⟩, ⟨[_, _]⟩⟩ => some (minO n o.dst true x y)
 | .index t x i => some (indexO tt n o.dst t x i)
 | _ => none
theorem Loc.indexO (tt : TT) (n : Fr) (dst : Option Nat) (t : Nat) (x i : Operand) : Loc (indexO tt n dst t x i) := by
 unfold Go.Own.indexO
 refine Loc.bind (Loc.opnd _) fun _ => Loc.bind (Loc.val _) fun _ => Loc.bind (Loc.opnd _) fun _ => Loc.bind (Loc.val _) fun _ => ?_
 split
 ·split
  ·split
   ·exact Loc.ite (Loc.wrT _ _ _) Loc.fail
   ·exact Loc.fail
  ·exact Loc.fail
 ·exact Loc.fail
theorem Loc.minO (n : Fr) (dst : Option Nat) (mx : Bool) (x y : Operand) : Loc (minO n dst mx x y) := by
 unfold Go.Own.minO
 exact Loc.bind (Loc.opnd _) fun _ => Loc.bind (Loc.val _) fun _ => Loc.bind (Loc.opnd _) fun _ => Loc.bind (Loc.val _) fun _ => Loc.bind (Loc.ofO _) fun _ => Loc.wrT _ _ _
theorem z7X (hT : ut P tt) : Vr P (z8B tt) := by
 refine ⟨?_, ?_⟩
 ·intro C S Fp st a w o m u R U e h h2
  unfold z8B at e
  split at e
  ·rename_i ho; cases e; exact z5R (mx := false) h ho h2
  ·rename_i ho; cases e; exact z5R (mx := true) h ho h2
  ·rename_i ho; cases e; exact Q4 hT h ho h2
  ·cases e
 ·intro n o m e
  unfold z8B at e
  split at e
  ·cases e; exact fun st st' a R U => Loc.minO _ _ _ _ _ st st' a R U
  ·cases e; exact fun st st' a R U => Loc.minO _ _ _ _ _ st st' a R U
  ·cases e; exact fun st st' a R U => Loc.indexO _ _ _ _ _ _ st st' a R U
  ·cases e
structure XH (P : Program) where
 e : Fr → Oper → Option (SM Unit)
 h : Fr → Oper → Option (HM Unit)
 ok : Vr P e
 none : ∀ n o, e n o = none → h n o = none
 some : ∀ n o m, e n o = some m → ∃ q, h n o = some q ∧ Snd m q
def XH.or (x y : XH P) : XH P := {
 e := fun n o => match x.e n o with | .some m => .some m | .none => y.e n o
 h := fun n o => match x.h n o with | .some m => .some m | .none => y.h n o
 ok := by
  refine ⟨?_, ?_⟩
  ·intro C S Fp st a w o m u R U e
   cases hx : x.e C.n o with
   | some m' => simp only [hx] at e; cases e; exact x.ok.1 C S Fp st a w o _ u R U hx
   | none => simp only [hx] at e; exact y.ok.1 C S Fp st a w o _ u R U e
  ·intro n o m e
   cases hx : x.e n o with
   | some m' => simp only [hx] at e; cases e; exact x.ok.2 n o _ hx
   | none => simp only [hx] at e; exact y.ok.2 n o _ e
 none := by
  intro n o e
  cases hx : x.e n o with
  | some m' => simp only [hx] at e; cases e
  | none => simp only [hx] at e; simp only [x.none n o hx]; exact y.none n o e
 some := by
  intro n o m e
  cases hx : x.e n o with
  | some m' =>
   simp only [hx] at e; cases e
   have ⟨q, h1, h2⟩ := x.some n o _ hx
   exact ⟨q, by simp only [h1], h2⟩
  | none =>
   simp only [hx] at e
   have ⟨q, h1, h2⟩ := y.some n o _ e
   exact ⟨q, by simp only [x.none n o hx]; exact h1, h2⟩ }
def zcN (n : Fr) (dst : Option Nat) (mx : Bool) (x y : Operand) : HM Unit := ye (opnd x) >>= fun tx => Qo tx >>= fun vx => ye (opnd y) >>= fun ty => Qo ty >>= fun vy => ye (ofO (zcO mx vx vy) >>= fun r => wrT n dst (.d r))
theorem z94 (n : Fr) (dst : Option Nat) (mx : Bool) (x y : Operand) : Snd (minO n dst mx x y) (zcN n dst mx x y) :=
 zb (zk _) fun _ => zb (kA _) fun _ => zb (zk _) fun _ => zb (kA _) fun _ => zk _
def z5X (tt : TT) (n : Fr) (dst : Option Nat) (t : Nat) (x i : Operand) : HM Unit := ye (opnd x) >>= fun tx => Qo tx >>= fun vx => ye (opnd i) >>= fun ti => Qo ti >>= fun vi =>
 ye (match vx, vi with
 | .agg fs, .atom (.int _ j) =>
  match zcA tt t with
  | some (m, e) => match fs[j.toNat]? with
   | some y => if 0 ≤ j ∧ j < (m : Int) ∧ j8 tt e y = true ∧ y.isD = true ∧ (fs.take j.toNat).all (fun z => z.size == y.size) = true then wrT n dst (.d y) else zm
   | none => zm
  | none => zm
 | _, _ => zm)
theorem z6P (tt : TT) (n : Fr) (dst : Option Nat) (t : Nat) (x i : Operand) : Snd (indexO tt n dst t x i) (z5X tt n dst t x i) :=
 zb (zk _) fun _ => zb (kA _) fun _ => zb (zk _) fun _ => zb (kA _) fun _ => zk _
def xB (hT : ut P tt) : XH P := {
 e := z8B tt
 h := fun n o => match o.op with
  | .call ⟨.builtin .min, ⟨[x, y]⟩, ⟨[_, _]⟩⟩ => some (zcN n o.dst false x y)
  | .call ⟨.builtin .max, ⟨[x, y]⟩, ⟨[_, _]⟩⟩ => some (zcN n o.dst true x y)
  | .index t x i => some (z5X tt n o.dst t x i)
  | _ => none
 ok := z7X hT
 none := by
  intro n o e
  unfold z8B at e
  split at e
  ·cases e
  ·cases e
  ·cases e
  ·rfl
 some := by
  intro n o m e
  unfold z8B at e
  split at e
  ·rename_i ho; cases e; exact ⟨_, by simp only, z94 _ _ _ _ _⟩
  ·rename_i ho; cases e; exact ⟨_, by simp only, z94 _ _ _ _ _⟩
  ·rename_i ho; cases e; exact ⟨_, by simp only, z6P _ _ _ _ _ _⟩
  ·cases e }
def KY (X : XH P) (tt : TT) (ctr : Ctr) (n : Fr) (o : Oper) : HM Unit :=
 match X.h n o with
 | some q => q
 | none => z1P tt (ctr.withE X.e) n o
theorem z1X (X : XH P) (tt : TT) (ctr : Ctr) (n : Fr) (o : Oper) : Snd (stepX tt (ctr.withE X.e) n o) (KY X tt ctr n o) := by
 unfold stepX KY
 cases he : X.e n o with
 | none =>
  rw [X.none n o he]
  exact X1 (by simp [he]) (z6G _ _ _ _)
 | some m =>
  have ⟨q, h1, h2⟩ := X.some n o m he
  rw [h1]
  exact X1 (by simp [he]) h2
def Kd (X : XH P) (tt : TT) (ctr : Ctr) (n : Fr) (ops : Array Oper) (o : Oper) : HM Unit :=
 match o.guard with
 | none => KY X tt ctr n o
 | some (j, want) =>
  match (ops[j]?).bind (·.dst) with
  | some g => ye (rdE g) >>= fun e =>
   match e.t with
   | .d (.atom (.bool b)) => zcf b >>= fun b => if b = want then KY X tt ctr n o else ye (wrT n o.dst (.d (.tup [])))
   | .d (.tup []) => ye (wrT n o.dst (.d (.tup [])))
   | _ => zD
  | none => zD
def z5M : List H → List H
 | .op 0 :: hs => hs
 | .op (m + 1) :: hs => .op m :: hs
 | hs => hs
def z00 (X : XH P) (tt : TT) (ctr : Ctr) (n : Fr) (ops : Array Oper) (o : Oper) : HM Unit := fun st hs => Kd X tt ctr n ops o st (z5M hs)
theorem z4a (X : XH P) (tt : TT) (ctr : Ctr) (n : Fr) (ops : Array Oper) (o : Oper) : Snd (stepG tt (ctr.withE X.e) n ops o) (Kd X tt ctr n ops o) := by
 unfold stepG Kd
 cases o.guard with
 | none => exact z1X _ _ _ _ _
 | some q =>
  have ⟨j, want⟩ := q
  dsimp only
  cases (ops[j]?).bind (·.dst) with
  | none => exact zi _
  | some g =>
   refine zb (zk _) fun e => ?_
   have ⟨t, a, b⟩ := e
   cases t with
   | d x =>
    cases x with
    | atom v =>
     cases v with
     | bool b =>
      refine X1 (m' := pure b >>= fun b => if b = want then stepX tt (ctr.withE X.e) n o else wrT n o.dst (.d (.tup []))) (zQ _ _).symm ?_
      exact zb (z21 _) fun b => xY (z1X _ _ _ _ _) (zk _)
     | _ => exact zi _
    | tup l =>
     cases l with
     | nil => exact zk _
     | cons _ _ => exact zi _
    | _ => exact zi _
   | _ => exact zi _
theorem z1Y (X : XH P) (tt : TT) (ctr : Ctr) (n : Fr) (ops : Array Oper) (o : Oper) : Snd (stepG tt (ctr.withE X.e) n ops o) (z00 X tt ctr n ops o) :=
 fun st hs a R U hs' ob e ho => z4a X tt ctr n ops o st (z5M hs) a R U hs' ob e ho
abbrev Lg := List (List Nat × List Nat)
def z1W (X : XH P) (tt : TT) (ctr : Ctr) (n : Fr) (ops : Array Oper) : List Oper → St → List H → Option (St × List H × List Prop × Lg)
 | [], st, hs => some (st, hs, [], [])
 | o :: os, st, hs =>
  match z00 X tt ctr n ops o st hs with
  | none => none
  | some (_, R, U, hs', ob) =>
   match z1W X tt ctr n ops os (z7 U st) hs' with
   | none => none
   | some (st', hs'', ob', lg) => some (st', hs'', ob ++ ob', (R, U.map (·.1)) :: lg)
variable {ops : Array Oper}{K : St → Prop}
section
variable {P : Program} {X : XH P} {tt : TT} {ctr : Ctr} {n : Fr}
theorem z06 : ∀ (l : List Oper) (st : St) (hs : List H) {st' : St} {hs' : List H} {ob : List Prop} {lg : Lg}, z1W X tt ctr n ops l st hs = some (st', hs', ob, lg) → Vt ob → K st' → z8u tt (ctr.withE X.e) n ops l st K
 | [], st, hs, st', hs', ob, lg, e, ho, hk => by
  simp only [z1W, Option.some.injEq, Prod.mk.injEq] at e
  obtain ⟨rfl, _⟩ := e
  exact hk
 | o :: os, st, hs, st', hs', ob, lg, e, ho, hk => by
  simp only [z1W] at e
  cases e1 : z00 X tt ctr n ops o st hs with
  | none => simp only [e1] at e; cases e
  | some q =>
   have ⟨u, R, U, hs1, ob1⟩ := q
   simp only [e1] at e
   cases e2 : z1W X tt ctr n ops os (z7 U st) hs1 with
   | none => simp only [e2] at e; cases e
   | some q =>
    have ⟨st2, hs2, ob2, lg2⟩ := q
    simp only [e2, Option.some.injEq, Prod.mk.injEq] at e
    obtain ⟨rfl, rfl, rfl, rfl⟩ := e
    have ⟨o1, o2⟩ := ya ho
    simp only [z8u, z8v]
    rw [z1Y X tt ctr n ops o _ _ _ _ _ _ _ e1 o1]
    exact z06 os _ _ e2 o2 hk
theorem QP : ∀ (l : List Oper) (st : St) (hs : List H) (logs : Lg) {st' : St} {hs' : List H} {ob : List Prop} {lg : Lg}, z1W X tt ctr n ops l st hs = some (st', hs', ob, lg) → Vt ob → jp ops.toList (logs ++ lg) = true → K st' → z1m tt (ctr.withE X.e) n ops l st logs K
 | [], st, hs, logs, st', hs', ob, lg, e, ho, hd, hk => by
  simp only [z1W, Option.some.injEq, Prod.mk.injEq] at e
  obtain ⟨rfl, _, _, rfl⟩ := e
  exact ⟨by simpa using hd, hk⟩
 | o :: os, st, hs, logs, st', hs', ob, lg, e, ho, hd, hk => by
  simp only [z1W] at e
  cases e1 : z00 X tt ctr n ops o st hs with
  | none => simp only [e1] at e; cases e
  | some q =>
   have ⟨u, R, U, hs1, ob1⟩ := q
   simp only [e1] at e
   cases e2 : z1W X tt ctr n ops os (z7 U st) hs1 with
   | none => simp only [e2] at e; cases e
   | some q =>
    have ⟨st2, hs2, ob2, lg2⟩ := q
    simp only [e2, Option.some.injEq, Prod.mk.injEq] at e
    obtain ⟨rfl, rfl, rfl, rfl⟩ := e
    have ⟨o1, o2⟩ := ya ho
    simp only [z1m, z8v]
    rw [z1Y X tt ctr n ops o _ _ _ _ _ _ _ e1 o1]
    exact QP os _ _ _ e2 o2 (by simpa using hd) hk
end
inductive Fm where
 | seq (y : Code)
 | blk (id : Nat)
 | pre (J : St → Prop)
 | rnd (m : Nat) (c : Code)
def z8D (P : Program) (n : Fr) (c : Code) : Nat → St → (Exit → St → Prop) → Prop
 | 0, _, _ => False
 | m + 1, st, Q => AWP P n c st (K8 (fun st' => z8D P n c m st' Q) Q)
variable {Q : Exit → St → Prop}
theorem z8D.loop {n : Fr} {c : Code}  : ∀ (m : Nat) (st : St), z8D P n c m st Q → AWP P n (.loop c) st Q := by
 intro m st h rd mm df w0 S0 M S Fp a w hc hs
 refine wpIn_loop_rounds m ?_
 have gen : ∀ (m : Nat) (st : St) (df' : List Nat) (S : z8) (Fp : Nat → List Nat) (a : Act) (w : World), z8D P n c m st Q → Sim ⟨n, df', w0, S0, M⟩ S Fp [] st a w → uu df M df' Fp w → Code.roundsIn (fen rd) mm P c (z3B n df w0 S0 M Q) m a w := by
  intro m
  induction m with
  | zero => intro st df' S Fp a w h _ _; exact h.elim
  | succ m ih =>
   intro st df' S Fp a w h hs hd
   refine wpIn_mono (AWP.go h hc hs hd) ?_
   intro e a' w' hp
   cases e with
   | normal =>
    have ⟨df2, st2, S2, Fp2, h1, h2, h3⟩ := hp
    exact ih st2 df2 S2 Fp2 a' w' h3 h1 h2
   | _ => exact hp.next fun _ q => q
 exact gen m st df S Fp a w h hs (hc.post hs)
def Qf (P : Program) (n : Fr) : List Fm → (Exit → St → Prop) → Exit → St → Prop
 | [], Q => Q
 | .seq y :: fs, Q => K8 (fun st => AWP P n y st (Qf P n fs Q)) (Qf P n fs Q)
 | .blk id :: fs, Q => Ub id (Qf P n fs Q)
 | .pre J :: fs, Q => K8 J (Qf P n fs Q)
 | .rnd m c :: fs, Q => K8 (fun st => z8D P n c m st (Qf P n fs Q)) (Qf P n fs Q)
inductive z14 where
 | fin (e : Exit)
 | back (J : St → Prop)
 | at (c : Code) (fs : List Fm)
def z14.sem (P : Program) (n : Fr) (Q : Exit → St → Prop) : z14 → St → Prop
 | .fin e, st => Q e st
 | .back J, st => J st
 | .at c fs, st => AWP P n c st (Qf P n fs Q)
inductive Nxt where
 | go (y : Code) (fs : List Fm)
 | stop (s : z14)
 | none
def unw : List Fm → Nxt
 | [] => .stop (.fin .normal)
 | .seq y :: fs => .go y fs
 | .blk _ :: fs => unw fs
 | .pre J :: _ => .stop (.back J)
 | .rnd (m + 1) c :: fs => .go c (.rnd m c :: fs)
 | .rnd 0 _ :: _ => .none
def K3 (id : Nat) : List Fm → Option (List Fm)
 | [] => none
 | .blk i :: fs => if id = i then some fs else K3 id fs
 | .seq _ :: fs => K3 id fs
 | .pre _ :: fs => K3 id fs
 | .rnd _ _ :: fs => K3 id fs
abbrev z3A := Option (z14 × St × List H × List Prop)
def z8C (ob : List Prop) : z3A → z3A
 | none => none
 | some (s, st, hs, ob') => some (s, st, hs, ob ++ ob')
def goN (rec : Code → List Fm → St → List H → z3A) (x : Nxt) (st : St) (hs : List H) : z3A :=
 match x with
 | .go y fs => rec y fs st hs
 | .stop s => some (s, st, hs, [])
 | .none => none
def z48 (k : Nat) : SM Unit := do
 let y ← opnd (.tmp k)
 let q ← ptrOf y
 match q with
 | .inr (r, p, er, ec) => do
  let _ ← lookP r p er ec
  let _ ← shutT (fun _ => none) 0 (.als r p er ec)
  pure ()
 | .inl _ => zm
def z46 (k : Nat) : SM Unit := do
 let e ← rdE k
 match e.t with
 | .own (.osl sz t es) => if A.lives es = true then wrE k ⟨.own (.osl sz t (A.shuts es)), e.er, e.ec + 1⟩ else zm
 | _ => zm
def z4L : T → Bool
 | .own (.osl _ _ _) => true
 | _ => false
def z44 (k : Nat) : SM Unit := do
 let e ← rdE k
 if z4L e.t = true then z46 k else z48 k
def z07 : List Nat → SM Unit
 | [] => pure ()
 | k :: ks => do
  z44 k
  z07 ks
def z5B (k : Nat) : HM Unit :=
 ye (opnd (.tmp k)) >>= fun y => ye (ptrOf y) >>= fun q =>
 match q with
 | .inr (r, p, er, ec) => ye (lookP r p er ec) >>= fun _ => Vv (fun _ => none) 0 (.als r p er ec) >>= fun _ => pure ()
 | .inl _ => zD
def z5A (k : Nat) : HM Unit :=
 ye (rdE k) >>= fun e =>
 match e.t with
 | .own (.osl sz t es) => z4O >>= fun es' => YO (A.lives es = true ∧ A.shuts es = es') (ye (wrE k ⟨.own (.osl sz t es'), e.er, e.ec + 1⟩))
 | _ => zD
def z5z (k : Nat) : HM Unit := ye (rdE k) >>= fun e => if z4L e.t = true then z5A k else z5B k
def UH : List Nat → HM Unit
 | [] => pure ()
 | k :: ks => z5z k >>= fun _ => UH ks
theorem z6M (k : Nat) : Snd (z48 k) (z5B k) :=
 zb (zk _) fun y => zb (zk _) fun q => by
  cases q with
  | inl _ => exact zi _
  | inr q =>
   have ⟨r, p, er, ec⟩ := q
   exact zb (zk _) fun _ => zb (kB _ _ _) fun _ => xe _
theorem z6L (k : Nat) : Snd (z46 k) (z5A k) := by
 refine zb (zk _) fun e => ?_
 have ⟨t, er, ec⟩ := e
 cases t with
 | own x =>
  cases x with
  | osl sz tg es =>
   intro st hs b R U hs' ob e ho
   obtain ⟨es', R1, U1, hs1, ob1, R2, U2, ob2, e1, e2, rfl, rfl, rfl⟩ := kQ e
   unfold z4O at e1
   split at e1
   ·cases e1
    have ⟨⟨q1, q2⟩, ob', e3, o3⟩ := Q0 e2 (ya ho).2
    subst q2
    dsimp only
    rw [if_pos q1]
    exact zk _ _ _ _ _ _ _ _ e3 o3
   ·cases e1
  | _ => exact zi _
 | _ => exact zi _
theorem z6K (k : Nat) : Snd (z44 k) (z5z k) := zb (zk _) fun e => xY (z6L k) (z6M k)
theorem z08 : ∀ ks, Snd (z07 ks) (UH ks)
 | [] => xe _
 | k :: ks => zb (z6K k) fun _ => z08 ks
variable {k : Nat}
theorem z45 {S : z8}    {w : World} (h : Sim C S Fp [] st a w)     (e : z46 k st = some (u, R, U)) : ∃ S' Fp', Sim C S' Fp' [] (z7 U st) a w := by
 unfold z46 at e
 have ⟨_, e1⟩ := bD e
 have hno : ∀ x, (st k).t = x → z4L x = false → False := by
  intro x hx hn
  rw [hx] at e1
  cases x with
  | own y => cases y <;> first | exact wM e1 | (simp [z4L] at hn)
  | _ => exact wM e1
 have hyes : ∃ sz t es, (st k).t = .own (.osl sz t es) := by
  cases hx : (st k).t with
  | own y => cases y <;> first | exact ⟨_, _, _, rfl⟩ | exact (hno _ hx rfl).elim
  | _ => exact (hno _ hx rfl).elim
 have ⟨sz, t, es, ht⟩ := hyes
 rw [ht] at e1
 dsimp only at e1
 split at e1
 ·rename_i hl
  cases e1
  have hr := h.ent k
  unfold yQ at hr
  simp only [ht] at hr
  have ⟨cs, q, q1, q2⟩ := hr
  simp only [zA] at q
  obtain ⟨p, c, rfl, d1, d2, d3, d4, d5⟩ := q
  simp only [z7]
  rcases d5 with ⟨rfl, rfl, rfl, hF0⟩ | ⟨b, arr, ty, l, F1, rfl, e1, e2, e3, e4, hF0, e5⟩
  ·exact ⟨S, Vk Fp k [], h.change k (.own (.osl sz t (A.shuts []))) _ _ [] h.below (fun _ _ _ q => q) h.still.cell h.sbase (fun t' k' hk hk' => ⟨rfl, (h.free t' k' hk').2.1⟩)
    ⟨⟨_, by simp only [zA]; exact ⟨none, 0, rfl, fun _ => rfl, Nat.le_refl _, Nat.zero_le _, by simp [A.shuts], .inl (by simp [A.shuts])⟩, by simp, by rw [q2]; rfl⟩, _, ht⟩ (.inl ⟨_, ht⟩) (Nat.le_refl _) (Nat.lt_succ_self _) (by simp) (by simp) h.xn (fun t k _ hk => h.xd t k hk) (by simp) h.xb⟩
  ·have hF7 : ∀ q ∈ F1, q ∈ Fp k := fun q hq => by rw [hF0]; exact List.mem_cons_of_mem _ hq
   have ⟨m1, m2, m3, m4⟩ := kM h hF7
   have hrs := zy.shut (S' := yb S w.heap F1) m1 e4 hl (fun k hk o => by unfold yb; rw [if_pos hk])
   have hlen : (A.shuts es).length = es.length := by simp [A.shuts_eq]
   have hb : b ∉ F1 := by rw [hF0] at q1; exact (List.nodup_cons.1 q1).1
   have hbk : b ∈ Fp k := by rw [hF0]; exact List.mem_cons_self
   refine ⟨yb S w.heap F1, Vk Fp k [b], h.change k (.own (.osl sz t (A.shuts es))) _ _ [b] h.below m1 m2 m3 ?_ ⟨⟨_, ?_, by simp, by rw [q2]; rfl⟩, _, ht⟩ (.inl ⟨_, ht⟩) (Nat.le_refl _) (Nat.lt_succ_self _) ?_ ?_ h.xn (fun t k _ hk => h.xd t k hk) (by simp) h.xb⟩
   ·intro t' k' hk hk'
    refine ⟨rfl, fun o => ?_⟩
    rw [m4 k' (fun hF => hk (h.disj t' k k' hk' (hF7 k' hF)))]
    exact (h.free t' k' hk').2.1 o
   ·simp only [zA]
    refine ⟨some ⟨b, 0, none⟩, c, by rw [hlen], fun ht => by rw [hlen]; exact d1 ht, by rw [hlen]; exact d2, d3, ?_, .inr ⟨b, arr, ty, _, [], rfl, e1, e2, by rw [hlen]; exact e3, zV.concs _ hrs, rfl, ?_⟩⟩
    ·intro x hx
     rw [A.shuts_eq] at hx
     obtain ⟨y, hy, rfl⟩ := List.mem_map.1 hx
     rw [A.size_shut]
     exact d4 y hy
    ·intro o
     rw [m4 b hb]
     exact e5 o
   ·intro t' k' hk hk' hk2
    simp only [List.mem_cons, List.not_mem_nil, or_false] at hk'
    subst hk'
    exact hk (h.disj t' k _ hk2 hbk)
   ·intro k' hk'
    simp only [List.mem_cons, List.not_mem_nil, or_false] at hk'
    subst hk'
    exact h.base k _ hbk
 ·cases e1
theorem z47 {S : z8}    {w : World} (h : Sim C S Fp [] st a w)     (e : z48 k st = some (u, R, U)) : ∃ S' Fp', Sim C S' Fp' [] (z7 U st) a w := by
 unfold z48 at e
 obtain ⟨y, R1, U1, R2, U2, h1, e1, rfl, rfl⟩ := bind_some e
 obtain ⟨rfl, hx⟩ := zK h h1
 obtain ⟨q, R3, U3, R4, U4, h3, e2, rfl, rfl⟩ := bind_some e1
 obtain ⟨rfl, hq⟩ := Zg h hx h3
 simp only [z7, List.nil_append] at e2 ⊢
 split at e2
 ·rename_i r p er ec
  obtain ⟨z, R7, U7, R8, U8, h7, e4, rfl, rfl⟩ := bind_some e2
  obtain ⟨rfl, x0, k1, k2, k3, k4⟩ := Zi h7
  simp only [z7, List.nil_append] at e4 ⊢
  obtain ⟨z2, R9, U9, R10, U10, h9, e5, rfl, rfl⟩ := bind_some e4
  obtain ⟨_, _, rfl⟩ := zf e5
  have ⟨b, o', arr, ty, csy, Fy, cs, ev, o1, f2, f3, f4, f5, f6, f7, f8, f9, f10, f11, _⟩ := Wz h hq k1 k2 k3 k4
  have hals : TOk S w.heap st (Act.tv a) (.als r p er ec) (zT z csy) := ⟨by omega, by omega, by
   simp only [k1]
   exact fun _ _ => .inr ⟨o1, z, b, o', csy, k4, f11, f4.len, UG f2 f3, rfl⟩⟩
  have ⟨S', Fp', g1, _⟩ := Yq h hals h9
  exact ⟨S', Fp', by simpa using g1⟩
 ·cases e2
theorem z43 {S : z8}    {w : World} (h : Sim C S Fp [] st a w)     (e : z44 k st = some (u, R, U)) : ∃ S' Fp', Sim C S' Fp' [] (z7 U st) a w := by
 unfold z44 at e
 have ⟨_, e1⟩ := bD e
 split at e1
 ·exact z45 h e1
 ·exact z47 h e1
theorem QQ {w : World} : ∀ {ks : List Nat} {S : z8} {Fp : Nat → List Nat} {st : St}, Sim C S Fp [] st a w → ∀ {u : Unit} {R : List Nat} {U : List (Nat × Ent)}, z07 ks st = some (u, R, U) → ∃ S' Fp', Sim C S' Fp' [] (z7 U st) a w
 | [], S, Fp, st, h, u, R, U, e => by
  obtain ⟨_, rfl, rfl⟩ := zf e
  exact ⟨S, Fp, h⟩
 | k :: ks, S, Fp, st, h, u, R, U, e => by
  simp [z07] at e
  obtain ⟨_, R1, U1, R2, U2, h1, e1, rfl, rfl⟩ := bind_some e
  have ⟨S1, Fp1, g1⟩ := z43 h h1
  rw [zl]
  exact QQ g1 e1
def zeF : List H → List H
 | .n (m + 1) ks :: hs => .n m ks :: hs
 | .v (m + 1) ks :: hs => .v m ks :: hs
 | .stp (m + 1) :: hs => .stp m :: hs
 | hs => hs
def UD (rec : Code → List Fm → St → List H → z3A) (X : XH P) (tt : TT) (ctr : Ctr) (n : Fr) (c : Code) (fs : List Fm) (st : St) (hs : List H) : z3A :=
  match c with
  | .skip => goN rec (unw fs) st hs
  | .label _ => goN rec (unw fs) st hs
  | .ret => some (.fin .ret, st, hs, [])
   | .exit id => match K3 id fs with | some fs' => goN rec (unw fs') st hs | none => some (.fin (.exit id), st, hs, [])
  | .region _ ops d =>
   match z1W X tt ctr n ops ops.toList st hs with
   | some (st', hs', ob, lg) => if d = false ∨ jp ops.toList lg = true then z8C ob (goN rec (unw fs) st' hs') else none
   | none => none
  | .seq x y =>
   match hs with
   | .cut 0 :: hs' => some (.at (.seq x y) fs, st, hs', [])
   | .cut (m + 1) :: hs' => rec x (.seq y :: fs) st (.cut m :: hs')
   | hs => rec x (.seq y :: fs) st hs
  | .cond o x y =>
   match KM st o with
   | some b =>
    match hs with
    | .b b' :: hs' => z8C [b = b'] (rec (match b' with | true => x | false => y) fs st hs')
    | _ => none
   | none => none
  | .block id c => rec c (.blk id :: fs) st hs
  | .loop c =>
   match hs with
   | .u m :: hs' => rec c (.rnd m c :: fs) st hs'
   | hs => some (.at (.loop c) fs, st, hs, [])
  | c => some (.at c fs, st, hs, [])
def z3x (X : XH P) (tt : TT) (ctr : Ctr) (n : Fr) : Nat → Code → List Fm → St → List H → z3A
 | 0, _, _, _, _ => none
 | k + 1, c, fs, st, hs =>
  match hs with
  | .n 0 ks :: hs =>
   match wS (fun _ => none) (ks.map fun i => (.tmp i, 0)) st hs with
   | some (_, _, U, hs', ob) => z8C ob (z3x X tt ctr n k c fs (z7 U st) hs')
   | none => none
  | .v 0 ks :: hs =>
   match UH ks st hs with
   | some (_, _, U, hs', ob) => z8C ob (z3x X tt ctr n k c fs (z7 U st) hs')
   | none => none
  | .stp 0 :: hs => some (.at c fs, st, hs, [])
  | hs => UD (z3x X tt ctr n k) X tt ctr n c fs st (zeF hs)
variable {rec : Code → List Fm → St → List H → z3A}
section
variable {P : Program} {tt : TT} {ctr : Ctr} {n : Fr} {Q : Exit → St → Prop}
theorem QH {k : Nat}  (hrec : ∀ c fs st hs s st' hs' ob, rec c fs st hs = some (s, st', hs', ob) → Vt ob → s.sem P n Q st' → AWP P n c st (Qf P n fs Q)) :
  ∀ (fs : List Fm) {st : St} {hs : List H} {s : z14} {st' : St} {hs' : List H} {ob : List Prop}, goN rec (unw fs) st hs = some (s, st', hs', ob) → Vt ob → s.sem P n Q st' → Qf P n fs Q .normal st
 | [], st, hs, s, st', hs', ob, e, ho, h => by
  simp only [unw, goN, Option.some.injEq, Prod.mk.injEq] at e
  obtain ⟨rfl, rfl, _⟩ := e
  exact h
 | .seq y :: fs, st, hs, s, st', hs', ob, e, ho, h => by
  simp only [unw, goN] at e
  exact hrec _ _ _ _ _ _ _ _ e ho h
 | .blk id :: fs, st, hs, s, st', hs', ob, e, ho, h => by
  simp only [unw] at e
  exact QH (k := k) hrec fs e ho h
 | .pre J :: fs, st, hs, s, st', hs', ob, e, ho, h => by
  simp only [unw, goN, Option.some.injEq, Prod.mk.injEq] at e
  obtain ⟨rfl, rfl, _⟩ := e
  exact h
 | .rnd (m + 1) c :: fs, st, hs, s, st', hs', ob, e, ho, h => by
  simp only [unw, goN] at e
  exact hrec _ _ _ _ _ _ _ _ e ho h
 | .rnd 0 c :: fs, st, hs, s, st', hs', ob, e, ho, h => by
  simp only [unw, goN] at e
  cases e
theorem Wi {id : Nat}  : ∀ (fs : List Fm) {fs' : List Fm}, K3 id fs = some fs' → Qf P n fs' Q .normal st → Qf P n fs Q (.exit id) st
 | [], fs', e, h => by cases e
 | .blk i :: fs, fs', e, h => by
  simp [K3] at e
  simp [Qf, Ub]
  split at e
  ·rename_i hi
   cases e
   rw [if_pos hi]
   exact h
  ·rename_i hi
   rw [if_neg hi]
   exact Wi fs e h
 | .seq y :: fs, fs', e, h => Wi fs (by simpa only [K3] using e) h
 | .pre J :: fs, fs', e, h => Wi fs (by simpa only [K3] using e) h
 | .rnd _ _ :: fs, fs', e, h => Wi fs (by simpa only [K3] using e) h
theorem Jf : ∀ (fs : List Fm), Q .ret st → Qf P n fs Q .ret st
 | [], h => h
 | .seq _ :: fs, h => Jf fs h
 | .blk _ :: fs, h => Jf fs h
 | .pre _ :: fs, h => Jf fs h
 | .rnd _ _ :: fs, h => Jf fs h
theorem Wy {id : Nat}  : ∀ (fs : List Fm), K3 id fs = none → Q (.exit id) st → Qf P n fs Q (.exit id) st
 | [], _, h => h
 | .blk i :: fs, e, h => by
  simp [K3] at e
  simp [Qf, Ub]
  split at e
  ·cases e
  ·rename_i hi
   rw [if_neg hi]
   exact Wy fs e h
 | .seq y :: fs, e, h => Wy fs (by simpa only [K3] using e) h
 | .pre J :: fs, e, h => Wy fs (by simpa only [K3] using e) h
 | .rnd _ _ :: fs, e, h => Wy fs (by simpa only [K3] using e) h
theorem YN {ob : List Prop} {x : z3A} {s : z14}   {ob' : List Prop} (e : z8C ob x = some (s, st, hs, ob')) : ∃ ob2, x = some (s, st, hs, ob2) ∧ ob' = ob ++ ob2 := by
 cases x with
 | none => cases e
 | some q =>
  have ⟨s1, st1, hs1, ob1⟩ := q
  simp [z8C, Option.some.injEq, Prod.mk.injEq] at e
  obtain ⟨rfl, rfl, rfl, rfl⟩ := e
  exact ⟨ob1, rfl, rfl⟩
theorem AWP.label {l : Nat}   (h : Q .normal st) : AWP P n (.label l) st Q := fun _ _ _ _ _ _ _ _ _ _ hc hs => wpIn_label (hc.fin hs h)
theorem z3Z (X : XH P) (hT : ut P tt) (hC : uM P ctr) (hm : P.follows .mixedOrders = true)  (ih : ∀ c fs st hs s st' hs' ob, rec c fs st hs = some (s, st', hs', ob) → Vt ob → s.sem P n Q st' → AWP P n c st (Qf P n fs Q)) (c : Code) (fs : List Fm) (st : St) (hs : List H) (s : z14) (st' : St) (hs' : List H) (ob : List Prop)
  (e : UD rec X tt ctr n c fs st hs = some (s, st', hs', ob)) (ho : Vt ob) (h : s.sem P n Q st') : AWP P n c st (Qf P n fs Q) := by
 cases c with
 | skip => exact AWP.skip (QH (k := 0) ih fs e ho h)
 | label l => exact AWP.label (QH (k := 0) ih fs e ho h)
 | ret =>
  simp only [UD, Option.some.injEq, Prod.mk.injEq] at e
  obtain ⟨rfl, rfl, _⟩ := e
  exact AWP.ret (Jf fs h)
 | exit id =>
  simp only [UD] at e
  cases hx : K3 id fs with
  | none =>
   simp only [hx, Option.some.injEq, Prod.mk.injEq] at e
   obtain ⟨rfl, rfl, _⟩ := e
   exact AWP.exit (Wy fs hx h)
  | some fs' =>
   simp only [hx] at e
   exact AWP.exit (Wi fs hx (QH (k := 0) ih fs' e ho h))
 | region id ops d =>
  simp only [UD] at e
  cases hx : z1W X tt ctr n ops ops.toList st hs with
  | none => simp only [hx] at e; cases e
  | some q =>
   have ⟨st1, hs1, ob1, lg⟩ := q
   simp only [hx] at e
   by_cases hd : d = false ∨ jp ops.toList lg = true
   ·rw [if_pos hd] at e
    obtain ⟨ob2, e2, rfl⟩ := YN e
    have ⟨o1, o2⟩ := ya ho
    have hq := QH (k := 0) ih fs e2 o2 h
    cases d with
    | false => exact AWP.region hT (hC.withE X.ok) (z06 _ _ _ hx o1 hq)
    | true => exact AWP.drawn hT (hC.withE X.ok) hm (QP _ _ _ [] hx o1 (by simpa using hd) hq)
   ·rw [if_neg hd] at e; cases e
 | seq x y =>
  have gen : ∀ hs, rec x (.seq y :: fs) st hs = some (s, st', hs', ob) → AWP P n (.seq x y) st (Qf P n fs Q) := fun hs e => AWP.seq (ih _ _ _ _ _ _ _ _ e ho h)
  rcases hs with _ | ⟨q, hs⟩
  ·exact gen _ e
  ·cases q with
   | cut m =>
    cases m with
    | zero =>
     simp only [UD, Option.some.injEq, Prod.mk.injEq] at e
     obtain ⟨rfl, rfl, _⟩ := e
     exact h
    | succ m => exact gen _ e
   | _ => exact gen _ e
 | cond o x y =>
  simp only [UD] at e
  cases hb : KM st o with
  | none => simp only [hb] at e; cases e
  | some b =>
   simp only [hb] at e
   rcases hs with _ | ⟨q, hs⟩
   ·cases e
   ·cases q with
    | b b' =>
     obtain ⟨ob2, e2, rfl⟩ := YN e
     have h1 : b = b' := ho.1
     subst h1
     cases b with
     | true => exact AWP.condT hb (ih _ _ _ _ _ _ _ _ e2 ho.2 h)
     | false => exact AWP.condF hb (ih _ _ _ _ _ _ _ _ e2 ho.2 h)
    | _ => cases e
 | block id c => exact AWP.block (ih _ _ _ _ _ _ _ _ e ho h)
 | loop c =>
  have gen : some (z14.at (.loop c) fs, st, hs, ([] : List Prop)) = some (s, st', hs', ob) → AWP P n (.loop c) st (Qf P n fs Q) := by
   intro e
   cases e
   exact h
  rcases hs with _ | ⟨q, hs⟩
  ·exact gen e
  ·cases q with
   | u m => exact z8D.loop (m + 1) st (ih _ _ _ _ _ _ _ _ e ho h)
   | _ => exact gen e
 | _ =>
  simp only [UD, Option.some.injEq, Prod.mk.injEq] at e
  obtain ⟨rfl, rfl, _⟩ := e
  exact h
theorem Ko (X : XH P) (hT : ut P tt) (hC : uM P ctr) (hm : P.follows .mixedOrders = true) : ∀ (k : Nat) (c : Code) (fs : List Fm) (st : St) (hs : List H) (s : z14) (st' : St) (hs' : List H) (ob : List Prop),
  z3x X tt ctr n k c fs st hs = some (s, st', hs', ob) → Vt ob → s.sem P n Q st' → AWP P n c st (Qf P n fs Q) := by
 intro k
 induction k with
 | zero => intro c fs st hs s st' hs' ob e; cases e
 | succ k ih =>
  intro c fs st hs s st' hs' ob e ho h
  have gen : ∀ hs, UD (z3x X tt ctr n k) X tt ctr n c fs st hs = some (s, st', hs', ob) → AWP P n c st (Qf P n fs Q) := fun hs e => z3Z X hT hC hm ih c fs st hs s st' hs' ob e ho h
  rcases hs with _ | ⟨q, hs⟩
  ·exact gen _ e
  ·cases q with
   | v m ks =>
    cases m with
    | zero =>
     simp only [z3x] at e
     cases hx : UH ks st hs with
     | none => simp only [hx] at e; cases e
     | some q =>
      have ⟨xs, R, U, hs1, ob1⟩ := q
      simp only [hx] at e
      obtain ⟨ob2, e2, rfl⟩ := YN e
      have ⟨o1, o2⟩ := ya ho
      have h1 := z08 _ _ _ _ _ _ _ _ hx o1
      have h2 := ih c fs _ _ _ _ _ _ e2 o2 h
      intro rd m df w0 S0 M S Fp a w hc hs
      have ⟨S', Fp', g1⟩ := QQ hs h1
      exact h2 rd m df w0 S0 M S' Fp' a w hc g1
    | succ m => exact gen _ e
   | n m ks =>
    cases m with
    | zero =>
     simp only [z3x] at e
     cases hx : wS (fun _ => none) (ks.map fun i => (.tmp i, 0)) st hs with
     | none => simp only [hx] at e; cases e
     | some q =>
      have ⟨xs, R, U, hs1, ob1⟩ := q
      simp only [hx] at e
      obtain ⟨ob2, e2, rfl⟩ := YN e
      have ⟨o1, o2⟩ := ya ho
      have h1 := uN (fun _ => none) _ _ _ _ _ _ _ _ hx o1
      have h2 := ih c fs _ _ _ _ _ _ e2 o2 h
      intro rd m df w0 S0 M S Fp a w hc hs
      have ⟨S', Fp', g1, _⟩ := xX hs h1
      exact h2 rd m df w0 S0 M S' Fp' a w hc g1
    | succ m => exact gen _ e
   | stp m =>
    cases m with
    | zero =>
     simp only [z3x, Option.some.injEq, Prod.mk.injEq] at e
     obtain ⟨rfl, rfl, _⟩ := e
     exact h
    | succ m => exact gen _ e
   | _ => exact gen _ e
structure Ob where
 p : Prop
 h : p
def ob (h : p) : Ob := ⟨p, h⟩
theorem z2u : ∀ (l : List Ob), Vt (l.map Ob.p)
 | [] => trivial
 | o :: l => ⟨o.h, z2u l⟩
def zcH (X : XH P) (tt : TT) (ctr : Ctr) (n : Fr) (live : List Nat) (k : Nat) (c : Code) (fs : List Fm) (st : St) (hs : List H) : Option (z14 × St × List Prop) :=
 match z3x X tt ctr n k c fs st hs with
 | some (s, st', [], ob) => some (s, canon live st', ob)
 | _ => none
theorem z8k (X : XH P) (hT : ut P tt) (hC : uM P ctr) (hm : P.follows .mixedOrders = true) (live : List Nat) (k : Nat) {c : Code} {fs : List Fm} {st : St} {hs : List H} {s : z14} {st' : St} (obs : List Ob)
  (e : zcH X tt ctr n live k c fs st hs = some (s, st', obs.map Ob.p)) (h : ∀ st0, canon live st0 = st' → s.sem P n Q st0) : AWP P n c st (Qf P n fs Q) := by
 unfold zcH at e
 split at e
 ·rename_i s1 st1 ob1 e1
  simp [Option.some.injEq, Prod.mk.injEq] at e
  obtain ⟨rfl, h1, rfl⟩ := e
  exact Ko X hT hC hm k c fs st hs _ _ _ _ e1 (z2u obs) (h _ h1)
 ·cases e
def sub : List Nat → Code → Code
 | [], c => c
 | 0 :: p, .seq x _ => sub p x
 | 1 :: p, .seq _ y => sub p y
 | 2 :: p, .seq x _ => sub p x
 | 0 :: p, .cond _ x _ => sub p x
 | 1 :: p, .cond _ _ y => sub p y
 | _ :: p, .block _ c => sub p c
 | _ :: p, .loop c => sub p c
 | _ :: p, .scope c => sub p c
 | 0 :: p, .rangeFunc _ _ c _ => sub p c
 | 1 :: p, .rangeFunc _ _ _ c => sub p c
 | _ :: _, c => c
def frs : List Nat → List (St → Prop) → Code → List Fm → List Fm
 | [], _, _, fs => fs
 | 0 :: p, Js, .seq x y, fs => frs p Js x (.seq y :: fs)
 | 1 :: p, Js, .seq _ y, fs => frs p Js y fs
 | 2 :: p, J :: Js, .seq x _, fs => frs p Js x (.pre J :: fs)
 | 0 :: p, Js, .cond _ x _, fs => frs p Js x fs
 | 1 :: p, Js, .cond _ _ y, fs => frs p Js y fs
 | _ :: p, Js, .block id c, fs => frs p Js c (.blk id :: fs)
 | (m + 3) :: p, Js, .loop c, fs => frs p Js c (.rnd m c :: fs)
 | _ :: p, J :: Js, .loop c, fs => frs p Js c (.pre J :: fs)
 | _ :: p, Js, .scope c, fs => frs p Js c fs
 | 0 :: p, Js, .rangeFunc _ _ c _, _ => frs p Js c []
 | 1 :: p, Js, .rangeFunc _ _ _ c, _ => frs p Js c []
 | _ :: _, _, _, fs => fs
end
end Go.Own
