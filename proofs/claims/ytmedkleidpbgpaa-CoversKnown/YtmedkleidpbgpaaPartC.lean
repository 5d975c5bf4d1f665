/- -/
import Derived.Test.YtmedkleidpbgpaaPartB
import Derived.LoopNIn
import Derived.IntWalk
import Derived.Shelf.SlSortCmp.NoneTotal
noncomputable section
set_option linter.unusedVariables false
set_option linter.unusedSimpArgs false
namespace Go.Own
def zad (tt : TT) (n : Fr) (dst : Option Nat) (op : BinOp) (xt : Nat) (vx vy : A) : HM Unit :=
 match op with
 | .quo | .rem =>
  match vx, vy with
  | .atom (.int k a), .atom (.int k' b) => if k = k' then j9 (b ≠ 0) (zT (wrT n dst (.d (.atom (.int k (match op with | .quo => k.wrap (a.tdiv b) | _ => a.tmod b)))))) else zx
  | _, _ => zx
 | _ => zT (ofO (z8w tt op xt vx vy) >>= fun r => wrT n dst (.d r))
theorem z9u (tt : TT) (n : Fr) (dst : Option Nat) (op : BinOp) (xt : Nat) (vx vy : A) : Snd (ofO (z8w tt op xt vx vy) >>= fun r => wrT n dst (.d r)) (zad tt n dst op xt vx vy) := by
 have main : ∀ op, op = .quo ∨ op = .rem → Snd (ofO (z8w tt op xt vx vy) >>= fun r => wrT n dst (.d r)) (match vx, vy with
  | .atom (.int k a), .atom (.int k' b) => if k = k' then j9 (b ≠ 0) (zT (wrT n dst (.d (.atom (.int k (match op with | .quo => k.wrap (a.tdiv b) | _ => a.tmod b)))))) else zx
  | _, _ => zx) := by
  intro op hop
  cases vx with
  | atom v =>
   cases v with
   | int k a =>
    cases vy with
    | atom u =>
     cases u with
     | int k' b =>
      dsimp only
      by_cases hk : k = k'
      ·rw [if_pos hk]
       refine Xa fun hb => ?_
       refine YW ?_ (zi _)
       rcases hop with rfl | rfl <;> simp [z8w, if_pos hk, z5O, if_neg hb] <;> exact zM _ _
      ·rw [if_neg hk]; exact zl _
     | _ => exact zl _
    | _ => exact zl _
   | _ => exact zl _
  | _ => exact zl _
 cases op with
 | quo => exact main _ (.inl rfl)
 | rem => exact main _ (.inr rfl)
 | _ => exact zi _
def z9H (n : Fr) (dst : Option Nat) (c x y : Operand) : HM Unit := zT (opnd c) >>= fun tc => VT tc >>= fun vc =>
 match vc with
 | .atom (.bool b) => zaf b >>= fun b => match b with | true => zT (opnd x >>= fun t => wrT n dst t) | false => zT (opnd y >>= fun t => wrT n dst t)
 | _ => zx
theorem z9q (n : Fr) (dst : Option Nat) (c x y : Operand) : Snd (z3v n dst c x y) (z9H n dst c x y) := by
 refine za (zi _) fun tc => za (jS _) fun vc => ?_
 cases vc with
 | atom v =>
  cases v with
  | bool b =>
   refine YW (m' := pure b >>= fun b => match b with | true => (opnd x >>= fun t => wrT n dst t) | false => (opnd y >>= fun t => wrT n dst t)) ?_ (za (z38 _) fun b => ?_)
   ·rw [zM]; cases b <;> rfl
   ·cases b <;> exact zi _
  | _ => exact zl _
 | _ => exact zl _
def KJ (n : Fr) (dst : Option Nat) (x : Operand) : HM Unit := zT (opnd x) >>= fun y =>
 match y with
 | .d (.fn f cs) => zT (wrT n dst (.d (.fn f cs)))
 | y => Uj y >>= fun q =>
  match q with
  | .inl _ => zT (wrT n dst y)
  | .inr (r, p, er, ec) => QC r p er ec >>= fun _ => zT (wrT n dst y)
theorem z2l (n : Fr) (dst : Option Nat) (x : Operand) : Snd (nilCheckO n dst x) (KJ n dst x) := by
 refine za (zi _) fun y => ?_
 have main : ∀ y : T, Snd (ptrOf y >>= fun q => match q with
  | .inl _ => wrT n dst y
  | .inr (r, p, er, ec) => lookP r p er ec >>= fun _ => wrT n dst y) (Uj y >>= fun q =>
  match q with
  | .inl _ => zT (wrT n dst y)
  | .inr (r, p, er, ec) => QC r p er ec >>= fun _ => zT (wrT n dst y)) := by
  intro y
  refine za (VZ _) fun q => ?_
  rcases q with z | ⟨r, p, er, ec⟩
  ·exact zi _
  ·exact za (Jm _ _ _ _) fun _ => zi _
 cases y with
 | d a =>
  cases a with
  | fn f cs => exact zi _
  | _ => exact main _
 | _ => exact main _
def UM (dflt : Nat) : Option Operand → HM Nat
 | none => pure dflt
 | some x => zT (opnd x) >>= fun t => VT t >>= fun v =>
  match v with
  | .atom (.int _ j) => j9 (0 ≤ j) (pure j.toNat)
  | _ => zx
theorem Wf (dflt : Nat) (x : Option Operand) : Snd (bound dflt x) (UM dflt x) := by
 cases x with
 | none => exact xz _
 | some x =>
  refine za (zi _) fun t => za (jS _) fun v => ?_
  cases v with
  | atom v =>
   cases v with
   | int k j => exact vA (xz _)
   | _ => exact zl _
  | _ => exact zl _
def z6y (tt : TT) (n : Fr) (dst : Option Nat) (t : Nat) (x : Operand) (lo hi mx : Option Operand) : HM Unit := zT (opnd x) >>= fun y =>
 match y with
 | .d (.sl sz tg xs) =>
  if yU tt t = some sz then UM 0 lo >>= fun l => UM xs.length hi >>= fun h =>
   match mx with
   | none => j9 (l ≤ h ∧ h ≤ xs.length) (eqA (.sl sz (tg && h == xs.length) ((xs.drop l).take (h - l))) >>= fun z => zT (wrT n dst (.d z)))
   | some _ => UM 0 mx >>= fun m => if hi.isSome = true then j9 (l ≤ h ∧ h ≤ m ∧ m ≤ xs.length) (eqA (.sl sz (m == h) ((xs.drop l).take (h - l))) >>= fun z => zT (wrT n dst (.d z))) else zx
  else zx
 | _ => zx
theorem z7B (tt : TT) (n : Fr) (dst : Option Nat) (t : Nat) (x : Operand) (lo hi mx : Option Operand) : Snd (sliceO tt n dst t x lo hi mx) (z6y tt n dst t x lo hi mx) := by
 refine za (zi _) fun y => ?_
 cases y with
 | d a =>
  cases a with
  | sl sz tg xs =>
   refine wW (za (Wf _ _) fun l => za (Wf _ _) fun h => ?_) (zl _)
   cases mx with
   | none =>
    refine vA ?_
    exact YW (zM _ fun z => wrT n dst (.d z)).symm (za (Jn _) fun _ => zi _)
   | some m =>
    refine za (Wf _ _) fun m => V8 (fun h1 h2 => ⟨h2.1, h2.2.1, h2.2.2, h1⟩) ?_
    exact YW (zM _ fun z => wrT n dst (.d z)).symm (za (Jn _) fun _ => zi _)
  | _ => exact zl _
 | _ => exact zl _
def Wo (tt : TT) (n : Fr) (dst : Option Nat) (t : Nat) (l c : Operand) : HM Unit := zT (opnd l) >>= fun tl => VT tl >>= fun vl => zT (opnd c) >>= fun tc => VT tc >>= fun vc =>
 match vl, vc with
 | .atom (.int _ x), .atom (.int _ y) =>
  match tt t with
  | some ⟨.slice e, _, _, _, _⟩ =>
   match tt e with
   | some i =>
    match i.zero with
    | some z => if i.bytes ≤ 4096 then j9 (0 ≤ x ∧ x ≤ y ∧ y ≤ lim) (eqA (.osl i.size (decide (x = y)) (List.replicate x.toNat z)) >>= fun r => zT (wrT n dst (.own r))) else zx
    | none => zx
   | none => zx
  | _ => zx
 | _, _ => zx
theorem U0 (tt : TT) (n : Fr) (dst : Option Nat) (t : Nat) (l c : Operand) : Snd (jw tt n dst t l c) (Wo tt n dst t l c) := by
 refine za (zi _) fun tl => za (jS _) fun vl => za (zi _) fun tc => za (jS _) fun vc => ?_
 cases vl with
 | atom v =>
  cases v with
  | int k x =>
   cases vc with
   | atom u =>
    cases u with
    | int k' y =>
     dsimp only
     generalize tt t = q
     rcases q with _ | ⟨k, a1, a2, a3, a4⟩
     ·exact zl _
     ·cases k with
      | slice e =>
       dsimp only
       generalize tt e = q
       cases q with
       | none => exact zl _
       | some i =>
        dsimp only
        cases i.zero with
        | none => exact zl _
        | some z =>
         refine V8 (fun h1 h2 => ⟨h2.1, h2.2.1, h2.2.2, h1⟩) ?_
         exact YW (zM _ fun z => wrT n dst (.own z)).symm (za (Jn _) fun _ => zi _)
      | _ => exact zl _
    | _ => exact zl _
   | _ => exact zl _
  | _ => exact zl _
 | _ => exact zl _
def Xm (tt : TT) (n : Fr) (dst : Option Nat) (t len : Nat) (ps : List (Nat × Operand)) : HM Unit :=
 match tt t with
 | some ⟨.slice e, _, _, _, _⟩ =>
  match tt e with
  | some i =>
   match i.zero with
   | some z => z18 (ps.map fun p => (p.2, e)) tt >>= fun xs =>
    if Up (List.replicate len z) ((ps.map (·.1)).zip xs) = true ∧ len * i.size ≤ 16777216 ∧ len ≤ lim then
     zT (wrT n dst (.own (.osl i.size true (We (List.replicate len z) ((ps.map (·.1)).zip xs)))))
    else zx
   | none => zx
  | none => zx
 | _ => zx
theorem Kr (tt : TT) (n : Fr) (dst : Option Nat) (t len : Nat) (ps : List (Nat × Operand)) : Snd (qo tt n dst t len ps) (Xm tt n dst t len ps) := by
 unfold qo Xm
 generalize tt t = q
 rcases q with _ | ⟨k, a1, a2, a3, a4⟩
 ·exact zl _
 ·cases k with
  | slice e =>
   dsimp only
   generalize tt e = q
   cases q with
   | none => exact zl _
   | some i =>
    dsimp only
    cases i.zero with
    | none => exact zl _
    | some z => exact za (z0y _ _) fun xs => wW (zi _) (zl _)
  | _ => exact zl _
def z4n (tt : TT) (n : Fr) (dst : Option Nat) (t : Nat) (ps : List (Nat × Operand)) : HM Unit :=
 match tt t with
 | some i =>
  match i.zero with
  | some (.agg zs) => z18 (ps.map fun p => (p.2, 0)) tt >>= fun xs =>
   if Up zs ((ps.map (·.1)).zip xs) = true ∧ z1y tt t zs ((ps.map (·.1)).zip xs) = true ∧ i.kind.isAgg = true ∧ ((jE tt t 0).isSome = true ∨ Ux i.kind = true) then
    zT (wrT n dst (mkT (.agg (We zs ((ps.map (·.1)).zip xs)))))
   else zx
  | _ => zx
 | none => zx
theorem z7L (tt : TT) (n : Fr) (dst : Option Nat) (t : Nat) (ps : List (Nat × Operand)) : Snd (QN tt n dst t ps) (z4n tt n dst t ps) := by
 unfold QN z4n
 generalize tt t = q
 cases q with
 | none => exact zl _
 | some i =>
  dsimp only
  cases i.zero with
  | none => exact zl _
  | some z =>
   cases z with
   | agg zs => exact za (z0y _ _) fun xs => wW (zi _) (zl _)
   | _ => exact zl _
def Ki (tt : TT) (ctr : Ctr) (n : Fr) (o : Oper) : HM Unit :=
 match o.op with
 | .assign x => zT (opnd x) >>= fun y =>
  match y with
  | .ptr r p er ec => zT (wrT n o.dst (.ptr r p er ec))
  | y => XA tt o.type y >>= fun z => zT (wrT n o.dst (mkT z))
 | .binOp op xt x y _ => zT (opnd x) >>= fun tx => VT tx >>= fun vx => zT (opnd y) >>= fun ty => VT ty >>= fun vy => zad tt n o.dst op xt vx vy
 | .unOp op _ x => zT (opnd x) >>= fun t => VT t >>= fun y => zT (ofO (unA op y) >>= fun r => wrT n o.dst (.d r))
 | .convert s t x => zT (opnd x) >>= fun y => VT y >>= fun v =>
  match v with
  | .atom (.int _ m) =>
   match tt s with
   | some _ =>
    match tt t with
    | some ⟨.int k, _, _, _, _⟩ => zT (wrT n o.dst (.d (.atom (.int k (k.wrap m)))))
    | _ => zx
   | none => zx
  | _ => zx
 | .pick c x y => z9H n o.dst c x y
 | .nilCheck x => KJ n o.dst x
 | .slice t x lo hi mx => z6y tt n o.dst t x lo hi mx
 | .load t x => zT (opnd x) >>= fun y => z6P tt n o.dst t y
 | .store t x v => if o.dst = none then zT (opnd x) >>= fun y => zT (opnd v) >>= fun z => z2W tt t y z else zx
 | .fieldAddr t x i => zT (opnd x) >>= fun y => UF tt n o.dst t i y
 | .indexAddr t x i => zT (opnd x) >>= fun y => zT (opnd i) >>= fun ti => VT ti >>= fun vi =>
  if (z6m tt t).isSome = true then QE tt n o.dst t y vi else UA tt n o.dst t y vi
 | .box t x => zT (opnd x) >>= fun y => XA tt t y >>= fun z =>
  match z with
  | .tup _ => zx
  | z => if z.isAgg = true ∨ z.size = 1 then zT (wrT n o.dst (.own (.box z))) else zx
 | .makeSlice t l c => Wo tt n o.dst t l c
 | .buildSlice t len ps => Xm tt n o.dst t len ps.toList
 | .build t ps => z4n tt n o.dst t ps.toList
 | .makeFunc (.func f) ⟨[]⟩ caps => vd tt (caps.toList.map fun x => (x, 0)) >>= fun xs => if xs.all Wm = true then zT (wrT n o.dst (.d (.fn f xs))) else zx
 | .call ⟨.builtin .len, ⟨[x]⟩, ⟨[t]⟩⟩ => zT (opnd x) >>= fun y => Jt y >>= fun z => zT (ofO (lenOf z)) >>= fun m => if ua tt t = true then eqA (.atom (.int .i64 m)) >>= fun r => zT (wrT n o.dst (.d r)) else zx
 | .call ⟨.builtin .cap, ⟨[x]⟩, ⟨[t]⟩⟩ => zT (opnd x) >>= fun y => Jt y >>= fun z => zT (ofO (z69 z)) >>= fun m => if ua tt t = true then eqA (.atom (.int .i64 m)) >>= fun r => zT (wrT n o.dst (.d r)) else zx
 | .call ⟨.builtin .append, ⟨[s, x]⟩, ⟨[t, t']⟩⟩ => if t = t' then zT (opnd s) >>= fun ts => zT (opnd x) >>= fun tx => Jt tx >>= fun y =>
   match y with
   | .osl _ _ ys => zaf (A.areD ys) >>= fun b => match b with | true => VG tt n o.dst t ts tx | false => Xp tt n o.dst t s x
   | _ => VG tt n o.dst t ts tx
  else zx
 | .call ⟨.value f, args, tys⟩ => if args.size = tys.size then zT (opnd f) >>= fun tf => VT tf >>= fun vf => z4m tt ctr n o.dst vf (args.toList.zip tys.toList) else zx
 | _ => zT (stepO tt ctr n o)
theorem z9t (tt : TT) (n : Fr) (dst : Option Nat) (s t : Nat) (v : A) : Snd (match v with
  | .atom (.int _ m) =>
   match tt s with
   | some _ =>
    match tt t with
    | some ⟨.int k, _, _, _, _⟩ => wrT n dst (.d (.atom (.int k (k.wrap m))))
    | _ => zm
   | none => zm
  | _ => zm : SM Unit) (match v with
  | .atom (.int _ m) =>
   match tt s with
   | some _ =>
    match tt t with
    | some ⟨.int k, _, _, _, _⟩ => zT (wrT n dst (.d (.atom (.int k (k.wrap m)))))
    | _ => zx
   | none => zx
  | _ => zx) := by
 cases v with
 | atom u =>
  cases u with
  | int k m =>
   dsimp only
   generalize tt s = q
   cases q with
   | none => exact zl _
   | some _ =>
    dsimp only
    generalize tt t = q
    rcases q with _ | ⟨k, a1, a2, a3, a4⟩
    ·exact zl _
    ·cases k <;> first | exact zi _ | exact zl _
  | _ => exact zl _
 | _ => exact zl _
theorem z0z (tt : TT) (ctr : Ctr) (n : Fr) (o : Oper) : Snd (stepO tt ctr n o) (Ki tt ctr n o) := by
 unfold stepO Ki
 cases ho : o.op with
 | move x => exact sdLift' ho
 | assign x =>
  refine za (zi _) fun y => ?_
  cases y with
  | ptr r p er ec => exact zi _
  | _ => exact za (X9 _ _ _) fun z => zi _
 | binOp op xt x y yt => exact za (zi _) fun tx => za (jS _) fun vx => za (zi _) fun ty => za (jS _) fun vy => z9u _ _ _ _ _ _ _
 | unOp op xt x => exact za (zi _) fun t => za (jS _) fun y => zi _
 | convert s t x => exact za (zi _) fun y => za (jS _) fun v => z9t _ _ _ _ _ _
 | pick c x y => exact z9q _ _ _ _ _
 | extract x i => exact sdLift' ho
 | nilCheck x => exact z2l _ _ _
 | slice t x lo hi mx => exact z7B _ _ _ _ _ _ _ _
 | load t x => exact za (zi _) fun y => z7I _ _ _ _ _
 | store t x v => exact wW (za (zi _) fun y => za (zi _) fun z => z5l _ _ _ _) (zl _)
 | fieldAddr t x i => exact za (zi _) fun y => Kq _ _ _ _ _ _
 | indexAddr t x i => exact za (zi _) fun y => za (zi _) fun ti => za (jS _) fun vi => wW (z0A _ _ _ _ _ _) (Kp _ _ _ _ _ _)
 | alloc t => exact sdLift' ho
 | box t x =>
  refine za (zi _) fun y => za (X9 _ _ _) fun z => ?_
  cases z <;> first | exact zl _ | exact wW (zi _) (zl _)
 | makeSlice t l c => exact U0 _ _ _ _ _ _
 | buildSlice t len ps => exact Kr _ _ _ _ _ _
 | build t ps => exact z7L _ _ _ _ _
 | makeFunc fn first caps =>
  cases fn with
  | func f =>
   have ⟨l⟩ := first
   cases l with
   | nil => exact za (vQ _ _) fun xs => wW (zi _) (zl _)
   | cons _ _ => exact sdLift' ho
  | _ => exact sdLift' ho
 | call c =>
  have ⟨callee, ⟨args⟩, ⟨tys⟩⟩ := c
  cases callee with
  | value f => exact wW (za (zi _) fun tf => za (jS _) fun vf => z7K _ _ _ _ _ _) (zl _)
  | invoke r m => exact sdLift' ho
  | builtin b =>
   cases b with
   | len =>
    rcases args with _ | ⟨x, _ | ⟨y, l⟩⟩ <;> rcases tys with _ | ⟨t, _ | ⟨t', l'⟩⟩ <;> first | exact sdLift' ho | exact za (zi _) fun y => za (WQ _) fun z => za (zi _) fun m => wW (YW (zM _ fun r => wrT n o.dst (.d r)).symm (za (Jn _) fun r => zi _)) (zl _)
   | cap =>
    rcases args with _ | ⟨x, _ | ⟨y, l⟩⟩ <;> rcases tys with _ | ⟨t, _ | ⟨t', l'⟩⟩ <;> first | exact sdLift' ho | exact za (zi _) fun y => za (WQ _) fun z => za (zi _) fun m => wW (YW (zM _ fun r => wrT n o.dst (.d r)).symm (za (Jn _) fun r => zi _)) (zl _)
   | append =>
    rcases args with _ | ⟨x, _ | ⟨y, _ | ⟨z, l⟩⟩⟩ <;> rcases tys with _ | ⟨t, _ | ⟨t', _ | ⟨t'', l'⟩⟩⟩ <;> first | exact sdLift' ho | skip
    refine wW (za (zi _) fun ts => za (zi _) fun tx => za (WQ _) fun w => ?_) (zl _)
    cases w with
    | osl sz tg ys =>
     dsimp only
     refine YW (m' := pure (A.areD ys) >>= fun b => match b with | true => appendA tt n o.dst t ts tx | false => appendOwnA tt n o.dst t x y) ?_ (za (z38 _) fun b => ?_)
     ·rw [zM]
      cases A.areD ys <;> rfl
     ·cases b
      ·exact Ks _ _ _ _ _ _
      ·exact Kt _ _ _ _ _ _
    | _ => exact Kt _ _ _ _ _ _
   | _ => exact sdLift' ho
 | _ => exact sdLift' ho
where sdLift' {op : Op} {tt : TT} {ctr : Ctr} {n : Fr} {o : Oper} {m : SM Unit} (ho : o.op = op) (e : stepO tt ctr n o = m := by first | rfl | (unfold stepO; simp [ho])) : Snd m (zT (stepO tt ctr n o)) := e ▸ zi _
def zb9 (mx : Bool) : A → A → Option A
 | .atom (.int k a), .atom (.int k' b) => if k = k' then some (.atom (.int k (if mx = true then (if a < b then b else a) else (if b < a then b else a)))) else none
 | _, _ => none
def minO (n : Fr) (dst : Option Nat) (mx : Bool) (x y : Operand) : SM Unit := do
 let tx ← opnd x
 let vx ← val tx
 let ty ← opnd y
 let vy ← val ty
 let r ← ofO (zb9 mx vx vy)
 wrT n dst (.d r)
def cutO (tt : TT) (n : Fr) (dst : Option Nat) (t : Nat) (x hi : Operand) : SM Unit := do
 let y ← opnd x
 let z ← take y
 match z with
 | .osl sz _ es =>
  if yU tt t = some sz then (bound es.length (some hi) >>= fun h => if h ≤ es.length then wrT n dst (.own (.osl sz false (es.take h))) else zm)
  else zm
 | _ => zm
variable {P : Program}{U : List (Nat × Ent)}{R : List Nat}{S : zf}{tt : TT}{u : Unit}{o : Oper}{h : Array Obj}{xs : List A}
section
variable {C : Ctx} {S : zf} {Fp : Nat → List Nat} {X : List Nat} {st : St} {a : Act} {w : World}
theorem z6M (h : Sim C S Fp [] st a w)  {mx : Bool} {x y : Operand} {t1 t2 : Nat} (ho : o.op = .call ⟨.builtin (if mx = true then .max else .min), ⟨[x, y]⟩, ⟨[t1, t2]⟩⟩)    (e : minO C.n o.dst mx x y st = some (u, R, U)) : vX P C o a w (ze U st) := by
 unfold minO at e
 have ⟨tx, _, hx, e1⟩ := bR (zu h) e
 have ⟨vx, _, qx, e2⟩ := bR (vY h hx) e1
 have ⟨ty, _, hy, e3⟩ := bR (zu h) e2
 have ⟨vy, _, qy, e4⟩ := bR (vY h hy) e3
 have ⟨r, _, hr, e5⟩ := bO e4
 unfold zb9 at hr
 split at hr
 ·split at hr
  ·rename_i hk
   simp [Option.some.injEq] at hr
   subst hr hk
   have ⟨ex, _⟩ := zo.1 qx
   have ⟨ey, _⟩ := zo.1 qy
   have ⟨Fp', hs⟩ := xP h e5 (x := .d _) (zo.2 ⟨rfl, rfl⟩)
   refine zk ?_ hs
   cases mx
   ·simp [execOp, ho, resolve, invoke, builtin, ex, ey, Builtin.min_, Builtin.min2]
   ·simp [execOp, ho, resolve, invoke, builtin, ex, ey, Builtin.max_, Builtin.max2]
  ·cases hr
 ·cases hr
theorem QK {cs : List Value} {F : List Nat} (q : zz S h xs cs F) (k : Nat) : ∃ F', zz S h (xs.take k) (cs.take (A.sizes (xs.take k))) F' ∧ (∀ b ∈ F', b ∈ F) ∧ (F.Nodup → F'.Nodup) := by
 induction xs generalizing cs F k with
 | nil =>
  simp only [zz] at q
  obtain ⟨rfl, rfl⟩ := q
  exact ⟨[], by simp [zz], by simp, by simp⟩
 | cons x xs ih =>
  cases k with
  | zero => exact ⟨[], by simp [zz, A.sizes], by simp, by simp⟩
  | succ k =>
   simp only [zz] at q
   obtain ⟨c1, c2, F1, F2, rfl, rfl, q1, q2⟩ := q
   have ⟨F', g1, g2, g3⟩ := ih q2 k
   refine ⟨F1 ++ F', ?_, ?_, ?_⟩
   ·simp only [List.take_succ_cons, zz, A.sizes]
    refine ⟨c1, c2.take (A.sizes (xs.take k)), F1, F', ?_, rfl, q1, g1⟩
    rw [List.take_append, q1.len, List.take_of_length_le (by rw [q1.len]; omega)]
    simp
   ·intro b hb
    rcases List.mem_append.1 hb with hb | hb
    ·simp [hb]
    ·simp [g2 b hb]
   ·intro hn
    rw [List.nodup_append] at hn ⊢
    refine ⟨hn.1, g3 hn.2.1, ?_⟩
    intro k hk k' hk'
    exact hn.2.2 k hk k' (g2 k' hk')
theorem za7 {P : Program}  (hT : xH P tt) (h : Sim C S Fp [] st a w)  {t : Nat} {x hi : Operand} (ho : o.op = .slice t x none (some hi) none)    (e : cutO tt C.n o.dst t x hi st = some (u, R, U)) : vX P C o a w (ze U st) := by
 unfold cutO at e
 have ⟨y, _, hx, e1⟩ := bR (zu h) e
 obtain ⟨z, R3, U3, R4, U4, h3, e2, rfl, rfl⟩ := bind_some e1
 have ⟨Fp', F, g1, g2⟩ := Wb h hx h3
 rw [zr]
 cases z with
 | osl sz tg es =>
  simp only at e2
  split at e2
  ·rename_i hel
   have ⟨hh, _, b2, e3⟩ := bR (YG g1) e2
   split at e3
   ·rename_i hle
    have ⟨el, he, hsz⟩ := xN hT hel w
    obtain ⟨cs, k1, k2, k3⟩ : ∃ cs, zw S w.heap (.osl sz tg es) cs F ∧ F.Nodup ∧ a.eval x = zI (.osl sz tg es) cs := by
     rcases g2 with ⟨q, _⟩ | q
     ·simp only [yX, wJ, Rep, false_and, exists_false] at q
     ·exact q
    simp only [zw] at k1
    obtain ⟨p, c, rfl, t1, t2, t3, t4, t5⟩ := k1
    have ev : a.eval x = .slice p es.length c := k3
    have hrun := qa (P := P) (w := w) he hsz (p := p) (len := es.length) (c := c) (lo := none) (mx := none) (.inl ⟨rfl, rfl⟩) (YH b2) (.inl ⟨rfl, rfl⟩) (Nat.zero_le _) (by omega) (Nat.le_refl c) (by simp)
    have hp : (if c = 0 then p else p.map (·.add (0 * sz))) = p := by
     split
     ·rfl
     ·cases p <;> simp [Addr.add]
    rw [hp] at hrun
    have hlen : (es.take hh).length = hh := by simp; omega
    have ht4 : ∀ x ∈ es.take hh, x.size = sz := fun x hx => t4 x (List.mem_of_mem_take hx)
    obtain ⟨F2, cs2, m1, m2, m3, m4⟩ : ∃ F2 cs2, zw S w.heap (.osl sz false (es.take hh)) cs2 F2 ∧ F2.Nodup ∧ (∀ k ∈ F2, k ∈ F) ∧ zI (.osl sz false (es.take hh)) cs2 = .slice p hh c := by
     rcases t5 with ⟨rfl, rfl, rfl, rfl⟩ | ⟨b, arr, ty, l, F', rfl, e1, e2, e3, e4, rfl, e5⟩
     ·have : hh = 0 := by simp at hle; omega
      subst this
      refine ⟨[], [.slice none 0 0], ?_, by simp, by simp, rfl⟩
      simp only [zw]
      exact ⟨none, 0, by simp, by simp, by simp, Nat.zero_le _, by simp, .inl (by simp)⟩
     ·have ⟨F3, q1, q2, q3⟩ := QK e4 hh
      have hn := List.nodup_cons.1 k2
      refine ⟨b :: F3, [.slice (some ⟨b, 0, none⟩) hh c], ?_, List.nodup_cons.2 ⟨fun q => hn.1 (q2 b q), q3 hn.2⟩, ?_, rfl⟩
      ·simp only [zw]
       refine ⟨some ⟨b, 0, none⟩, c, by rw [hlen], by simp, by rw [hlen]; omega, t3, ht4, .inr ⟨b, arr, ty, _, F3, rfl, e1, e2, ?_, q1, rfl, e5⟩⟩
       rw [← e3, List.take_take, A.sizes_const ht4, hlen]
       congr 1
       have := Nat.mul_le_mul_right sz hle
       omega
      ·intro k hk
       rcases List.mem_cons.1 hk with rfl | hk
       ·simp
       ·simp [q2 k hk]
    have g1' : Sim C S Fp' (F2 ++ []) (ze U3 st) a w := g1.mem g1.below (fun _ _ _ h => h) g1.still.cell g1.sbase (fun t' k hk => ⟨rfl, (g1.free t' k hk).2.1⟩) (by simpa using m2) (fun t' k hk => g1.xd t' k (by simp at hk ⊢; exact m3 k hk)) (fun k hk => g1.xb k (by simp at hk ⊢; exact m3 k hk))
    have ⟨Fp'', hs⟩ := k9 g1' e3 m1 m2
    rw [m4] at hs
    refine zk ?_ hs
    simp only [Nat.sub_zero] at hrun
    simp only [Option.map_some] at hrun
    simp [execOp, ho, ev, hrun]
   ·cases e3
  ·cases e2
 | _ => cases e2
end
variable {w : World}{y : A}
theorem z1p (hT : xH P tt) {t : Nat}  (hf : uN tt t y = true) {w : World} {c1 cs c2 : List Value} (hl : cs.length = y.size) :
  (part t (c1 ++ cs ++ c2).toArray c1.length).run P w = .ok (zI y cs) w := by
 unfold uN at hf
 split at hf
 ·rename_i i hi
  simp only [Bool.and_eq_true, beq_iff_eq, Bool.or_eq_true] at hf
  have ⟨⟨h1, h2⟩, h3⟩ := hf
  have hk := Yg (hT t i hi).kind w
  unfold part
  simp only [Sem.run_bind, hk, Result.andThen_ok, Sem.run_ite]
  by_cases ha : i.kind.isAgg = true
  ·rw [if_pos ha]
   rw [h1] at ha
   cases y <;> simp [A.isAgg] at ha
   simp only [vR hT hi, Result.andThen_ok, h2, ← hl, Sem.run_pure, zI]
   congr 2
   simp [List.extract_eq_take_drop]
  ·rw [if_neg ha]
   have h4 : i.size = 1 := by simpa [ha] using h3
   have hlen : cs.length = 1 := by omega
   obtain ⟨c, rfl⟩ := List.length_eq_one_iff.1 hlen
   rw [h1] at ha
   have : ((c1 ++ [c] ++ c2).toArray)[c1.length]? = some c := by simp
   rw [this]
   cases y <;> simp_all [A.isAgg, zI]
 ·cases hf
def zaE (tt : TT) (t : Nat) : Option (Nat × Nat) :=
 match tt t with
 | some ⟨.array n e, _, _, _, _⟩ => some (n, e)
 | _ => none
def indexO (tt : TT) (n : Fr) (dst : Option Nat) (t : Nat) (x i : Operand) : SM Unit := do
 let tx ← opnd x
 let vx ← val tx
 let ti ← opnd i
 let vi ← val ti
 match vx, vi with
 | .agg fs, .atom (.int _ j) =>
  match zaE tt t with
  | some (m, e) => match fs[j.toNat]? with
   | some y => if 0 ≤ j ∧ j < (m : Int) ∧ uN tt e y = true ∧ y.isD = true ∧ (fs.take j.toNat).all (fun z => z.size == y.size) = true then wrT n dst (.d y) else zm
   | none => zm
  | none => zm
 | _, _ => zm
variable {st : St}{Fp : Nat → List Nat}{a : Act}{C : Ctx}
theorem z5P {P : Program}  (hT : xH P tt)      {w : World} (h : Sim C S Fp [] st a w)  {t : Nat} {x i : Operand} (ho : o.op = .index t x i)    (e : indexO tt C.n o.dst t x i st = some (u, R, U)) : vX P C o a w (ze U st) := by
 unfold indexO at e
 have ⟨tx, _, hx, e1⟩ := bR (zu h) e
 have ⟨vx, _, qx, e2⟩ := bR (vY h hx) e1
 have ⟨ty, _, hy, e3⟩ := bR (zu h) e2
 have ⟨vy, _, qy, e4⟩ := bR (vY h hy) e3
 split at e4
 ·rename_i fs k j
  cases ha : zaE tt t with
  | none => simp only [ha] at e4; cases e4
  | some q =>
   have ⟨m, el⟩ := q
   simp only [ha] at e4
   cases hf : fs[j.toNat]? with
   | none => simp only [hf] at e4; cases e4
   | some y =>
    simp only [hf] at e4
    split at e4
    ·rename_i hc
     have ⟨c1, c2, c3, c4, c5⟩ := hc
     have hk : P.underlying t = some (.array m el) := by
      unfold zaE at ha
      split at ha
      ·rename_i ht; cases ha; exact (hT _ _ ht).kind
      ·cases ha
     obtain ⟨i', hi⟩ : ∃ i', tt el = some i' := by
      unfold uN at c3
      split at c3
      ·exact ⟨_, by assumption⟩
      ·cases c3
     have ⟨cs, r1, r2⟩ := (qx : wJ S (.agg fs) (a.eval x))
     simp only [Rep] at r1
     obtain ⟨d1, ci, d2, rfl, hl, hr⟩ := Zi r1 hf
     have ei := (zo.1 qy).1
     have hsz : i'.size = y.size := by
      unfold uN at c3
      rw [hi] at c3
      simp only [Bool.and_eq_true, beq_iff_eq] at c3
      exact c3.1.2
     have hoff : d1.length = j.toNat * i'.size := by
      rw [hl, A.sizes_const (sz := y.size) (fun z hz => by simpa using List.all_eq_true.1 c5 z hz), List.length_take, hsz]
      congr 1
      have := (List.getElem?_eq_some_iff.1 hf).1
      omega
     have ⟨Fp', hs⟩ := xP h e4 (x := .d y) (wJ.repV ⟨ci, hr, rfl⟩)
     refine zk ?_ hs
     have hp := z1p (P := P) hT c3 (w := w) (c1 := d1) (c2 := d2) hr.len
     rw [hoff] at hp
     have ex : a.eval x = .agg (d1 ++ ci ++ d2).toArray := r2
     simp only [execOp, ho, Instr.index, asIntOf, ei, ex, Sem.run_bind, Sem.run_pure, Result.andThen_ok, run_underlying hk, c1, c2, and_self, if_true, vR hT hi, hp]
    ·cases e4
 ·cases e4
def z8S (tt : TT) (n : Fr) (o : Oper) : Option (SM Unit) :=
 match o.op with
 | .call ⟨.builtin .min, ⟨[x, y]⟩, ⟨[_, _]⟩⟩ => some (minO n o.dst false x y)
 | .call ⟨.builtin .max, ⟨[x, y]⟩, ⟨[_, _]⟩⟩ => some (minO n o.dst true x y)
 | .index t x i => some (indexO tt n o.dst t x i)
 | _ => none
theorem Loc.indexO (tt : TT) (n : Fr) (dst : Option Nat) (t : Nat) (x i : Operand) : Loc (indexO tt n dst t x i) := by
 unfold Go.Own.indexO
 refine Loc.bind (Loc.opnd _) fun _ => Loc.bind (Loc.val _) fun _ => Loc.bind (Loc.opnd _) fun _ => Loc.bind (Loc.val _) fun _ => ?_
 split
 ·split
  ·split
   ·exact Loc.ite (Loc.wrT _ _ _) Loc.fail
   ·exact Loc.fail
  ·exact Loc.fail
 ·exact Loc.fail
theorem Loc.minO (n : Fr) (dst : Option Nat) (mx : Bool) (x y : Operand) : Loc (minO n dst mx x y) := by
 unfold Go.Own.minO
 exact Loc.bind (Loc.opnd _) fun _ => Loc.bind (Loc.val _) fun _ => Loc.bind (Loc.opnd _) fun _ => Loc.bind (Loc.val _) fun _ => Loc.bind (Loc.ofO _) fun _ => Loc.wrT _ _ _
theorem Loc.cutO (tt : TT) (n : Fr) (dst : Option Nat) (t : Nat) (x hi : Operand) : Loc (cutO tt n dst t x hi) := by
 unfold Go.Own.cutO
 refine Loc.bind (Loc.opnd _) fun _ => Loc.bind (Loc.take _) fun z => ?_
 cases z with
 | osl sz tg es => exact Loc.ite (Loc.bind (Loc.bound _ _) fun _ => Loc.ite (Loc.wrT _ _ _) Loc.fail) Loc.fail
 | _ => exact Loc.fail
theorem z8i (hT : xH P tt) : Vw P (z8S tt) := by
 refine ⟨?_, ?_⟩
 ·intro C S Fp st a w o m u R U e h h2
  unfold z8S at e
  split at e
  ·rename_i ho; cases e; exact z6M (mx := false) h ho h2
  ·rename_i ho; cases e; exact z6M (mx := true) h ho h2
  ·rename_i ho; cases e; exact z5P hT h ho h2
  ·cases e
 ·intro n o m e
  unfold z8S at e
  split at e
  ·cases e; exact fun st st' a R U => Loc.minO _ _ _ _ _ st st' a R U
  ·cases e; exact fun st st' a R U => Loc.minO _ _ _ _ _ st st' a R U
  ·cases e; exact fun st st' a R U => Loc.indexO _ _ _ _ _ _ st st' a R U
  ·cases e
def QI (tt : TT) (d : Nat) (n : Fr) (o : Oper) : Option (SM Unit) :=
 match o.op with
 | .slice t x none (some hi) none => if o.dst = some d then some (cutO tt n o.dst t x hi) else none
 | _ => none
theorem z40 (hT : xH P tt) (d : Nat) : Vw P (QI tt d) := by
 refine ⟨?_, ?_⟩
 ·intro C S Fp st a w o m u R U e h h2
  unfold QI at e
  split at e
  ·rename_i ho
   split at e
   ·cases e; exact za7 hT h ho h2
   ·cases e
  ·cases e
 ·intro n o m e
  unfold QI at e
  split at e
  ·split at e
   ·cases e; exact fun st st' a R U => Loc.cutO _ _ _ _ _ _ st st' a R U
   ·cases e
  ·cases e
structure XH (P : Program) where
 e : Fr → Oper → Option (SM Unit)
 h : Fr → Oper → Option (HM Unit)
 ok : Vw P e
 none : ∀ n o, e n o = none → h n o = none
 some : ∀ n o m, e n o = some m → ∃ q, h n o = some q ∧ Snd m q
def XH.or (x y : XH P) : XH P := {
 e := fun n o => match x.e n o with | .some m => .some m | .none => y.e n o
 h := fun n o => match x.h n o with | .some m => .some m | .none => y.h n o
 ok := by
  refine ⟨?_, ?_⟩
  ·intro C S Fp st a w o m u R U e
   cases hx : x.e C.n o with
   | some m' => simp only [hx] at e; cases e; exact x.ok.1 C S Fp st a w o _ u R U hx
   | none => simp only [hx] at e; exact y.ok.1 C S Fp st a w o _ u R U e
  ·intro n o m e
   cases hx : x.e n o with
   | some m' => simp only [hx] at e; cases e; exact x.ok.2 n o _ hx
   | none => simp only [hx] at e; exact y.ok.2 n o _ e
 none := by
  intro n o e
  cases hx : x.e n o with
  | some m' => simp only [hx] at e; cases e
  | none => simp only [hx] at e; simp only [x.none n o hx]; exact y.none n o e
 some := by
  intro n o m e
  cases hx : x.e n o with
  | some m' =>
   simp only [hx] at e; cases e
   have ⟨q, h1, h2⟩ := x.some n o _ hx
   exact ⟨q, by simp only [h1], h2⟩
  | none =>
   simp only [hx] at e
   have ⟨q, h1, h2⟩ := y.some n o _ e
   exact ⟨q, by simp only [x.none n o hx]; exact h1, h2⟩ }
def zb8 (n : Fr) (dst : Option Nat) (mx : Bool) (x y : Operand) : HM Unit := zT (opnd x) >>= fun tx => VT tx >>= fun vx => zT (opnd y) >>= fun ty => VT ty >>= fun vy => zT (ofO (zb9 mx vx vy) >>= fun r => wrT n dst (.d r))
theorem z9r (n : Fr) (dst : Option Nat) (mx : Bool) (x y : Operand) : Snd (minO n dst mx x y) (zb8 n dst mx x y) :=
 za (zi _) fun _ => za (jS _) fun _ => za (zi _) fun _ => za (jS _) fun _ => zi _
def zcc (tt : TT) (n : Fr) (dst : Option Nat) (t : Nat) (x hi : Operand) : HM Unit := zT (opnd x) >>= fun y => z0t y >>= fun z =>
 match z with
 | .osl sz _ es => if yU tt t = some sz then UM es.length (some hi) >>= fun h => j9 (h ≤ es.length) (eqL (es.take h) >>= fun xs => zT (wrT n dst (.own (.osl sz false xs)))) else zx
 | _ => zx
theorem zb1 (tt : TT) (n : Fr) (dst : Option Nat) (t : Nat) (x hi : Operand) : Snd (cutO tt n dst t x hi) (zcc tt n dst t x hi) := by
 refine za (zi _) fun y => za (Qr _) fun z => ?_
 cases z with
 | osl sz tg es =>
  refine wW (za (Wf _ _) fun h => vA ?_) (zl _)
  exact YW (zM _ fun xs => wrT n dst (.own (.osl sz false xs))).symm (za (z2m _) fun _ => zi _)
 | _ => exact zl _
def z6Q (tt : TT) (n : Fr) (dst : Option Nat) (t : Nat) (x i : Operand) : HM Unit := zT (opnd x) >>= fun tx => VT tx >>= fun vx => zT (opnd i) >>= fun ti => VT ti >>= fun vi =>
 zT (match vx, vi with
 | .agg fs, .atom (.int _ j) =>
  match zaE tt t with
  | some (m, e) => match fs[j.toNat]? with
   | some y => if 0 ≤ j ∧ j < (m : Int) ∧ uN tt e y = true ∧ y.isD = true ∧ (fs.take j.toNat).all (fun z => z.size == y.size) = true then wrT n dst (.d y) else zm
   | none => zm
  | none => zm
 | _, _ => zm)
theorem z7J (tt : TT) (n : Fr) (dst : Option Nat) (t : Nat) (x i : Operand) : Snd (indexO tt n dst t x i) (z6Q tt n dst t x i) :=
 za (zi _) fun _ => za (jS _) fun _ => za (zi _) fun _ => za (jS _) fun _ => zi _
def xB (hT : xH P tt) : XH P := {
 e := z8S tt
 h := fun n o => match o.op with
  | .call ⟨.builtin .min, ⟨[x, y]⟩, ⟨[_, _]⟩⟩ => some (zb8 n o.dst false x y)
  | .call ⟨.builtin .max, ⟨[x, y]⟩, ⟨[_, _]⟩⟩ => some (zb8 n o.dst true x y)
  | .index t x i => some (z6Q tt n o.dst t x i)
  | _ => none
 ok := z8i hT
 none := by
  intro n o e
  unfold z8S at e
  split at e
  ·cases e
  ·cases e
  ·cases e
  ·rfl
 some := by
  intro n o m e
  unfold z8S at e
  split at e
  ·rename_i ho; cases e; exact ⟨_, by simp only, z9r _ _ _ _ _⟩
  ·rename_i ho; cases e; exact ⟨_, by simp only, z9r _ _ _ _ _⟩
  ·rename_i ho; cases e; exact ⟨_, by simp only, z7J _ _ _ _ _ _⟩
  ·cases e }
def zck (hT : xH P tt) (d : Nat) : XH P := {
 e := QI tt d
 h := fun n o => match o.op with
  | .slice t x none (some hi) none => if o.dst = some d then some (zcc tt n o.dst t x hi) else none
  | _ => none
 ok := z40 hT d
 none := by
  intro n o e
  unfold QI at e
  split at e
  ·rename_i ho
   split at e
   ·cases e
   ·rename_i hd; simp [if_neg hd]
  ·rfl
 some := by
  intro n o m e
  unfold QI at e
  split at e
  ·rename_i ho
   split at e
   ·rename_i hd; cases e; exact ⟨_, by simp [if_pos hd], zb1 _ _ _ _ _ _⟩
   ·cases e
  ·cases e }
theorem z3Y {ks : List Nat} {m : SM Unit} (hm : ∀ S Fp st, Sim C S Fp [] st a w → ∀ u R U, m st = some (u, R, U) → vX P C o a w (ze U st)) (h : Sim C S Fp [] st a w) {u : Unit} {R : List Nat} {U : List (Nat × Ent)}
  (e : (shutArgs (fun _ => none) (ks.map fun k => (.tmp k, 0)) >>= fun _ => m) st = some (u, R, U)) : vX P C o a w (ze U st) := by
 obtain ⟨xs, R1, U1, R2, U2, h1, e1, rfl, rfl⟩ := bind_some e
 have ⟨S1, Fp1, g1, _⟩ := xW h h1
 rw [zr]
 exact hm _ _ _ g1 _ _ _ e1
def zc7 (d : Nat ⊕ Nat) (o : Oper) : Bool :=
 match d with
 | .inl d => o.dst == some d
 | .inr p => match o.op with | .store _ (.tmp q) _ => q == p | _ => false
def UG (tt : TT) (d : Nat ⊕ Nat) (ks : List Nat) (n : Fr) (o : Oper) : Option (SM Unit) :=
 if zc7 d o = true then some (shutArgs (fun _ => none) (ks.map fun k => (.tmp k, 0)) >>= fun _ => stepO tt UI n o) else none
def zaH (hT : xH P tt) (d : Nat ⊕ Nat) (ks : List Nat) : XH P := {
 e := UG tt d ks
 h := fun n o => if zc7 d o = true then some (vd (fun _ => none) (ks.map fun k => (.tmp k, 0)) >>= fun _ => Ki tt UI n o) else none
 ok := by
  refine ⟨?_, ?_⟩
  ·intro C S Fp st a w o m u R U e h h2
   unfold UG at e
   split at e
   ·cases e
    exact z3Y (fun S Fp st h u R U e => Jh hT (z0X P) h e) h h2
   ·cases e
  ·intro n o m e
   unfold UG at e
   split at e
   ·cases e
    exact fun st st' a R U => Loc.bind (Loc.shutArgs _ _) (fun _ => Loc.stepO _ _ _ _) st st' a R U
   ·cases e
 none := by
  intro n o e
  unfold UG at e
  split at e
  ·cases e
  ·rename_i hd; rw [if_neg hd]
 some := by
  intro n o m e
  unfold UG at e
  split at e
  ·rename_i hd; cases e
   exact ⟨_, by rw [if_pos hd], za (vQ _ _) fun _ => z0z _ _ _ _⟩
  ·cases e }
def z1d (X : XH P) (tt : TT) (ctr : Ctr) (n : Fr) (o : Oper) : HM Unit :=
 match X.h n o with
 | some q => q
 | none => Ki tt (ctr.withE X.e) n o
theorem z32 (X : XH P) (tt : TT) (ctr : Ctr) (n : Fr) (o : Oper) : Snd (stepX tt (ctr.withE X.e) n o) (z1d X tt ctr n o) := by
 unfold stepX z1d
 cases he : X.e n o with
 | none =>
  rw [X.none n o he]
  exact YW (by simp [he]) (z0z _ _ _ _)
 | some m =>
  have ⟨q, h1, h2⟩ := X.some n o m he
  rw [h1]
  exact YW (by simp [he]) h2
def z0w (X : XH P) (tt : TT) (ctr : Ctr) (n : Fr) (ops : Array Oper) (o : Oper) : HM Unit :=
 match o.guard with
 | none => z1d X tt ctr n o
 | some (j, want) =>
  match (ops[j]?).bind (·.dst) with
  | some g => zT (rdE g) >>= fun e =>
   match e.t with
   | .d (.atom (.bool b)) => zaf b >>= fun b => if b = want then z1d X tt ctr n o else zT (wrT n o.dst (.d (.tup [])))
   | .d (.tup []) => zT (wrT n o.dst (.d (.tup [])))
   | _ => zx
  | none => zx
def z6J : List H → List H
 | .op 0 :: hs => hs
 | .op (m + 1) :: hs => .op m :: hs
 | hs => hs
def z1f (X : XH P) (tt : TT) (ctr : Ctr) (n : Fr) (ops : Array Oper) (o : Oper) : HM Unit := fun st hs => z0w X tt ctr n ops o st (z6J hs)
theorem z5m (X : XH P) (tt : TT) (ctr : Ctr) (n : Fr) (ops : Array Oper) (o : Oper) : Snd (stepG tt (ctr.withE X.e) n ops o) (z0w X tt ctr n ops o) := by
 unfold stepG z0w
 cases o.guard with
 | none => exact z32 _ _ _ _ _
 | some q =>
  have ⟨j, want⟩ := q
  dsimp only
  cases (ops[j]?).bind (·.dst) with
  | none => exact zl _
  | some g =>
   refine za (zi _) fun e => ?_
   have ⟨t, a, b⟩ := e
   cases t with
   | d x =>
    cases x with
    | atom v =>
     cases v with
     | bool b =>
      refine YW (m' := pure b >>= fun b => if b = want then stepX tt (ctr.withE X.e) n o else wrT n o.dst (.d (.tup []))) (zM _ _).symm ?_
      exact za (z38 _) fun b => wW (z32 _ _ _ _ _) (zi _)
     | _ => exact zl _
    | tup l =>
     cases l with
     | nil => exact zi _
     | cons _ _ => exact zl _
    | _ => exact zl _
   | _ => exact zl _
theorem z33 (X : XH P) (tt : TT) (ctr : Ctr) (n : Fr) (ops : Array Oper) (o : Oper) : Snd (stepG tt (ctr.withE X.e) n ops o) (z1f X tt ctr n ops o) :=
 fun st hs a R U hs' ob e ho => z5m X tt ctr n ops o st (z6J hs) a R U hs' ob e ho
abbrev Lg := List (List Nat × List Nat)
def z31 (X : XH P) (tt : TT) (ctr : Ctr) (n : Fr) (ops : Array Oper) : List Oper → St → List H → Option (St × List H × List Prop × Lg)
 | [], st, hs => some (st, hs, [], [])
 | o :: os, st, hs =>
  match z1f X tt ctr n ops o st hs with
  | none => none
  | some (_, R, U, hs', ob) =>
   match z31 X tt ctr n ops os (ze U st) hs' with
   | none => none
   | some (st', hs'', ob', lg) => some (st', hs'', ob ++ ob', (R, U.map (·.1)) :: lg)
variable {ops : Array Oper}
section
variable {P : Program} {X : XH P} {tt : TT} {ctr : Ctr} {n : Fr}
theorem z1l {K : St → Prop} : ∀ (l : List Oper) (st : St) (hs : List H) {st' : St} {hs' : List H} {ob : List Prop} {lg : Lg}, z31 X tt ctr n ops l st hs = some (st', hs', ob, lg) → Q5 ob → K st' → z8M tt (ctr.withE X.e) n ops l st K
 | [], st, hs, st', hs', ob, lg, e, ho, hk => by
  simp only [z31, Option.some.injEq, Prod.mk.injEq] at e
  obtain ⟨rfl, _⟩ := e
  exact hk
 | o :: os, st, hs, st', hs', ob, lg, e, ho, hk => by
  simp only [z31] at e
  cases e1 : z1f X tt ctr n ops o st hs with
  | none => simp only [e1] at e; cases e
  | some q =>
   have ⟨u, R, U, hs1, ob1⟩ := q
   simp only [e1] at e
   cases e2 : z31 X tt ctr n ops os (ze U st) hs1 with
   | none => simp only [e2] at e; cases e
   | some q =>
    have ⟨st2, hs2, ob2, lg2⟩ := q
    simp only [e2, Option.some.injEq, Prod.mk.injEq] at e
    obtain ⟨rfl, rfl, rfl, rfl⟩ := e
    have ⟨o1, o2⟩ := yw ho
    simp only [z8M, z8N]
    rw [z33 X tt ctr n ops o _ _ _ _ _ _ _ e1 o1]
    exact z1l os _ _ e2 o2 hk
theorem Kn {K : St → Prop} : ∀ (l : List Oper) (st : St) (hs : List H) (logs : Lg) {st' : St} {hs' : List H} {ob : List Prop} {lg : Lg}, z31 X tt ctr n ops l st hs = some (st', hs', ob, lg) → Q5 ob → UH ops.toList (logs ++ lg) = true → K st' → z2z tt (ctr.withE X.e) n ops l st logs K
 | [], st, hs, logs, st', hs', ob, lg, e, ho, hd, hk => by
  simp only [z31, Option.some.injEq, Prod.mk.injEq] at e
  obtain ⟨rfl, _, _, rfl⟩ := e
  exact ⟨by simpa using hd, hk⟩
 | o :: os, st, hs, logs, st', hs', ob, lg, e, ho, hd, hk => by
  simp only [z31] at e
  cases e1 : z1f X tt ctr n ops o st hs with
  | none => simp only [e1] at e; cases e
  | some q =>
   have ⟨u, R, U, hs1, ob1⟩ := q
   simp only [e1] at e
   cases e2 : z31 X tt ctr n ops os (ze U st) hs1 with
   | none => simp only [e2] at e; cases e
   | some q =>
    have ⟨st2, hs2, ob2, lg2⟩ := q
    simp only [e2, Option.some.injEq, Prod.mk.injEq] at e
    obtain ⟨rfl, rfl, rfl, rfl⟩ := e
    have ⟨o1, o2⟩ := yw ho
    simp only [z2z, z8N]
    rw [z33 X tt ctr n ops o _ _ _ _ _ _ _ e1 o1]
    exact Kn os _ _ _ e2 o2 (by simpa using hd) hk
end
inductive Fm where
 | seq (y : Code)
 | blk (id : Nat)
 | pre (J : St → Prop)
 | rnd (m : Nat) (c : Code)
def z8W (P : Program) (n : Fr) (c : Code) : Nat → St → (Exit → St → Prop) → Prop
 | 0, _, _ => False
 | m + 1, st, Q => AWP P n c st (z0s (fun st' => z8W P n c m st' Q) Q)
variable {Q : Exit → St → Prop}{c : Code}{n : Fr}
theorem z8W.loop : ∀ (m : Nat) (st : St), z8W P n c m st Q → AWP P n (.loop c) st Q := by
 intro m st h rd mm df w0 S0 M S Fp a w hc hs
 refine wpIn_loop_rounds m ?_
 have gen : ∀ (m : Nat) (st : St) (df' : List Nat) (S : zf) (Fp : Nat → List Nat) (a : Act) (w : World), z8W P n c m st Q → Sim ⟨n, df', w0, S0, M⟩ S Fp [] st a w → jg df M df' Fp w → Code.roundsIn (fen rd) mm P c (z4P n df w0 S0 M Q) m a w := by
  intro m
  induction m with
  | zero => intro st df' S Fp a w h _ _; exact h.elim
  | succ m ih =>
   intro st df' S Fp a w h hs hd
   refine wpIn_mono (AWP.go h hc hs hd) ?_
   intro e a' w' hp
   cases e with
   | normal =>
    have ⟨df2, st2, S2, Fp2, h1, h2, h3⟩ := hp
    exact ih st2 df2 S2 Fp2 a' w' h3 h1 h2
   | _ => exact hp.next fun _ q => q
 exact gen m st df S Fp a w h hs (hc.post hs)
def Qf (P : Program) (n : Fr) : List Fm → (Exit → St → Prop) → Exit → St → Prop
 | [], Q => Q
 | .seq y :: fs, Q => z0s (fun st => AWP P n y st (Qf P n fs Q)) (Qf P n fs Q)
 | .blk id :: fs, Q => QO id (Qf P n fs Q)
 | .pre J :: fs, Q => z0s J (Qf P n fs Q)
 | .rnd m c :: fs, Q => z0s (fun st => z8W P n c m st (Qf P n fs Q)) (Qf P n fs Q)
inductive z2L where
 | fin (e : Exit)
 | back (J : St → Prop)
 | at (c : Code) (fs : List Fm)
def z2L.sem (P : Program) (n : Fr) (Q : Exit → St → Prop) : z2L → St → Prop
 | .fin e, st => Q e st
 | .back J, st => J st
 | .at c fs, st => AWP P n c st (Qf P n fs Q)
inductive Nxt where
 | go (y : Code) (fs : List Fm)
 | stop (s : z2L)
 | none
def unw : List Fm → Nxt
 | [] => .stop (.fin .normal)
 | .seq y :: fs => .go y fs
 | .blk _ :: fs => unw fs
 | .pre J :: _ => .stop (.back J)
 | .rnd (m + 1) c :: fs => .go c (.rnd m c :: fs)
 | .rnd 0 _ :: _ => .none
def z0k (id : Nat) : List Fm → Option (List Fm)
 | [] => none
 | .blk i :: fs => if id = i then some fs else z0k id fs
 | .seq _ :: fs => z0k id fs
 | .pre _ :: fs => z0k id fs
 | .rnd _ _ :: fs => z0k id fs
abbrev z4O := Option (z2L × St × List H × List Prop)
def z8T (ob : List Prop) : z4O → z4O
 | none => none
 | some (s, st, hs, ob') => some (s, st, hs, ob ++ ob')
def goN (rec : Code → List Fm → St → List H → z4O) (x : Nxt) (st : St) (hs : List H) : z4O :=
 match x with
 | .go y fs => rec y fs st hs
 | .stop s => some (s, st, hs, [])
 | .none => none
def z5k (k : Nat) : SM Unit := do
 let y ← opnd (.tmp k)
 let q ← ptrOf y
 match q with
 | .inr (r, p, er, ec) => do
  let _ ← lookP r p er ec
  let _ ← shutT (fun _ => none) 0 (.als r p er ec)
  pure ()
 | .inl _ => zm
def z5i (k : Nat) : SM Unit := do
 let e ← rdE k
 match e.t with
 | .own (.osl sz t es) => if A.lives es = true then wrE k ⟨.own (.osl sz t (A.shuts es)), e.er, e.ec + 1⟩ else zm
 | _ => zm
def z5N : T → Bool
 | .own (.osl _ _ _) => true
 | _ => false
def sealX (k : Nat) : SM Unit := do
 let e ← rdE k
 if z5N e.t = true then z5i k else z5k k
def z1m : List Nat → SM Unit
 | [] => pure ()
 | k :: ks => do
  sealX k
  z1m ks
def z6B (k : Nat) : HM Unit :=
 zT (opnd (.tmp k)) >>= fun y => zT (ptrOf y) >>= fun q =>
 match q with
 | .inr (r, p, er, ec) => zT (lookP r p er ec) >>= fun _ => Qn (fun _ => none) 0 (.als r p er ec) >>= fun _ => pure ()
 | .inl _ => zx
def z6A (k : Nat) : HM Unit :=
 zT (rdE k) >>= fun e =>
 match e.t with
 | .own (.osl sz t es) => z5Q >>= fun es' => j9 (A.lives es = true ∧ A.shuts es = es') (zT (wrE k ⟨.own (.osl sz t es'), e.er, e.ec + 1⟩))
 | _ => zx
def z6z (k : Nat) : HM Unit := zT (rdE k) >>= fun e => if z5N e.t = true then z6A k else z6B k
def Jl : List Nat → HM Unit
 | [] => pure ()
 | k :: ks => z6z k >>= fun _ => Jl ks
theorem z7G (k : Nat) : Snd (z5k k) (z6B k) :=
 za (zi _) fun y => za (zi _) fun q => by
  cases q with
  | inl _ => exact zl _
  | inr q =>
   have ⟨r, p, er, ec⟩ := q
   exact za (zi _) fun _ => za (Yf _ _ _) fun _ => xz _
theorem z7F (k : Nat) : Snd (z5i k) (z6A k) := by
 refine za (zi _) fun e => ?_
 have ⟨t, er, ec⟩ := e
 cases t with
 | own x =>
  cases x with
  | osl sz tg es =>
   intro st hs b R U hs' ob e ho
   obtain ⟨es', R1, U1, hs1, ob1, R2, U2, ob2, e1, e2, rfl, rfl, rfl⟩ := Yn e
   unfold z5Q at e1
   split at e1
   ·cases e1
    have ⟨⟨q1, q2⟩, ob', e3, o3⟩ := JB e2 (yw ho).2
    subst q2
    dsimp only
    rw [if_pos q1]
    exact zi _ _ _ _ _ _ _ _ e3 o3
   ·cases e1
  | _ => exact zl _
 | _ => exact zl _
theorem z7E (k : Nat) : Snd (sealX k) (z6z k) := za (zi _) fun e => wW (z7F k) (z7G k)
theorem z1n : ∀ ks, Snd (z1m ks) (Jl ks)
 | [] => xz _
 | k :: ks => za (z7E k) fun _ => z1n ks
variable {k : Nat}
theorem z5h (h : Sim C S Fp [] st a w)     (e : z5i k st = some (u, R, U)) : ∃ S' Fp', Sim C S' Fp' [] (ze U st) a w := by
 unfold z5i at e
 have ⟨_, e1⟩ := bD e
 have hno : ∀ x, (st k).t = x → z5N x = false → False := by
  intro x hx hn
  rw [hx] at e1
  cases x with
  | own y => cases y <;> first | exact uk e1 | (simp [z5N] at hn)
  | _ => exact uk e1
 have hyes : ∃ sz t es, (st k).t = .own (.osl sz t es) := by
  cases hx : (st k).t with
  | own y => cases y <;> first | exact ⟨_, _, _, rfl⟩ | exact (hno _ hx rfl).elim
  | _ => exact (hno _ hx rfl).elim
 have ⟨sz, t, es, ht⟩ := hyes
 rw [ht] at e1
 dsimp only at e1
 split at e1
 ·rename_i hl
  cases e1
  have hr := h.ent k
  unfold xh at hr
  simp only [ht] at hr
  have ⟨cs, q, q1, q2⟩ := hr
  simp only [zw] at q
  obtain ⟨p, c, rfl, d1, d2, d3, d4, d5⟩ := q
  simp only [ze]
  rcases d5 with ⟨rfl, rfl, rfl, hF0⟩ | ⟨b, arr, ty, l, F1, rfl, e1, e2, e3, e4, hF0, e5⟩
  ·exact ⟨S, WO Fp k [], h.change k (.own (.osl sz t (A.shuts []))) _ _ [] h.below (fun _ _ _ q => q) h.still.cell h.sbase (fun t' k' hk hk' => ⟨rfl, (h.free t' k' hk').2.1⟩)
    ⟨⟨_, by simp only [zw]; exact ⟨none, 0, rfl, fun _ => rfl, Nat.le_refl _, Nat.zero_le _, by simp [A.shuts], .inl (by simp [A.shuts])⟩, by simp, by rw [q2]; rfl⟩, _, ht⟩ (.inl ⟨_, ht⟩) (Nat.le_refl _) (Nat.lt_succ_self _) (by simp) (by simp) h.xn (fun t k _ hk => h.xd t k hk) (by simp) h.xb⟩
  ·have hF7 : ∀ q ∈ F1, q ∈ Fp k := fun q hq => by rw [hF0]; exact List.mem_cons_of_mem _ hq
   have ⟨m1, m2, m3, m4⟩ := Yk h hF7
   have hrs := zz.shut (S' := zY S w.heap F1) m1 e4 hl (fun k hk o => by unfold zY; rw [if_pos hk])
   have hlen : (A.shuts es).length = es.length := by simp [A.shuts_eq]
   have hb : b ∉ F1 := by rw [hF0] at q1; exact (List.nodup_cons.1 q1).1
   have hbk : b ∈ Fp k := by rw [hF0]; exact List.mem_cons_self
   refine ⟨zY S w.heap F1, WO Fp k [b], h.change k (.own (.osl sz t (A.shuts es))) _ _ [b] h.below m1 m2 m3 ?_ ⟨⟨_, ?_, by simp, by rw [q2]; rfl⟩, _, ht⟩ (.inl ⟨_, ht⟩) (Nat.le_refl _) (Nat.lt_succ_self _) ?_ ?_ h.xn (fun t k _ hk => h.xd t k hk) (by simp) h.xb⟩
   ·intro t' k' hk hk'
    refine ⟨rfl, fun o => ?_⟩
    rw [m4 k' (fun hF => hk (h.disj t' k k' hk' (hF7 k' hF)))]
    exact (h.free t' k' hk').2.1 o
   ·simp only [zw]
    refine ⟨some ⟨b, 0, none⟩, c, by rw [hlen], fun ht => by rw [hlen]; exact d1 ht, by rw [hlen]; exact d2, d3, ?_, .inr ⟨b, arr, ty, _, [], rfl, e1, e2, by rw [hlen]; exact e3, y5.concs _ hrs, rfl, ?_⟩⟩
    ·intro x hx
     rw [A.shuts_eq] at hx
     obtain ⟨y, hy, rfl⟩ := List.mem_map.1 hx
     rw [A.size_shut]
     exact d4 y hy
    ·intro o
     rw [m4 b hb]
     exact e5 o
   ·intro t' k' hk hk' hk2
    simp only [List.mem_cons, List.not_mem_nil, or_false] at hk'
    subst hk'
    exact hk (h.disj t' k _ hk2 hbk)
   ·intro k' hk'
    simp only [List.mem_cons, List.not_mem_nil, or_false] at hk'
    subst hk'
    exact h.base k _ hbk
 ·cases e1
theorem z5j (h : Sim C S Fp [] st a w)     (e : z5k k st = some (u, R, U)) : ∃ S' Fp', Sim C S' Fp' [] (ze U st) a w := by
 unfold z5k at e
 obtain ⟨y, R1, U1, R2, U2, h1, e1, rfl, rfl⟩ := bind_some e
 obtain ⟨rfl, hx⟩ := zu h h1
 obtain ⟨q, R3, U3, R4, U4, h3, e2, rfl, rfl⟩ := bind_some e1
 obtain ⟨rfl, hq⟩ := Yy h hx h3
 simp only [ze, List.nil_append] at e2 ⊢
 split at e2
 ·rename_i r p er ec
  obtain ⟨z, R7, U7, R8, U8, h7, e4, rfl, rfl⟩ := bind_some e2
  obtain ⟨rfl, x0, k1, k2, k3, k4⟩ := YC h7
  simp only [ze, List.nil_append] at e4 ⊢
  obtain ⟨z2, R9, U9, R10, U10, h9, e5, rfl, rfl⟩ := bind_some e4
  obtain ⟨_, _, rfl⟩ := vM e5
  have ⟨b, o', arr, ty, csy, Fy, cs, ev, o1, f2, f3, f4, f5, f6, f7, f8, f9, f10, f11, _⟩ := Ui h hq k1 k2 k3 k4
  have hals : TOk S w.heap st (Act.tv a) (.als r p er ec) (zI z csy) := ⟨by omega, by omega, by
   simp only [k1]
   exact fun _ _ => .inr ⟨o1, z, b, o', csy, k4, f11, f4.len, Jk f2 f3, rfl⟩⟩
  have ⟨S', Fp', g1, _⟩ := XD h hals h9
  exact ⟨S', Fp', by simpa using g1⟩
 ·cases e2
theorem z5g (h : Sim C S Fp [] st a w)     (e : sealX k st = some (u, R, U)) : ∃ S' Fp', Sim C S' Fp' [] (ze U st) a w := by
 unfold sealX at e
 have ⟨_, e1⟩ := bD e
 split at e1
 ·exact z5h h e1
 ·exact z5j h e1
theorem Ko : ∀ {ks : List Nat} {S : zf} {Fp : Nat → List Nat} {st : St}, Sim C S Fp [] st a w → ∀ {u : Unit} {R : List Nat} {U : List (Nat × Ent)}, z1m ks st = some (u, R, U) → ∃ S' Fp', Sim C S' Fp' [] (ze U st) a w
 | [], S, Fp, st, h, u, R, U, e => by
  obtain ⟨_, rfl, rfl⟩ := vM e
  exact ⟨S, Fp, h⟩
 | k :: ks, S, Fp, st, h, u, R, U, e => by
  simp [z1m] at e
  obtain ⟨_, R1, U1, R2, U2, h1, e1, rfl, rfl⟩ := bind_some e
  have ⟨S1, Fp1, g1⟩ := z5g h h1
  rw [zr]
  exact Ko g1 e1
def zcn : List H → List H
 | .n (m + 1) ks :: hs => .n m ks :: hs
 | .v (m + 1) ks :: hs => .v m ks :: hs
 | .stp (m + 1) :: hs => .stp m :: hs
 | hs => hs
def Ji (rec : Code → List Fm → St → List H → z4O) (X : XH P) (tt : TT) (ctr : Ctr) (n : Fr) (c : Code) (fs : List Fm) (st : St) (hs : List H) : z4O :=
  match c with
  | .skip => goN rec (unw fs) st hs
  | .label _ => goN rec (unw fs) st hs
  | .ret => some (.fin .ret, st, hs, [])
   | .exit id => match z0k id fs with | some fs' => goN rec (unw fs') st hs | none => some (.fin (.exit id), st, hs, [])
  | .region _ ops d =>
   match z31 X tt ctr n ops ops.toList st hs with
   | some (st', hs', ob, lg) => if d = false ∨ UH ops.toList lg = true then z8T ob (goN rec (unw fs) st' hs') else none
   | none => none
  | .seq x y =>
   match hs with
   | .cut 0 :: hs' => some (.at (.seq x y) fs, st, hs', [])
   | .cut (m + 1) :: hs' => rec x (.seq y :: fs) st (.cut m :: hs')
   | hs => rec x (.seq y :: fs) st hs
  | .cond o x y =>
   match z10 st o with
   | some b =>
    match hs with
    | .b b' :: hs' => z8T [b = b'] (rec (match b' with | true => x | false => y) fs st hs')
    | _ => none
   | none => none
  | .block id c => rec c (.blk id :: fs) st hs
  | .loop c =>
   match hs with
   | .u m :: hs' => rec c (.rnd m c :: fs) st hs'
   | hs => some (.at (.loop c) fs, st, hs, [])
  | c => some (.at c fs, st, hs, [])
def z3f (X : XH P) (tt : TT) (ctr : Ctr) (n : Fr) : Nat → Code → List Fm → St → List H → z4O
 | 0, _, _, _, _ => none
 | k + 1, c, fs, st, hs =>
  match hs with
  | .n 0 ks :: hs =>
   match vd (fun _ => none) (ks.map fun i => (.tmp i, 0)) st hs with
   | some (_, _, U, hs', ob) => z8T ob (z3f X tt ctr n k c fs (ze U st) hs')
   | none => none
  | .v 0 ks :: hs =>
   match Jl ks st hs with
   | some (_, _, U, hs', ob) => z8T ob (z3f X tt ctr n k c fs (ze U st) hs')
   | none => none
  | .stp 0 :: hs => some (.at c fs, st, hs, [])
  | hs => Ji (z3f X tt ctr n k) X tt ctr n c fs st (zcn hs)
variable {fs : List Fm}{rec : Code → List Fm → St → List H → z4O}{hs : List H}
section
variable {P : Program} {tt : TT} {ctr : Ctr} {n : Fr} {Q : Exit → St → Prop}
theorem Kd {k : Nat}  (hrec : ∀ c fs st hs s st' hs' ob, rec c fs st hs = some (s, st', hs', ob) → Q5 ob → s.sem P n Q st' → AWP P n c st (Qf P n fs Q)) :
  ∀ (fs : List Fm) {st : St} {hs : List H} {s : z2L} {st' : St} {hs' : List H} {ob : List Prop}, goN rec (unw fs) st hs = some (s, st', hs', ob) → Q5 ob → s.sem P n Q st' → Qf P n fs Q .normal st
 | [], st, hs, s, st', hs', ob, e, ho, h => by
  simp only [unw, goN, Option.some.injEq, Prod.mk.injEq] at e
  obtain ⟨rfl, rfl, _⟩ := e
  exact h
 | .seq y :: fs, st, hs, s, st', hs', ob, e, ho, h => by
  simp only [unw, goN] at e
  exact hrec _ _ _ _ _ _ _ _ e ho h
 | .blk id :: fs, st, hs, s, st', hs', ob, e, ho, h => by
  simp only [unw] at e
  exact Kd (k := k) hrec fs e ho h
 | .pre J :: fs, st, hs, s, st', hs', ob, e, ho, h => by
  simp only [unw, goN, Option.some.injEq, Prod.mk.injEq] at e
  obtain ⟨rfl, rfl, _⟩ := e
  exact h
 | .rnd (m + 1) c :: fs, st, hs, s, st', hs', ob, e, ho, h => by
  simp only [unw, goN] at e
  exact hrec _ _ _ _ _ _ _ _ e ho h
 | .rnd 0 c :: fs, st, hs, s, st', hs', ob, e, ho, h => by
  simp only [unw, goN] at e
  cases e
theorem VU {id : Nat}  : ∀ (fs : List Fm) {fs' : List Fm}, z0k id fs = some fs' → Qf P n fs' Q .normal st → Qf P n fs Q (.exit id) st
 | [], fs', e, h => by cases e
 | .blk i :: fs, fs', e, h => by
  simp [z0k] at e
  simp [Qf, QO]
  split at e
  ·rename_i hi
   cases e
   rw [if_pos hi]
   exact h
  ·rename_i hi
   rw [if_neg hi]
   exact VU fs e h
 | .seq y :: fs, fs', e, h => VU fs (by simpa only [z0k] using e) h
 | .pre J :: fs, fs', e, h => VU fs (by simpa only [z0k] using e) h
 | .rnd _ _ :: fs, fs', e, h => VU fs (by simpa only [z0k] using e) h
theorem KA : ∀ (fs : List Fm), Q .ret st → Qf P n fs Q .ret st
 | [], h => h
 | .seq _ :: fs, h => KA fs h
 | .blk _ :: fs, h => KA fs h
 | .pre _ :: fs, h => KA fs h
 | .rnd _ _ :: fs, h => KA fs h
theorem Uh {id : Nat}  : ∀ (fs : List Fm), z0k id fs = none → Q (.exit id) st → Qf P n fs Q (.exit id) st
 | [], _, h => h
 | .blk i :: fs, e, h => by
  simp [z0k] at e
  simp [Qf, QO]
  split at e
  ·cases e
  ·rename_i hi
   rw [if_neg hi]
   exact Uh fs e h
 | .seq y :: fs, e, h => Uh fs (by simpa only [z0k] using e) h
 | .pre J :: fs, e, h => Uh fs (by simpa only [z0k] using e) h
 | .rnd _ _ :: fs, e, h => Uh fs (by simpa only [z0k] using e) h
theorem XV {ob : List Prop} {x : z4O} {s : z2L}   {ob' : List Prop} (e : z8T ob x = some (s, st, hs, ob')) : ∃ ob2, x = some (s, st, hs, ob2) ∧ ob' = ob ++ ob2 := by
 cases x with
 | none => cases e
 | some q =>
  have ⟨s1, st1, hs1, ob1⟩ := q
  simp [z8T, Option.some.injEq, Prod.mk.injEq] at e
  obtain ⟨rfl, rfl, rfl, rfl⟩ := e
  exact ⟨ob1, rfl, rfl⟩
theorem AWP.label {l : Nat}   (h : Q .normal st) : AWP P n (.label l) st Q := fun _ _ _ _ _ _ _ _ _ _ hc hs => wpIn_label (hc.fin hs h)
theorem z5b (X : XH P) (hT : xH P tt) (hC : zA P ctr) (hm : P.follows .mixedOrders = true)  (ih : ∀ c fs st hs s st' hs' ob, rec c fs st hs = some (s, st', hs', ob) → Q5 ob → s.sem P n Q st' → AWP P n c st (Qf P n fs Q)) (c : Code) (fs : List Fm) (st : St) (hs : List H) (s : z2L) (st' : St) (hs' : List H) (ob : List Prop)
  (e : Ji rec X tt ctr n c fs st hs = some (s, st', hs', ob)) (ho : Q5 ob) (h : s.sem P n Q st') : AWP P n c st (Qf P n fs Q) := by
 cases c with
 | skip => exact AWP.skip (Kd (k := 0) ih fs e ho h)
 | label l => exact AWP.label (Kd (k := 0) ih fs e ho h)
 | ret =>
  simp only [Ji, Option.some.injEq, Prod.mk.injEq] at e
  obtain ⟨rfl, rfl, _⟩ := e
  exact AWP.ret (KA fs h)
 | exit id =>
  simp only [Ji] at e
  cases hx : z0k id fs with
  | none =>
   simp only [hx, Option.some.injEq, Prod.mk.injEq] at e
   obtain ⟨rfl, rfl, _⟩ := e
   exact AWP.exit (Uh fs hx h)
  | some fs' =>
   simp only [hx] at e
   exact AWP.exit (VU fs hx (Kd (k := 0) ih fs' e ho h))
 | region id ops d =>
  simp only [Ji] at e
  cases hx : z31 X tt ctr n ops ops.toList st hs with
  | none => simp only [hx] at e; cases e
  | some q =>
   have ⟨st1, hs1, ob1, lg⟩ := q
   simp only [hx] at e
   by_cases hd : d = false ∨ UH ops.toList lg = true
   ·rw [if_pos hd] at e
    obtain ⟨ob2, e2, rfl⟩ := XV e
    have ⟨o1, o2⟩ := yw ho
    have hq := Kd (k := 0) ih fs e2 o2 h
    cases d with
    | false => exact AWP.region hT (hC.withE X.ok) (z1l _ _ _ hx o1 hq)
    | true => exact AWP.drawn hT (hC.withE X.ok) hm (Kn _ _ _ [] hx o1 (by simpa using hd) hq)
   ·rw [if_neg hd] at e; cases e
 | seq x y =>
  have gen : ∀ hs, rec x (.seq y :: fs) st hs = some (s, st', hs', ob) → AWP P n (.seq x y) st (Qf P n fs Q) := fun hs e => AWP.seq (ih _ _ _ _ _ _ _ _ e ho h)
  rcases hs with _ | ⟨q, hs⟩
  ·exact gen _ e
  ·cases q with
   | cut m =>
    cases m with
    | zero =>
     simp only [Ji, Option.some.injEq, Prod.mk.injEq] at e
     obtain ⟨rfl, rfl, _⟩ := e
     exact h
    | succ m => exact gen _ e
   | _ => exact gen _ e
 | cond o x y =>
  simp only [Ji] at e
  cases hb : z10 st o with
  | none => simp only [hb] at e; cases e
  | some b =>
   simp only [hb] at e
   rcases hs with _ | ⟨q, hs⟩
   ·cases e
   ·cases q with
    | b b' =>
     obtain ⟨ob2, e2, rfl⟩ := XV e
     have h1 : b = b' := ho.1
     subst h1
     cases b with
     | true => exact AWP.condT hb (ih _ _ _ _ _ _ _ _ e2 ho.2 h)
     | false => exact AWP.condF hb (ih _ _ _ _ _ _ _ _ e2 ho.2 h)
    | _ => cases e
 | block id c => exact AWP.block (ih _ _ _ _ _ _ _ _ e ho h)
 | loop c =>
  have gen : some (z2L.at (.loop c) fs, st, hs, ([] : List Prop)) = some (s, st', hs', ob) → AWP P n (.loop c) st (Qf P n fs Q) := by
   intro e
   cases e
   exact h
  rcases hs with _ | ⟨q, hs⟩
  ·exact gen e
  ·cases q with
   | u m => exact z8W.loop (m + 1) st (ih _ _ _ _ _ _ _ _ e ho h)
   | _ => exact gen e
 | _ =>
  simp only [Ji, Option.some.injEq, Prod.mk.injEq] at e
  obtain ⟨rfl, rfl, _⟩ := e
  exact h
theorem Uc (X : XH P) (hT : xH P tt) (hC : zA P ctr) (hm : P.follows .mixedOrders = true) : ∀ (k : Nat) (c : Code) (fs : List Fm) (st : St) (hs : List H) (s : z2L) (st' : St) (hs' : List H) (ob : List Prop),
  z3f X tt ctr n k c fs st hs = some (s, st', hs', ob) → Q5 ob → s.sem P n Q st' → AWP P n c st (Qf P n fs Q) := by
 intro k
 induction k with
 | zero => intro c fs st hs s st' hs' ob e; cases e
 | succ k ih =>
  intro c fs st hs s st' hs' ob e ho h
  have gen : ∀ hs, Ji (z3f X tt ctr n k) X tt ctr n c fs st hs = some (s, st', hs', ob) → AWP P n c st (Qf P n fs Q) := fun hs e => z5b X hT hC hm ih c fs st hs s st' hs' ob e ho h
  rcases hs with _ | ⟨q, hs⟩
  ·exact gen _ e
  ·cases q with
   | v m ks =>
    cases m with
    | zero =>
     simp only [z3f] at e
     cases hx : Jl ks st hs with
     | none => simp only [hx] at e; cases e
     | some q =>
      have ⟨xs, R, U, hs1, ob1⟩ := q
      simp only [hx] at e
      obtain ⟨ob2, e2, rfl⟩ := XV e
      have ⟨o1, o2⟩ := yw ho
      have h1 := z1n _ _ _ _ _ _ _ _ hx o1
      have h2 := ih c fs _ _ _ _ _ _ e2 o2 h
      intro rd m df w0 S0 M S Fp a w hc hs
      have ⟨S', Fp', g1⟩ := Ko hs h1
      exact h2 rd m df w0 S0 M S' Fp' a w hc g1
    | succ m => exact gen _ e
   | n m ks =>
    cases m with
    | zero =>
     simp only [z3f] at e
     cases hx : vd (fun _ => none) (ks.map fun i => (.tmp i, 0)) st hs with
     | none => simp only [hx] at e; cases e
     | some q =>
      have ⟨xs, R, U, hs1, ob1⟩ := q
      simp only [hx] at e
      obtain ⟨ob2, e2, rfl⟩ := XV e
      have ⟨o1, o2⟩ := yw ho
      have h1 := vQ (fun _ => none) _ _ _ _ _ _ _ _ hx o1
      have h2 := ih c fs _ _ _ _ _ _ e2 o2 h
      intro rd m df w0 S0 M S Fp a w hc hs
      have ⟨S', Fp', g1, _⟩ := xW hs h1
      exact h2 rd m df w0 S0 M S' Fp' a w hc g1
    | succ m => exact gen _ e
   | stp m =>
    cases m with
    | zero =>
     simp only [z3f, Option.some.injEq, Prod.mk.injEq] at e
     obtain ⟨rfl, rfl, _⟩ := e
     exact h
    | succ m => exact gen _ e
   | _ => exact gen _ e
structure Ob where
 p : Prop
 h : p
def ob {p : Prop} (h : p) : Ob := ⟨p, h⟩
theorem z1A : ∀ (l : List Ob), Q5 (l.map Ob.p)
 | [] => trivial
 | o :: l => ⟨o.h, z1A l⟩
def K3 (X : XH P) (tt : TT) (ctr : Ctr) (n : Fr) (live : List Nat) (k : Nat) (c : Code) (fs : List Fm) (st : St) (hs : List H) : Option (z2L × St × List Prop) :=
 match z3f X tt ctr n k c fs st hs with
 | some (s, st', [], ob) => some (s, canon live st', ob)
 | _ => none
theorem z13 (X : XH P) (hT : xH P tt) (hC : zA P ctr) (hm : P.follows .mixedOrders = true) (live : List Nat) (k : Nat) {c : Code} {fs : List Fm} {st : St} {hs : List H} {s : z2L} {st' : St} (obs : List Ob)
  (e : K3 X tt ctr n live k c fs st hs = some (s, st', obs.map Ob.p)) (h : ∀ st0, canon live st0 = st' → s.sem P n Q st0) : AWP P n c st (Qf P n fs Q) := by
 unfold K3 at e
 split at e
 ·rename_i s1 st1 ob1 e1
  simp [Option.some.injEq, Prod.mk.injEq] at e
  obtain ⟨rfl, h1, rfl⟩ := e
  exact Uc X hT hC hm k c fs st hs _ _ _ _ e1 (z1A obs) (h _ h1)
 ·cases e
def sub : List Nat → Code → Code
 | [], c => c
 | 0 :: p, .seq x _ => sub p x
 | 1 :: p, .seq _ y => sub p y
 | 2 :: p, .seq x _ => sub p x
 | 0 :: p, .cond _ x _ => sub p x
 | 1 :: p, .cond _ _ y => sub p y
 | _ :: p, .block _ c => sub p c
 | _ :: p, .loop c => sub p c
 | _ :: p, .scope c => sub p c
 | 0 :: p, .rangeFunc _ _ c _ => sub p c
 | 1 :: p, .rangeFunc _ _ _ c => sub p c
 | _ :: _, c => c
def frs : List Nat → List (St → Prop) → Code → List Fm → List Fm
 | [], _, _, fs => fs
 | 0 :: p, Js, .seq x y, fs => frs p Js x (.seq y :: fs)
 | 1 :: p, Js, .seq _ y, fs => frs p Js y fs
 | 2 :: p, J :: Js, .seq x _, fs => frs p Js x (.pre J :: fs)
 | 0 :: p, Js, .cond _ x _, fs => frs p Js x fs
 | 1 :: p, Js, .cond _ _ y, fs => frs p Js y fs
 | _ :: p, Js, .block id c, fs => frs p Js c (.blk id :: fs)
 | (m + 3) :: p, Js, .loop c, fs => frs p Js c (.rnd m c :: fs)
 | _ :: p, J :: Js, .loop c, fs => frs p Js c (.pre J :: fs)
 | _ :: p, Js, .scope c, fs => frs p Js c fs
 | 0 :: p, Js, .rangeFunc _ _ c _, _ => frs p Js c []
 | 1 :: p, Js, .rangeFunc _ _ _ c, _ => frs p Js c []
 | _ :: _, _, _, fs => fs
end
class LeA (x y : A) : Prop where
 rep : ∀ S cs, Rep S x cs → Rep S y cs
 conc : ∀ S h cs F, zw S h x cs F → zw S h y cs F
 val : ∀ cs, zI x cs = zI y cs
 tup : ∀ fs, x = .tup fs → y = x
class z0n (xs ys : List A) : Prop where
 rep : ∀ S cs, y5 S xs cs → y5 S ys cs
 conc : ∀ S h cs F, zz S h xs cs F → zz S h ys cs F
 len : xs.length = ys.length
 size : ∀ sz, (∀ x ∈ xs, x.size = sz) → ∀ y ∈ ys, y.size = sz
instance (priority := 2000) LeA.refl (x : A) : LeA x x := ⟨fun _ _ h => h, fun _ _ _ _ h => h, fun _ => rfl, fun _ _ => rfl⟩
instance (priority := 2000) z0n.refl (x : List A) : z0n x x := ⟨fun _ _ h => h, fun _ _ _ _ h => h, rfl, fun _ h => h⟩
theorem Wh {S : zf} {xs ys : List A} (hl : xs.length = ys.length) (h : xs = []) : ys = [] := by
 subst h; exact List.length_eq_zero_iff.1 hl.symm
instance LeA.osl (sz : Nat) (t : Bool) (xs ys : List A) [h : z0n xs ys] : LeA (.osl sz t xs) (.osl sz false ys) := {
 rep := fun S cs q => by simp only [Rep] at q
 conc := fun S hp cs F q => by
  simp only [zw] at q ⊢
  have ⟨p, c, e, h1, h2, h3, h4, h5⟩ := q
  refine ⟨p, c, by rw [← h.len]; exact e, by simp, by rw [← h.len]; exact h2, h3, h.size _ h4, ?_⟩
  rcases h5 with ⟨q1, q2, q3, q4⟩ | ⟨b, arr, ty, l, F', e1, e2, e3, e4, e5, e6, e7⟩
  ·exact .inl ⟨Wh (S := S) h.len q1, q2, q3, q4⟩
  ·exact .inr ⟨b, arr, ty, l, F', e1, e2, e3, by rw [← h.len]; exact e4, h.conc _ _ _ _ e5, e6, e7⟩
 val := fun _ => rfl
 tup := fun _ e => by cases e }
instance LeA.sl (sz : Nat) (t : Bool) (xs ys : List A) [h : z0n xs ys] : LeA (.sl sz t xs) (.sl sz false ys) := {
 rep := fun S cs q => by
  simp only [Rep] at q ⊢
  have ⟨p, c, e, h1, h2, h3, h4⟩ := q
  refine ⟨p, c, by rw [← h.len]; exact e, by simp, by rw [← h.len]; exact h2, h.size _ h3, ?_⟩
  rcases h4 with q | ⟨b, o, l, q1, q2, q3⟩
  ·exact .inl (Wh (S := S) h.len q)
  ·exact .inr ⟨b, o, l, q1, h.rep _ _ q2, q3⟩
 conc := fun S hp cs F q => by
  simp only [zw] at q ⊢
  refine ⟨?_, q.2⟩
  have q := q.1
  simp only [Rep] at q ⊢
  have ⟨p, c, e, h1, h2, h3, h4⟩ := q
  refine ⟨p, c, by rw [← h.len]; exact e, by simp, by rw [← h.len]; exact h2, h.size _ h3, ?_⟩
  rcases h4 with q | ⟨b, o, l, q1, q2, q3⟩
  ·exact .inl (Wh (S := S) h.len q)
  ·exact .inr ⟨b, o, l, q1, h.rep _ _ q2, q3⟩
 val := fun _ => rfl
 tup := fun _ e => by cases e }
instance LeA.agg (xs ys : List A) [h : z0n xs ys] : LeA (.agg xs) (.agg ys) := {
 rep := fun S cs q => by simp [Rep] at q ⊢; exact h.rep _ _ q
 conc := fun S hp cs F q => by simp [zw] at q ⊢; exact h.conc _ _ _ _ q
 val := fun _ => rfl
 tup := fun _ e => by cases e }
instance LeA.box (x y : A) [h : LeA x y] : LeA (.box x) (.box y) := {
 rep := fun S cs q => by simp [Rep] at q
 conc := fun S hp cs F q => by
  simp [zw] at q ⊢
  have ⟨b, ty, l, F', e1, e2, e3, e4, e5⟩ := q
  exact ⟨b, ty, l, F', e1, e2, h.conc _ _ _ _ e3, e4, e5⟩
 val := fun _ => rfl
 tup := fun _ e => by cases e }
class SzA (x y : A) : Prop where
 eq : x.size = y.size
instance (priority := 2000) SzA.refl (x : A) : SzA x x := ⟨rfl⟩
instance z0n.nil : z0n [] [] := z0n.refl []
instance z0n.cons (x y : A) (xs ys : List A) [h : LeA x y] [z : SzA x y] [k : z0n xs ys] : z0n (x :: xs) (y :: ys) := {
 rep := fun S cs q => by
  simp [y5] at q ⊢
  have ⟨c1, c2, e, q1, q2⟩ := q
  exact ⟨c1, c2, e, h.rep _ _ q1, k.rep _ _ q2⟩
 conc := fun S hp cs F q => by
  simp [zz] at q ⊢
  have ⟨c1, c2, F1, F2, e, e2, q1, q2⟩ := q
  exact ⟨c1, c2, F1, F2, e, e2, h.conc _ _ _ _ q1, k.conc _ _ _ _ q2⟩
 len := by simp [k.len]
 size := fun sz q => by
  intro y' hy
  rcases List.mem_cons.1 hy with rfl | hy
  ·rw [← z.eq]; exact q x (by simp)
  ·exact k.size sz (fun x hx => q x (by simp [hx])) y' hy }
variable {α : Type}
theorem z9U {f g : α → A} (h : ∀ x, LeA (f x) (g x)) (z : ∀ x, SzA (f x) (g x)) : ∀ l : List α, z0n (l.map f) (l.map g)
 | [] => z0n.nil
 | x :: l => @z0n.cons _ _ _ _ (h x) (z x) (z9U h z l)
instance z0n.map {α : Type} (f g : α → A) [h : ∀ x, LeA (f x) (g x)] [z : ∀ x, SzA (f x) (g x)] (l : List α) : z0n (l.map f) (l.map g) := z9U h z l
variable {v : Value}
theorem LeA.repV {x y : A} (h : LeA x y)   (q : yX S x v) : yX S y v := by
 by_cases ht : ∃ fs, x = .tup fs
 ·obtain ⟨fs, rfl⟩ := ht
  rw [h.tup fs rfl]; exact q
 ·have q1 : wJ S x v := by cases x <;> simp [yX] at q <;> first | exact q | exact absurd ⟨_, rfl⟩ ht
  have ⟨cs, c1, c2⟩ := q1
  exact wJ.repV ⟨cs, h.rep _ _ c1, by rw [← h.val]; exact c2⟩
class LeV (x y : A) : Prop where
 has : ∀ S h v F, Has S h x v F → Has S h y v F
instance (priority := 2000) LeV.refl (x : A) : LeV x x := ⟨fun _ _ _ _ h => h⟩
instance LeV.one (x y : A) [h : LeA x y] : LeV x y := ⟨fun S hp v F q => by
 rcases q with ⟨q, e⟩ | ⟨cs, q1, q2, q3⟩
 ·exact .inl ⟨h.repV q, e⟩
 ·exact .inr ⟨cs, h.conc _ _ _ _ q1, q2, by rw [← h.val]; exact q3⟩⟩
class Vv (xs ys : List A) : Prop where
 all : ∀ S vs, je (wJ S) xs vs → je (wJ S) ys vs
instance Vv.nil : Vv [] [] := ⟨fun _ _ h => h⟩
instance Vv.cons (x y : A) (xs ys : List A) [h : LeA x y] [k : Vv xs ys] : Vv (x :: xs) (y :: ys) := ⟨fun S vs q => by
 cases vs with
 | nil => exact q.elim
 | cons v vs =>
  refine ⟨?_, k.all S vs q.2⟩
  have ⟨cs, c1, c2⟩ := q.1
  exact ⟨cs, h.rep _ _ c1, by rw [← h.val]; exact c2⟩⟩
def LeT : T → T → Prop
 | .own x, y => ∃ z, y = .own z ∧ LeA x z
 | .d x, y => ∃ z, y = .d z ∧ LeA x z
 | .als r p er ec, y => p = [] ∧ y = .als r [] er ec
 | .gone, y => y = .gone
 | _, _ => False
class K1 (l m : List (Nat × T)) : Prop where
 ent : ∀ t, (ofL l t).er = (ofL m t).er ∧ (ofL l t).ec = (ofL m t).ec ∧ LeT (ofL l t).t (ofL m t).t
instance K1.nil : K1 [] [] := ⟨fun t => ⟨rfl, rfl, rfl⟩⟩
theorem K1.cons' {x y : T} {l m : List (Nat × T)} (h : LeT x y) (hl : K1 l m) : K1 ((k, x) :: l) ((k, y) :: m) := ⟨fun t => by
 simp [ofL]
 split
 ·exact ⟨rfl, rfl, h⟩
 ·exact hl.ent t⟩
instance K1.own (k : Nat) (x y : A) (l m : List (Nat × T)) [h : LeA x y] [hl : K1 l m] : K1 ((k, .own x) :: l) ((k, .own y) :: m) := K1.cons' ⟨y, rfl, h⟩ hl
instance K1.d (k : Nat) (x y : A) (l m : List (Nat × T)) [h : LeA x y] [hl : K1 l m] : K1 ((k, .d x) :: l) ((k, .d y) :: m) := K1.cons' ⟨y, rfl, h⟩ hl
instance K1.als (k r er ec : Nat) (l m : List (Nat × T)) [hl : K1 l m] : K1 ((k, .als r [] er ec) :: l) ((k, .als r [] er ec) :: m) := K1.cons' ⟨rfl, rfl⟩ hl
class LeL (l m : List (Nat × T)) : Prop where
 or : l = m ∨ K1 l m
instance (priority := 2000) LeL.refl (l : List (Nat × T)) : LeL l l := ⟨.inl rfl⟩
instance LeL.of0 (l m : List (Nat × T)) [h : K1 l m] : LeL l m := ⟨.inr h⟩
variable {X : List Nat}
theorem Sim.le {st st' : St}   (h : Sim C S Fp X st a w) (hl : ∀ t, (st t).er = (st' t).er ∧ (st t).ec = (st' t).ec ∧ LeT (st t).t (st' t).t) : Sim C S Fp X st' a w := {
 size := h.size
 pin := h.pin
 defers := h.defers
 below := h.below
 mine := h.mine
 still := h.still
 sinc := h.sinc
 sbase := h.sbase
 disj := h.disj
 base := h.base
 xn := h.xn
 xd := h.xd
 xb := h.xb
 ent := fun t => by
  have q := h.ent t
  have ⟨_, _, l3⟩ := hl t
  unfold xh at q ⊢
  cases ht : (st t).t with
  | gone =>
   simp only [ht, LeT] at l3 q
   simp only [l3]; exact q
  | d x =>
   simp only [ht, LeT] at l3 q
   have ⟨z, e, l3⟩ := l3
   simp only [e]; exact ⟨l3.repV q.1, q.2⟩
  | own x =>
   simp only [ht, LeT] at l3 q
   have ⟨z, e, l3⟩ := l3
   simp only [e]
   have ⟨cs, q1, q2, q3⟩ := q
   exact ⟨cs, l3.conc _ _ _ _ q1, q2, by rw [← l3.val]; exact q3⟩
  | als r p er ec =>
   simp only [ht, LeT] at l3 q
   obtain ⟨rfl, e⟩ := l3
   simp only [e]
   refine ⟨q.1, ?_⟩
   have ⟨q1, q2, q3⟩ := q.2
   have ⟨r1, r2, r3⟩ := hl r
   unfold kU
   refine ⟨by rw [← r1]; exact q1, by rw [← r2]; exact q2, ?_⟩
   cases hr : (st r).t with
   | own x =>
    simp only [hr, LeT] at q3 r3
    have ⟨z, e2, _⟩ := r3
    simp only [e2]
    intro g1 g2
    rcases q3 (by rw [r1]; exact g1) (.inl trivial) with g | g
    ·exact .inl g
    ·simp [YO] at g
   | d x =>
    simp only [hr, LeT] at q3 r3
    have ⟨z, e2, _⟩ := r3
    simp only [e2]
    intro g1 _
    exact q3 (by rw [r1]; exact g1) trivial
   | gone => simp only [hr, LeT] at r3; simp only [r3]
   | als u p e1 e2 => simp only [hr, LeT] at r3; simp only [r3.2]
   | ptr u p e1 e2 => simp only [hr, LeT] at r3
  | ptr r p er ec => simp only [ht, LeT] at l3 }
variable {fn : Func}{body : Code}{r : A}{st0 : St}{keep : Bool}
section
variable {P : Program} {tt : TT} {ctr : Ctr} {n : Fr} {Q : Exit → St → Prop}
theorem z8y {l m : List (Nat × T)} (h : LeL l m) (k : AWP P n c (ofL m) Q) : AWP P n c (ofL l) Q :=
 h.or.elim (fun e => e ▸ k) fun h => fun rd mm df w0 S0 M S Fp a w hc hs => k rd mm df w0 S0 M S Fp a w hc (hs.le h.ent)
theorem z6i {X : Type} {c c' : Code} {fs : List Fm}  (e : c = .loop c') (live : List Nat) (Inv : X → Prop) (mu : X → Nat) (stOf : X → List (Nat × T)) (x0 : X) (l0 : List (Nat × T)) (hs : canon live st0 = ofL l0) (hl : LeL l0 (stOf x0)) (h0 : Inv x0)
  (round : ∀ x, Inv x → ∀ J : St → Prop, (∀ st' l' x', Inv x' → mu x' < mu x → canon live st' = ofL l' → LeL l' (stOf x') → J st') → AWP P n c' (ofL (stOf x)) (Qf P n (.pre J :: fs) Q)) : AWP P n c st0 (Qf P n fs Q) := by
 subst e
 refine AWP.loop live (fun k st => ∃ x l, Inv x ∧ mu x = k ∧ st = ofL l ∧ LeL l (stOf x)) (mu x0) ⟨x0, l0, h0, rfl, hs, hl⟩ ?_
 rintro k st ⟨x, l, hx, rfl, rfl, hl⟩
 refine z8y hl ?_
 exact round x hx _ fun st' l' x' h1 h2 h3 h4 => ⟨_, h2, x', l', h1, rfl, h3, h4⟩
theorem z6j {X : Type} {c x y : Code}   (e : c = .seq x y) (live live0 : List Nat) (l0 : List (Nat × T)) (hs : canon live0 st0 = ofL l0) (Inv : X → Prop) (stJ : X → List (Nat × T)) (h1 : ∀ z, Inv z → AWP P n y (ofL (stJ z)) (Qf P n fs Q))
  (h2 : ∀ J : St → Prop, (∀ st' l' z, Inv z → canon live st' = ofL l' → LeL l' (stJ z) → J st') → AWP P n x (ofL l0) (Qf P n (.pre J :: fs) Q)) : AWP P n c st0 (Qf P n fs Q) := by
 subst e
 refine AWP.canon live0 ?_
 rw [hs]
 refine AWP.nextC live fun K hK => h2 K fun st' l' z hz he hl => hK st' ?_
 rw [he]
 exact z8y hl (h1 z hz)
def z3l (tt : TT) (keep : Bool) (rs : List (Nat × Option Nat)) : SM A :=
 match keep, rs with
 | true, [(t, none)] => z9z tt true [t]
 | _, rs => z9y tt rs
def z5s (tt : TT) (keep : Bool) (rs : List (Nat × Option Nat)) : HM A :=
 match keep, rs with
 | true, [(t, none)] => zT (z9z tt true [t])
 | _, rs => vd tt (rs.map fun r => (.tmp r.1, 0)) >>= fun xs =>
  match uS tt rs xs with
  | some [y] => pure y
  | some ys => pure (.tup ys)
  | none => zx
theorem z6D (tt : TT) (rs : List (Nat × Option Nat)) : Snd (z9y tt rs) (vd tt (rs.map fun r => (.tmp r.1, 0)) >>= fun xs =>
  match uS tt rs xs with
  | some [y] => pure y
  | some ys => pure (.tup ys)
  | none => zx) := by
 refine za (vQ _ _) fun xs => ?_
 cases uS tt rs xs with
 | none => exact zl _
 | some ys => rcases ys with _ | ⟨y, _ | ⟨z, l⟩⟩ <;> exact xz _
theorem z9n (tt : TT) (keep : Bool) (rs : List (Nat × Option Nat)) : Snd (z3l tt keep rs) (z5s tt keep rs) := by
 cases keep with
 | false => rcases rs with _ | ⟨⟨t, _ | ty⟩, _ | ⟨q, l⟩⟩ <;> exact z6D _ _
 | true => rcases rs with _ | ⟨⟨t, _ | ty⟩, _ | ⟨q, l⟩⟩ <;> first | exact zi _ | exact z6D _ _
theorem z6c {n : Fr}   {keep : Bool} {rs : List (Nat × Option Nat)} {ls : List A} {r : A} (hT : xH P tt) (hf : P.funcs[k]? = some fn) (hnm : (fn.name == "runtime.NumGoroutine") = false) (hb : fn.body = some body)
  (hn : n = ⟨fn.ntmps, []⟩) (hr : fn.results = (rs.map Ke).toArray) (ha : ls.length ≤ fn.ntmps)
  (h : ∀ E : St → Prop, (∀ st x R U, z3l tt keep rs st = some (x, R, U) → LeV x r → E st) → AWP P n body (ofL (z2J 0 ls)) (Qf P n [] (z4L E))) : ZU P k ls r := by
 have h' := h (fun st => ∃ x R U, z3l tt keep rs st = some (x, R, U) ∧ LeV x r) fun st x R U h1 h2 => ⟨x, R, U, h1, h2⟩
 refine ⟨⟨fn, hf, hnm, by rw [hb]; rfl⟩, ?_⟩
 intro S w vs F hS hq hF
 have h2 : AWP P n body (ini ls) (fun ex st => (ex = .normal ∨ ex = .ret) ∧ ∃ x R U, z3l tt keep rs st = some (x, R, U) ∧ LeV x r) := by
  rw [z1P]
  refine AWP.mono h' ?_
  intro e st q
  cases e with
  | normal => exact ⟨.inl rfl, q⟩
  | ret => exact ⟨.inr rfl, q⟩
  | _ => exact q.elim
 refine Ww (R := fun w e w' => ∃ v' S' F', e = .returned v' ∧ ZQ (fun k => w.heap.size ≤ k ∨ k ∈ F) w w' ∧ (∀ b o u, S b o = some u → S' b o = some u) ∧ (∀ b o, b < w.heap.size → b ∉ F → S' b o = S b o) ∧ w5 S' w' ∧ Has S' w'.heap r v' F' ∧ F'.Nodup ∧
   ∀ k ∈ F', w.heap.size ≤ k ∨ k ∈ F) hf hb (by rw [hn]) (by rw [hn]; simp) ha hS hq hF h2 ?_
 rintro ex st' ⟨hx, x, R, U, h3, h4⟩
 refine ⟨hx, ?_⟩
 intro df S' Fp' a' w' h1
 have gcase : z9y tt rs st' = some (x, R, U) → ∃ v, (results fn a'.tmps).run P w' = .ok v w' ∧ ∃ v' S' F', Ending.returned v = .returned v' ∧ ZQ (fun k => w.heap.size ≤ k ∨ k ∈ F) w w' ∧ (∀ b o u, S b o = some u → S' b o = some u) ∧ (∀ b o, b < w.heap.size → b ∉ F → S' b o = S b o) ∧ w5 S' w' ∧ Has S' w'.heap r v' F' ∧ F'.Nodup ∧
   ∀ k ∈ F', w.heap.size ≤ k ∨ k ∈ F := by
  intro he
  have ⟨v, S2, hres, g1, g2, g3, g4⟩ := z7V (P := P) hT hr h1 he
  refine ⟨_, hres, _, S2, [], rfl, h1.below, fun b o u hu => g1 _ _ _ (h1.sinc _ _ _ hu), ?_, g3, h4.has _ _ _ _ (.inl ⟨g4, rfl⟩), by simp, by simp⟩
  intro b o hb' hbF
  exact g2 b o (by rintro (hq | hq) <;> first | omega | exact hbF hq)
 cases keep with
 | false => exact gcase (by rcases rs with _ | ⟨⟨t, _ | ty⟩, _ | ⟨q, l⟩⟩ <;> exact h3)
 | true =>
  rcases rs with _ | ⟨⟨t, _ | ty⟩, _ | ⟨q, l⟩⟩
  ·exact gcase h3
  ·have h3' : z9z tt true [t] st' = some (x, R, U) := h3
   have ⟨hl, S2, F', g1, g2, g3, g4, g5, g6⟩ := z7W h1 h3'
   refine ⟨_, z0C (P := P) (ts := [t]) hr hl a' w', _, S2, F', rfl, h1.below, fun b o u hu => g1 _ _ _ (h1.sinc _ _ _ hu), ?_, g3, h4.has _ _ _ _ g4, g5, g6⟩
   intro b o hb' hbF
   exact g2 b o (by rintro (hq | hq) <;> first | omega | exact hbF hq)
  ·exact gcase h3
  ·exact gcase h3
  ·exact gcase h3
def z8P (X : XH P) (tt : TT) (ctr : Ctr) (n : Fr) (keep : Bool) (rs : List (Nat × Option Nat)) (k : Nat) (c : Code) (fs : List Fm) (st : St) (hs : List H) : Option (A × List Prop) :=
 match z3f X tt ctr n k c fs st hs with
 | some (.fin .normal, st', hs', ob) => match z5s tt keep rs st' hs' with | some (x, _, _, [], ob') => some (x, ob ++ ob') | _ => none
 | some (.fin .ret, st', hs', ob) => match z5s tt keep rs st' hs' with | some (x, _, _, [], ob') => some (x, ob ++ ob') | _ => none
 | _ => none
theorem z6X (X : XH P) (hT : xH P tt) (hC : zA P ctr) (hm : P.follows .mixedOrders = true) {E : St → Prop}   {rs : List (Nat × Option Nat)} (hE : ∀ st x R U, z3l tt keep rs st = some (x, R, U) → LeV x r → E st) (k : Nat) {c : Code} {fs : List Fm} {st : St} {hs : List H} {x : A} (obs : List Ob)
  (e : z8P X tt ctr n keep rs k c fs st hs = some (x, obs.map Ob.p)) (hle : LeV x r) : AWP P n c st (Qf P n fs (z4L E)) := by
 unfold z8P at e
 have fin : ∀ {st' hs' ob}, (match z5s tt keep rs st' hs' with | some (x, _, _, [], ob') => some (x, ob ++ ob') | _ => none) = some (x, obs.map Ob.p) → Q5 ob ∧ E st' := by
  intro st' hs' ob e
  split at e
  ·rename_i x1 R U ob' he
   simp [Option.some.injEq, Prod.mk.injEq] at e
   obtain ⟨rfl, e2⟩ := e
   have ha := z1A obs
   rw [← e2] at ha
   have ⟨o1, o2⟩ := yw ha
   exact ⟨o1, hE _ _ _ _ (z9n tt keep rs _ _ _ _ _ _ _ he o2) hle⟩
  ·cases e
 split at e
 ·rename_i st' hs' ob' he
  have ⟨h1, h2⟩ := fin e
  exact Uc X hT hC hm k c fs st hs _ _ _ _ he h1 h2
 ·rename_i st' hs' ob' he
  have ⟨h1, h2⟩ := fin e
  exact Uc X hT hC hm k c fs st hs _ _ _ _ he h1 h2
 ·cases e
end
abbrev w64 (x : Int) : Int := IntKind.i64.wrap x
def idx (l : List α) : Int → Option α
 | .ofNat n => l[n]?
 | .negSucc _ => none
inductive LR (σ τ : Type) where
 | next (s : σ)
 | done (t : τ)
variable {σ τ : Type}
def YP (step : σ → Option (LR σ τ)) (n : Nat) : σ → Option τ :=
 Nat.rec (fun _ => none) (fun _ ih s => match step s with | none => none | some (.next s') => ih s' | some (.done t) => some t) n
def JE : Nat := 18446744073709551616
def loop (step : σ → Option (LR σ τ)) (s : σ) : Option τ := YP step JE s
def zaG (step : σ → Option (LR σ τ)) (m : Nat) (t : τ) : LR σ τ → Prop
 | .next s' => YP step m s' = some t
 | .done t' => t' = t
theorem zba {step : σ → Option (LR σ τ)} {n : Nat} {s : σ} {t : τ} (h : YP step n s = some t) : ∃ m lr, n = m + 1 ∧ step s = some lr ∧ zaG step m t lr := by
 cases n with
 | zero => cases h
 | succ m =>
  have h' : (match step s with | none => none | some (.next s') => YP step m s' | some (.done t) => some t) = some t := h
  cases hs : step s with
  | none => simp [hs] at h'
  | some lr =>
   refine ⟨m, lr, rfl, rfl, ?_⟩
   cases lr with
   | next s' => simp [hs] at h'; exact h'
   | done t' => simp [hs, Option.some.injEq] at h'; exact h'
theorem zh {α β : Type} {x : Option α} {f : α → Option β} {r : β} (h : Option.bind x f = some r) : ∃ u, x = some u ∧ f u = some r := by
 cases x with
 | none => cases h
 | some u => exact ⟨u, rfl, h⟩
theorem y4 {c : Bool} {x y : Option α} {r : α} (h : (bif c then x else y) = some r) : (c = true ∧ x = some r) ∨ (c = false ∧ y = some r) := by
 cases c
 ·exact .inr ⟨rfl, h⟩
 ·exact .inl ⟨rfl, h⟩
def gd (p : Prop) [Decidable p] (x : Option α) : Option α := if p then x else none
theorem gdE {p : Prop} [Decidable p] {x : Option α} {r : α} (h : gd p x = some r) : p ∧ x = some r := by
 unfold gd at h
 by_cases hp : p
 ·rw [if_pos hp] at h; exact ⟨hp, h⟩
 ·rw [if_neg hp] at h; cases h
theorem zb {a b : α} (h : some a = some b) : a = b := by cases h; rfl
variable {gives : List Bool}{β : Type}{as_ : List A}
section
variable {α : Type}
def eI (k : IntKind) (x : Int) : A := .atom (.int k x)
def eB (b : Bool) : A := .atom (.bool b)
def eSl (sz : Nat) (t : Bool) (f : α → A) (l : List α) : A := .sl sz t (l.map f)
def eOs (sz : Nat) (t : Bool) (f : α → A) (l : List α) : A := .osl sz t (l.map f)
def eSp (f : α → A) (x : α) : A := .sptr (f x)
def ZA (k : Nat) (_ : Unit) : A := .fn k []
def Yp (k : Nat) (f : α → A) (x : α) : A := .fn k [f x]
def zcE (k : Nat) (f : α → A) (g : β → A) (x : α × β) : A := .fn k [f x.1, g x.2]
class z2G (f : α → A) : Prop where
 isD : ∀ x, (f x).isD = true
class zbs (f : α → A) : Prop where
 no : ∀ x, (f x).isD = false
class Q4 (f : α → A) (g : outParam (α → A)) : Prop where
 lo : ∀ x, (f x).loose = g x
class z6s (f : α → A) (g : outParam (α → A)) : Prop where
 live : ∀ x, (f x).live = true
 sh : ∀ x, (f x).shut = g x
class qw (f : α → A) : Prop where
 inj : ∀ x y, f x = f y → x = y
instance (k : IntKind) : z2G (eI k) := ⟨fun _ => rfl⟩
instance (sz : Nat) (t : Bool) (f : α → A) : z2G (eSl sz t f) := ⟨fun _ => rfl⟩
instance (k : Nat) : Q4 (ZA k) (ZA k) := ⟨fun _ => rfl⟩
instance (k : Nat) (f f' : α → A) [h : Q4 f f'] : Q4 (Yp k f) (Yp k f') := ⟨fun x => by simp [Yp, A.loose, A.looses, h.lo]⟩
instance (k : Nat) : qw (ZA k) := ⟨fun _ _ _ => rfl⟩
instance (k : Nat) (f : α → A) [h : qw f] : qw (Yp k f) := ⟨fun a b e => by simp [Yp, A.fn.injEq, List.cons.injEq, true_and, and_true] at e; exact h.inj _ _ e⟩
instance (sz : Nat) (t : Bool) (f : α → A) : zbs (eOs sz t f) := ⟨fun _ => rfl⟩
instance (k : IntKind) : Q4 (eI k) (eI k) := ⟨fun _ => rfl⟩
instance : Q4 eB eB := ⟨fun _ => rfl⟩
instance (sz : Nat) (t : Bool) (f g : α → A) [h : Q4 f g] : Q4 (eSl sz t f) (eSl sz false g) := ⟨fun l => by simp [eSl, A.loose, QB, h.lo]⟩
instance (sz : Nat) (t : Bool) (f g : α → A) [h : Q4 f g] : Q4 (eOs sz t f) (eOs sz false g) := ⟨fun l => by simp [eOs, A.loose, QB, h.lo]⟩
instance (f g : α → A) [h : Q4 f g] : Q4 (eSp f) (eSp g) := ⟨fun l => by simp [eSp, A.loose, h.lo]⟩
instance (k : IntKind) : z6s (eI k) (eI k) := ⟨fun _ => rfl, fun _ => rfl⟩
instance : z6s eB eB := ⟨fun _ => rfl, fun _ => rfl⟩
instance (sz : Nat) (t : Bool) (f : α → A) : z6s (eSl sz t f) (eSl sz t f) := ⟨fun _ => rfl, fun _ => rfl⟩
instance (sz : Nat) (t : Bool) (f g : α → A) [h : z6s f g] : z6s (eOs sz t f) (eSl sz t g) := ⟨fun l => by simp [eOs, A.live]; exact Uu f l h.live, fun l => by simp [eOs, eSl, A.shut, VX, h.sh]⟩
instance (k : IntKind) : qw (eI k) := ⟨fun a b h => by simpa [eI] using h⟩
instance : qw eB := ⟨fun a b h => by simpa [eB] using h⟩
theorem z3J {f : α → β} (hf : ∀ a b, f a = f b → a = b) : ∀ {l l' : List α}, l.map f = l'.map f → l = l'
 | [], [], _ => rfl
 | [], _ :: _, h => by simp at h
 | _ :: _, [], h => by simp at h
 | a :: l, b :: l', h => by
  simp [List.map_cons, List.cons.injEq] at h
  rw [hf _ _ h.1, z3J hf h.2]
instance (sz : Nat) (t : Bool) (f : α → A) [h : qw f] : qw (eSl sz t f) := ⟨fun a b e => by simp [eSl, A.sl.injEq, true_and] at e; exact z3J h.inj e⟩
instance (sz : Nat) (t : Bool) (f : α → A) [h : qw f] : qw (eOs sz t f) := ⟨fun a b e => by simp [eOs, A.osl.injEq, true_and] at e; exact z3J h.inj e⟩
instance (f : α → A) [h : qw f] : qw (eSp f) := ⟨fun a b e => by simp [eSp, A.sptr.injEq] at e; exact h.inj _ _ e⟩
instance (sz sz' : Nat) (t t' : Bool) (f g : α → A) (l l' : List α) : SzA (eSl sz t f l) (eSl sz' t' g l') := ⟨rfl⟩
instance (sz : Nat) (t : Bool) (f g : α → A) [h : ∀ x, LeA (f x) (g x)] [z : ∀ x, SzA (f x) (g x)] (l : List α) : LeA (eSl sz t f l) (eSl sz false g l) := LeA.sl sz t (l.map f) (l.map g)
instance (sz : Nat) (t : Bool) (f g : α → A) [h : ∀ x, LeA (f x) (g x)] [z : ∀ x, SzA (f x) (g x)] (l : List α) : LeA (eOs sz t f l) (eOs sz false g l) := LeA.osl sz t (l.map f) (l.map g)
theorem i0 {l : List α} {i : Int} {u : α} (h : idx l i = some u) : 0 ≤ i := by
 cases i with
 | ofNat n => exact Int.natCast_nonneg n
 | negSucc n => cases h
theorem iE {l : List α} {i : Int} {u : α} (h : idx l i = some u) : l[i.toNat]? = some u := by
 cases i with
 | ofNat n => exact h
 | negSucc n => cases h
theorem iM (f : α → A) {l : List α} {i : Int} {u : α} (h : idx l i = some u) : (l.map f)[i.toNat]? = some (f u) := by rw [List.getElem?_map, iE h]; rfl
theorem iL (f : α → A) {l : List α} {i : Int} {u : α} (h : idx l i = some u) : 0 ≤ i ∧ i.toNat < (l.map f).length := ⟨i0 h, by rw [List.length_map]; exact (List.getElem?_eq_some_iff.1 (iE h)).1⟩
theorem sM (f : α → A) (l : List α) (i : Int) (v : α) : (l.map f).set i.toNat (f v) = (l.set i.toNat v).map f := by rw [List.map_set]
theorem dM (f : α → A) [h : z2G f] (l : List α) : A.areD (l.map f) = true := JW f l h.isD
theorem d1 (f : α → A) [h : z2G f] (x : α) : A.areD [f x] = true := by simp [A.areD, h.isD]
theorem o1 (f : α → A) [h : zbs f] (x : α) : A.areD [f x] = false := by simp [A.areD, h.no]
theorem shM (f g : α → A) [h : z6s f g] (l : List α) : A.lives (l.map f) = true ∧ A.shuts (l.map f) = l.map g := ⟨Uu f l h.live, by rw [VX]; simp [h.sh]⟩
theorem aM (f : α → A) (l m : List α) : l.map f ++ m.map f = (l ++ m).map f := by rw [List.map_append]
theorem aL (f g : α → A) {l m : List α} (h : l.length + m.length ≤ 4294967296) : (l.map f).length + (m.map g).length ≤ lim := by simpa [lim] using h
theorem aN (f g : α → A) [z2G g] {l m : List α} (h : l.length + m.length ≤ 4294967296) (hm : m ≠ []) : (l.map g).length + (m.map f).length ≤ lim ∧ m.map f ≠ [] ∧ A.areD (l.map g) = true := ⟨by simpa [lim] using h, by simpa using hm, dM g l⟩
theorem rM (sz : Nat) (f : α → A) (n : Int) (z : α) : A.osl sz (decide (n = n)) (List.replicate n.toNat (f z)) = eOs sz true f (List.replicate n.toNat z) := by simp [eOs]
theorem rL {n : Int} (h : 0 ≤ n ∧ n ≤ 4294967296) : 0 ≤ n ∧ n ≤ n ∧ n ≤ ((lim : Nat) : Int) := ⟨h.1, Int.le_refl _, h.2⟩
theorem lnM (f : α → A) (l : List α) : A.atom (.int .i64 (((l.map f).length : Nat) : Int)) = .atom (.int .i64 ((l.length : Nat) : Int)) := by rw [List.length_map]
theorem oC (f : α → A) [h : zbs f] (x : α) (l : List α) : A.areD ((x :: l).map f) = false := by simp [A.areD, h.no]
theorem aM0 (f : α → A) (m : List α) : ([] : List A) ++ m.map f = m.map f := rfl
theorem slA {a : Int} {r : Prop} (h : 0 ≤ a ∧ r) : 0 ≤ a := h.1
theorem slB {a b : Int} {r : Prop} (h : 0 ≤ a ∧ a ≤ b ∧ r) : 0 ≤ b := Int.le_trans h.1 h.2.1
theorem slC {a b m : Int} {r : Prop} (h : 0 ≤ a ∧ a ≤ b ∧ r ∧ b ≤ m) : 0 ≤ m := by omega
theorem zaQ (f : α → A) {l : List α} {a : Int} (h : 0 ≤ a ∧ a ≤ ((l.length : Nat) : Int) ∧ ((l.length : Nat) : Int) ≤ ((l.length : Nat) : Int)) : a.toNat ≤ (l.map f).length ∧ (l.map f).length ≤ (l.map f).length := by simp; omega
theorem zaR (f : α → A) {l : List α} {b m : Int} (h : (0 : Int) ≤ 0 ∧ 0 ≤ b ∧ m ≤ ((l.length : Nat) : Int) ∧ b ≤ m) : 0 ≤ b.toNat ∧ b.toNat ≤ m.toNat ∧ m.toNat ≤ (l.map f).length := by simp; omega
theorem zco (sz : Nat) (f : α → A) (l : List α) (a b : Nat) : A.sl sz (b == b) (((l.map f).drop a).take (b - a)) = eSl sz true f ((l.drop a).take (b - a)) := by simp [eSl]
theorem slE (sz : Nat) (t : Bool) (f : α → A) (l : List α) (a : Nat) : A.sl sz (t && (l.map f).length == (l.map f).length) (((l.map f).drop a).take ((l.map f).length - a)) = eSl sz t f (l.drop a) := by
 simp [eSl]
 rw [List.take_of_length_le (by simp)]
def mx (a b : Int) : Int := if a < b then b else a
theorem cuB (f : α → A) {l : List α} {b : Int} (h : 0 ≤ b ∧ b ≤ ((l.length : Nat) : Int)) : b.toNat ≤ (l.map f).length := by simp; omega
theorem cuM (f : α → A) (l : List α) (b : Int) : (l.map f).take b.toNat = (l.take b.toNat).map f := by rw [List.map_take]
def spF (k : Nat) {α ρ : Type} (enc : α → List A) (encR : ρ → A) (F : α → Option ρ) (gives : List Bool) (inj : ∀ x y, enc x = enc y → x = y) : w6 := {
 α := α
 k := k
 raw := false
 gives := gives
 enc := enc
 pre := fun x => ∃ r, F x = some r
 f := fun x => match F x with | some r => encR r | none => .dead 0
 inj := by
  intro x y h _ _
  rw [inj x y h] }
theorem z02 {c : Ctr}  {α ρ : Type} {enc : α → List A} {encR : ρ → A} {F : α → Option ρ}  {inj : ∀ x y, enc x = enc y → x = y} (h : c.Has (spF k enc encR F gives inj)) {x : α} {r : ρ} (hr : F x = some r)  (ha : as_.map A.loose = enc x) :
  c.run k (c.norm k as_) = some (encR r) := by
 have h1 := h.run x ⟨r, hr⟩
 have h2 : c.raw k = false := h.raw
 unfold Ctr.norm
 rw [h2]
 simp [Bool.false_eq_true]
 rw [ha]
 refine Eq.trans h1 ?_
 simp [spF, hr]
theorem z01 {c : Ctr}  {α ρ : Type} {enc : α → List A} {encR : ρ → A} {F : α → Option ρ}  {inj : ∀ x y, enc x = enc y → x = y} (h : c.Has (spF k enc encR F gives inj)) : c.gives k = gives := h.gives
theorem zH {α ρ : Type} {enc : α → List A} {encR : ρ → A} {F : α → Option ρ}  {inj : ∀ x y, enc x = enc y → x = y} (h : ∀ x r, F x = some r → ZU P k (enc x) (encR r)) : (spF k enc encR F gives inj).Ok P := by
 rintro x ⟨r, hr⟩
 have := h x r hr
 simpa only [spF, hr] using this
theorem loN : ([] : List A).map A.loose = [] := rfl
theorem loC (f : α → A) {g : α → A} [h : Q4 f g] (x : α) {as_ bs : List A} (k : as_.map A.loose = bs) : (f x :: as_).map A.loose = g x :: bs := by simp [List.map_cons, h.lo, k]
end
section
variable {P : Program} {tt : TT} {ctr : Ctr} {n : Fr} {Q : Exit → St → Prop}
theorem z6l (X : XH P) (hT : xH P tt) (hC : zA P ctr) (hm : P.follows .mixedOrders = true) (live : List Nat) (k : Nat) {c : Code} {fs : List Fm} {st : St} (hs : List H) (c' : Code) (fs' : List Fm) (l' : List (Nat × T)) (obs : List Ob)
  (e : K3 X tt ctr n live k c fs st hs = some (.at c' fs', ofL l', obs.map Ob.p)) (h : ∀ st0, canon live st0 = ofL l' → AWP P n c' st0 (Qf P n fs' Q)) : AWP P n c st (Qf P n fs Q) := z13 X hT hC hm live k obs e h
theorem z8A (X : XH P) (hT : xH P tt) (hC : zA P ctr) (hm : P.follows .mixedOrders = true) (live : List Nat) (k : Nat) {c : Code} {fs : List Fm} {st : St} (hs : List H) (J : St → Prop) (l' : List (Nat × T)) (obs : List Ob)
  (e : K3 X tt ctr n live k c fs st hs = some (.back J, ofL l', obs.map Ob.p)) (h : ∀ st0, canon live st0 = ofL l' → J st0) : AWP P n c st (Qf P n fs Q) := z13 X hT hC hm live k obs e h
end
open Classical
def z1O : A → Option (List Value)
 | .atom (.int k x) => some [.int k x]
 | .atom (.string s) => some [.string s]
 | .agg fs => keyLs fs
 | _ => none
where keyLs : List A → Option (List Value)
 | [] => some []
 | a :: as_ => match z1O a, keyLs as_ with | some x, some y => some (x ++ y) | _, _ => none
def Uv (a : A) : Option Value := (z1O a).map (zI a)
mutual
theorem z1N : ∀ {a : A} {cs l : List Value}, Rep S a cs → z1O a = some l → cs = l
 | .atom v, cs, l, h, e => by
  cases v <;> simp only [z1O] at e <;> first | (cases e; done) | skip
  all_goals
   simp only [Rep] at h
   cases e
   exact h.1
 | .agg fs, cs, l, h, e => by
  simp only [Rep] at h
  simp only [z1O] at e
  exact KT h e
 | .fn _ _, _, _, _, e => by cases e
 | .tup _, _, _, _, e => by cases e
 | .sl _ _ _, _, _, _, e => by cases e
 | .sptr _, _, _, _, e => by cases e
 | .dop _, _, _, _, e => by cases e
 | .osl _ _ _, _, _, _, e => by cases e
 | .box _, _, _, _, e => by cases e
 | .dead _, _, _, _, e => by cases e
 | .opq _, _, _, _, e => by cases e
theorem KT : ∀ {as_ : List A} {cs l : List Value}, y5 S as_ cs → z1O.keyLs as_ = some l → cs = l
 | [], cs, l, h, e => by
  simp only [y5] at h
  simp only [z1O.keyLs] at e
  cases e
  exact h
 | a :: as_, cs, l, h, e => by
  simp only [y5] at h
  obtain ⟨c1, c2, rfl, h1, h2⟩ := h
  simp only [z1O.keyLs] at e
  cases e1 : z1O a with
  | none => simp only [e1] at e; cases e
  | some x =>
   cases e2 : z1O.keyLs as_ with
   | none => simp only [e1, e2] at e; cases e
   | some y =>
    simp only [e1, e2] at e
    cases e
    rw [z1N h1 e1, KT h2 e2]
end
theorem z1M {a : A} {v kv : Value} (h : wJ S a v) (e : Uv a = some kv) : v = kv := by
 obtain ⟨cs, h1, rfl⟩ := h
 unfold Uv at e
 obtain ⟨l, e1, rfl⟩ := Option.map_eq_some_iff.1 e
 rw [z1N h1 e1]
def V3 (S : zf) (es : List (A × A)) (ents : List MapEntry) : Prop := je (fun p (e : MapEntry) => Uv p.1 = some e.key ∧ wJ S p.2 e.val) es ents
def VB (es : List (A × A)) : Opq := {
 holds := fun S h u F => ∃ b ents cl, u = .map (some b) ∧ F = [b] ∧ h[b]? = some (.map ents cl) ∧ (∀ o, S b o = none) ∧ V3 S es ents.toList
 one := fun ⟨_, _, _, e, _⟩ => .inl (by rw [e]; rfl)
 frame := fun hS hF ⟨b, ents, cl, e1, e2, e3, e4, e5⟩ => by
  subst e2
  have ⟨g1, g2⟩ := hF b (by simp)
  exact ⟨b, ents, cl, e1, rfl, g1.trans e3, g2, je.mono (fun _ _ q => ⟨q.1, q.2.mono hS⟩) e5⟩
 own := fun ⟨b, ents, cl, e1, e2, e3, e4, e5⟩ k hk => by
  subst e2
  simp [List.mem_cons, List.not_mem_nil, or_false] at hk
  subst hk
  exact ⟨(Array.getElem?_eq_some_iff.1 e3).1, e4⟩
 idx := 0 }
def Yo (k : A) : List (A × A) → Nat → Option (Nat × A)
 | [], _ => none
 | p :: es, i => if Uv p.1 = Uv k then some (i, p.2) else Yo k es (i + 1)
def UE (k : Value) : List MapEntry → Nat → Option (Nat × Value)
 | [], _ => none
 | e :: es, i => if e.key = k then some (i, e.val) else UE k es (i + 1)
variable {kv : Value}
theorem JH {k : A}  (hk : Uv k = some kv) : ∀ {es : List (A × A)} {ents : List MapEntry} {i : Nat}, V3 S es ents →
  (Yo k es i = none ∧ UE kv ents i = none) ∨ ∃ j y v, Yo k es i = some (j, y) ∧ UE kv ents i = some (j, v) ∧ wJ S y v ∧ i ≤ j ∧ j < i + es.length ∧ (ents[j - i]?).map (·.key) = some kv
 | [], [], i, _ => .inl ⟨rfl, rfl⟩
 | p :: es, e :: ents, i, h => by
  simp only [Yo, UE]
  by_cases hp : Uv p.1 = Uv k
  ·have he : e.key = kv := by
    have := h.1.1.symm.trans (hp.trans hk)
    simpa using this
   rw [if_pos hp, if_pos he]
   exact .inr ⟨i, p.2, e.val, rfl, rfl, h.1.2, Nat.le_refl _, by simp, by simp [he]⟩
  ·have he : ¬ e.key = kv := fun q => hp (by rw [h.1.1, hk, q])
   rw [if_neg hp, if_neg he]
   rcases JH hk (i := i + 1) h.2 with q | ⟨j, y, v, q1, q2, q3, q4, q5, q6⟩
   ·exact .inl q
   ·refine .inr ⟨j, y, v, q1, q2, q3, by omega, by simp only [List.length_cons]; omega, ?_⟩
    rw [show j - i = (j - (i + 1)) + 1 by omega, List.getElem?_cons_succ]
    exact q6
 | [], _ :: _, _, h => h.elim
 | _ :: _, [], _, h => h.elim
structure z8G (P : Program) (t kt et : Nat) (ok : A → Bool) (z : A) : Prop where
 und : P.underlying t = some (.map kt et)
 zero : ∃ zv, (∀ w, (zeroValue et).run P w = .ok zv w) ∧ ∀ S, wJ S z zv
 check : ∀ a kv e w, ok a = true → Uv a = some kv → (Instr.checkKey e 10000 kt kv).run P w = .ok () w
 find : ∀ a kv, ok a = true → Uv a = some kv → ∀ (ents : List MapEntry) (es : List (A × A)), (∀ p ∈ es, ok p.1 = true) → je (fun p (e : MapEntry) => Uv p.1 = some e.key) es ents → ∀ w, (Instr.findKey kt kv ents).run P w = .ok (UE kv ents 0) w
 bits : ∀ a kv, ok a = true → Uv a = some kv → Instr.sameBits 10000 kv kv = true
 key : ∀ a, ok a = true → ∃ kv, Uv a = some kv
 zd : z.isD = true
variable {es : List (A × A)}
section
variable {P : Program} {C : Ctx} {S : zf} {Fp : Nat → List Nat} {X : List Nat} {st : St} {a : Act} {w : World} {t kt et : Nat} {ok : A → Bool} {z : A}
def z5H (n : Fr) (dst : Option Nat) (es : List (A × A)) (ok : A → Bool) (z : A) (x k : Operand) (two : Bool) : SM Unit := do
 let tx ← opnd x
 let y ← peek tx
 let tk ← opnd k
 let vk ← val tk
 if y = .opq (VB es) ∧ ok vk = true ∧ ∀ p ∈ es, ok p.1 = true then
  wrT n dst (.d (match Yo vk es 0 with
   | some (_, v) => if two = true then .tup [v, .atom (.bool true)] else v
   | none => if two = true then .tup [z, .atom (.bool false)] else z))
 else zm
theorem z1G {q : Opq}  (h : yX S (.opq q) v ∨ ∃ cs F, zw S w.heap (.opq q) cs F ∧ v = zI (.opq q) cs) : ∃ F, q.holds S w.heap v F := by
 rcases h with h | ⟨cs, F, h1, h2⟩
 ·simp [yX, wJ, Rep, false_and] at h
 ·simp [zw] at h1
  obtain ⟨u, rfl, h1⟩ := h1
  exact ⟨F, by rw [h2]; exact h1⟩
theorem z5F (mt : z8G P t kt et ok z)  {ents : Array MapEntry} {cl b : Nat} (hb : w.heap[b]? = some (.map ents cl)) (he : V3 S es ents.toList) (hok : ∀ p ∈ es, ok p.1 = true) {vk : A}  (hv : ok vk = true) (hk : Uv vk = some kv) (two : Bool) :
    ∃ v, (Instr.lookup t (.map (some b)) kv two).run P w = .ok v w ∧ yX S (match Yo vk es 0 with
      | some (_, v) => if two = true then .tup [v, .atom (.bool true)] else v
      | none => if two = true then .tup [z, .atom (.bool false)] else z) v := by
  have ⟨zv, z1, z2⟩ := mt.zero
  have hf := mt.find vk kv hv hk ents.toList es hok (je.mono (fun _ _ q => q.1) he) w
  have hc := mt.check vk kv ents.isEmpty w hv hk
  have run : (Instr.lookup t (.map (some b)) kv two).run P w = (do
        let (v, b) ← match UE kv ents.toList 0 with
          | some (_, v) => pure (v, true)
          | none => pure (← zeroValue et, false)
        pure (if two then .tuple #[v, .bool b] else v) : Sem Value).run P w := by
    unfold Instr.lookup
    rw [Sem.run_bind, run_underlying mt.und, Result.andThen_ok]
    have hg : (getObj b).run P w = .ok (.map ents cl) w := by simp [getObj, Sem.run, hb]
    simp only [Sem.run_bind, hg, Result.andThen_ok, Sem.run_pure, hc, hf]
    cases UE kv ents.toList 0 <;> rfl
  rcases JH hk (i := 0) he with ⟨q1, q2⟩ | ⟨j, y, v, q1, q2, q3, _⟩
  · rw [q1]
    refine ⟨if two = true then .tuple #[zv, .bool false] else zv, ?_, ?_⟩
    · rw [run, q2]; simp [z1]
    · cases two
      · exact (z2 S).repV
      · simp only [if_true, yX]
        exact ⟨[zv, .bool false], rfl, z2 S, vg.2 ⟨rfl, rfl⟩, trivial⟩
  · rw [q1]
    refine ⟨if two = true then .tuple #[v, .bool true] else v, ?_, ?_⟩
    · rw [run, q2]; simp
    · cases two
      · exact q3.repV
      · simp only [if_true, yX]
        exact ⟨[v, .bool true], rfl, q3, vg.2 ⟨rfl, rfl⟩, trivial⟩
theorem z5G (mt : z8G P t kt et ok z) (h : Sim C S Fp [] st a w)   {x k : Operand} {two : Bool} (ho : o.op = .lookup t x k two)    (e : z5H C.n o.dst es ok z x k two st = some (u, R, U)) : vX P C o a w (ze U st) := by
 unfold z5H at e
 have ⟨tx, _, hx, e1⟩ := bR (zu h) e
 have ⟨y, _, qx, e2⟩ := bR (Yi h hx) e1
 have ⟨tk, _, hk, e3⟩ := bR (zu h) e2
 have ⟨vk, _, qk, e4⟩ := bR (vY h hk) e3
 split at e4
 ·rename_i hc
  obtain ⟨rfl, c2, c3⟩ := hc
  have ⟨F, b, ents, cl, ev, _, g1, _, g3⟩ := z1G qx
  have ⟨kv, hkv⟩ := mt.key vk c2
  have hkd : a.eval k = kv := by
   refine z1M (S := S) ?_ hkv
   cases vk <;> first | exact qk | (simp only [Uv, z1O, Option.map_none] at hkv; cases hkv)
  have ⟨v, r1, r2⟩ := z5F mt g1 g3 c3 c2 hkv two
  have ⟨Fp', hs⟩ := xP h e4 (x := .d _) r2
  exact zk (by simp [execOp, ho, ev, hkd, r1]) hs
 ·cases e4
def z6G (es : List (A × A)) (k v : A) : List (A × A) :=
 match Yo k es 0 with
 | some (j, _) => es.set j (k, v)
 | none => es ++ [(k, v)]
def z8L (es : List (A × A)) (ok : A → Bool) (x k v : Operand) : SM Unit := do
 let tx ← opnd x
 match tx with
 | .als r [] er ec => do
  let e ← rdE r
  let tk ← opnd k
  let vk ← val tk
  let tv ← opnd v
  let vv ← val tv
  if e.t = .own (.opq (VB es)) ∧ e.er = er ∧ ok vk = true ∧ vv.isD = true ∧ ∀ p ∈ es, ok p.1 = true then
   wrE r ⟨.own (.opq (VB (z6G es vk vv))), e.er, e.ec + 1⟩
  else zm
 | _ => zm
theorem z1j : ∀ {es : List (A × A)} {ents : List MapEntry} {j : Nat} {p : A × A} {f : MapEntry → MapEntry}, V3 S es ents → (∀ e, ents[j]? = some e → Uv p.1 = some (f e).key ∧ wJ S p.2 (f e).val) → V3 S (es.set j p) (ents.modify j f)
 | [], [], j, p, f, _, _ => by simp [List.set_nil, List.modify_nil]; exact trivial
 | q :: es, e :: ents, 0, p, f, h, hf => by
  have := hf e (by simp)
  simp [List.set_cons_zero, List.modify_zero_cons]
  exact ⟨this, h.2⟩
 | q :: es, e :: ents, j + 1, p, f, h, hf => by
  simp [List.set_cons_succ, List.modify_succ_cons]
  exact ⟨h.1, z1j h.2 (fun e' he' => hf e' (by simpa using he'))⟩
 | [], _ :: _, _, _, _, h, _ => h.elim
 | _ :: _, [], _, _, _, h, _ => h.elim
theorem z2R (mt : z8G P t kt et ok z) (h : Sim C S Fp [] st a w)   {x k v : Operand} (ho : o.op = .mapUpdate t x k v ∨ o.op = .insert t x k v) (hd : o.dst = none)    (e : z8L es ok x k v st = some (u, R, U)) : vX P C o a w (ze U st) := by
 unfold z8L at e
 have ⟨tx, _, hx, e1⟩ := bR (zu h) e
 split at e1
 ·rename_i r er ec
  have ⟨_, e2⟩ := bD e1
  have ⟨tk, _, hk, e3⟩ := bR (zu h) e2
  have ⟨vk, _, qk, e4⟩ := bR (vY h hk) e3
  have ⟨tv, _, hv, e5⟩ := bR (zu h) e4
  have ⟨vv, _, qv, e6⟩ := bR (vY h hv) e5
  split at e6
  ·rename_i hc
   have ⟨c1, c2, c3, c4, c5⟩ := hc
   cases e6
   have hr := h.ent r
   unfold xh at hr
   simp only [c1] at hr
   have ⟨cs, k1, k2, k3⟩ := hr
   simp only [zw] at k1
   obtain ⟨v0, rfl, b, ents, cl, rfl, hF, g1, g2, g3⟩ := k1
   have hev : a.eval x = .map (some b) := by
    have := hx.2.2
    simp only [c1] at this
    rcases this c2 (.inl trivial) with ⟨_, q⟩ | ⟨q, _⟩
    ·rw [q, k3]; rfl
    ·simp [YO] at q
   have ⟨kv, hkv⟩ := mt.key vk c3
   have hkd : a.eval k = kv := by
    refine z1M (S := S) ?_ hkv
    cases vk <;> first | exact qk | (simp only [Uv, z1O, Option.map_none] at hkv; cases hkv)
   have hvd : wJ S vv (a.eval v) := qv.rep1 c4
   have hf := mt.find vk kv c3 hkv ents.toList es c5 (je.mono (fun _ _ q => q.1) g3) w
   have hck := mt.check vk kv false w c3 hkv
   have hget : (getObj b).run P w = .ok (.map ents cl) w := by simp [getObj, Sem.run, g1]
   have hset : ∀ o', (setObj b o').run P w = .ok () (w.putObj b o') := by intro o'; simp [setObj, Sem.run, g1, World.putObj]
   have hbM : C.M b := h.base r b (by rw [hF]; simp)
   have hoth : ∀ k o', k ≠ b → (w.putObj b o').heap[k]? = w.heap[k]? := fun k o' hk => World.putObj_heap_other hk
   have hlt : b < w.heap.size := (Array.getElem?_eq_some_iff.1 g1).1
   have fin : ∀ ents' cl' es', V3 S es' ents'.toList → ∃ Fp', Sim C S Fp' [] (upd st r ⟨.own (.opq (VB es')), (st r).er, (st r).ec + 1⟩) a (w.putObj b (.map ents' cl')) := by
    intro ents' cl' es' he'
    refine ⟨_, h.change r (.own (.opq (VB es'))) _ _ [b] ?_ (fun _ _ _ q => q) ?_ h.sbase ?_ ⟨⟨[.map (some b)], ?_, by simp, k3⟩, _, c1⟩ (.inl ⟨_, c1⟩) (Nat.le_refl _) (Nat.lt_succ_self _) ?_ ?_ (by simp) (by simp) (by simp) (by simp)⟩
    ·exact h.below.trans ⟨rfl, rfl, rfl, Nat.le_refl _, by simp [World.putObj], fun k hk => hoth k _ (by rintro rfl; exact hk hbM)⟩
    ·intro b' o' v' hs
     have := h.still b' o' v' hs
     unfold zU at this ⊢
     rw [hoth b' _ (by rintro rfl; rw [g2] at hs; cases hs)]
     exact this
    ·intro t' k' ht' hk'
     exact ⟨hoth k' _ (by rintro rfl; exact ht' (h.disj t' r _ hk' (by rw [hF]; simp))), (h.free t' k' hk').2.1⟩
    ·simp only [zw]
     exact ⟨_, rfl, b, ents', cl', rfl, rfl, World.putObj_heap_same hlt, g2, he'⟩
    ·intro t' k' ht' hk' hk2
     simp only [List.mem_cons, List.not_mem_nil, or_false] at hk'
     subst hk'
     exact ht' (h.disj t' r _ hk2 (by rw [hF]; simp))
    ·intro k' hk'
     simp only [List.mem_cons, List.not_mem_nil, or_false] at hk'
     subst hk'
     exact hbM
   have run : (Instr.mapUpdate t (.map (some b)) kv (a.eval v)).run P w = (do
     match UE kv ents.toList 0 with
     | some (i, _) => do
      let key ← Instr.keyThatStays (((ents[i]?).map (·.key)).getD kv) kv
      setObj b (.map (ents.modify i fun e => { e with key, val := a.eval v }) cl)
     | none => setObj b (.map (ents.push { key := kv, val := a.eval v, born := cl }) (cl + 1)) : Sem Unit).run P w := by
    unfold Instr.mapUpdate
    rw [Sem.run_bind, run_underlying mt.und, Result.andThen_ok]
    simp only [Sem.run_bind, hget, Result.andThen_ok, hck, hf]
    cases UE kv ents.toList 0 <;> rfl
   simp only [ze]
   have good : ∀ w', (Instr.mapUpdate t (.map (some b)) kv (a.eval v)).run P w = .ok () w' → ∀ es' Fp', Sim C S Fp' [] (upd st r ⟨.own (.opq (VB es')), (st r).er, (st r).ec + 1⟩) a w' → vX P C o a w (upd st r ⟨.own (.opq (VB es')), (st r).er, (st r).ec + 1⟩) := by
    intro w' hw es' Fp' hs
    refine z04 (w' := w') ?_ hd hs
    rcases ho with ho | ho <;> simp [execOp, ho, hev, hkd, hw]
   rcases JH hkv (i := 0) g3 with ⟨q1, q2⟩ | ⟨j, y, v', q1, q2, q3, q4, q5, q6⟩
   ·have he' : V3 S (z6G es vk vv) (ents.push { key := kv, val := a.eval v, born := cl }).toList := by
     simp only [z6G, q1, Array.toList_push]
     exact VH g3 ⟨⟨hkv, hvd⟩, trivial⟩
    have ⟨Fp', hs⟩ := fin _ (cl + 1) _ he'
    exact good _ (by rw [run, q2]; exact hset _) _ _ hs
   ·have hkey : (ents[j]?).map (·.key) = some kv := by
     simp only [Nat.sub_zero] at q6
     rw [← Array.getElem?_toList]; exact q6
    have he' : V3 S (z6G es vk vv) (ents.modify j fun e => { e with key := kv, val := a.eval v }).toList := by
     simp only [z6G, q1]
     rw [Array.toList_modify]
     exact z1j g3 fun _ _ => ⟨hkv, hvd⟩
    have ⟨Fp', hs⟩ := fin _ cl _ he'
    refine good _ ?_ _ _ hs
    rw [run, q2]
    simp only [hkey, Option.getD_some, Instr.keyThatStays, mt.bits vk kv c3 hkv, if_true, Sem.run_bind, Sem.run_pure, Result.andThen_ok, hset]
  ·cases e6
 ·cases e1
end
section
variable {P : Program} {C : Ctx} {S : zf} {Fp : Nat → List Nat} {X : List Nat} {st : St} {a : Act} {w : World} {t kt et : Nat} {ok : A → Bool} {z : A}
def z3H (n : Fr) (dst : Option Nat) : SM Unit := wrT n dst (.own (.opq (VB [])))
theorem z3G (h : Sim C S Fp [] st a w)  (ho : o.op = .makeMap t none)    (e : z3H C.n o.dst st = some (u, R, U)) : vX P C o a w (ze U st) := by
 have h2 := h.alloc (by simp) (.map #[] 0)
 have hc : zw S (w.alloc (.map #[] 0)).heap (.opq (VB [])) [.map (some w.heap.size)] [w.heap.size] := by
  simp only [zw]
  exact ⟨_, rfl, w.heap.size, #[], 0, rfl, rfl, heap_alloc_new w _, fun o => h.free_new (Nat.le_refl _) o, trivial⟩
 have ⟨Fp'', hs⟩ := k9 (F := [w.heap.size]) (X := []) h2 e hc (by simp)
 refine zk (v := .map (some w.heap.size)) ?_ hs
 simp [execOp, ho, Instr.makeMap]
end
def z6N (n : Fr) (dst : Option Nat) (es : List (A × A)) (ok : A → Bool) (z : A) (x k : Operand) (two : Bool) : HM Unit :=
 zT (opnd x) >>= fun tx => Jt tx >>= fun y => zT (opnd k) >>= fun tk => VT tk >>= fun vk =>
 j9 (y = .opq (VB es) ∧ ok vk = true ∧ ∀ p ∈ es, ok p.1 = true) (eqA (match Yo vk es 0 with
   | some (_, v) => if two = true then .tup [v, .atom (.bool true)] else v
   | none => if two = true then .tup [z, .atom (.bool false)] else z) >>= fun r => zT (wrT n dst (.d r)))
theorem z7H (n : Fr) (dst : Option Nat) (es : List (A × A)) (ok : A → Bool) (z : A) (x k : Operand) (two : Bool) : Snd (z5H n dst es ok z x k two) (z6N n dst es ok z x k two) :=
 za (zi _) fun _ => za (WQ _) fun _ => za (zi _) fun _ => za (jS _) fun _ => vA (YW (zM _ fun r => wrT n dst (.d r)).symm (za (Jn _) fun _ => zi _))
def zaN (es es' : List (A × A)) (ok : A → Bool) (x k v : Operand) : HM Unit := zT (opnd x) >>= fun tx =>
 match tx with
 | .als r [] er ec => zT (rdE r) >>= fun e => zT (opnd k) >>= fun tk => VT tk >>= fun vk => zT (opnd v) >>= fun tv => VT tv >>= fun vv =>
  j9 (e.t = .own (.opq (VB es)) ∧ e.er = er ∧ ok vk = true ∧ vv.isD = true ∧ ∀ p ∈ es, ok p.1 = true) (j9 (z6G es vk vv = es') (zT (wrE r ⟨.own (.opq (VB es')), e.er, e.ec + 1⟩)))
 | _ => zx
theorem z6C (es es' : List (A × A)) (ok : A → Bool) (x k v : Operand) : Snd (z8L es ok x k v) (zaN es es' ok x k v) := by
 refine za (zi _) fun tx => ?_
 cases tx with
 | als r p er ec =>
  cases p with
  | nil =>
   refine za (zi _) fun e => za (zi _) fun tk => za (jS _) fun vk => za (zi _) fun tv => za (jS _) fun vv => vA ?_
   exact Xa fun hq => by rw [hq]; exact zi _
  | cons _ _ => exact zl _
 | _ => exact zl _
def zaI (P : Program) (d : Nat) : XH P := {
 e := fun n o => match o.op with | .makeMap _ none => if o.dst = some d then some (z3H n o.dst) else none | _ => none
 h := fun n o => match o.op with | .makeMap _ none => if o.dst = some d then some (zT (z3H n o.dst)) else none | _ => none
 ok := by
  refine ⟨?_, ?_⟩
  ·intro C S Fp st a w o m u R U e h h2
   dsimp only at e
   split at e
   ·rename_i ho
    split at e
    ·cases e; exact z3G h ho h2
    ·cases e
   ·cases e
  ·intro n o m e
   dsimp only at e
   split at e
   ·split at e
    ·cases e; exact fun st st' a R U => Loc.wrT _ _ _ st st' a R U
    ·cases e
   ·cases e
 none := by
  intro n o e
  skip
  split at e
  ·split at e
   ·cases e
   ·rename_i hd; rw [if_neg hd]
  ·rfl
 some := by
  intro n o m e
  skip
  split at e
  ·split at e
   ·rename_i hd; cases e; exact ⟨_, by rw [if_pos hd], zi _⟩
   ·cases e
  ·cases e }
variable {z : A}
def z8Y {t kt et : Nat} {ok : A → Bool}  (mt : z8G P t kt et ok z) (d : Nat) (es : List (A × A)) : XH P := {
 e := fun n o => match o.op with | .lookup t' x k two => if o.dst = some d ∧ t' = t then some (z5H n o.dst es ok z x k two) else none | _ => none
 h := fun n o => match o.op with | .lookup t' x k two => if o.dst = some d ∧ t' = t then some (z6N n o.dst es ok z x k two) else none | _ => none
 ok := by
  refine ⟨?_, ?_⟩
  ·intro C S Fp st a w o m u R U e h h2
   dsimp only at e
   split at e
   ·rename_i t' x k two ho
    split at e
    ·rename_i hd
     obtain ⟨_, rfl⟩ := hd
     cases e; exact z5G mt h ho h2
    ·cases e
   ·cases e
  ·intro n o m e
   dsimp only at e
   split at e
   ·split at e
    ·cases e
     refine Loc.bind (Loc.opnd _) fun _ => Loc.bind (Loc.peek _) fun _ => Loc.bind (Loc.opnd _) fun _ => Loc.bind (Loc.val _) fun _ => Loc.ite (Loc.wrT _ _ _) Loc.fail
    ·cases e
   ·cases e
 none := by
  intro n o e
  skip
  split at e
  ·split at e
   ·cases e
   ·rename_i hd; rw [if_neg hd]
  ·rfl
 some := by
  intro n o m e
  skip
  split at e
  ·split at e
   ·rename_i hd; cases e; exact ⟨_, by rw [if_pos hd], z7H _ _ _ _ _ _ _ _⟩
   ·cases e
  ·cases e }
def zci {t kt et : Nat} {ok : A → Bool}  (mt : z8G P t kt et ok z) (q : Nat) (es es' : List (A × A)) : XH P := {
 e := fun n o => match o.op with
  | .mapUpdate t' (.tmp x) k v => if x = q ∧ t' = t ∧ o.dst = none then some (z8L es ok (.tmp x) k v) else none
  | .insert t' (.tmp x) k v => if x = q ∧ t' = t ∧ o.dst = none then some (z8L es ok (.tmp x) k v) else none
  | _ => none
 h := fun n o => match o.op with
  | .mapUpdate t' (.tmp x) k v => if x = q ∧ t' = t ∧ o.dst = none then some (zaN es es' ok (.tmp x) k v) else none
  | .insert t' (.tmp x) k v => if x = q ∧ t' = t ∧ o.dst = none then some (zaN es es' ok (.tmp x) k v) else none
  | _ => none
 ok := by
  have loc : ∀ x k v, Loc (z8L es ok x k v) := by
   intro x k v
   refine Loc.bind (Loc.opnd _) fun tx => ?_
   split
   ·exact Loc.bind (Loc.rdE _) fun _ => Loc.bind (Loc.opnd _) fun _ => Loc.bind (Loc.val _) fun _ => Loc.bind (Loc.opnd _) fun _ => Loc.bind (Loc.val _) fun _ => Loc.ite (Loc.wrE _ _) Loc.fail
   ·exact Loc.fail
  refine ⟨?_, ?_⟩
  ·intro C S Fp st a w o m u R U e h h2
   dsimp only at e
   split at e
   ·rename_i t' x k v ho
    split at e
    ·rename_i hd
     obtain ⟨_, rfl, hd⟩ := hd
     cases e; exact z2R mt h (.inl ho) hd h2
    ·cases e
   ·rename_i t' x k v ho
    split at e
    ·rename_i hd
     obtain ⟨_, rfl, hd⟩ := hd
     cases e; exact z2R mt h (.inr ho) hd h2
    ·cases e
   ·cases e
  ·intro n o m e
   dsimp only at e
   split at e
   ·split at e
    ·cases e; exact loc _ _ _
    ·cases e
   ·split at e
    ·cases e; exact loc _ _ _
    ·cases e
   ·cases e
 none := by
  intro n o e
  skip
  split at e
  ·split at e
   ·cases e
   ·rename_i hd; rw [if_neg hd]
  ·split at e
   ·cases e
   ·rename_i hd; rw [if_neg hd]
  ·rfl
 some := by
  intro n o m e
  skip
  split at e
  ·split at e
   ·rename_i hd; cases e; exact ⟨_, by rw [if_pos hd], z6C _ _ _ _ _ _⟩
   ·cases e
  ·split at e
   ·rename_i hd; cases e; exact ⟨_, by rw [if_pos hd], z6C _ _ _ _ _ _⟩
   ·cases e
  ·cases e }
variable {K V : Type}
def QA [BEq K] : List (K × V) → K → Option V
 | [], _ => none
 | p :: l, x => if p.1 == x then some p.2 else QA l x
def z1D [BEq K] : List (K × V) → K → V → List (K × V)
 | [], x, v => [(x, v)]
 | p :: l, x, v => if p.1 == x then (x, v) :: l else p :: z1D l x v
class zcf {K : Type} [BEq K] (f : K → A) : Prop where
 eq : ∀ x y, (Uv (f x) = Uv (f y)) ↔ (x == y) = true
def YQ (f : K → A) (g : V → A) (l : List (K × V)) : List (A × A) := l.map fun p => (f p.1, g p.2)
theorem z1X {f : K → A} {g : V → A} (x : K) : ∀ (l : List (K × V)) (i j : Nat) (y : A), Yo (f x) (YQ f g l) i = some (j, y) → i ≤ j
 | [], _, _, _, e => by cases e
 | p :: l, i, j, y, e => by
  simp [YQ, List.map_cons, Yo] at e
  split at e
  ·cases e; exact Nat.le_refl _
  ·exact Nat.le_of_succ_le (z1X x l (i + 1) j y e)
section
variable {K V : Type} [BEq K] {f : K → A} {g : V → A} [hk : zcf f]
theorem z1Y (x : K) : ∀ (l : List (K × V)) (i : Nat), (Yo (f x) (YQ f g l) i).map (·.2) = (QA l x).map g
 | [], _ => rfl
 | p :: l, i => by
  simp [YQ, List.map_cons, Yo, QA]
  by_cases h : (p.1 == x) = true
  ·rw [if_pos ((hk.eq _ _).2 h), if_pos h]; rfl
  ·rw [if_neg (fun q => h ((hk.eq _ _).1 q)), if_neg h]; exact z1Y x l (i + 1)
theorem z3n (x : K) (v : V) : ∀ (l : List (K × V)) (i : Nat), (match Yo (f x) (YQ f g l) i with | some (j, _) => (YQ f g l).set (j - i) (f x, g v) | none => YQ f g l ++ [(f x, g v)]) = YQ f g (z1D l x v)
 | [], _ => rfl
 | p :: l, i => by
  simp [YQ, List.map_cons, Yo, z1D]
  by_cases h : (p.1 == x) = true
  ·rw [if_pos ((hk.eq _ _).2 h), if_pos h]
   simp
  ·rw [if_neg (fun q => h ((hk.eq _ _).1 q)), if_neg h]
   have ih := z3n x v l (i + 1)
   simp [List.map_cons]
   simp [YQ] at ih
   cases hf : Yo (f x) (l.map fun p => (f p.1, g p.2)) (i + 1) with
   | none =>
    simp [hf] at ih ⊢
    simp [ih]
   | some q =>
    have ⟨j, y⟩ := q
    have hle := z1X (f := f) (g := g) x l (i + 1) j y hf
    simp [hf] at ih ⊢
    rw [show j - i = (j - (i + 1)) + 1 by omega, List.set_cons_succ, ih]
theorem z80 (x : K) (v : V) (l : List (K × V)) : z6G (YQ f g l) (f x) (g v) = YQ f g (z1D l x v) := by
 have := z3n (f := f) (g := g) x v l 0
 simpa only [Nat.sub_zero, z6G] using this
theorem zcD {z0 : V}  (hz : g z0 = z) (x : K) (l : List (K × V)) : (match Yo (f x) (YQ f g l) 0 with
      | some (_, v) => if false = true then A.tup [v, .atom (.bool true)] else v
      | none => if false = true then A.tup [z, .atom (.bool false)] else z) = g ((QA l x).getD z0) := by
  have := z1Y (f := f) (g := g) x l 0
  cases hf : Yo (f x) (YQ f g l) 0 with
  | none => rw [hf] at this; cases hm : QA l x with | none => simp [hz] | some y => simp [hm] at this
  | some q => have ⟨j, y⟩ := q; rw [hf] at this; cases hm : QA l x with | none => simp [hm] at this | some y' => simp [hm] at this; simp [this]
end
theorem z6V {f : K → A} {g : V → A} {ok : A → Bool} (h : ∀ x, ok (f x) = true) (l : List (K × V)) : ∀ p ∈ YQ f g l, ok p.1 = true := by
 intro p hp
 obtain ⟨q, _, rfl⟩ := List.mem_map.1 hp
 exact h _
theorem z4Q {t : Nat} {f : TypeInfo}  (h : P.info? t = some f) (hz : f.zero = some v) (w : World) : (zeroValue t).run P w = .ok v w := by simp [zeroValue, typeInfo, h, hz]
def z8H (P : Program) (f : A)  (enc : β → Bool → Value → List A) (F : ∀ {σ : Type}, (σ → β → Option (σ × Bool)) → σ → Option σ) : Prop :=
 ∀ (σ : Type) (yv : Value) (Y : σ → Q3) (y : σ → β → Option (σ × Bool)), (∀ s x s' b, y s x = some (s', b) → ∀ v, wo P (.atom yv) (enc x b v) [(yv, .opq (Y s).q)] (.atom (.bool b)) [.opq (Y s').q]) →
  ∀ s s', F y s = some s' → wo P f [.atom yv] [(yv, .opq (Y s).q)] (.tup []) [.opq (Y s').q]
def YOk (P : Program) (yv : Value) {σ β : Type} (Y : σ → Q3) (enc : β → Bool → Value → List A) (y : σ → β → Option (σ × Bool)) : Prop :=
 ∀ s x s' b, y s x = some (s', b) → ∀ v, wo P (.atom yv) (enc x b v) [(yv, .opq (Y s).q)] (.atom (.bool b)) [.opq (Y s').q]
def yOf {σ τ β : Type} (step : σ → β → Option (LR σ τ)) : LR σ τ → β → Option (LR σ τ × Bool)
 | .next s, x => match step s x with | some (.next s') => some (.next s', true) | some (.done t) => some (.done t, false) | none => none
 | .done _, _ => none
def z8R : LR σ τ → Bool
 | .next _ => true
 | .done _ => false
variable {b : Bool}
theorem z4R {σ τ β : Type} {step : σ → β → Option (LR σ τ)} {l l' : LR σ τ} {x : β}  (h : yOf step l x = some (l', b)) : ∃ s, l = .next s ∧ step s x = some l' ∧ b = z8R l' := by
 cases l with
 | done t => cases h
 | next s =>
  simp [yOf] at h
  cases hs : step s x with
  | none => simp [hs] at h
  | some r =>
   cases r with
   | _ => simp [hs, Option.some.injEq, Prod.mk.injEq] at h; obtain ⟨rfl, rfl⟩ := h; exact ⟨s, rfl, hs, rfl⟩
variable {caps : List A}{ps : List Nat}{g : Operand}
section
variable {σ τ β : Type}
def Kj (stF : σ → St) (stD : τ → St) : LR σ τ → St
 | .next s => stF s
 | .done t => stD t
def z2w (jc : τ → Code) : LR σ τ → Option Code
 | .next _ => none
 | .done t => some (jc t)
def YN (rec : Loop) (jc : τ → Code) (l : LR σ τ) : Loop := { rec with state := if (z2w jc l).isNone then .ready else .done, pending := z2w jc l }
theorem AWP.iterG {P : Program} {n : Fr} {st : St} {Q : Exit → St → Prop} {g : Operand} {ps : List Nat} {assign body : Code} {K : Nat} {caps : List A} (live : List Nat) (stF : σ → St) (stD : τ → St) (jc : τ → Code) (enc : β → Bool → Value → List A)
  (step : σ → β → Option (LR σ τ)) (s0 : σ) (lr : LR σ τ)
  (hg : zaB st g = some (.fn K caps)) (hnd : live.Nodup) (h0 : Own.canon live st = stF s0)
  (hcan : ∀ l, (∀ t, (Kj stF stD l t).t.plain = true) ∧ ∀ t, t ∉ live → (Kj stF stD l t).t = .gone)
  (hps : ∀ p ∈ ps, p < n.size ∧ p ∉ live ∧ pinned n.pin p = false) (hlen : ∀ x b v, ps.length = (enc x b v).length)
  (hit : ∀ (L : Nat) (rec : Loop) (tv : Nat → Value), YOk P (.func (.yield L) #[] #[]) (fun l => (Ut L (YN rec jc l) tv (Kj stF stD l) (hcan l).1 0).single rfl) enc (yOf step) →
   wo P (.fn K caps) [.atom (.func (.yield L) #[] #[])] [(.func (.yield L) #[] #[], .opq (Ut L (YN rec jc (LR.next s0 : LR σ τ)) tv (Kj stF stD (.next s0)) (hcan (.next s0)).1 0))] (.tup []) [.opq (Ut L (YN rec jc lr) tv (Kj stF stD lr) (hcan lr).1 0)])
  (hround : ∀ (tv : Nat → Value) (s : σ) (x : β) (v : Value) (r : LR σ τ), step s x = some r → AWP P ⟨n.size, live.map (fun t => (t, tv t)) ++ n.pin⟩ assign (KD (stF s) ps (enc x (z8R r) v)) (fun e st1 => e = .normal ∧ AWP P ⟨n.size, live.map (fun t => (t, tv t)) ++ n.pin⟩ body st1 (fun ex st2 => z3R ex = some (z2w jc r) ∧ Own.canon live st2 = Kj stF stD r)))
  (hend : zbe P n (Kj stF stD lr) Q (z2w jc lr)) : AWP P n (.rangeFunc g ps.toArray assign body) st Q := by
 intro rd mm df w0 S0 M S Fp a w hc hs
 obtain ⟨us, hev, hreps⟩ : ∃ us : List Value, a.eval g = .func (.func K) #[] us.toArray ∧ wJ S (.fn K caps) (a.eval g) := by
  unfold zaB at hg
  split at hg
  ·rename_i t
   split at hg
   ·rename_i x ht
    cases hg
    have q := hs.ent t
    unfold xh at q
    simp [ht] at q
    have q1 : wJ S (.fn K caps) (Act.tv a t) := q.1
    have ⟨cs, c1, c2⟩ := q1
    have c1' := c1
    simp [Rep] at c1
    obtain ⟨us, _, _, rfl⟩ := c1
    exact ⟨us, c2, ⟨_, c1', c2⟩⟩
   ·cases hg
  ·cases hg
 have ⟨Fp0, hs0, hd0⟩ := hs.canonD (hc.post hs) live
 rw [h0] at hs0
 refine wpIn_rangeFunc ?_
 intro fn hfn
 have ⟨df', wA, dq, en1, en2, en3⟩ := za4 (P := P) hc hs0 hd0 fn ps.toArray assign body
 generalize (df'.map z8Q).take (df'.length - df.length) = mk at en1 en2
 obtain ⟨rec, hrec⟩ : ∃ q : Loop, q = { state := .ready, pending := none, fn, tmps := a.tmps, params := ps.toArray, assign, body, defers := dq } := ⟨_, rfl⟩
 rw [← hrec] at en1
 have hs1 := en2.newObj (.loop rec)
 have hl : (wA.alloc (.loop rec)).heap[wA.heap.size]? = some (.loop rec) := World.alloc_heap_new wA _
 have hfr : ∀ t k, k ∈ Fp0 t → k < wA.heap.size := fun t k hk => (en2.free t k hk).1
 have hlF : ∀ t, wA.heap.size ∉ Fp0 t := fun t hk => by have := hfr t _ hk; omega
 have hSl : ∀ o, S wA.heap.size o = none := by
  intro o
  cases hq : S wA.heap.size o with
  | none => rfl
  | some v => have := en2.still_lt hq; omega
 have hrec0 : ∀ s, YN rec jc (LR.next s : LR σ τ) = rec := by intro s; rw [hrec]; rfl
 have hY : ∀ (l : LR σ τ) (x : β) (l' : LR σ τ) (b : Bool), yOf step l x = some (l', b) → ∀ v, wo P (.atom (.func (.yield wA.heap.size) #[] #[])) (enc x b v) [(.func (.yield wA.heap.size) #[] #[], .opq (Ut wA.heap.size (YN rec jc l) (jZ a.tmps) (Kj stF stD l) (hcan l).1 0))] (.atom (.bool b))
   [.opq (Ut wA.heap.size (YN rec jc l') (jZ a.tmps) (Kj stF stD l') (hcan l').1 0)] := by
  intro l x l' b hy v
  obtain ⟨s, rfl, hst, rfl⟩ := z4R hy
  have htm : (YN rec jc (LR.next s : LR σ τ)).tmps = a.tmps := by rw [hrec0, hrec]
  have hb : z8R l' = (z2w jc l').isNone := by cases l' <;> rfl
  have r := z5o (P := P) (n := ⟨n.size, live.map (fun t => (t, jZ a.tmps t)) ++ n.pin⟩) (l := wA.heap.size) (rec := YN rec jc (LR.next s : LR σ τ)) (ps := ps) (ys := enc x (z8R l') v) (st0 := stF s) (st1 := Kj stF stD l') (i := 0) (i2 := 0) (live := live) (jc := z2w jc l') (hcan (.next s)).1 (hcan l').1
   (by rw [hrec0, hrec]) (by rw [hrec0, hrec]) (by rw [htm]; exact hs.size)
   (by
    intro j u hj
    rw [htm]
    rcases List.mem_append.1 hj with hj | hj
    ·have ⟨t, ht, he⟩ := List.mem_map.1 hj
     cases he
     rfl
    ·exact hs.pin j u hj)
   (fun t ht => by rw [htm]; exact List.mem_append.2 (.inl (List.mem_map.2 ⟨t, ht, rfl⟩))) hnd
   (fun p hp => by
    have ⟨p1, p2, p3⟩ := hps p hp
    refine ⟨p1, (hcan (.next s)).2 p p2, ?_⟩
    have gen : ∀ l : List Nat, p ∉ l → pinned (l.map (fun t => (t, jZ a.tmps t)) ++ n.pin) p = false := by
     intro l
     induction l with
     | nil => intro _; exact p3
     | cons t l ih =>
      intro hl
      simp [List.mem_cons, not_or] at hl
      simp [List.map_cons, List.cons_append, pinned, ih hl.2, Bool.or_false]
      simpa using Ne.symm hl.1
    exact gen live p2) (hlen x _ v)
   (by
    have := hround (jZ a.tmps) s x v l' hst
    rw [hrec0, hrec]
    exact this)
  have e : ({ YN rec jc (LR.next s : LR σ τ) with state := if (z2w jc l').isNone then .ready else .done, pending := z2w jc l' } : Loop) = YN rec jc l' := rfl
  rw [e] at r
  simp [htm] at r
  rw [← hb] at r
  exact r
 have hL := hit wA.heap.size rec (jZ a.tmps) hY S (wA.alloc (.loop rec)) (a.eval g) [.func (.yield wA.heap.size) #[] #[]] (wA.heap.size :: live.flatMap Fp0) hs1.still hreps ⟨vg.2 ⟨rfl, rfl⟩, trivial⟩
  ⟨_, [], rfl, z3B ⟨rfl, by rw [hrec0]; exact hl, hSl, Fp0, (fun t => hs1.ent t), en2.disj, hlF, (fun k => by
   simp [List.mem_cons, List.mem_flatMap]
   constructor
   ·rintro (rfl | ⟨t, _, ht⟩)
    ·exact .inl rfl
    ·exact .inr ⟨t, ht⟩
   ·rintro (rfl | ⟨t, ht⟩)
    ·exact .inl rfl
    ·refine .inr ⟨t, ?_, ht⟩
     apply Classical.byContradiction
     intro hn
     have q := en2.ent t
     unfold xh at q
     have hg := (hcan (.next s0)).2 t hn
     simp [Kj] at hg
     simp [hg] at q
     rw [q] at ht
     simp at ht)⟩ (z1C en2 hnd hlF), rfl⟩ (z1C en2 hnd hlF)
 rcases hL with ⟨k, cs, fn', a1, a2, a3, a4, a5⟩ | ⟨L, q, a1, _⟩
 rotate_left
 ·rw [hev] at a1; cases a1
 refine ⟨wA.heap.size, mk, wA.alloc (.loop rec), { target := .fn (.func k) cs, args := #[.func (.yield wA.heap.size) #[] #[]] }, wA.alloc (.loop rec), k, #[.func (.yield wA.heap.size) #[] #[]] ++ cs, wA.alloc (.loop rec), en1, ?_, fun _ _ => trivial, ?_, fun h => (by cases h), ?_⟩
 ·simp [resolve, a1]
  simp [go_sem]
 ·simp [invoke]
  exact Wg a2 a3 a4 _ _
 ·refine (XR a5 rd (mm - 1)).mono ?_
  rintro e w' ⟨v', rfl, S', F', G, b1, b2, b3, b4, _, b6, _, b8⟩
  have ⟨G1, G2, hGe, b6, hnil⟩ := b6
  have hG2 : G2 = [] := hnil
  subst hG2
  simp [List.nil_append] at hGe
  subst hGe
  have ⟨_, c2, c3, Fp', c4, c5, c6, c7⟩ := z3X b6
  have hnb : (YN rec jc lr).state ≠ .busy := by
   simp [YN]
   cases lr <;> simp [z2w]
  have hpend : (YN rec jc lr).pending = z2w jc lr := rfl
  refine ⟨_, _, run_endLoop c2 hnb, ?_⟩
  rw [hpend]
  have hMl : M wA.heap.size := en2.mine _ en2.below.size
  have hMn : ∀ k, ((wA.alloc (.loop rec)).heap.size ≤ k ∨ k ∈ wA.heap.size :: live.flatMap Fp0) → M k := by
   rintro k (hk | hk)
   ·exact hs1.mine k (Nat.le_trans hs1.below.size hk)
   ·rcases List.mem_cons.1 hk with rfl | hk
    ·exact hMl
    ·have ⟨t, _, ht⟩ := List.mem_flatMap.1 hk
     exact en2.base t k ht
  have hout : ∀ t k, k ∈ Fp' t → ((wA.alloc (.loop rec)).heap.size ≤ k ∨ k ∈ wA.heap.size :: live.flatMap Fp0) := fun t k hk => b8 k (List.mem_append.2 (.inl ((c7 k).2 (.inr ⟨t, hk⟩))))
  have hpf : ∀ o, Sim ⟨n, df', w0, S0, M⟩ S' Fp' [] (Kj stF stD lr) { a with defers := mk ++ a.defers } (w'.putObj wA.heap.size o) := by
   intro o
   refine { size := hs.size, pin := hs.pin, defers := en2.defers, below := ?_, mine := hs.mine, still := ?_, sinc := fun b o v q => b2 _ _ _ (en2.sinc _ _ _ q), sbase := ?_, ent := ?_, disj := c5, base := fun t k hk => hMn k (hout t k hk), xn := by simp, xd := by simp, xb := by simp }
   ·exact (hs1.below.trans (b1.mono hMn)).trans ⟨rfl, rfl, rfl, Nat.le_refl _, by simp [World.putObj], fun k hk => World.putObj_heap_other (by rintro rfl; exact hk hMl)⟩
   ·refine ⟨?_, b4.gok, b4.blk.of (fun _ _ _ q => q) fun g x e => World.putObj_heap_other (by rintro rfl; exact b4.blk.ne (c3 0) x e)⟩
    intro b i v q
    have hne : b ≠ wA.heap.size := by rintro rfl; rw [c3] at q; cases q
    have := b4 b i v q
    unfold zU at this ⊢
    rw [World.putObj_heap_other hne]
    exact this
   ·intro b i hb
    rcases Nat.lt_or_ge b (wA.alloc (.loop rec)).heap.size with hlt | hge
    ·rw [b3 b i hlt (fun hF => hb (hMn b (.inr hF)))]
     exact en2.sbase b i hb
    ·exact absurd (hMn b (.inl hge)) hb
   ·intro t
    exact (c4 t).frame ((hcan lr).1 t) (fun _ _ _ q => q) (fun k hk => ⟨World.putObj_heap_other (by rintro rfl; exact c6 t hk), ((c4 t).owns ((hcan lr).1 t) k hk).2⟩)
  have hdp : ∀ o, jg df M df' Fp' (w'.putObj wA.heap.size o) := by
   intro o
   have hlt : ∀ D ∈ df', D < wA.heap.size := fun D hD => (Array.getElem?_eq_some_iff.1 (en3.ent D hD)).1
   have hno : ∀ D ∈ df', ¬ ((wA.alloc (.loop rec)).heap.size ≤ D ∨ D ∈ wA.heap.size :: live.flatMap Fp0) := by
    rintro D hD (q | q)
    ·have := hlt D hD
     have h3 : (wA.alloc (.loop rec)).heap.size = wA.heap.size + 1 := by simp
     omega
    ·rcases List.mem_cons.1 q with rfl | q
     ·have := hlt _ hD; omega
     ·have ⟨t, _, ht⟩ := List.mem_flatMap.1 q
      exact en3.off D hD t ht
   refine ⟨en3.nodup, fun D hD => ?_, fun D hD t ht => hno D hD (hout t D ht), en3.old⟩
   rw [World.putObj_heap_other (by have := hlt D hD; omega), b1.block D (hno D hD), World.alloc_old _ (hlt D hD)]
   exact en3.ent D hD
  cases lr with
  | next s => exact ⟨df', stF s, S', Fp', hpf _, hdp _, hend⟩
  | done t => exact AWP.go hend hc (hpf _) (hdp _)
end
def XJ (live : List Nat) (l : List (Nat × T)) : Bool := l.all fun q => live.contains q.1 && q.2.plain
theorem z3D : ∀ (l : List (Nat × T)) (t : Nat), ofL l t = ⟨(ofL l t).t, 0, 0⟩
 | [], t => rfl
 | p :: l, t => by
  simp [ofL]
  split
  ·rfl
  ·exact z3D l t
theorem Uk {live : List Nat} : ∀ {l : List (Nat × T)}, XJ live l = true → (∀ t, (ofL l t).t.plain = true) ∧ ∀ t, t ∉ live → (ofL l t).t = .gone
 | [], _ => ⟨fun _ => rfl, fun _ _ => rfl⟩
 | p :: l, h => by
  simp only [XJ, List.all_cons, Bool.and_eq_true] at h
  obtain ⟨h1, h2⟩ := Uk (l := l) (by simpa only [XJ] using h.2)
  constructor
  ·intro t
   simp only [ofL]
   split
   ·exact h.1.2
   ·exact h1 t
  ·intro t ht
   simp only [ofL]
   split
   ·rename_i e
    subst e
    exact absurd (List.contains_iff_mem.1 h.1.1) ht
   ·exact h2 t ht
variable {l : List (Nat × T)}
theorem UK {live : List Nat}  (h : XJ live l = true) : Own.canon live (ofL l) = ofL l := by
 have ⟨h1, h2⟩ := Uk h
 funext t
 rw [kl]
 by_cases ht : t ∈ live
 ·rw [if_pos ht]
  have h3 := h1 t
  rw [z3D l t]
  unfold z6b
  cases hx : (ofL l t).t with
  | als r p er ec => rw [hx] at h3; cases h3
  | ptr r p er ec => rw [hx] at h3; cases h3
  | _ => rfl
 ·rw [if_neg ht, z3D l t, h2 t ht]
  rfl
theorem AWP.weak {Q Q' : Exit → St → Prop} (h : AWP P n c st Q') (hq : ∀ e st, Q' e st → ∃ live l m, Own.canon live st = ofL l ∧ LeL l m ∧ Q e (ofL m)) : AWP P n c st Q := by
 intro rd mm df w0 S0 M S Fp a w hc hs
 refine wpIn_mono (h rd mm df w0 S0 M S Fp a w hc hs) ?_
 rintro e a' w' ⟨df', st1, S1, Fp1, h1, h2, h3⟩
 have ⟨live, l, m, e1, e2, e3⟩ := hq _ _ h3
 have ⟨Fp2, g1, g2⟩ := Sim.canonD h1 h2 live
 rw [e1] at g1
 exact ⟨df', ofL m, S1, Fp2, e2.or.elim (fun e => e ▸ g1) fun h => g1.le h.ent, g2, e3⟩
def zat : List (Nat × T) → List Nat → List A → List (Nat × T)
 | l, p :: ps, y :: ys => zat ((p, .d y) :: l) ps ys
 | l, _, _ => l
theorem z1z : ∀ (ps : List Nat) (ys : List A) (l : List (Nat × T)), KD (ofL l) ps ys = ofL (zat l ps ys)
 | [], _, l => by cases l <;> rfl
 | _ :: _, [], l => by cases l <;> rfl
 | p :: ps, y :: ys, l => z1z ps ys ((p, .d y) :: l)
def zbY (n : Fr) (ps live : List Nat) : Bool := ps.all fun p => decide (p < n.size) && (!live.contains p && !pinned n.pin p)
section
variable {σ τ β : Type}
def z9l (stF : σ → List (Nat × T)) (stD : τ → List (Nat × T)) : LR σ τ → List (Nat × T)
 | .next s => stF s
 | .done t => stD t
def itQ (live : List Nat) (stF : σ → List (Nat × T)) (stD : τ → List (Nat × T)) (jc : τ → Code) (r : LR σ τ) (ex : Exit) (st : St) : Prop :=
 z3R ex = some (z2w jc r) ∧ ∃ l', Own.canon live st = ofL l' ∧ LeL l' (z9l stF stD r)
theorem z6k {P : Program} {n : Fr} {Q : Exit → St → Prop}  {fs : List Fm} {st0 : St}   {assign body : Code} {K : Nat} {caps : List A} (e : c = .rangeFunc g ps.toArray assign body) (live : List Nat) (stF : σ → List (Nat × T)) (stD : τ → List (Nat × T)) (jc : τ → Code) (enc : β → Bool → Value → List A)
  (step : σ → β → Option (LR σ τ)) (s0 : σ) (lr : LR σ τ) (l0 : List (Nat × T)) (hs : Own.canon live st0 = ofL l0) (hl : LeL l0 (stF s0)) (hg : zaB (ofL (stF s0)) g = some (.fn K caps)) (hnd : live.Nodup) (hp : ∀ s, XJ live (stF s) = true) (hp2 : ∀ t, XJ live (stD t) = true)
  (hps : zbY n ps live = true) (hlen : ∀ x b v, ps.length = (enc x b v).length) (hit : ∀ (L : Nat) (rec : Loop) (tv : Nat → Value) (hp : ∀ l t, (Kj (fun s => ofL (stF s)) (fun t => ofL (stD t)) l t).t.plain = true), YOk P (.func (.yield L) #[] #[]) (fun l => (Ut L (YN rec jc l) tv (Kj (fun s => ofL (stF s)) (fun t => ofL (stD t)) l) (hp l) 0).single rfl) enc (yOf step) →
   wo P (.fn K caps) [.atom (.func (.yield L) #[] #[])] [(.func (.yield L) #[] #[], .opq (Ut L (YN rec jc (LR.next s0 : LR σ τ)) tv (Kj (fun s => ofL (stF s)) (fun t => ofL (stD t)) (.next s0)) (hp (.next s0)) 0))] (.tup []) [.opq (Ut L (YN rec jc lr) tv (Kj (fun s => ofL (stF s)) (fun t => ofL (stD t)) lr) (hp lr) 0)])
  (hround : ∀ (tv : Nat → Value) (s : σ) (x : β) (v : Value) (r : LR σ τ), step s x = some r → AWP P ⟨n.size, live.map (fun t => (t, tv t)) ++ n.pin⟩ assign (ofL (zat (stF s) ps (enc x (z8R r) v)))
   (Qf P ⟨n.size, live.map (fun t => (t, tv t)) ++ n.pin⟩ [] (fun e st1 => e = .normal ∧ AWP P ⟨n.size, live.map (fun t => (t, tv t)) ++ n.pin⟩ body st1 (Qf P ⟨n.size, live.map (fun t => (t, tv t)) ++ n.pin⟩ [] (itQ live stF stD jc r)))))
  (hend : zbe P n (ofL (z9l stF stD lr)) (Qf P n fs Q) (z2w jc lr)) : AWP P n c st0 (Qf P n fs Q) := by
 subst e
 refine AWP.canon live ?_
 rw [hs]
 refine z8y hl ?_
 have hst : ∀ l : LR σ τ, Kj (fun s => ofL (stF s)) (fun t => ofL (stD t)) l = ofL (z9l stF stD l) := by intro l; cases l <;> rfl
 have hpl : ∀ l : LR σ τ, XJ live (z9l stF stD l) = true := by
  intro l
  cases l with
  | next s => exact hp s
  | done t => exact hp2 t
 refine AWP.iterG live (fun s => ofL (stF s)) (fun t => ofL (stD t)) jc enc step s0 lr hg hnd (UK (hp s0)) (fun l => by rw [hst]; exact Uk (hpl l)) ?_ hlen (fun L rec tv hY => hit L rec tv _ hY) ?_ (by rw [hst]; exact hend)
 ·intro p hp
  have := List.all_eq_true.1 hps p hp
  simp only [Bool.and_eq_true, decide_eq_true_eq, Bool.not_eq_true'] at this
  exact ⟨this.1, fun h => by rw [List.contains_iff_mem.2 h] at this; simp at this, this.2.2⟩
 ·intro tv s x v r hr
  rw [z1z]
  refine AWP.mono (hround tv s x v r hr) ?_
  rintro e st1 ⟨h1, h2⟩
  refine ⟨h1, AWP.weak h2 ?_⟩
  rintro ex st2 ⟨hj, l', q1, q2⟩
  refine ⟨live, l', _, q1, q2, hj, ?_⟩
  rw [UK (hpl r), hst]
theorem z8z {P : Program} {n : Fr} {Q : Exit → St → Prop}  {fs : List Fm} {st0 : St}   {assign body : Code} {K : Nat} {caps : List A} (e : c = .rangeFunc g ps.toArray assign body) (live : List Nat) (stF : σ → List (Nat × T)) (stD : τ → List (Nat × T)) (jc : τ → Code) (enc : β → Bool → Value → List A) {F : ∀ {σ : Type}, (σ → β → Option (σ × Bool)) → σ → Option σ}
  (step : σ → β → Option (LR σ τ)) (s0 : σ) (lr : LR σ τ) (l0 : List (Nat × T)) (hs : Own.canon live st0 = ofL l0) (hl : LeL l0 (stF s0)) (hg : zaB (ofL (stF s0)) g = some (.fn K caps)) (hnd : live.Nodup) (hp : ∀ s, XJ live (stF s) = true) (hp2 : ∀ t, XJ live (stD t) = true)
  (hps : zbY n ps live = true) (hlen : ∀ x b v, ps.length = (enc x b v).length) (hit : z8H P (.fn K caps) enc F) (hF : F (yOf step) (.next s0) = some lr)
  (hround : ∀ (tv : Nat → Value) (s : σ) (x : β) (v : Value) (r : LR σ τ), step s x = some r → AWP P ⟨n.size, live.map (fun t => (t, tv t)) ++ n.pin⟩ assign (ofL (zat (stF s) ps (enc x (z8R r) v)))
   (Qf P ⟨n.size, live.map (fun t => (t, tv t)) ++ n.pin⟩ [] (fun e st1 => e = .normal ∧ AWP P ⟨n.size, live.map (fun t => (t, tv t)) ++ n.pin⟩ body st1 (Qf P ⟨n.size, live.map (fun t => (t, tv t)) ++ n.pin⟩ [] (itQ live stF stD jc r)))))
  (hend : zbe P n (ofL (z9l stF stD lr)) (Qf P n fs Q) (z2w jc lr)) : AWP P n c st0 (Qf P n fs Q) :=
 z6k e live stF stD jc enc step s0 lr l0 hs hl hg hnd hp hp2 hps hlen (fun L rec tv hp hY => hit _ _ _ _ hY _ _ hF) hround hend
end
section
variable {P : Program} {tt : TT} {ctr : Ctr} {n : Fr} {Q : Exit → St → Prop}
theorem zae (X : XH P) (hT : xH P tt) (hC : zA P ctr) (hm : P.follows .mixedOrders = true) (live : List Nat) (k : Nat) {c : Code} {fs : List Fm} {st : St} (hs : List H) (ex : Exit) (l' : List (Nat × T)) (obs : List Ob)
  (e : K3 X tt ctr n live k c fs st hs = some (.fin ex, ofL l', obs.map Ob.p)) (h : ∀ st0, canon live st0 = ofL l' → Q ex st0) : AWP P n c st (Qf P n fs Q) := z13 X hT hC hm live k obs e h
theorem z0g {J : St → Prop} : ∀ {fs : List Fm} {st : St}, unw fs = .stop (.back J) → J st → Qf P n fs Q .normal st
 | [], _, e, _ => by cases e
 | .seq z :: fs, _, e, h => by cases e
 | .blk id :: fs, _, e, h => z0g (fs := fs) (by simpa only [unw] using e) h
 | .pre J :: fs, _, e, h => by
  simp [unw, Nxt.stop.injEq, z2L.back.injEq] at e
  subst e
  exact h
 | .rnd (m + 1) c :: fs, _, e, h => by cases e
 | .rnd 0 _ :: _, _, e, _ => by cases e
theorem z6h {live : List Nat}   (h0 : canon live st0 = ofL l) (h : AWP P n c (ofL l) Q) : AWP P n c st0 Q := by
 refine AWP.canon live ?_
 rw [h0]
 exact h
end
variable {yv : Value}{nt : Nat}
theorem z3S {tt : TT}    {nt : Nat} {caps : List A} {yv : Value} {o o' : Q3} (hT : xH P tt) (hf : P.funcs[k]? = some fn) (hnm : (fn.name == "runtime.NumGoroutine") = false) (hb : fn.body = some body)
  (hn : nt = fn.ntmps) (hr : fn.results = #[]) (ha : caps.length + 1 ≤ fn.ntmps)
  (h : ∀ E : Exit → St → Prop, (∀ ex st, (ex = .normal ∨ ex = .ret) → canon [0] st = ofL [(0, .own (.opq o'.q))] → E ex st) →
   AWP P ⟨nt, [(0, yv)]⟩ body (ofL (z2J 0 (.opq o.q :: caps))) (Qf P ⟨nt, [(0, yv)]⟩ [] E)) : wo P (.fn k caps) [.atom yv] [(yv, .opq o.q)] (.tup []) [.opq o'.q] := by
 subst hn
 refine KQ (tt := tt) (rs := []) [0] (args := [.atom yv]) (caps := caps) (xs := [.opq o.q]) (vals := [yv]) hT hf hnm hb hr (by simpa using ha) (by simp) (by simp) rfl ?_
 rw [z1P]
 refine h _ ?_
 intro ex st hx hc
 refine ⟨hx, ?_⟩
 have h0 := congrFun hc 0
 rw [kl] at h0
 simp only [List.mem_singleton, if_true, ofL, Ent.mk.injEq, and_true] at h0
 have h1 : (st 0).t = .own (.opq o'.q) := by
  unfold z6b at h0
  cases hx : (st 0).t with
  | own a => simpa only [hx] using h0
  | d a => simp only [hx] at h0; cases h0
  | gone => simp only [hx] at h0; cases h0
  | _ => simp only [hx] at h0; split at h0 <;> cases h0
 have h2 : WU [0] st = some ([.opq o'.q], [0], []) := by
  simp only [WU]
  show SM.bind (rdE 0) _ st = _
  unfold SM.bind
  simp only [rdE, ze, h1]
  rfl
 refine ⟨[0], [], ?_⟩
 simp only [zaA, List.map_nil]
 show SM.bind (shutArgs tt []) _ st = _
 unfold SM.bind
 simp only [shutArgs]
 simp only [pure, SM.pure, bind, SM.bind, ze, h2]
 rfl
theorem z8c {nt : Nat} {caps : List A}  {enc : β → Bool → Value → List A} {F : ∀ {σ : Type}, (σ → β → Option (σ × Bool)) → σ → Option σ} (hT : xH P tt) (hf : P.funcs[k]? = some fn) (hnm : (fn.name == "runtime.NumGoroutine") = false) (hb : fn.body = some body)
  (hn : nt = fn.ntmps) (hr : fn.results = #[]) (ha : caps.length + 1 ≤ fn.ntmps)
  (h : ∀ (σ : Type) (yv : Value) (Y : σ → Q3) (y : σ → β → Option (σ × Bool)), YOk P yv Y enc y → ∀ s s', F y s = some s' → ∀ E : Exit → St → Prop, (∀ ex st, (ex = .normal ∨ ex = .ret) → canon [0] st = ofL [(0, .own (.opq (Y s').q))] → E ex st) →
   AWP P ⟨nt, [(0, yv)]⟩ body (ofL (z2J 0 (.opq (Y s).q :: caps))) (Qf P ⟨nt, [(0, yv)]⟩ [] E)) : z8H P (.fn k caps) enc F := fun σ yv Y y hy s s' hs => z3S hT hf hnm hb hn hr ha (h σ yv Y y hy s s' hs)
def z5u (tt : TT) (n : Fr) (ty : Nat) (x : T) : HM A :=
 match x with
 | .als r p er ec =>
  match Va n.pin r with
  | some _ => zT (refT tt n ty (.als r p er ec))
  | none => Qn tt ty (.als r p er ec)
 | x => Qn tt ty x
theorem z9p (tt : TT) (n : Fr) (ty : Nat) (x : T) : Snd (refT tt n ty x) (z5u tt n ty x) := by
 cases x with
 | als r p er ec =>
  cases hp : Va n.pin r with
  | some v => simp [z5u, hp]; exact zi _
  | none => simp [z5u, refT, hp]; exact Yf tt ty (.als r p er ec)
 | d a => exact Yf tt ty (.d a)
 | own a => exact Yf tt ty (.own a)
 | ptr r p er ec => exact Yf tt ty (.ptr r p er ec)
 | gone => exact Yf tt ty .gone
def XI (tt : TT) (n : Fr) : List (Operand × Nat) → HM (List A)
 | [] => pure []
 | (x, t) :: as_ => zT (opnd x) >>= fun y => z5u tt n t y >>= fun a => XI tt n as_ >>= fun bs => pure (a :: bs)
theorem XF (tt : TT) (n : Fr) : ∀ as_, Snd (refArgs tt n as_) (XI tt n as_)
 | [] => xz _
 | (x, t) :: as_ => za (zi _) fun y => za (z9p _ _ _ _) fun a => za (XF tt n as_) fun bs => xz _
open Classical in
def z7u (yv : Value) {σ β : Type} (Y : σ → Q3) (enc : β → Bool → Value → List A) (s : σ) (x : β) (s' : σ) (b : Bool) (v : Value) (f : A) (xs : List A) (ls : List (Value × A)) : Option (A × List A) :=
 if f = .atom yv ∧ ls = [(yv, .opq (Y s).q)] ∧ (∀ S vs, je (wJ S) xs vs → je (wJ S) (enc x b v) vs) then some (.atom (.bool b), [.opq (Y s').q]) else none
theorem z7s {σ β : Type} {Y : σ → Q3} {enc : β → Bool → Value → List A} {y : σ → β → Option (σ × Bool)} (hy : YOk P yv Y enc y) {s : σ} {x : β} {s' : σ}  (v : Value) (h : y s x = some (s', b)) :
  ∀ f xs ls r ys, z7u yv Y enc s x s' b v f xs ls = some (r, ys) → wo P f xs ls r ys := by
 intro f xs ls r ys e
 unfold z7u at e
 split at e
 ·rename_i hc
  obtain ⟨rfl, rfl, h3⟩ := hc
  cases e
  intro S w fv vs F hS hfv hvs
  exact hy s x s' b h v S w fv vs F hS hfv (h3 S vs hvs)
 ·cases e
theorem z7t {σ β : Type} {Y : σ → Q3} {enc : β → Bool → Value → List A} {s : σ} {x : β} {s' : σ}   (xs : List A) (h : Vv xs (enc x b v)) : z7u yv Y enc s x s' b v (.atom yv) xs [(yv, .opq (Y s).q)] = some (.atom (.bool b), [.opq (Y s').q]) := by
 unfold z7u
 rw [if_pos ⟨rfl, rfl, h.all⟩]
def z1J (tt : TT) (tab : A → List A → List (Value × A) → Option (A × List A)) (r : A) (ys : List A) (n : Fr) (dst : Option Nat) (f : Operand) (as_ : List (Operand × Nat)) (L : List Nat) : HM Unit :=
 XI tt n [(f, 0)] >>= fun fs => XI tt n as_ >>= fun xs => zT (lentsA n L) >>= fun ls =>
  match fs with
  | [fa] => z6K (tab fa xs ls = some (r, ys)) >>= fun _ => zT (backsA L ys >>= fun _ => wrT n dst (mkT r))
  | _ => zx
theorem z35 (tt : TT) (tab : A → List A → List (Value × A) → Option (A × List A)) (r : A) (ys : List A) (n : Fr) (dst : Option Nat) (f : Operand) (as_ : List (Operand × Nat)) (L : List Nat) : Snd (lentQ tt tab n dst f as_ L) (z1J tt tab r ys n dst f as_ L) := by
 unfold lentQ z1J
 refine za (XF _ _ _) fun fs => za (XF _ _ _) fun xs => za (zi _) fun ls => ?_
 rcases fs with _ | ⟨fa, _ | ⟨z, l⟩⟩
 ·exact zl _
 ·refine Xa fun h => ?_
  simp [h]
  exact zi _
 ·exact zl _
def z6u (tt : TT)  {σ β : Type} {Y : σ → Q3} {enc : β → Bool → Value → List A} {y : σ → β → Option (σ × Bool)} (hy : YOk P yv Y enc y) (d : Nat) {s : σ} {x : β} {s' : σ}  (v : Value) (h : y s x = some (s', b)) : XH P := {
 e := Zz tt (z7u yv Y enc s x s' b v) d [0]
 h := fun n o => match o.op with
  | .call ⟨.value f, args, tys⟩ => if o.dst = some d ∧ args.size = tys.size then some (z1J tt (z7u yv Y enc s x s' b v) (.atom (.bool b)) [.opq (Y s').q] n o.dst f (args.toList.zip tys.toList) [0]) else none
  | _ => none
 ok := QH (z7s hy v h) d [0]
 none := by
  intro n o e
  unfold Zz at e
  split at e
  ·rename_i ho
   split at e
   ·cases e
   ·rename_i hd; simp [ho, if_neg hd]
  ·rename_i hne
   split
   ·rename_i ho2; exact absurd ho2 (by intro h; exact hne _ _ _ h)
   ·rfl
 some := by
  intro n o m e
  unfold Zz at e
  split at e
  ·rename_i ho
   split at e
   ·rename_i hd; cases e
    refine ⟨_, ?_, z35 tt (z7u yv Y enc s x s' b v) (.atom (.bool b)) [.opq (Y s').q] n o.dst _ _ [0]⟩
    rw [ho]
    exact if_pos hd
   ·cases e
  ·cases e }
variable {M : Nat → Prop}{df : List Nat}{w0 : World}
theorem Sim.pinned {S0 : zf}        (h : Sim ⟨n, df, w0, S0, M⟩ S Fp X st a w) (k : Nat) : Sim ⟨⟨n.size, (k, Act.tv a k) :: n.pin⟩, df, w0, S0, M⟩ S Fp X st a w := {
 size := h.size
 pin := fun j u hj => by
  rcases List.mem_cons.1 hj with e | hj
  ·cases e; rfl
  ·exact h.pin j u hj
 defers := h.defers
 below := h.below
 mine := h.mine
 still := h.still
 sinc := h.sinc
 sbase := h.sbase
 ent := h.ent
 disj := h.disj
 base := h.base
 xn := h.xn
 xd := h.xd
 xb := h.xb }
theorem Sim.unpinned {S0 : zf}        (h : Sim ⟨⟨n.size, (k, v) :: n.pin⟩, df, w0, S0, M⟩ S Fp X st a w) : Sim ⟨n, df, w0, S0, M⟩ S Fp X st a w := {
 size := h.size
 pin := fun j u hj => h.pin j u (List.mem_cons_of_mem _ hj)
 defers := h.defers
 below := h.below
 mine := h.mine
 still := h.still
 sinc := h.sinc
 sbase := h.sbase
 ent := h.ent
 disj := h.disj
 base := h.base
 xn := h.xn
 xd := h.xd
 xb := h.xb }
theorem AWP.pin (k : Nat) (h : ∀ v, AWP P ⟨n.size, (k, v) :: n.pin⟩ c st Q) : AWP P n c st Q := by
 intro rd m df w0 S0 M S Fp a w hc hs
 refine wpIn_mono (h (Act.tv a k) rd m df w0 S0 M S Fp a w ⟨hc.nodup, hc.df, hc.rd⟩ (hs.pinned k)) ?_
 rintro e a' w' ⟨df', st1, S1, Fp1, h1, h2, h3⟩
 exact ⟨df', st1, S1, Fp1, h1.unpinned, h2, h3⟩
theorem z4s (e : fs = []) (k : Nat) (h : ∀ v, AWP P ⟨n.size, (k, v) :: n.pin⟩ c st (Qf P ⟨n.size, (k, v) :: n.pin⟩ [] Q)) : AWP P n c st (Qf P n fs Q) := by
 subst e
 exact AWP.pin k h
def zc1 (tt : TT) (n : Fr) (dst : Option Nat) (f : Nat) (caps : List Operand) : HM Unit :=
 XI tt n (caps.map fun x => (x, 0)) >>= fun xs => if xs.all Wm = true then zT (wrT n dst (.d (.fn f xs))) else zx
theorem zaZ (tt : TT) (n : Fr) (dst : Option Nat) (f : Nat) (caps : List Operand) : Snd (mkQ tt n dst f caps) (zc1 tt n dst f caps) :=
 za (XF _ _ _) fun xs => wW (zi _) (zl _)
def xMk (P : Program) (tt : TT) : XH P := {
 e := z2y tt
 h := fun n o => match o.op with
  | .makeFunc (.func f) ⟨[]⟩ caps => some (zc1 tt n o.dst f caps.toList)
  | _ => none
 ok := z5X P tt
 none := by
  intro n o e
  unfold z2y at e
  split at e
  ·cases e
  ·rename_i hne
   split
   ·rename_i ho2; exact absurd ho2 (by intro h; exact hne _ _ h)
   ·rfl
 some := by
  intro n o m e
  unfold z2y at e
  split at e
  ·rename_i ho; cases e
   refine ⟨_, ?_, zaZ tt n o.dst _ _⟩
   rw [ho]
  ·cases e }
open Classical in
def z7w (f : A) (xs : List A) (ls : List (Value × A)) (r : A) (ys : List A) (f' : A) (xs' : List A) (ls' : List (Value × A)) : Option (A × List A) :=
 if f' = f ∧ ls' = ls ∧ (∀ S vs, je (wJ S) xs' vs → je (wJ S) xs vs) then some (r, ys) else none
variable {ls : List (Value × A)}{ys : List A}{f : A}
theorem z7v (h : wo P f xs ls r ys) : ∀ f' xs' ls' r' ys', z7w f xs ls r ys f' xs' ls' = some (r', ys') → wo P f' xs' ls' r' ys' := by
 intro f' xs' ls' r' ys' e
 unfold z7w at e
 split at e
 ·rename_i hc
  obtain ⟨rfl, rfl, h3⟩ := hc
  cases e
  intro S w fv vs F hS hfv hvs
  exact h S w fv vs F hS hfv (h3 S vs hvs)
 ·cases e
theorem kp (xs' : List A) (h : Vv xs' xs) : z7w f xs ls r ys f xs' ls = some (r, ys) := by
 unfold z7w
 rw [if_pos ⟨rfl, rfl, h.all⟩]
def wV (tt : TT) (L : List Nat)      (h : wo P f xs ls r ys) (dd : Nat) : XH P := {
 e := Zz tt (z7w f xs ls r ys) dd L
 h := fun n o => match o.op with
  | .call ⟨.value g, args, tys⟩ => if o.dst = some dd ∧ args.size = tys.size then some (z1J tt (z7w f xs ls r ys) r ys n o.dst g (args.toList.zip tys.toList) L) else none
  | _ => none
 ok := QH (z7v h) dd L
 none := by
  intro n o e
  unfold Zz at e
  split at e
  ·rename_i ho
   split at e
   ·cases e
   ·rename_i hd; simp [ho, if_neg hd]
  ·rename_i hne
   split
   ·rename_i ho2; exact absurd ho2 (by intro h; exact hne _ _ _ h)
   ·rfl
 some := by
  intro n o m e
  unfold Zz at e
  split at e
  ·rename_i ho
   split at e
   ·rename_i hd; cases e
    refine ⟨_, ?_, z35 tt (z7w f xs ls r ys) r ys n o.dst _ _ L⟩
    rw [ho]
    exact if_pos hd
   ·cases e
  ·cases e }
theorem KF {st : St} : ∀ {is : List Nat} {ys : List A}, is.length = ys.length → (∀ p ∈ is.zip ys, (st p.1).t = .own p.2) → WU is st = some (ys, is, [])
 | [], [], _, _ => rfl
 | i :: is, y :: ys, hl, h => by
  have h1 : (st i).t = .own y := h (i, y) (by simp)
  have h2 := KF (st := st) (is := is) (ys := ys) (by simpa using hl) (fun p hp => h p (by simp [hp]))
  simp only [WU]
  show SM.bind (rdE i) _ st = _
  unfold SM.bind
  simp only [rdE, ze, h1, bind, SM.bind, h2, pure, SM.pure]
  simp
 | [], _ :: _, hl, _ => by simp at hl
 | _ :: _, [], hl, _ => by simp at hl
theorem z6a {live : List Nat}    (h : z6b live st k = .own y) : (st k).t = .own y := by
 unfold z6b at h
 cases hx : (st k).t with
 | own a => simpa only [hx] using h
 | d a => simp only [hx] at h; cases h
 | gone => simp only [hx] at h; cases h
 | _ => simp only [hx] at h; split at h <;> cases h
theorem VD {tt : TT}    {nt : Nat} (is : List Nat) {args caps xs : List A} {vals : List Value} {ys : List A} (hT : xH P tt) (hf : P.funcs[k]? = some fn) (hnm : (fn.name == "runtime.NumGoroutine") = false) (hb : fn.body = some body)
  (hn : nt = fn.ntmps) (hr : fn.results = #[]) (ha : (args ++ caps).length ≤ fn.ntmps) (hnd : is.Nodup) (hbase : is.map (fun i => (args ++ caps)[i]?) = vals.map (fun v => some (.atom v))) (hl : xs.length = vals.length)
  (h : ∀ E : Exit → St → Prop, (∀ ex st, (ex = .normal ∨ ex = .ret) → (∀ p ∈ is.zip ys, (st p.1).t = .own p.2) → E ex st) →
   AWP P ⟨nt, is.zip vals⟩ body (ofL (z2J 0 (WP (args ++ caps) is xs))) (Qf P ⟨nt, is.zip vals⟩ [] E)) (hy : is.length = ys.length) : wo P (.fn k caps) args (vals.zip xs) (.tup []) ys := by
 subst hn
 refine KQ (tt := tt) (rs := []) is hT hf hnm hb hr ha hnd hbase hl ?_
 rw [z1P]
 refine h _ ?_
 intro ex st hx hc
 refine ⟨hx, is, [], ?_⟩
 have h2 := KF hy hc
 simp [zaA, List.map_nil]
 show SM.bind (shutArgs tt []) _ st = _
 unfold SM.bind
 simp [shutArgs]
 simp [pure, SM.pure, bind, SM.bind, ze, h2]
 show (match (match (SM.pure (A.tup [], ys) : SM (A × List A)) st with | none => none | some (b, R', U') => some (b, is ++ R', [] ++ U')) with | none => none | some (b, R', U') => some (b, [] ++ R', [] ++ U')) = _
 simp [SM.pure]
theorem z9J {live : List Nat}   (hc : canon live st = ofL l)   (hk : live.contains k = true) (hy : (ofL l k).t = .own y) : (st k).t = .own y := by
 have := congrFun hc k
 rw [kl, if_pos (List.contains_iff_mem.1 hk)] at this
 rw [← this] at hy
 exact z6a hy
def z71 (live : List Nat) (l : List (Nat × T)) : List Nat → List A → Prop
 | i :: is, y :: ys => (live.contains i = true ∧ (ofL l i).t = .own y) ∧ z71 live l is ys
 | _, _ => True
theorem j8 {live : List Nat}   (hc : canon live st = ofL l) : ∀ {is : List Nat} {ys : List A}, z71 live l is ys → ∀ p ∈ is.zip ys, (st p.1).t = .own p.2
 | [], _, _, p, hp => by simp at hp
 | _ :: _, [], _, p, hp => by simp at hp
 | i :: is, y :: ys, h, p, hp => by
  rcases List.mem_cons.1 hp with rfl | hp
  ·exact z9J hc h.1.1 h.1.2
  ·exact j8 hc h.2 p hp
theorem z8x {c x y : Code}    (e : c = .seq x y) (E : St → Prop) (h : AWP P n x st (Qf P n [] (fun e st1 => e = .normal ∧ E st1))) (h2 : ∀ st1, E st1 → AWP P n y st1 (Qf P n fs Q)) : AWP P n c st (Qf P n fs Q) := by
 subst e
 refine AWP.seq (AWP.mono h ?_)
 rintro e st1 ⟨rfl, q⟩
 exact h2 st1 q
theorem z0f {c x y : Code}    (e : c = .seq x y) (k : Nat) (E : St → Prop) (h : ∀ v, AWP P ⟨n.size, (k, v) :: n.pin⟩ x st (Qf P ⟨n.size, (k, v) :: n.pin⟩ [] (fun e st1 => e = .normal ∧ E st1))) (h2 : ∀ st1, E st1 → AWP P n y st1 (Qf P n fs Q)) : AWP P n c st (Qf P n fs Q) :=
 z8x e E (AWP.pin k fun v => h v) h2
section
variable {C : Ctx} {S : zf} {Fp : Nat → List Nat} {st : St} {a : Act} {w : World}
open Classical in
def mvQ (n : Fr) (dst : Option Nat) (s : Nat) (v : Value) : SM Unit := if Va n.pin s = some v then wrT n dst (.d (.atom v)) else zm
open Classical in
theorem Loc.mvQ (n : Fr) (dst : Option Nat) (s : Nat) (v : Value) : Loc (mvQ n dst s v) := by
 unfold Go.Own.mvQ
 exact Loc.ite (Loc.wrT _ _ _) Loc.fail
def zc0 (n : Fr) (dst : Option Nat) (s : Nat) (v : Value) : HM Unit := j9 (Va n.pin s = some v) (zT (wrT n dst (.d (.atom v))))
open Classical in
theorem zcw (n : Fr) (dst : Option Nat) (s : Nat) (v : Value) : Snd (mvQ n dst s v) (zc0 n dst s v) := vA (zi _)
theorem z9O (h : Sim C S Fp [] st a w)  {s : Nat} {v : Value} (hv : v.oneCell' = true) (ho : o.op = .move (.tmp s))    (e : mvQ C.n o.dst s v st = some (u, R, U)) : vX P C o a w (ze U st) := by
 unfold mvQ at e
 split at e
 ·rename_i hp
  have hs := h.pin s v (uw hp)
  have ⟨Fp', hs'⟩ := xP h e (x := .d (.atom v)) (v := v) (zo.2 ⟨rfl, hv⟩)
  refine zk ?_ hs'
  have ev : a.eval (.tmp s) = v := hs
  simp [execOp, ho, ev]
 ·cases e
def xMv (P : Program) (d s : Nat) (v : Value) (hv : v.oneCell' = true) : XH P := {
 e := fun n o => match o.op with | .move (.tmp t) => if o.dst = some d ∧ t = s then some (mvQ n o.dst s v) else none | _ => none
 h := fun n o => match o.op with | .move (.tmp t) => if o.dst = some d ∧ t = s then some (zc0 n o.dst s v) else none | _ => none
 ok := by
  refine ⟨?_, ?_⟩
  ·intro C S Fp st a w o m u R U e h h2
   dsimp only at e
   split at e
   ·rename_i t ho
    split at e
    ·rename_i hd
     obtain ⟨_, rfl⟩ := hd
     cases e; exact z9O h hv ho h2
    ·cases e
   ·cases e
  ·intro n o m e
   dsimp only at e
   split at e
   ·split at e
    ·cases e
     exact fun st st' a R U => Loc.mvQ _ _ _ _ st st' a R U
    ·cases e
   ·cases e
 none := by
  intro n o e
  skip
  split at e
  ·split at e
   ·cases e
   ·rename_i hd; rw [if_neg hd]
  ·rfl
 some := by
  intro n o m e
  skip
  split at e
  ·split at e
   ·rename_i hd; cases e; exact ⟨_, by rw [if_pos hd], zcw _ _ _ _⟩
   ·cases e
  ·cases e }
end
theorem JU (e : fs = []) (k : Nat)  (hk : (st k).t = .own y) (ho : z5B y = true) (h : ∀ v, v.oneCell' = true → AWP P ⟨n.size, (k, v) :: n.pin⟩ c st (Qf P ⟨n.size, (k, v) :: n.pin⟩ [] Q)) : AWP P n c st (Qf P n fs Q) := by
 subst e
 intro rd m df w0 S0 M S Fp a w hc hs
 have hone : (Act.tv a k).oneCell' = true := by
  have q := hs.ent k
  unfold xh at q
  simp [hk] at q
  have ⟨cs, c1, _, hv⟩ := q
  have hcs := Jy ho c1
  rw [hv]
  exact c1.one1 (Wn ho) _ (by have q := List.mem_singleton_self (zI y cs); rwa [← hcs] at q)
 refine wpIn_mono (h (Act.tv a k) hone rd m df w0 S0 M S Fp a w ⟨hc.nodup, hc.df, hc.rd⟩ (hs.pinned k)) ?_
 rintro e a' w' ⟨df', st1, S1, Fp1, h1, h2, h3⟩
 exact ⟨df', st1, S1, Fp1, h1.unpinned, h2, h3⟩
def z0j (P : Program) (t i e off : Nat) : Prop := ∃ (fs : Array Field) (f : Field), P.underlying t = some (.struct fs) ∧ fs[i]? = some f ∧ f.type = e ∧ f.offset = off
variable {t i e off : Nat}
theorem z0a {fs : Array Field} (h : P.underlying t = some (.struct fs)) (f : Field) (h1 : fs[i]? = some f) (h2 : f.type = e) (h3 : f.offset = off) : z0j P t i e off := ⟨fs, f, h, h1, h2, h3⟩
def fldO (tt : TT) (n : Fr) (dst : Option Nat) (i e off : Nat) (x : Operand) : SM Unit := do
 let tx ← opnd x
 let vx ← val tx
 match vx with
 | .agg fs => match fs[i]? with
  | some y => if uN tt e y = true ∧ y.isD = true ∧ A.sizes (fs.take i) = off then wrT n dst (.d y) else zm
  | none => zm
 | _ => zm
def zcb (tt : TT) (n : Fr) (dst : Option Nat) (i e off : Nat) (x : Operand) : HM Unit := zT (opnd x) >>= fun tx => VT tx >>= fun vx =>
 zT (match vx with
 | .agg fs => match fs[i]? with
  | some y => if uN tt e y = true ∧ y.isD = true ∧ A.sizes (fs.take i) = off then wrT n dst (.d y) else zm
  | none => zm
 | _ => zm)
theorem zb0 (tt : TT) (n : Fr) (dst : Option Nat) (i e off : Nat) (x : Operand) : Snd (fldO tt n dst i e off x) (zcb tt n dst i e off x) :=
 za (zi _) fun _ => za (jS _) fun _ => zi _
theorem Loc.fldO (tt : TT) (n : Fr) (dst : Option Nat) (i e off : Nat) (x : Operand) : Loc (fldO tt n dst i e off x) := by
 unfold Go.Own.fldO
 refine Loc.bind (Loc.opnd _) fun _ => Loc.bind (Loc.val _) fun _ => ?_
 split
 ·split
  ·exact Loc.ite (Loc.wrT _ _ _) Loc.fail
  ·exact Loc.fail
 ·exact Loc.fail
variable {x : Operand}
section
variable {C : Ctx} {S : zf} {Fp : Nat → List Nat} {st : St} {a : Act} {w : World}
theorem za0 {P : Program}  (hT : xH P tt)  (hf : z0j P t i e off) (h : Sim C S Fp [] st a w)  {x : Operand} (ho : o.op = .field t x i)    (e0 : fldO tt C.n o.dst i e off x st = some (u, R, U)) : vX P C o a w (ze U st) := by
 unfold fldO at e0
 have ⟨tx, _, hx, e1⟩ := bR (zu h) e0
 have ⟨vx, _, qx, e2⟩ := bR (vY h hx) e1
 split at e2
 ·rename_i fs
  cases hy : fs[i]? with
  | none => simp only [hy] at e2; cases e2
  | some y =>
   simp only [hy] at e2
   split at e2
   ·rename_i hc
    have ⟨c1, c2, c3⟩ := hc
    have ⟨fds, f, f1, f2, f3, f4⟩ := hf
    have ⟨cs, r1, r2⟩ := (qx : wJ S (.agg fs) (a.eval x))
    simp only [Rep] at r1
    obtain ⟨d1, ci, d2, rfl, hl, hr⟩ := Zi r1 hy
    have ⟨Fp', hs⟩ := xP h e2 (x := .d y) (wJ.repV ⟨ci, hr, rfl⟩)
    refine zk ?_ hs
    have hp := z1p (P := P) hT c1 (w := w) (c1 := d1) (c2 := d2) hr.len
    rw [hl, c3] at hp
    have ex : a.eval x = .agg (d1 ++ ci ++ d2).toArray := r2
    simp only [execOp, ho, Instr.field, ex, asAgg, Sem.run_bind, Sem.run_pure, Result.andThen_ok, run_underlying f1, f2, f3, f4, hp]
   ·cases e2
 ·cases e2
end
def zbt (hT : xH P tt)  (hf : z0j P t i e off) : XH P := {
 e := fun n o => match o.op with | .field t' x i' => if t' = t ∧ i' = i then some (fldO tt n o.dst i e off x) else none | _ => none
 h := fun n o => match o.op with | .field t' x i' => if t' = t ∧ i' = i then some (zcb tt n o.dst i e off x) else none | _ => none
 ok := by
  refine ⟨?_, ?_⟩
  ·intro C S Fp st a w o m u R U e0 h h2
   dsimp only at e0
   split at e0
   ·rename_i t' x i' ho
    split at e0
    ·rename_i hd
     obtain ⟨rfl, rfl⟩ := hd
     cases e0; exact za0 hT hf h ho h2
    ·cases e0
   ·cases e0
  ·intro n o m e0
   dsimp only at e0
   split at e0
   ·split at e0
    ·cases e0
     exact fun st st' a R U => Loc.fldO _ _ _ _ _ _ _ st st' a R U
    ·cases e0
   ·cases e0
 none := by
  intro n o e0
  skip
  split at e0
  ·split at e0
   ·cases e0
   ·rename_i hd; rw [if_neg hd]
  ·rfl
 some := by
  intro n o m e0
  skip
  split at e0
  ·split at e0
   ·rename_i hd; cases e0; exact ⟨_, by rw [if_pos hd], zb0 _ _ _ _ _ _ _⟩
   ·cases e0
  ·cases e0 }
open Classical
def qO (S : zf) (h : Array Obj) : List (Option A) → List Value → List Nat → Prop
 | [], [], F => F = []
 | none :: ys, _ :: vs, F => qO S h ys vs F
 | some y :: ys, v :: vs, F => ∃ F1 F2, F = F2 ++ F1 ∧ Has S h y v F1 ∧ qO S h ys vs F2
 | _, _, _ => False
theorem qO.frame {S S' : zf} {h h' : Array Obj} (hS : ∀ b o u, S b o = some u → S' b o = some u) : ∀ {ys : List (Option A)} {vs : List Value} {F : List Nat}, qO S h ys vs F → (∀ k ∈ F, h'[k]? = h[k]? ∧ ∀ o, S' k o = none) → qO S' h' ys vs F
 | [], [], _, q, _ => q
 | none :: ys, _ :: vs, F, q, hF => qO.frame (ys := ys) (vs := vs) (F := F) hS q hF
 | some _ :: _, _ :: _, _, ⟨F1, F2, e, q1, q2⟩, hF => ⟨F1, F2, e, q1.frame hS (fun k hk => hF k (by rw [e]; simp [hk])), qO.frame hS q2 (fun k hk => hF k (by rw [e]; simp [hk]))⟩
 | [], _ :: _, _, q, _ => q.elim
 | none :: _, [], _, q, _ => q.elim
 | some _ :: _, [], _, q, _ => q.elim
theorem qO.own : ∀ {ys : List (Option A)} {vs : List Value} {F : List Nat}, qO S h ys vs F → ∀ k ∈ F, k < h.size ∧ ∀ o, S k o = none
 | [], [], F, q, k, hk => by
  have e : F = [] := q
  subst e; simp at hk
 | none :: ys, _ :: vs, F, q, k, hk => qO.own (ys := ys) (vs := vs) (F := F) q k hk
 | some _ :: _, _ :: _, F, ⟨F1, F2, e, q1, q2⟩, k, hk => by
  subst e
  rcases List.mem_append.1 hk with hk | hk
  ·exact qO.own q2 k hk
  ·exact q1.own k hk
 | [], _ :: _, _, q, _, _ => q.elim
 | none :: _, [], _, q, _, _ => q.elim
 | some _ :: _, [], _, q, _, _ => q.elim
theorem qO.of : ∀ {ys : List A} {vs : List Value} {F : List Nat}, qu S h ys vs F → qO S h (ys.map some) vs F
 | [], [], _, q => q
 | _ :: _, _ :: _, _, ⟨F1, F2, e, q1, q2⟩ => ⟨F1, F2, e, q1, qO.of q2⟩
 | [], _ :: _, _, q => q.elim
 | _ :: _, [], _, q => q.elim
theorem qO.at : ∀ {ys : List (Option A)} {vs : List Value} {F : List Nat} {i : Nat} {y : A}, qO S h ys vs F → ys[i]? = some (some y) →
  ∃ v F1 F2, vs[i]? = some v ∧ Has S h y v F1 ∧ qO S h (ys.set i none) vs F2 ∧ (∀ k, k ∈ F ↔ k ∈ F1 ∨ k ∈ F2) ∧ (F.Nodup → F1.Nodup ∧ F2.Nodup ∧ ∀ k ∈ F1, k ∉ F2)
 | [], [], _, _, _, _, e => by simp at e
 | none :: ys, v :: vs, F, 0, y, q, e => by simp at e
 | none :: ys, v :: vs, F, i + 1, y, q, e => by
  obtain ⟨u, F1, F2, h1, h2, h3, h4, h5⟩ := qO.at (ys := ys) (vs := vs) (F := F) q (by simpa using e)
  exact ⟨u, F1, F2, by simpa using h1, h2, h3, h4, h5⟩
 | some z :: ys, v :: vs, F, 0, y, ⟨F1, F2, e1, q1, q2⟩, e => by
  simp [Option.some.injEq] at e
  subst e e1
  refine ⟨v, F1, F2, rfl, q1, q2, fun k => by rw [List.mem_append]; exact or_comm, fun hn => ?_⟩
  rw [List.nodup_append] at hn
  exact ⟨hn.2.1, hn.1, fun k hk hk' => hn.2.2 k hk' k hk rfl⟩
 | some z :: ys, v :: vs, F, i + 1, y, ⟨F1, F2, e1, q1, q2⟩, e => by
  obtain ⟨u, G1, G2, h1, h2, h3, h4, h5⟩ := qO.at q2 (by simpa using e)
  subst e1
  refine ⟨u, G1, G2 ++ F1, by simpa using h1, h2, ⟨F1, G2, rfl, q1, h3⟩, fun k => by simp [List.mem_append, h4 k, or_assoc], fun hn => ?_⟩
  rw [List.nodup_append] at hn
  obtain ⟨n1, n2, n3⟩ := h5 hn.1
  refine ⟨n1, ?_, ?_⟩
  ·rw [List.nodup_append]
   exact ⟨n2, hn.2.1, fun k hk k' hk' => hn.2.2 k ((h4 k).2 (.inr hk)) k' hk'⟩
  ·intro k hk hk'
   rcases List.mem_append.1 hk' with hk' | hk'
   ·exact n3 k hk hk'
   ·exact hn.2.2 k ((h4 k).2 (.inl hk)) k hk' rfl
 | [], _ :: _, _, _, _, q, _ => q.elim
 | none :: _, [], _, _, _, q, _ => q.elim
 | some _ :: _, [], _, _, _, q, _ => q.elim
def zG (xs : List (Option A)) : Opq := {
 holds := fun S h v F => ∃ vs : List Value, v = .tuple vs.toArray ∧ qO S h xs vs F
 multi := true
 one := fun ⟨vs, e, _⟩ => .inr ⟨rfl, _, e⟩
 frame := fun hS hF ⟨vs, e, q⟩ => ⟨vs, e, q.frame hS hF⟩
 own := fun ⟨_, _, q⟩ => q.own
 idx := 0 }
def z3E : A → Bool
 | .tup _ => false
 | _ => true
section
variable {P : Program} {C : Ctx} {S : zf} {Fp : Nat → List Nat} {X : List Nat} {st : St} {a : Act} {w : World}
def z5U (n : Fr) (dst : Option Nat) (xs : List (Option A)) (r : Nat) (e : Ent) (i : Nat) : SM Unit :=
 match xs[i]? with
 | some (some y) =>
  if y.isD = true then wrT n dst (.d y)
  else if z3E y = true then do
   wrE r ⟨.own (.opq (zG (xs.set i none))), e.er, e.ec + 1⟩
   wrT n dst (.own y)
  else zm
 | _ => zm
def z5W (n : Fr) (dst : Option Nat) (xs : List (Option A)) (x : Operand) (i : Nat) : SM Unit := do
 let tx ← opnd x
 match tx with
 | .als r [] er ec => do
  let e ← rdE r
  if e.t = .own (.opq (zG xs)) ∧ e.er = er then z5U n dst xs r e i
  else zm
 | _ => zm
theorem z5V (h : Sim C S Fp [] st a w)  {xs : List (Option A)} {x : Operand} {i : Nat} (ho : o.op = .extract x i)    (e : z5W C.n o.dst xs x i st = some (u, R, U)) : vX P C o a w (ze U st) := by
 unfold z5W at e
 have ⟨tx, _, hx, e1⟩ := bR (zu h) e
 split at e1
 ·rename_i r er ec
  have ⟨_, e2⟩ := bD e1
  split at e2
  ·rename_i hc
   have ⟨c1, c2⟩ := hc
   have hr := h.ent r
   unfold xh at hr
   simp only [c1] at hr
   have ⟨cs, k1, k2, k3⟩ := hr
   simp only [zw] at k1
   obtain ⟨v0, rfl, vs, rfl, g1⟩ := k1
   have hev : a.eval x = .tuple vs.toArray := by
    have := hx.2.2
    simp only [c1] at this
    rcases this c2 (.inl trivial) with ⟨_, q⟩ | ⟨q, _⟩
    ·rw [q, k3]; rfl
    ·simp [YO] at q
   unfold z5U at e2
   cases hy0 : xs[i]? with
   | none => simp only [hy0] at e2; cases e2
   | some yo =>
   cases yo with
   | none => simp only [hy0] at e2; cases e2
   | some y =>
    simp only [hy0] at e2
    have hy : xs[i]? = some (some y) := hy0
    have ⟨v, F1, F2, m1, m2, m3, m4, m5⟩ := g1.at hy
    have ⟨n1, n2, n3⟩ := m5 k2
    have run : (execOp a.eval o).run P w = .ok (.value v) w := by simp [execOp, ho, hev, Instr.extract, m1]
    split at e2
    ·rename_i hd
     have ⟨q1, _⟩ := z1S hd m2
     have ⟨Fp', hs⟩ := xP h e2 (x := .d y) q1.repV
     exact zk run hs
    ·split at e2
     ·rename_i hnt
      obtain ⟨u5, R5, U5, R6, U6, h5, h6, rfl, rfl⟩ := bind_some e2
      cases h5
      have ⟨cs, c3, c4, c5⟩ := m2.cells (by rintro fs rfl; cases hnt)
      have h2 : Sim C S (WO Fp r F2) (F1 ++ []) (upd st r ⟨.own (.opq (zG (xs.set i none))), (st r).er, (st r).ec + 1⟩) a w := by
       refine h.change r (.own (.opq (zG (xs.set i none)))) _ _ F2 h.below (fun _ _ _ q => q) h.still.cell h.sbase (fun t k _ hk => ⟨rfl, (h.free t k hk).2.1⟩) ⟨⟨[.tuple vs.toArray], ?_, n2, k3⟩, _, c1⟩ (.inl ⟨_, c1⟩) (Nat.le_refl _) (Nat.lt_succ_self _) ?_ ?_ (by simpa using n1) ?_ ?_ ?_
       ·simp only [zw]
        exact ⟨_, rfl, vs, rfl, m3⟩
       ·intro t k ht hk hk'
        exact ht (h.disj t r k hk' ((m4 k).2 (.inr hk)))
       ·intro k hk
        exact h.base r k ((m4 k).2 (.inr hk))
       ·intro t k ht hk hk'
        exact ht (h.disj t r k hk' ((m4 k).2 (.inl (by simpa using hk))))
       ·intro k hk
        exact n3 k (by simpa using hk)
       ·intro k hk
        exact h.base r k ((m4 k).2 (.inl (by simpa using hk)))
      simp only [ze] at h6 ⊢
      have ⟨Fp', hs⟩ := k9 h2 h6 c3 c4
      subst c5
      exact zk run hs
     ·cases e2
  ·cases e2
 ·cases e1
end
def za2 (n : Fr) (dst : Option Nat) (xs : List (Option A)) (x : Operand) (i : Nat) : HM Unit := zT (opnd x) >>= fun tx =>
 match tx with
 | .als r [] er ec => zT (rdE r) >>= fun e => j9 (e.t = .own (.opq (zG xs)) ∧ e.er = er) (zT (z5U n dst xs r e i))
 | _ => zx
theorem z9s (n : Fr) (dst : Option Nat) (xs : List (Option A)) (x : Operand) (i : Nat) : Snd (z5W n dst xs x i) (za2 n dst xs x i) := by
 refine za (zi _) fun tx => ?_
 cases tx with
 | als r p er ec =>
  cases p with
  | nil => exact za (zi _) fun e => vA (zi _)
  | cons _ _ => exact zl _
 | _ => exact zl _
def zt (P : Program) (d : Nat) (xs : List (Option A)) : XH P := {
 e := fun n o => match o.op with | .extract x i => if o.dst = some d then some (z5W n o.dst xs x i) else none | _ => none
 h := fun n o => match o.op with | .extract x i => if o.dst = some d then some (za2 n o.dst xs x i) else none | _ => none
 ok := by
  refine ⟨?_, ?_⟩
  ·intro C S Fp st a w o m u R U e h h2
   dsimp only at e
   split at e
   ·rename_i x i ho
    split at e
    ·cases e; exact z5V h ho h2
    ·cases e
   ·cases e
  ·intro n o m e
   dsimp only at e
   split at e
   ·split at e
    ·cases e
     refine Loc.bind (Loc.opnd _) fun tx => ?_
     split
     ·refine Loc.bind (Loc.rdE _) fun _ => Loc.ite ?_ Loc.fail
      unfold z5U
      split
      ·exact Loc.ite (Loc.wrT _ _ _) (Loc.ite (Loc.bind (Loc.wrE _ _) fun _ => Loc.wrT _ _ _) Loc.fail)
      ·exact Loc.fail
     ·exact Loc.fail
    ·cases e
   ·cases e
 none := by
  intro n o e
  skip
  split at e
  ·split at e
   ·cases e
   ·rename_i hd; rw [if_neg hd]
  ·rfl
 some := by
  intro n o m e
  skip
  split at e
  ·split at e
   ·rename_i hd; cases e; exact ⟨_, by rw [if_pos hd], z9s _ _ _ _ _⟩
   ·cases e
  ·cases e }
def z2v (tt : TT) (x : T) (c : Option Nat) : Option A :=
 match x, c with
 | .own y, none => if z3E y = true then some y else none
 | .own (.box y), some ty => if uN tt ty y = true then some y else none
 | _, _ => none
def zaq (tt : TT) (g : Bool) (t : Nat) (c : Option Nat) : SM A :=
 if g = true then do
  let e ← rdE t
  let x ← ofO (z2v tt e.t c)
  wrE t ⟨.gone, e.er + 1, e.ec + 1⟩
  pure x
 else do
  let xs ← shutArgs tt [(.tmp t, 0)]
  match c, xs with
  | none, [x] => pure x
  | some ty, [.sptr y] => if uN tt ty y = true then pure y else zm
  | _, _ => zm
def z3k (tt : TT) : List (Bool × Nat × Option Nat) → SM (List A)
 | [] => pure []
 | (g, t, c) :: rs => do
  let x ← zaq tt g t c
  let xs ← z3k tt rs
  pure (x :: xs)
def z7U (tt : TT) (rs : List (Bool × Nat × Option Nat)) : SM A := do
 let xs ← z3k tt rs
 match xs with
 | [y] => pure y
 | ys => pure (.opq (zG (ys.map some)))
variable {rs : List (Bool × Nat × Option Nat)}
section
variable {P : Program} {C : Ctx} {a : Act} {w : World}
def QT (P : Program) (a : Act) (w : World) (r : ResultVar) (v : Value) : Prop := ((fun r : ResultVar => match r with | .tmp t => (pure (a.tmps.getD t undef) : Sem Value) | .cell b t => do loadVar t (← asAddr (a.tmps.getD b undef))) r).run P w = .ok v w
theorem z7X (hT : xH P tt)     (h : Sim C S Fp X st a w) {g : Bool} {t : Nat} {c : Option Nat} {x : A}   (e : zaq tt g t c st = some (x, R, U)) :
  ∃ S' Fp' F v, Sim C S' Fp' (F ++ X) (ze U st) a w ∧ (∀ b o u, S b o = some u → S' b o = some u) ∧ (∀ k ∈ X, ∀ o, S k o = none → S' k o = none) ∧ Has S' w.heap x v F ∧ QT P a w (Ke (t, c)) v := by
 unfold zaq at e
 split at e
 ·have ⟨_, e1⟩ := bD e
  have ⟨x0, _, hk, e2⟩ := bO e1
  obtain ⟨u5, R5, U5, R6, U6, h5, h6, rfl, rfl⟩ := bind_some e2
  cases h5
  cases h6
  have hr := h.ent t
  unfold xh at hr
  have fin : ∀ F', (∃ y, (st t).t = .own y) → F'.Nodup → (∀ k ∈ F', k ∈ Fp t) → Sim C S (WO Fp t []) (F' ++ X) (upd st t ⟨.gone, (st t).er + 1, (st t).ec + 1⟩) a w := by
   intro F' ho hn hmem
   refine h.change t .gone _ _ [] h.below (fun _ _ _ q => q) h.still.cell h.sbase (fun t' k _ hk => ⟨rfl, (h.free t' k hk).2.1⟩) rfl (.inl ho) (Nat.le_succ _) (Nat.lt_succ_self _) (by simp) (by simp) ?_ ?_ (by simp) ?_
   ·rw [List.nodup_append]
    refine ⟨hn, h.xn, ?_⟩
    rintro m hm m' hm' rfl
    exact h.xd t m hm' (hmem m hm)
   ·intro t' k ht' hk
    rcases List.mem_append.1 hk with hk | hk
    ·exact fun hk' => ht' (h.disj t' t k hk' (hmem k hk))
    ·exact h.xd t' k hk
   ·intro k hk
    rcases List.mem_append.1 hk with hk | hk
    ·exact h.base t k (hmem k hk)
    ·exact h.xb k hk
  cases ht : (st t).t with
  | own z =>
   simp only [ht] at hr hk
   have ⟨cs, c1, c2, c3⟩ := hr
   cases c with
   | none =>
    have hz : x = z := by
     cases z <;> simp only [z2v, z3E] at hk <;> simpa using hk.symm
    subst hz
    refine ⟨S, WO Fp t [], Fp t, Act.tv a t, by simpa [ze] using fin (Fp t) ⟨_, ht⟩ c2 (fun _ h => h), fun _ _ _ q => q, fun _ _ _ q => q, .inr ⟨cs, c1, c2, c3⟩, ?_⟩
    simp only [QT, Ke]; exact Sem.run_pure ..
   | some ty =>
    cases z with
    | box y =>
     simp only [z2v] at hk
     split at hk
     ·rename_i hf
      simp only [Option.some.injEq] at hk
      subst hk
      simp only [zw] at c1
      obtain ⟨b, bty, l, F', rfl, d1, d2, d3, d4⟩ := c1
      have hn2 : (b :: F').Nodup := d3 ▸ c2
      refine ⟨S, WO Fp t [], F', zI y l, by simpa [ze] using fin F' ⟨_, ht⟩ (List.nodup_cons.1 hn2).2 (fun k hk => by rw [d3]; simp [hk]), fun _ _ _ q => q, fun _ _ _ q => q, .inr ⟨l, d2, (List.nodup_cons.1 hn2).2, rfl⟩, ?_⟩
      have hv : a.tmps.getD t undef = .pointer (some ⟨b, 0, none⟩) := c3
      simp only [QT, Ke]
      rw [hv]
      simp only [asAddr, Sem.run_bind, Sem.run_pure, Result.andThen_ok]
      refine qb hT hf d2.len ?_
      intro j u hj
      simp only [zU, d1, Nat.zero_add]
      simpa using hj
     ·cases hk
    | _ => simp only [z2v] at hk; cases hk
  | _ => simp only [ht, z2v] at hk; cases hk
 ·obtain ⟨xs, R1, U1, R2, U2, h1, e1, rfl, rfl⟩ := bind_some e
  have ⟨S1, Fp1, g1, g2, g3, g4⟩ := xW h h1
  split at e1
  ·cases e1
   refine ⟨S1, Fp1, [], Act.tv a t, by simpa using g1, g2, g3, .inl ⟨g4.1.repV, rfl⟩, ?_⟩
   simp only [QT, Ke]; exact Sem.run_pure ..
  ·rename_i ty y
   split at e1
   ·rename_i hf
    cases e1
    have ⟨cs, q1, q2⟩ := g4.1
    simp only [Rep] at q1
    obtain ⟨b, o, l, rfl, r1, r2⟩ := q1
    refine ⟨S1, Fp1, [], zI x l, by simpa using g1, g2, g3, .inl ⟨wJ.repV ⟨l, r1, rfl⟩, rfl⟩, ?_⟩
    have hv : a.tmps.getD t undef = .pointer (some ⟨b, o, none⟩) := q2
    simp only [QT, Ke]
    rw [hv]
    simp only [asAddr, Sem.run_bind, Sem.run_pure, Result.andThen_ok]
    exact qb hT hf r1.len (fun j u hj => g1.still _ _ _ (r2 j u hj))
   ·cases e1
  ·cases e1
theorem z1r (hT : xH P tt) : ∀ {rs : List (Bool × Nat × Option Nat)} {S : zf} {Fp : Nat → List Nat} {X : List Nat} {st : St}, Sim C S Fp X st a w → ∀ {xs : List A} {R : List Nat} {U : List (Nat × Ent)}, z3k tt rs st = some (xs, R, U) →
  ∃ S' Fp' G vs, Sim C S' Fp' (G ++ X) (ze U st) a w ∧ (∀ b o u, S b o = some u → S' b o = some u) ∧ (∀ k ∈ X, ∀ o, S k o = none → S' k o = none) ∧ qu S' w.heap xs vs G ∧ je (QT P a w) (rs.map fun r => Ke r.2) vs
 | [], S, Fp, X, st, h, xs, R, U, e => by
  cases e
  exact ⟨S, Fp, [], [], h, fun _ _ _ h => h, fun _ _ _ h => h, rfl, trivial⟩
 | (g, t, c) :: rs, S, Fp, X, st, h, xs, R, U, e => by
  simp [z3k] at e
  obtain ⟨y, R1, U1, R2, U2, h1, e1, rfl, rfl⟩ := bind_some e
  obtain ⟨ys, R3, U3, R4, U4, h3, e2, rfl, rfl⟩ := bind_some e1
  have ⟨S1, Fp1, F, v, g1, g2, g3, g4, g5⟩ := z7X hT h h1
  have ⟨S2, Fp2, G, vs, k1, k2, k3, k4, k5⟩ := z1r hT g1 h3
  cases e2
  refine ⟨S2, Fp2, G ++ F, v :: vs, ?_, fun b o u hs => k2 b o u (g2 b o u hs), fun k hk o hn => k3 k (by simp [hk]) o (g3 k hk o hn), ⟨F, G, rfl, g4.grow k2 (fun k hk o hn => k3 k (by simp [hk]) o hn), k4⟩, g5, k5⟩
  rw [List.append_nil, zr, List.append_assoc]
  exact k1
theorem z7T (hT : xH P tt)   (hr : fn.results = (rs.map fun r => Ke r.2).toArray)    (h : Sim C S Fp [] st a w) {x : A}   (e : z7U tt rs st = some (x, R, U)) :
  ∃ v S' F', (results fn a.tmps).run P w = .ok v w ∧ (∀ b o u, S b o = some u → S' b o = some u) ∧ (∀ b o, ¬ C.M b → S' b o = C.S0 b o) ∧ w5 S' w ∧ Has S' w.heap x v F' ∧ F'.Nodup ∧ ∀ k ∈ F', C.M k := by
 unfold z7U at e
 obtain ⟨xs, R1, U1, R2, U2, h1, e1, rfl, rfl⟩ := bind_some e
 have ⟨S1, Fp1, G, vs, g1, g2, _, g3, g4⟩ := z1r hT h h1
 have hrun : (results fn a.tmps).run P w = .ok (if h : vs.toArray.size = 1 then vs.toArray[0] else .tuple vs.toArray) w := by
  unfold results
  rw [hr, Array.mapM_eq_foldlM, List.foldlM_toArray, Sem.run_bind]
  have := Zh (P := P) (w := w) _ _ vs #[] g4
  rw [Array.empty_append] at this
  exact (congrArg (fun r => Result.andThen r (fun q w' => Sem.run P (pure (if h : q.size = 1 then q[0] else Value.tuple q)) w')) this).trans rfl
 have hn : G.Nodup := by have := g1.xn; simpa using this
 have hM : ∀ k ∈ G, C.M k := fun k hk => g1.xb k (by simp [hk])
 have many : ∀ ys : List A, qu S1 w.heap ys vs G → ys.length ≠ 1 → Has S1 w.heap (.opq (zG (ys.map some))) (.tuple vs.toArray) G ∧ vs.length ≠ 1 := by
  intro ys q hl
  refine ⟨.inr ⟨[.tuple vs.toArray], ?_, hn, rfl⟩, by rw [← q.nil]; exact hl⟩
  simp only [zw]
  exact ⟨_, rfl, vs, rfl, qO.of q⟩
 split at e1
 ·cases e1
  rcases vs with _ | ⟨v, _ | ⟨v2, l⟩⟩
  ·exact g3.elim
  ·obtain ⟨F1, F2, rfl, q1, q2⟩ := g3
   have e2 : F2 = [] := q2
   subst e2
   exact ⟨v, S1, F1, hrun, g2, g1.sbase, g1.still, q1, by simpa using hn, by simpa using hM⟩
  ·obtain ⟨F1, F2, rfl, q1, q2⟩ := g3
   exact q2.elim
 ·rename_i hne
  cases e1
  have ⟨m1, m2⟩ := many _ g3 (by
   intro hl
   have ⟨y, hy⟩ := List.length_eq_one_iff.1 hl
   exact hne y hy)
  rw [dif_neg (by simpa using m2)] at hrun
  exact ⟨_, S1, G, hrun, g2, g1.sbase, g1.still, m1, hn, hM⟩
end
class z8U (xs ys : List (Option A)) : Prop where
 all : ∀ S h vs F, qO S h xs vs F → qO S h ys vs F
instance z8U.nil : z8U [] [] := ⟨fun _ _ _ _ h => h⟩
instance z8U.cons (x y : A) (xs ys : List (Option A)) [h : LeV x y] [k : z8U xs ys] : z8U (some x :: xs) (some y :: ys) := ⟨fun S hp vs F q => by
 cases vs with
 | nil => exact q.elim
 | cons v vs =>
  have ⟨F1, F2, e, q1, q2⟩ := q
  exact ⟨F1, F2, e, h.has _ _ _ _ q1, k.all _ _ _ _ q2⟩⟩
instance LeV.tupq (xs ys : List (Option A)) [k : z8U xs ys] : LeV (.opq (zG xs)) (.opq (zG ys)) := ⟨fun S hp v F q => by
 rcases q with ⟨q, e⟩ | ⟨cs, q1, q2, q3⟩
 ·simp [yX, wJ, Rep, false_and] at q
 ·refine .inr ⟨cs, ?_, q2, q3⟩
  simp [zw] at q1 ⊢
  have ⟨u, e, vs, e2, q⟩ := q1
  exact ⟨u, e, vs, e2, k.all _ _ _ _ q⟩⟩
def z9A (tt : TT) (g : Bool) (t : Nat) (c : Option Nat) : HM A :=
 if g = true then zT (rdE t >>= fun e => ofO (z2v tt e.t c) >>= fun x => wrE t ⟨.gone, e.er + 1, e.ec + 1⟩ >>= fun _ => pure x)
 else vd tt [(.tmp t, 0)] >>= fun xs =>
  match c, xs with
  | none, [x] => pure x
  | some ty, [.sptr y] => if uN tt ty y = true then pure y else zx
  | _, _ => zx
theorem z9o (tt : TT) (g : Bool) (t : Nat) (c : Option Nat) : Snd (zaq tt g t c) (z9A tt g t c) := by
 refine wW (zi _) (za (vQ _ _) fun xs => ?_)
 split
 ·exact xz _
 ·exact wW (xz _) (zl _)
 ·exact zl _
def z3j (tt : TT) : List (Bool × Nat × Option Nat) → HM (List A)
 | [] => pure []
 | (g, t, c) :: rs => z9A tt g t c >>= fun x => z3j tt rs >>= fun xs => pure (x :: xs)
theorem z34 (tt : TT) : ∀ rs, Snd (z3k tt rs) (z3j tt rs)
 | [] => xz _
 | (g, t, c) :: rs => za (z9o tt g t c) fun x => za (z34 tt rs) fun xs => xz _
def z5r (tt : TT) (rs : List (Bool × Nat × Option Nat)) : HM A := z3j tt rs >>= fun xs =>
 match xs with
 | [y] => pure y
 | ys => pure (.opq (zG (ys.map some)))
theorem z9m (tt : TT) (rs : List (Bool × Nat × Option Nat)) : Snd (z7U tt rs) (z5r tt rs) := by
 refine za (z34 _ _) fun xs => ?_
 split <;> exact xz _
section
variable {P : Program} {tt : TT} {ctr : Ctr} {n : Fr} {Q : Exit → St → Prop}
theorem ZD {n : Fr}   {rs : List (Bool × Nat × Option Nat)} {ls : List A} {r : A} (hT : xH P tt) (hf : P.funcs[k]? = some fn) (hnm : (fn.name == "runtime.NumGoroutine") = false) (hb : fn.body = some body)
  (hn : n = ⟨fn.ntmps, []⟩) (hr : fn.results = (rs.map fun r => Ke r.2).toArray) (ha : ls.length ≤ fn.ntmps)
  (h : ∀ E : St → Prop, (∀ st x R U, z7U tt rs st = some (x, R, U) → LeV x r → E st) → AWP P n body (ofL (z2J 0 ls)) (Qf P n [] (z4L E))) : ZU P k ls r := by
 have h' := h (fun st => ∃ x R U, z7U tt rs st = some (x, R, U) ∧ LeV x r) fun st x R U h1 h2 => ⟨x, R, U, h1, h2⟩
 refine ⟨⟨fn, hf, hnm, by rw [hb]; rfl⟩, ?_⟩
 intro S w vs F hS hq hF
 have h2 : AWP P n body (ini ls) (fun ex st => (ex = .normal ∨ ex = .ret) ∧ ∃ x R U, z7U tt rs st = some (x, R, U) ∧ LeV x r) := by
  rw [z1P]
  refine AWP.mono h' ?_
  intro e st q
  cases e with
  | normal => exact ⟨.inl rfl, q⟩
  | ret => exact ⟨.inr rfl, q⟩
  | _ => exact q.elim
 refine Ww (R := fun w e w' => ∃ v' S' F', e = .returned v' ∧ ZQ (fun k => w.heap.size ≤ k ∨ k ∈ F) w w' ∧ (∀ b o u, S b o = some u → S' b o = some u) ∧ (∀ b o, b < w.heap.size → b ∉ F → S' b o = S b o) ∧ w5 S' w' ∧ Has S' w'.heap r v' F' ∧ F'.Nodup ∧
   ∀ k ∈ F', w.heap.size ≤ k ∨ k ∈ F) hf hb (by rw [hn]) (by rw [hn]; simp) ha hS hq hF h2 ?_
 rintro ex st' ⟨hx, x, R, U, h3, h4⟩
 refine ⟨hx, ?_⟩
 intro df S' Fp' a' w' h1
 have ⟨v, S2, F', hres, g1, g2, g3, g4, g5, g6⟩ := z7T (P := P) hT hr h1 h3
 refine ⟨_, hres, _, S2, F', rfl, h1.below, fun b o u hu => g1 _ _ _ (h1.sinc _ _ _ hu), ?_, g3, h4.has _ _ _ _ g4, g5, g6⟩
 intro b o hb' hbF
 exact g2 b o (by rintro (hq | hq) <;> first | omega | exact hbF hq)
def z9v (X : XH P) (tt : TT) (ctr : Ctr) (n : Fr) (rs : List (Bool × Nat × Option Nat)) (k : Nat) (c : Code) (fs : List Fm) (st : St) (hs : List H) : Option (A × List Prop) :=
 match z3f X tt ctr n k c fs st hs with
 | some (.fin .normal, st', hs', ob) => match z5r tt rs st' hs' with | some (x, _, _, [], ob') => some (x, ob ++ ob') | _ => none
 | some (.fin .ret, st', hs', ob) => match z5r tt rs st' hs' with | some (x, _, _, [], ob') => some (x, ob ++ ob') | _ => none
 | _ => none
theorem wU (X : XH P) (hT : xH P tt) (hC : zA P ctr) (hm : P.follows .mixedOrders = true) {E : St → Prop}   (hE : ∀ st x R U, z7U tt rs st = some (x, R, U) → LeV x r → E st) (k : Nat) {c : Code} {fs : List Fm} {st : St} {hs : List H} {x : A} (obs : List Ob)
  (e : z9v X tt ctr n rs k c fs st hs = some (x, obs.map Ob.p)) (hle : LeV x r) : AWP P n c st (Qf P n fs (z4L E)) := by
 unfold z9v at e
 have fin : ∀ {st' hs' ob}, (match z5r tt rs st' hs' with | some (x, _, _, [], ob') => some (x, ob ++ ob') | _ => none) = some (x, obs.map Ob.p) → Q5 ob ∧ E st' := by
  intro st' hs' ob e
  split at e
  ·rename_i x1 R U ob' he
   simp [Option.some.injEq, Prod.mk.injEq] at e
   obtain ⟨rfl, e2⟩ := e
   have ha := z1A obs
   rw [← e2] at ha
   have ⟨o1, o2⟩ := yw ha
   exact ⟨o1, hE _ _ _ _ (z9m tt rs _ _ _ _ _ _ _ he o2) hle⟩
  ·cases e
 split at e
 ·rename_i st' hs' ob' he
  have ⟨h1, h2⟩ := fin e
  exact Uc X hT hC hm k c fs st hs _ _ _ _ he h1 h2
 ·rename_i st' hs' ob' he
  have ⟨h1, h2⟩ := fin e
  exact Uc X hT hC hm k c fs st hs _ _ _ _ he h1 h2
 ·cases e
end
theorem lentCall (h : ZU P k as_ r) : wo P (.fn k []) as_ [] r [] := by
 intro S w fv vs F hS hfv hvs hH hF
 have hF0 : F = [] := hH
 subst hF0
 obtain ⟨cs, c1, c2⟩ := hfv
 simp only [Rep] at c1
 obtain ⟨us, u1, _, rfl⟩ := c1
 have hu : us = [] := by
  cases us with
  | nil => rfl
  | cons _ _ => simp [y5] at u1
 subst hu
 obtain ⟨⟨fn, f1, f2, f3⟩, hc⟩ := h
 refine .inl ⟨k, #[], fn, c2, f1, f2, f3, ?_⟩
 rw [Array.append_empty]
 have hass : ∀ {as_ : List A} {vs : List Value}, je (wJ S) as_ vs → qu S w.heap as_ vs [] := by
  intro as_
  induction as_ with
  | nil => intro vs q; cases vs with | nil => rfl | cons _ _ => exact q.elim
  | cons a as_ ih =>
   intro vs q
   cases vs with
   | nil => exact q.elim
   | cons v vs => exact ⟨[], [], rfl, .inl ⟨q.1.repV, rfl⟩, ih q.2⟩
 refine (hc S w vs [] hS (hass hvs) List.nodup_nil).mono ?_
 rintro e w' ⟨v', S', F', he, b1, b2, b3, b4, b5, b6, b7⟩
 exact ⟨v', he, S', F', [], b1, b2, b3, b4, b5, rfl, by simpa using b6, by simpa using b7⟩
theorem zn {c : Ctr} (hC : zA P c)  {α ρ : Type} {enc : α → List A} {encR : ρ → A} {F : α → Option ρ}  {inj : ∀ x y, enc x = enc y → x = y} (h : c.Has (spF k enc encR F gives inj)) {x : α} {r : ρ} (hr : F x = some r) : ZU P k (enc x) (encR r) := by
 have h1 := h.run x ⟨r, hr⟩
 have := hC.1 _ _ _ h1
 simpa only [spF, hr] using this
open Go.Proofs Go.Shelf
section
variable {α : Type}
def z2I (c : α → α → Int) (x : α) : List α → List α
 | [] => [x]
 | y :: l => if c y x < 0 then y :: z2I c x l else x :: y :: l
def Xh (c : α → α → Int) : List α → List α
 | [] => []
 | x :: l => z2I c x (Xh c l)
def SOk (c : α → α → Int) (l : List α) : Prop :=
 (∀ x ∈ l, ¬ c x x < 0) ∧ (∀ x ∈ l, ∀ y ∈ l, ∀ z ∈ l, c x y < 0 → c y z < 0 → c x z < 0) ∧ (∀ x ∈ l, ∀ y ∈ l, ¬ c x y < 0 → ¬ c y x < 0 → x = y)
instance [DecidableEq α] (c : α → α → Int) (l : List α) : Decidable (SOk c l) := by unfold SOk; infer_instance
def z30 [DecidableEq α] (cmp : α → α → Option Int) (l : List α) : Option (List α) :=
 gd (l.length ≤ 4294967296 ∧ ∀ x ∈ l, ∀ y ∈ l, (cmp x y).isSome = true) <| gd (SOk (fun x y => (cmp x y).getD 0) l) <| some (Xh (fun x y => (cmp x y).getD 0) l)
theorem SOk.ntr {c : α → α → Int} {l : List α} (h : SOk c l) : ∀ x ∈ l, ∀ y ∈ l, ∀ z ∈ l, ¬ c x y < 0 → ¬ c y z < 0 → ¬ c x z < 0 := by
 intro x hx y hy z hz h1 h2 h3
 by_cases h4 : c y x < 0
 ·exact h2 (h.2.1 y hy x hx z hz h4 h3)
 ·have := h.2.2 x hx y hy h1 h4
  subst this
  exact h2 h3
theorem Uz (c : α → α → Int) (x : α) : ∀ l, (z2I c x l).Perm (x :: l)
 | [] => .refl _
 | y :: l => by
  simp [z2I]
  split
  ·exact ((Uz c x l).cons y).trans (.swap x y l)
  ·exact .refl _
theorem qh (c : α → α → Int) : ∀ l, (Xh c l).Perm l
 | [] => .refl _
 | x :: l => (Uz c x _).trans ((qh c l).cons x)
theorem Uy {c : α → α → Int} {L : List α} (h : SOk c L) {x : α} (hx : x ∈ L) : ∀ {l : List α}, (∀ y ∈ l, y ∈ L) → l.Pairwise (fun a b => ¬ c b a < 0) → (z2I c x l).Pairwise (fun a b => ¬ c b a < 0)
 | [], _, _ => by simp [z2I]
 | y :: l, hl, hp => by
  have hy := hl y (by simp)
  have ⟨p1, p2⟩ := List.pairwise_cons.1 hp
  simp only [z2I]
  split
  ·rename_i hc
   refine List.pairwise_cons.2 ⟨?_, Uy h hx (fun z hz => hl z (by simp [hz])) p2⟩
   intro z hz
   rcases List.mem_cons.1 ((Uz c x l).mem_iff.1 hz) with rfl | hz
   ·exact fun q => h.1 _ hx (h.2.1 _ hx _ hy _ hx q hc)
   ·exact p1 z hz
  ·rename_i hc
   refine List.pairwise_cons.2 ⟨?_, hp⟩
   intro z hz
   rcases List.mem_cons.1 hz with rfl | hz
   ·exact hc
   ·exact h.ntr z (hl z (by simp [hz])) y hy x hx (p1 z hz) hc
theorem Ym {c : α → α → Int} {L : List α} (h : SOk c L) : ∀ {l : List α}, (∀ y ∈ l, y ∈ L) → (Xh c l).Pairwise (fun a b => ¬ c b a < 0)
 | [], _ => .nil
 | x :: l, hl => Uy h (hl x (by simp)) (fun y hy => hl y (by simp [(qh c l).mem_iff.1 hy])) (Ym h fun y hy => hl y (by simp [hy]))
theorem KU {c : α → α → Int} {l l' : List α} (h : SOk c l) (hp : l'.Perm l) (hs : l'.Pairwise (fun a b => ¬ c b a < 0)) : l' = Xh c l := by
 refine List.Perm.eq_of_pairwise (le := fun a b => ¬ c b a < 0) ?_ hs (Ym h fun _ q => q) (hp.trans (qh c l).symm)
 intro a b ha hb h1 h2
 exact h.2.2 a (hp.mem_iff.1 ha) b ((qh c l).mem_iff.1 hb) h2 h1
theorem z2k [DecidableEq α] {cmp : α → α → Option Int} {l l' : List α} (h : z30 cmp l = some l') : l.length ≤ 4294967296 ∧ (∀ x ∈ l, ∀ y ∈ l, cmp x y = some ((cmp x y).getD 0)) ∧ SOk (fun x y => (cmp x y).getD 0) l ∧ l' = Xh (fun x y => (cmp x y).getD 0) l := by
 have ⟨h1, h⟩ := gdE h
 have ⟨h2, h⟩ := gdE h
 refine ⟨h1.1, fun x hx y hy => ?_, h2, (zb h).symm⟩
 have := h1.2 x hx y hy
 cases hc : cmp x y with
 | none => rw [hc] at this; cases this
 | some _ => rfl
end
theorem za1 [Inhabited α] (enc : α → List Value) (k : Nat) (hk : ∀ x, (enc x).length = k) : ∀ l : List α, ((List.range (l.length * k)).map fun t => (enc l[t / k]!)[t % k]!) = l.flatMap enc
 | [] => by simp
 | x :: l => by
  rcases Nat.eq_zero_or_pos k with rfl | h0
  ·simp only [Nat.mul_zero, List.range_zero, List.map_nil]
   symm
   rw [List.flatMap_eq_nil_iff]
   intro y _
   exact List.eq_nil_of_length_eq_zero (hk y)
  rw [List.length_cons, Nat.add_mul, Nat.one_mul, Nat.add_comm, List.range_add, List.map_append, List.map_map, List.flatMap_cons]
  congr 1
  ·apply List.ext_getElem?
   intro i
   rw [List.getElem?_map]
   by_cases hi : i < k
   ·rw [List.getElem?_range hi, Option.map_some, Nat.div_eq_of_lt hi, Nat.mod_eq_of_lt hi]
    have : i < (enc x).length := by rw [hk]; exact hi
    simp [this]
   ·rw [List.getElem?_eq_none (by simpa using hi), List.getElem?_eq_none (by rw [hk]; omega)]; rfl
  ·rw [← za1 enc k hk l]
   apply List.map_congr_left
   intro t _
   simp only [Function.comp]
   rw [Nat.add_div_left _ h0, Nat.add_mod_left]
   simp
theorem WZ [Inhabited α] (enc : α → List Value) (k : Nat) (hk : ∀ x, (enc x).length = k) (d : Array α) : (Sort.flatK enc k d).toList = d.toList.flatMap enc := by
 rw [← za1 enc k hk d.toList]
 simp only [Sort.flatK, Array.toList_map, Array.toList_range, Array.length_toList]
 apply List.map_congr_left
 intro a _
 have : d.toList[a / k]! = d[a / k]! := by
  by_cases hlt : a / k < d.size
  ·rw [getElem!_pos d _ hlt, getElem!_pos d.toList _ (by simpa using hlt)]; simp
  ·rw [getElem!_neg d _ hlt, getElem!_neg d.toList _ (by simpa using hlt)]
 rw [this]
def z8F (P : Program) (kf k : Nat) (ag : Bool) : Prop := ∃ ρ, SlLaysF0.n6 P ρ ∧ ρ.f 6 = kf ∧ (∀ w, (isAgg (ρ.t 24)).run P w = .ok ag w) ∧ (∀ w, (Go.sizeOf (ρ.t 24)).run P w = .ok k w) ∧ (ag = false → k = 1)
theorem Qu {enc : α → A}  (hsz : ∀ x, (enc x).size = k) (L : List α) : ∀ {l : List α} {cs : List Value}, (∀ x ∈ l, x ∈ L) → y5 S (l.map enc) cs →
  ∃ d : List {p : List Value × α // Rep S (enc p.2) p.1 ∧ p.2 ∈ L}, d.map (fun p => p.1.2) = l ∧ d.flatMap (fun p => p.1.1) = cs
 | [], cs, _, h => by
  simp [List.map_nil, y5] at h
  exact ⟨[], rfl, by simp [h]⟩
 | x :: l, cs, hl, h => by
  simp [List.map_cons, y5] at h
  obtain ⟨c1, c2, rfl, h1, h2⟩ := h
  have ⟨d, e1, e2⟩ := Qu hsz L (fun y hy => hl y (by simp [hy])) h2
  exact ⟨⟨(c1, x), h1, hl x (by simp)⟩ :: d, by simp [e1], by simp [e2]⟩
theorem XG {enc : α → A} {L : List α} : ∀ (d : List {p : List Value × α // Rep S (enc p.2) p.1 ∧ p.2 ∈ L}), y5 S ((d.map fun p => p.1.2).map enc) (d.flatMap fun p => p.1.1)
 | [] => by simp [y5]
 | p :: d => by
  simp only [List.map_cons, List.flatMap_cons, y5]
  exact ⟨_, _, rfl, p.2.1, XG d⟩
variable {ag : Bool}
theorem z5e {ρ : Ren} {kf k t : Nat}  (hT : xH P tt) (L : SlLaysF0.n6 P ρ) (h6 : ρ.f 6 = kf) (h24 : ρ.t 24 = t) (hs : (tt t).map (fun i => (i.kind.isAgg, i.size)) = some (ag, k)) (h1 : ag = false → k = 1) : z8F P kf k ag := by
 have ⟨i, hi, he⟩ := Option.map_eq_some_iff.1 hs
 simp [Prod.mk.injEq] at he
 refine ⟨ρ, L, h6, fun w => ?_, fun w => ?_, h1⟩
 ·rw [h24, Yg (hT t i hi).kind w, he.1]
 ·rw [h24, vR hT hi w, he.2]
variable {arr : Array Value}
section
variable {α : Type} [Inhabited α] (enc : α → List Value) (k : Nat) (w : World) (b n : Nat) (d : Array α) (os : Array Obj)
theorem Jg {j : Nat} (hj : j < w.heap.size) (hb : j ≠ b) : (sortWorldK enc k w b 0 n d os).heap[j]? = w.heap[j]? := by
 show ((w.heap.modify b _) ++ os)[j]? = _
 rw [Array.getElem?_append_left (by simpa using hj), Array.getElem?_modify, if_neg (Ne.symm hb)]
theorem zaO {ty : TypeId} {fr : Nat × Nat} (hb : w.heap[b]? = some (.cells arr ty fr)) : (sortWorldK enc k w b 0 n d os).heap[b]? = some (.cells (Sort.putCells id 0 (Sort.flatK enc k d) arr) ty fr) := by
 have hlt := (Array.getElem?_eq_some_iff.1 hb).1
 show ((w.heap.modify b _) ++ os)[b]? = _
 rw [Array.getElem?_append_left (by simpa using hlt), Array.getElem?_modify, if_pos rfl, hb]
 rfl
theorem z7y : (sortWorldK enc k w b 0 n d os).heap.size = w.heap.size + os.size := by
 show ((w.heap.modify b _) ++ os).size = _
 simp
end
theorem Jp {D arr : Array Value} (h : D.size ≤ arr.size) : (Sort.putCells id 0 D arr).toList.take D.size = D.toList := by
 apply List.ext_getElem?
 intro i
 rw [List.getElem?_take]
 by_cases hi : i < D.size
 ·rw [if_pos hi]
  have : i < arr.size := by omega
  simp [Sort.putCells, hi, this]
 ·rw [if_neg hi, List.getElem?_eq_none (by simpa using hi)]
theorem Jq (D arr : Array Value) : (Sort.putCells id 0 D arr).size = arr.size := by simp [Sort.putCells]
theorem Kz : ∀ {caps : List A} {vs : List Value}, y5 S caps vs → (∀ c ∈ caps, c.size = 1 ∧ ∀ fs, c ≠ .agg fs) → je (wJ S) caps vs
 | [], vs, h, _ => by simp [y5] at h; subst h; trivial
 | c :: caps, vs, h, hc => by
  simp [y5] at h
  obtain ⟨c1, c2, rfl, h1, h2⟩ := h
  have ⟨s1, s2⟩ := hc c (by simp)
  have hl := h1.len
  rw [s1] at hl
  obtain ⟨u, rfl⟩ := List.length_eq_one_iff.1 hl
  refine ⟨⟨[u], h1, ?_⟩, Kz h2 fun x hx => hc x (by simp [hx])⟩
  cases c <;> first | rfl | exact absurd rfl (s2 _)
theorem WY : ∀ {bs : List A} {vs : List Value}, je (wJ S) bs vs → qu S h bs vs []
 | [], [], _ => rfl
 | _ :: _, _ :: _, q => ⟨[], [], rfl, .inl ⟨q.1.repV, rfl⟩, WY q.2⟩
 | [], _ :: _, q => q.elim
 | _ :: _, [], q => q.elim
theorem z3Q {w w' : World} (h : ZQ (fun k => w.heap.size ≤ k) w w') : ∃ q os', w' = Sort.grow (w.drewN q) os' := by
 refine ⟨w'.drawn - w.drawn, w'.heap.extract w.heap.size w'.heap.size, ?_⟩
 have h1 : w'.heap = w.heap ++ w'.heap.extract w.heap.size w'.heap.size := by
  apply Array.ext_getElem?
  intro i
  by_cases hi : i < w.heap.size
  ·rw [Array.getElem?_append_left hi]
   exact h.block i (by omega)
  ·rw [Array.getElem?_append_right (by omega), Array.getElem?_extract]
   by_cases h2 : i < w'.heap.size
   ·rw [if_pos (by omega)]
    congr 1; omega
   ·rw [if_neg (by omega), Array.getElem?_eq_none (by omega)]
 have h2 := h.drawn
 have h3 := h.os
 have h4 := h.tape
 have h5 := h.output
 cases w' with
 | mk heap tape drawn os output =>
  cases w with
  | mk heap0 tape0 drawn0 os0 output0 =>
   simp only at h1 h2 h3 h4 h5
   subst h3 h4 h5
   simp [Sort.grow, World.drewN, World.mk.injEq, true_and, and_true]
   exact ⟨h1, by omega⟩
theorem z6v [Inhabited α] (enc : α → List Value) (e1 : α → Value) (he : ∀ x, enc x = [e1 x]) (w : World) (b m : Nat) (d : Array α) (os : Array Obj) : sortWorld e1 w b 0 m d os = sortWorldK enc 1 w b 0 m d os := by
 have hflat : Sort.flatK enc 1 d = d.map e1 := by
  apply Array.ext
  ·simp [Sort.flatK]
  ·intro i h1 h2
   have hi : i < d.size := by simpa using h2
   have := Sort.get_flatK enc 1 d i (by omega)
   rw [getElem!_pos _ i h1] at this
   rw [this, he]
   simp [Nat.mod_one, hi]
 unfold sortWorld sortWorldK
 congr 1
 unfold Sort.putRowK Sort.putRow
 congr 1
 rw [hflat]
 funext c
 unfold Sort.putCells
 congr 1
 funext k x
 simp [Nat.zero_le, true_and, Nat.zero_add, Nat.sub_zero, Array.size_map, id]
 by_cases hk : k < d.size
 ·rw [if_pos hk, if_pos hk, getElem!_pos d k hk, getElem!_pos _ k (by simpa using hk)]; simp
 ·rw [if_neg hk, if_neg hk]
theorem z3U [Inhabited α] {enc : α → List Value} {e1 : α → Value} (he : ∀ x, enc x = [e1 x])  {b : Nat} {d : Array α} (h : Sort.HoldsK enc 1 w b 0 d) : Sort.Holds e1 w b 0 d := by
 intro j hj
 have := h j (by simpa using hj)
 rw [Sort.get_flatK enc 1 d j (by omega), he] at this
 simpa [Nat.mod_one] using this
theorem z2Z {P : Program} {kf k g : Nat}   [DecidableEq α] {f : α → A} [hD : z2G f] {t : Bool} {v : Value} {caps : List A} {cmp : α → α → Option Int} {l l' : List α} (hT : z8F P kf k ag) (hsz : ∀ x, (f x).size = k) (hag : ∀ x, (f x).isAgg = ag)
  (hc : ∀ x y c, cmp x y = some c → ZU P g (f x :: f y :: caps) (.atom (.int .i64 c))) (h : z30 cmp l = some l') : wo P (.fn kf []) [.atom v, .fn g caps] [(v, .osl k t (l.map f))] (.tup []) [.osl k t (l'.map f)] := by
 obtain ⟨hlen0, hcmp, hO, rfl⟩ := z2k h
 obtain ⟨ρ, L, rfl, aE, zE, hk1⟩ := hT
 intro S w fv vs F hS hfv hvs hH hF
 have ⟨cs, c1, c2⟩ := hfv
 simp only [Rep] at c1
 obtain ⟨us, u1, _, rfl⟩ := c1
 have hu : us = [] := by
  cases us with
  | nil => rfl
  | cons _ _ => simp [y5] at u1
 subst hu
 rcases vs with _ | ⟨v1, _ | ⟨v2, _ | ⟨v3, vs⟩⟩⟩
 ·exact hvs.elim
 ·exact hvs.2.elim
 case cons.cons.cons => exact hvs.2.2.elim
 have ⟨hv1, hv2, _⟩ := hvs
 obtain ⟨rfl, _⟩ := vg.1 hv1
 have ⟨cs2, d1, d2⟩ := hv2
 simp only [Rep] at d1
 obtain ⟨cv, d3, d4, rfl⟩ := d1
 have hcv := Kz d3 d4
 obtain ⟨F1, F2, rfl, q1, q2⟩ := hH
 have hF2 : F2 = [] := q2
 subst hF2
 rw [List.nil_append] at hF ⊢
 have act : ∀ R : Ending → World → Prop, Calls P (ρ.f 6) #[v1, .func (.func g) #[] cv.toArray] w R → Calls P (ρ.f 6) ([v1, v2].toArray ++ #[]) w R := by
  intro R q
  rw [d2, Array.append_empty]
  exact q
 have fnOk : ∃ fn, P.funcs[ρ.f 6]? = some fn ∧ (fn.name == "runtime.NumGoroutine") = false ∧ fn.body.isNone = false := by
  have ⟨nm, hne, FG⟩ := L.f6
  exact ⟨_, FG, by simpa using hne, rfl⟩
 have ⟨fn, f1, f2, f3⟩ := fnOk
 refine .inl ⟨ρ.f 6, #[], fn, c2, f1, f2, f3, act _ ?_⟩
 rcases q1 with ⟨q1, _⟩ | ⟨cs, q1, q3, q4⟩
 ·simp only [yX, wJ, Rep, false_and, exists_false] at q1
 simp only [zw] at q1
 obtain ⟨p, c, rfl, t1, t2, t3, t4, t5⟩ := q1
 have ev : v1 = .slice p l.length c := by
  have q5 : v1 = zI (.osl k t (l.map f)) [.slice p (l.map f).length c] := q4
  rw [q5]; simp [zI]
 subst ev
 simp only [List.length_map] at t1 t2 t5
 by_cases hl : l = []
 ·subst hl
  refine (AnyF.slices_SortFunc_none { L with } p c _ w).mono ?_
  rintro e w' ⟨rfl, rfl⟩
  refine ⟨.tuple #[], rfl, S, [], F1, ZQ.refl _ _, fun _ _ _ q => q, fun _ _ _ _ => rfl, hS, .inl ⟨?_, rfl⟩, ⟨F1, [], by simp, .inr ⟨[.slice p 0 c], ?_, q3, rfl⟩, rfl⟩, by simpa using hF, fun k hk => .inr (by simpa using hk)⟩
  ·simp only [yX]; exact ⟨[], rfl, trivial⟩
  ·simp only [Xh, List.map_nil, zw]
   exact ⟨p, c, rfl, t1, t2, t3, by simp, by simpa using t5⟩
 have hpos : 0 < l.length := List.length_pos_iff.2 hl
 rcases t5 with ⟨e, _⟩ | ⟨b, arr, ty, cl, F', rfl, e1, e2, e3, e4, rfl, e5⟩
 ·exact absurd (by simpa using e) hl
 obtain ⟨hr, rfl⟩ := e4.areD (dM f l)
 have ⟨d, g1, g2⟩ := Qu (S := S) hsz l (fun _ q => q) hr
 have hblk := (Array.getElem?_eq_some_iff.1 e1).1
 obtain ⟨x0, hx0⟩ : ∃ x, x ∈ d := by
  cases d with
  | nil => exact absurd g1.symm hl
  | cons x _ => exact ⟨x, by simp⟩
 letI : Inhabited {p : List Value × α // Rep S (f p.2) p.1 ∧ p.2 ∈ l} := ⟨x0⟩
 let enc : {p : List Value × α // Rep S (f p.2) p.1 ∧ p.2 ∈ l} → List Value := fun p => p.1.1
 let c0 : α → α → Int := fun x y => (cmp x y).getD 0
 have hk : ∀ x, (enc x).length = k := fun x => (x.2.1.len).trans (hsz _)
 have h1 : ∀ x, ∀ v ∈ enc x, v.oneCell' = true := fun x => x.2.1.one
 have hswo : Sort.SWO (ltOf fun x y : {p : List Value × α // Rep S (f p.2) p.1 ∧ p.2 ∈ l} => c0 x.1.2 y.1.2) := by
  refine ⟨fun x => ?_, fun x y z q1 q2 => ?_, fun x y z q1 q2 => ?_⟩
  ·simpa [ltOf] using hO.1 _ x.2.2
  ·simp only [ltOf, decide_eq_true_eq] at q1 q2 ⊢
   exact hO.2.1 _ x.2.2 _ y.2.2 _ z.2.2 q1 q2
  ·simp only [ltOf, decide_eq_false_iff_not] at q1 q2 ⊢
   exact hO.ntr _ x.2.2 _ y.2.2 _ z.2.2 q1 q2
 have hdl : d.length = l.length := by have := congrArg List.length g1; simpa using this
 have hD0 : (Sort.flatK enc k d.toArray).toList = cl := by rw [WZ enc k hk]; exact g2
 have hszF : ∀ d' : Array {p : List Value × α // Rep S (f p.2) p.1 ∧ p.2 ∈ l}, d'.size = d.length → (Sort.flatK enc k d').size = l.length * k := fun d' q => by rw [Sort.size_flatK, q, hdl]
 have hle : l.length * k ≤ arr.size := Nat.le_trans (Nat.mul_le_mul_right _ t2) e2
 have hH2 : Sort.HoldsK enc k w b 0 d.toArray := by
  intro j hj
  have hj' : j < cl.length := by rw [← hD0]; simpa using hj
  have hget : (Sort.flatK enc k d.toArray)[j]! = cl[j] := by
   rw [getElem!_pos _ j hj]
   have : (Sort.flatK enc k d.toArray).toList[j]'(by simpa using hj) = cl[j] := by simp only [hD0]
   simpa using this
  have hcell : arr[j]? = some cl[j] := by
   obtain ⟨u, hu⟩ : ∃ u, u = cl[j] := ⟨_, rfl⟩
   have q : cl[j]? = some u := by rw [hu]; exact List.getElem?_eq_getElem hj'
   rw [← hu]
   clear hget hu
   subst e3
   rw [List.getElem?_take] at q
   split at q
   ·simpa using q
   ·cases q
  constructor
  ·simp only [World.cell?, e1, Option.isSome_none, Bool.false_eq_true, if_false, Nat.zero_add, id, hget]
   exact hcell
  ·simp [World.frozen?, e1]
 have hst : ∀ n (d' : Array {p : List Value × α // Rep S (f p.2) p.1 ∧ p.2 ∈ l}) os, w5 S (sortWorldK enc k w b 0 n d' os) := by
  refine fun n d' os => ⟨?_, hS.gok, hS.blk.of (fun _ _ _ q => q) fun g x e => Jg enc k w b n d' os (hS.blk.lt e) (by rintro rfl; exact hS.blk.ne (e5 0) x e)⟩
  intro b' o' u hu
  have hne : b' ≠ b := by rintro rfl; rw [e5] at hu; cases hu
  have := hS b' o' u hu
  have hlt : b' < w.heap.size := by
   unfold zU at this
   cases hq : w.heap[b']? with
   | none => simp [hq] at this
   | some _ => exact (Array.getElem?_eq_some_iff.1 hq).1
  unfold zU at this ⊢
  rw [Jg enc k w b n d' os hlt hne]
  exact this
 have heg : Enters P g := by
  have ⟨⟨fn', p1, p2, p3⟩, _⟩ := hc x0.1.2 x0.1.2 _ (hcmp _ x0.2.2 _ x0.2.2)
  cases hb : fn'.body with
  | none => simp [hb] at p3
  | some body => exact enters_of p1 p2 hb
 have hcall0 : ∀ (m : Nat) (os : Array Obj) (dk : Array {p : List Value × α // Rep S (f p.2) p.1 ∧ p.2 ∈ l}) (x y : {p : List Value × α // Rep S (f p.2) p.1 ∧ p.2 ∈ l}),
   Calls P g (#[zI (f x.1.2) (enc x), zI (f y.1.2) (enc y)] ++ cv.toArray) (sortWorldK enc k w b 0 m dk os) fun e w' => e = .returned (.int .i64 (c0 x.1.2 y.1.2)) ∧ ∃ q os', w' = Sort.grow ((sortWorldK enc k w b 0 m dk os).drewN q) os' := by
  intro m os dk x y
  have hcall := (hc x.1.2 y.1.2 _ (hcmp _ x.2.2 _ y.2.2)).2 S (sortWorldK enc k w b 0 m dk os) (zI (f x.1.2) (enc x) :: zI (f y.1.2) (enc y) :: cv) [] (hst _ _ _)
   (WY ⟨⟨enc x, x.2.1, rfl⟩, ⟨enc y, y.2.1, rfl⟩, hcv⟩) List.nodup_nil
  have ea : (#[zI (f x.1.2) (enc x), zI (f y.1.2) (enc y)] ++ cv.toArray : Array Value) = (zI (f x.1.2) (enc x) :: zI (f y.1.2) (enc y) :: cv : List Value).toArray := by simp
  rw [ea]
  refine hcall.mono ?_
  rintro e w' ⟨v', S', F', rfl, b1, b2, b3, b4, b5, b6, b7⟩
  have hv : v' = .int .i64 (c0 x.1.2 y.1.2) := by
   rcases b5 with ⟨r, _⟩ | ⟨cs, r, _, r2⟩
   ·exact (zo.1 r).1
   ·simp only [zw, Rep] at r
    rw [r2, r.1.1]; rfl
  refine ⟨by rw [hv], z3Q (b1.mono fun k hk => ?_)⟩
  simpa using hk
 have hsz62 : d.toArray.size < 4611686018427387904 := by
  simp only [List.size_toArray, hdl]
  omega
 have hcon : Calls P (ρ.f 6) #[.slice (some ⟨b, 0, none⟩) d.toArray.size c, .func (.func g) #[] cv.toArray] w fun e w' =>
   e = .returned (.tuple #[]) ∧ ∃ d' n os, Sort.PermIn 0 d.toArray.size d.toArray d' ∧ Sort.SortedIn (ltOf fun x y : {p : List Value × α // Rep S (f p.2) p.1 ∧ p.2 ∈ l} => c0 x.1.2 y.1.2) 0 d.toArray.size d' ∧ w' = sortWorldK enc k w b 0 n d' os := by
  cases ag with
  | true =>
   refine AnyQ.slices_SortFunc (P := P) (ρ := ρ) L k aE zE enc hk h1 (fun x y => c0 x.1.2 y.1.2) hswo g cv.toArray b 0 c d.toArray w heg ?_ hH2 hblk hsz62
   intro m os dk hs x y
   have q := hcall0 m os dk x y
   have hx : ∀ z : {p : List Value × α // Rep S (f p.2) p.1 ∧ p.2 ∈ l}, zI (f z.1.2) (enc z) = .agg (enc z).toArray := by
    intro z
    have := hag z.1.2
    cases hz : f z.1.2 <;> simp [hz, A.isAgg] at this
    rfl
   rw [hx, hx] at q
   exact q
  | false =>
   have hk1' := hk1 rfl
   subst hk1'
   let e1 : {p : List Value × α // Rep S (f p.2) p.1 ∧ p.2 ∈ l} → Value := fun x => (enc x).headD undef
   have he : ∀ x, enc x = [e1 x] := by
    intro x
    have ⟨u, hu⟩ := List.length_eq_one_iff.1 (hk x)
    show enc x = [(enc x).headD undef]
    rw [hu]; rfl
   have hx : ∀ z : {p : List Value × α // Rep S (f p.2) p.1 ∧ p.2 ∈ l}, zI (f z.1.2) (enc z) = e1 z := by
    intro z
    have := hag z.1.2
    cases hz : f z.1.2 <;> simp [hz, A.isAgg] at this <;> rfl
   refine (Any.slices_SortFunc (P := P) (ρ := ρ) { L with a24 := aE, z24 := zE } e1 (fun x => h1 x _ (by rw [he x]; simp)) (fun x y => c0 x.1.2 y.1.2) hswo g cv.toArray b 0 c d.toArray w heg ?_ (z3U he hH2) hblk hsz62).mono ?_
   ·intro m os dk hs x y
    have q := hcall0 m os dk x y
    rw [hx, hx] at q
    rw [z6v enc e1 he]
    exact q
   ·rintro e w' ⟨q1, d', n, os, q2, q3, q4⟩
    exact ⟨q1, d', n, os, q2, q3, by rw [q4, z6v enc e1 he]⟩
 have ea2 : (#[.slice (some ⟨b, 0, none⟩) l.length c, .func (.func g) #[] cv.toArray] : Array Value) = #[.slice (some ⟨b, 0, none⟩) d.toArray.size c, .func (.func g) #[] cv.toArray] := by simp only [List.size_toArray, hdl]
 rw [ea2]
 refine hcon.mono ?_
 rintro e w' ⟨rfl, d', n, os, hp, hs, rfl⟩
 have hds : d'.size = d.length := by simpa using hp.1
 have hperm : d'.toList.Perm d := by
  have := hp.2.2
  have e1 : d'.extract 0 d.toArray.size = d' := by rw [show d.toArray.size = d'.size by simp [hds]]; exact Array.extract_size
  rw [e1, Array.extract_size] at this
  simpa using this
 have hl' : d'.toList.map (fun p => p.1.2) = Xh c0 l := by
  refine KU hO ?_ ?_
  ·exact (hperm.map _).trans (List.Perm.of_eq g1)
  ·rw [List.pairwise_map, List.pairwise_iff_getElem]
   intro i j hi hj hij
   have hi' : i < d'.size := by simpa using hi
   have hj' : j < d'.size := by simpa using hj
   have := hs i j (Nat.zero_le _) hij (by simpa [hds] using hj')
   rw [getElem!_pos d' j hj', getElem!_pos d' i hi'] at this
   simpa [ltOf] using this
 have hat := zaO enc k w b n d' os e1
 have hFs : (Sort.flatK enc k d').size = l.length * k := hszF d' hds
 have hlen : (Xh c0 l).length = l.length := (qh c0 l).length_eq
 refine ⟨.tuple #[], rfl, S, [], [b], ⟨rfl, rfl, rfl, Nat.le_add_right _ _, by rw [z7y]; omega, ?_⟩, fun _ _ _ q => q, fun _ _ _ _ => rfl, hst _ _ _, .inl ⟨?_, rfl⟩, ⟨[b], [], rfl, .inr ⟨[.slice (some ⟨b, 0, none⟩) l.length c], ?_, by simp, rfl⟩, rfl⟩, by simp, by simp⟩
 ·intro j hj
  simp only [not_or, Nat.not_le, List.mem_cons, List.not_mem_nil, or_false] at hj
  exact Jg enc k w b n d' os hj.1 hj.2
 ·simp only [yX]; exact ⟨[], rfl, trivial⟩
 ·simp only [zw, List.length_map]
  refine ⟨some ⟨b, 0, none⟩, c, by rw [hlen], by rw [hlen]; exact t1, by rw [hlen]; exact t2, t3, ?_, .inr ⟨b, _, ty, (Sort.flatK enc k d').toList, [], rfl, hat, by rw [Jq]; exact e2, ?_, ?_, rfl, e5⟩⟩
  ·intro x hx
   obtain ⟨y, _, rfl⟩ := List.mem_map.1 hx
   exact hsz y
  ·rw [hlen, ← hFs]
   exact Jp (by rw [hFs]; exact hle)
  ·have := (XG d'.toList).concs (sortWorldK enc k w b 0 n d' os).heap
   rw [hl'] at this
   rw [WZ enc k hk]
   exact this
def kz (sz : Nat) (v : Value) (l : Int) : Value :=
 match v with
 | .slice a n c => .slice (if c = l.toNat then a else a.map (·.add (l.toNat * sz))) (n - l.toNat) (c - l.toNat)
 | v => v
theorem z61 {sz : Nat}  {l : Int} (h : v.oneCell' = true) : (kz sz v l).oneCell' = true := by
 unfold kz
 split
 ·rfl
 ·exact h
section
variable {C : Ctx} {S : zf} {Fp : Nat → List Nat} {st : St} {a : Act} {w : World}
theorem z3u {r : Nat} {er ec : Nat} {u : Value} (ha : kU w.heap st (Act.tv a) r [] er ec u) {x0 : A} (hr : (st r).t = .own x0) (e1 : (st r).er = er) : u = Act.tv a r := by
 have a3 := ha.2.2
 simp [hr] at a3
 simp [YO] at a3
 exact a3 e1
theorem Jx (h : Sim C S Fp [] st a w) {r sz : Nat} {tg : Bool} {es : List A} (hr : (st r).t = .own (.osl sz tg es)) :
  ∃ p c, Act.tv a r = .slice p es.length c ∧ es.length ≤ c ∧ (∀ x ∈ es, x.size = sz) ∧ (0 < es.length → ∃ b, p = some ⟨b, 0, none⟩) := by
 have hq := h.ent r
 unfold xh at hq
 simp only [hr] at hq
 have ⟨cs, c1, c2, c3⟩ := hq
 simp only [zw] at c1
 obtain ⟨p, c, rfl, t1, t2, t3, t4, t5⟩ := c1
 refine ⟨p, c, by rw [c3]; rfl, t2, t4, fun hp => ?_⟩
 rcases t5 with ⟨rfl, _⟩ | ⟨b, arr, ty, l, F', rfl, _⟩
 ·simp at hp
 ·exact ⟨b, rfl⟩
open Classical in
def vwK (tt : TT) (n : Fr) (dst : Option Nat) (ty r : Nat) (v : Value) (tx : T) (vl : A) (e : Ent) : SM Unit :=
 match vl with
 | .atom (.int _ j) =>
  if (tx = .als r [] e.er e.ec ∨ tx = .d (.atom v)) ∧ Va n.pin r = some v then
   match e.t with
   | .own (.osl sz _ es) => if yU tt ty = some sz ∧ 0 ≤ j ∧ j.toNat ≤ es.length then wrT n dst (.d (.atom (kz sz v j))) else zm
   | _ => zm
  else zm
 | _ => zm
def vwO (tt : TT) (n : Fr) (dst : Option Nat) (ty r : Nat) (v : Value) (x lo : Operand) : SM Unit := do
 let tx ← opnd x
 let tl ← opnd lo
 let vl ← val tl
 let e ← rdE r
 vwK tt n dst ty r v tx vl e
def vwH (tt : TT) (n : Fr) (dst : Option Nat) (ty r : Nat) (v : Value) (x lo : Operand) : HM Unit := zT (opnd x) >>= fun tx => zT (opnd lo) >>= fun tl => VT tl >>= fun vl => zT (rdE r) >>= fun e =>
 match vl with
 | .atom (.int _ j) => j9 ((tx = .als r [] e.er e.ec ∨ tx = .d (.atom v)) ∧ Va n.pin r = some v)
   (match e.t with
   | .own (.osl sz _ es) => if yU tt ty = some sz then j9 (0 ≤ j ∧ j.toNat ≤ es.length) (zT (wrT n dst (.d (.atom (kz sz v j))))) else zx
   | _ => zx)
 | _ => zx
open Classical in
theorem zcp (tt : TT) (n : Fr) (dst : Option Nat) (ty r : Nat) (v : Value) (x lo : Operand) : Snd (vwO tt n dst ty r v x lo) (vwH tt n dst ty r v x lo) := by
 refine za (zi _) fun tx => za (zi _) fun tl => za (jS _) fun vl => za (zi _) fun e => ?_
 cases vl with
 | atom u =>
  cases u with
  | int k j =>
   refine vA ?_
   cases e.t with
   | own y =>
    cases y with
    | osl sz tg es => exact V8 (fun h1 h2 => ⟨h1, h2.1, h2.2⟩) (zi _)
    | _ => exact zl _
   | _ => exact zl _
  | _ => exact zl _
 | _ => exact zl _
open Classical in
theorem Loc.vwO (tt : TT) (n : Fr) (dst : Option Nat) (ty r : Nat) (v : Value) (x lo : Operand) : Loc (vwO tt n dst ty r v x lo) := by
 unfold Go.Own.vwO
 refine Loc.bind (Loc.opnd _) fun _ => Loc.bind (Loc.opnd _) fun _ => Loc.bind (Loc.val _) fun _ => Loc.bind (Loc.rdE _) fun _ => ?_
 unfold Go.Own.vwK
 split
 ·refine Loc.ite ?_ Loc.fail
  split
  ·exact Loc.ite (Loc.wrT _ _ _) Loc.fail
  ·exact Loc.fail
 ·exact Loc.fail
theorem zaJ {P : Program}  (hT : xH P tt) (h : Sim C S Fp [] st a w)  {t r : Nat} {v : Value} {x lo : Operand} (ho : o.op = .slice t x (some lo) none none)    (e0 : vwO tt C.n o.dst t r v x lo st = some (u, R, U)) : vX P C o a w (ze U st) := by
 unfold vwO at e0
 have ⟨tx, _, hx, e1⟩ := bR (zu h) e0
 have ⟨tl, _, hl, e2⟩ := bR (zu h) e1
 have ⟨vl, _, ql, e3⟩ := bR (vY h hl) e2
 have ⟨_, e4⟩ := bD e3
 unfold vwK at e4
 split at e4
 ·rename_i k j
  split at e4
  ·rename_i hc
   have ⟨c1, c2⟩ := hc
   have hs := h.pin r v (uw c2)
   cases ht : (st r).t with
   | own y =>
    cases y with
    | osl sz tg es =>
     simp only [ht] at e4
     split at e4
     ·rename_i hd
      have ⟨d1, d2, d3⟩ := hd
      have ⟨p, c, ev, hlc, _, _⟩ := Jx h ht
      have hxv : a.eval x = .slice p es.length c := by
       rcases c1 with rfl | rfl
       ·rw [← ev]; exact z3u hx ht rfl
       ·rw [(zo.1 hx).1, ← hs, ev]
      have ⟨el, he, hsz⟩ := xN hT d1 w
      have ⟨el', _⟩ := zo.1 ql
      have hrun := qa (P := P) (w := w) he hsz (p := p) (len := es.length) (c := c) (m := c) (lo := some (.int k j)) (hi := none) (mx := none) (.inr ⟨k, j, rfl, d2, rfl⟩) (.inl ⟨rfl, rfl⟩) (.inl ⟨rfl, rfl⟩) d3 hlc (Nat.le_refl c) (by simp)
      have hvv : v = .slice p es.length c := by rw [← hs, ev]
      have ⟨Fp', hs'⟩ := xP h e4 (x := .d (.atom (kz sz v j))) (v := kz sz v j) (zo.2 ⟨rfl, by rw [hvv]; exact z61 rfl⟩)
      refine zk ?_ hs'
      rw [hvv]
      simp [execOp, ho, hxv, el', hrun, kz]
     ·cases e4
    | _ => simp only [ht] at e4; cases e4
   | _ => simp only [ht] at e4; cases e4
  ·cases e4
 ·cases e4
open Classical in
def vlO (n : Fr) (dst : Option Nat) (sz r : Nat) (v : Value) (l : Int) (x : Operand) : SM Unit := do
 let tx ← opnd x
 let e ← rdE r
 if tx = .d (.atom (kz sz v l)) ∧ Va n.pin r = some v then
  match e.t with
  | .own (.osl _ _ es) => wrT n dst (.d (.atom (.int .i64 ((es.length - l.toNat : Nat) : Int))))
  | _ => zm
 else zm
def vlH (n : Fr) (dst : Option Nat) (sz r : Nat) (v : Value) (l : Int) (x : Operand) : HM Unit := zT (opnd x) >>= fun tx => zT (rdE r) >>= fun e => j9 (tx = .d (.atom (kz sz v l)) ∧ Va n.pin r = some v)
  (match e.t with
  | .own (.osl _ _ es) => eqA (.atom (.int .i64 ((es.length - l.toNat : Nat) : Int))) >>= fun y => zT (wrT n dst (.d y))
  | _ => zx)
open Classical in
theorem zcq (n : Fr) (dst : Option Nat) (sz r : Nat) (v : Value) (l : Int) (x : Operand) : Snd (vlO n dst sz r v l x) (vlH n dst sz r v l x) := by
 refine za (zi _) fun tx => za (zi _) fun e => vA ?_
 cases e.t with
 | own y =>
  cases y with
  | osl sz tg es => exact YW (zM _ fun y => wrT n dst (.d y)).symm (za (Jn _) fun _ => zi _)
  | _ => exact zl _
 | _ => exact zl _
open Classical in
theorem Loc.vlO (n : Fr) (dst : Option Nat) (sz r : Nat) (v : Value) (l : Int) (x : Operand) : Loc (vlO n dst sz r v l x) := by
 unfold Go.Own.vlO
 refine Loc.bind (Loc.opnd _) fun _ => Loc.bind (Loc.rdE _) fun _ => Loc.ite ?_ Loc.fail
 split
 ·exact Loc.wrT _ _ _
 ·exact Loc.fail
theorem zaK (hT : xH P tt) (h : Sim C S Fp [] st a w)  {t sz r : Nat}  {l : Int} {x : Operand} (hty : ua tt t = true) (ho : o.op = .call ⟨.builtin .len, ⟨[x]⟩, ⟨[t]⟩⟩)    (e0 : vlO C.n o.dst sz r v l x st = some (u, R, U)) : vX P C o a w (ze U st) := by
 unfold vlO at e0
 have ⟨tx, _, hx, e1⟩ := bR (zu h) e0
 have ⟨_, e4⟩ := bD e1
 split at e4
 ·rename_i hc
  obtain ⟨rfl, c2⟩ := hc
  have hs := h.pin r v (uw c2)
  cases ht : (st r).t with
  | own y =>
   cases y with
   | osl sz' tg es =>
    simp [ht] at e4
    have ⟨p, c, ev, hlc, _, _⟩ := Jx h ht
    have hxv := (zo.1 hx).1
    have hvv : v = .slice p es.length c := by rw [← hs, ev]
    have ⟨el, he⟩ := jG hT hty
    have ⟨Fp', hs'⟩ := xP h e4 (x := .d (.atom (.int .i64 ((es.length - l.toNat : Nat) : Int)))) (zo.2 ⟨rfl, rfl⟩)
    refine zk ?_ hs'
    have ex : a.eval x = .slice (if c = l.toNat then p else p.map (·.add (l.toNat * sz))) (es.length - l.toNat) (c - l.toNat) := by rw [hxv, hvv]; rfl
    simp [execOp, ho, resolve, invoke, builtin, Builtin.len_, run_underlying he, ex, goInt]
   | _ => simp [ht] at e4; cases e4
  | _ => simp [ht] at e4; cases e4
 ·cases e4
open Classical in
def viO (tt : TT) (n : Fr) (dst : Option Nat) (ty sz r : Nat) (v : Value) (l : Int) (x i : Operand) : SM Unit := do
 let tx ← opnd x
 let ti ← opnd i
 let vi ← val ti
 let e ← rdE r
 match vi with
 | .atom (.int _ j) =>
  if tx = .d (.atom (kz sz v l)) ∧ Va n.pin r = some v then
   match e.t with
   | .own (.osl sz' _ es) => if yU tt ty = some sz ∧ sz' = sz ∧ 0 ≤ l ∧ 0 ≤ j ∧ (l + j).toNat < es.length then wrT n dst (.ptr r [.idx (l + j).toNat] e.er e.ec) else zm
   | _ => zm
  else zm
 | _ => zm
def viH (tt : TT) (n : Fr) (dst : Option Nat) (ty sz r : Nat) (v : Value) (l : Int) (x i : Operand) : HM Unit := zT (opnd x) >>= fun tx => zT (opnd i) >>= fun ti => VT ti >>= fun vi => zT (rdE r) >>= fun e =>
 match vi with
 | .atom (.int _ j) => j9 (tx = .d (.atom (kz sz v l)) ∧ Va n.pin r = some v)
   (match e.t with
   | .own (.osl sz' _ es) => if yU tt ty = some sz ∧ sz' = sz then j9 (0 ≤ l ∧ 0 ≤ j ∧ (l + j).toNat < es.length) (zT (wrT n dst (.ptr r [.idx (l + j).toNat] e.er e.ec))) else zx
   | _ => zx)
 | _ => zx
open Classical in
theorem zcr (tt : TT) (n : Fr) (dst : Option Nat) (ty sz r : Nat) (v : Value) (l : Int) (x i : Operand) : Snd (viO tt n dst ty sz r v l x i) (viH tt n dst ty sz r v l x i) := by
 refine za (zi _) fun tx => za (zi _) fun ti => za (jS _) fun vi => za (zi _) fun e => ?_
 cases vi with
 | atom u =>
  cases u with
  | int k j =>
   refine vA ?_
   cases e.t with
   | own y =>
    cases y with
    | osl sz' tg es => exact V8 (fun h1 h2 => ⟨h1.1, h1.2, h2.1, h2.2.1, h2.2.2⟩) (zi _)
    | _ => exact zl _
   | _ => exact zl _
  | _ => exact zl _
 | _ => exact zl _
open Classical in
theorem Loc.viO (tt : TT) (n : Fr) (dst : Option Nat) (ty sz r : Nat) (v : Value) (l : Int) (x i : Operand) : Loc (viO tt n dst ty sz r v l x i) := by
 unfold Go.Own.viO
 refine Loc.bind (Loc.opnd _) fun _ => Loc.bind (Loc.opnd _) fun _ => Loc.bind (Loc.val _) fun _ => Loc.bind (Loc.rdE _) fun _ => ?_
 split
 ·refine Loc.ite ?_ Loc.fail
  split
  ·exact Loc.ite (Loc.wrT _ _ _) Loc.fail
  ·exact Loc.fail
 ·exact Loc.fail
theorem zaL {P : Program}  (hT : xH P tt) (h : Sim C S Fp [] st a w) {o : Oper} {t sz r : Nat}  {l : Int} {x i : Operand} (ho : o.op = .indexAddr t x i)    (e0 : viO tt C.n o.dst t sz r v l x i st = some (u, R, U)) : vX P C o a w (ze U st) := by
 unfold viO at e0
 have ⟨tx, _, hx, e1⟩ := bR (zu h) e0
 have ⟨ti, _, hi, e2⟩ := bR (zu h) e1
 have ⟨vi, _, qi, e3⟩ := bR (vY h hi) e2
 have ⟨_, e4⟩ := bD e3
 split at e4
 ·rename_i k j
  split at e4
  ·rename_i hc
   obtain ⟨rfl, c2⟩ := hc
   have hs := h.pin r v (uw c2)
   cases ht : (st r).t with
   | own y =>
    cases y with
    | osl sz' tg es =>
     simp only [ht] at e4
     split at e4
     ·rename_i hd
      obtain ⟨d1, rfl, d3, d4, d5⟩ := hd
      have hals : kU w.heap st (Act.tv a) r [] (st r).er (st r).ec (Act.tv a r) := by
       refine ⟨Nat.le_refl _, Nat.le_refl _, ?_⟩
       simp [ht]
      have ⟨b, c, ev, hp⟩ := z4y h hals ht rfl (.inl rfl) rfl d5
      have ⟨e', he, hsz⟩ := xN hT d1 w
      have hp' : TOk S w.heap st (Act.tv a) (T.ptr r [jf.idx (l + j).toNat] (st r).er (st r).ec) (.pointer (some ⟨b, (l + j).toNat * sz', none⟩)) := hp
      have ⟨Fp', hs'⟩ := xP h e4 hp'
      have ⟨ei, _⟩ := zo.1 qi
      have hvv : v = .slice (some ⟨b, 0, none⟩) es.length c := by rw [← hs, ev]
      have ⟨p2, c2', ev2, hlc, _, _⟩ := Jx h ht
      have hcc : es.length ≤ c := by
       rw [ev] at ev2
       simp only [Value.slice.injEq] at ev2
       rw [ev2.2.2]; exact hlc
      have hxv : a.eval x = .slice (some ⟨b, l.toNat * sz', none⟩) (es.length - l.toNat) (c - l.toNat) := by
       rw [(zo.1 hx).1, hvv]
       have : ¬ c = l.toNat := by omega
       simp [kz, this, Addr.add_lit]
      have hsum : (l + j).toNat = l.toNat + j.toNat := by omega
      refine zk ?_ hs'
      have hrun := Zg (P := P) (b := b) (o := l.toNat * sz') (n := es.length - l.toNat) (c := c - l.toNat) (k := k) he hsz d4 (by omega)
      have hoff : l.toNat * sz' + j.toNat * sz' = (l + j).toNat * sz' := by rw [hsum, Nat.add_mul]
      rw [hoff] at hrun
      simp [execOp, ho, ei, hxv, hrun]
     ·cases e4
    | _ => simp only [ht] at e4; cases e4
   | _ => simp only [ht] at e4; cases e4
  ·cases e4
 ·cases e4
end
def z0o (i : TI) : Option A :=
 match i.zero with
 | some z => if z.live = true then some z.shut.loose else none
 | none => none
theorem z2h {i : TI} {z' : A} (h : z0o i = some z') : ∃ z, i.zero = some z ∧ z.live = true ∧ z' = z.shut.loose := by
 unfold z0o at h
 split at h
 ·rename_i z hz
  split at h
  ·rename_i hl; cases h; exact ⟨z, hz, hl, rfl⟩
  ·cases h
 ·cases h
theorem Q6 (z : Array Value) (n : Nat) : (Builtin.zeroCells z n).toList = (List.replicate n z.toList).flatten := by
 apply List.ext_getElem?
 intro k
 rw [JF, Array.length_toList]
 simp only [Builtin.zeroCells, Array.toList_map, Array.toList_range, List.getElem?_map]
 by_cases hk : k < n * z.size
 ·rw [if_pos hk, List.getElem?_range hk, Option.map_some]
  have hz : 0 < z.size := by
   rcases Nat.eq_zero_or_pos z.size with h0 | h0
   ·rw [h0] at hk; simp at hk
   ·exact h0
  have hmod : k % z.size < z.size := Nat.mod_lt _ hz
  rw [Array.getElem?_toList, Array.getElem?_eq_getElem hmod, getElem!_pos z _ hmod]
 ·rw [if_neg hk, List.getElem?_eq_none (by simpa using hk), Option.map_none]
theorem z6E {sz : Nat} : ∀ {xs : List A} {cs : List Value} (_ : y5 S xs cs) (_ : ∀ x ∈ xs, x.size = sz) (l : Nat), y5 S (xs.take l) (cs.take (l * sz))
 | [], cs, h, _, l => by simp [y5] at h; subst h; simp [y5]
 | x :: xs, cs, h, hs, 0 => by simp [y5]
 | x :: xs, cs, h, hs, l + 1 => by
  simp [y5] at h
  obtain ⟨c1, c2, rfl, h1, h2⟩ := h
  have hl : c1.length = sz := by rw [h1.len]; exact hs x (by simp)
  rw [List.take_succ_cons, Nat.succ_mul, Nat.add_comm, ← hl, List.take_length_add_append]
  simp [y5]
  rw [hl]
  exact ⟨c1, _, rfl, h1, z6E h2 (fun y hy => hs y (by simp [hy])) l⟩
theorem z3y {o : Nat} {zs : List Value} (h : o + zs.length ≤ arr.size) : (Zs arr o zs).toList.take (o + zs.length) = arr.toList.take o ++ zs := by
 rw [← ve h]
 have h1 : (arr.toList.take o).length = o := by simp; omega
 simp only []
 rw [show o + zs.length = (arr.toList.take o ++ zs).length by simp; omega, List.take_left]
section
variable {C : Ctx} {S : zf} {Fp : Nat → List Nat} {st : St} {a : Act} {w : World}
def vcK (tt : TT) (n : Fr) (dst : Option Nat) (ty sz r : Nat) (l : Int) (e : Ent) : SM Unit :=
 match e.t with
 | .own (.osl sz' tg es) =>
  match tt ty with
  | some ⟨.slice el, _, _, _, _⟩ =>
   match tt el with
   | some i =>
    match z0o i with
    | some z => if sz' = sz ∧ i.size = sz ∧ 0 ≤ l ∧ l.toNat ≤ es.length ∧ A.areD es = true then
      wrE r ⟨.own (.osl sz tg (es.take l.toNat ++ List.replicate (es.length - l.toNat) z)), e.er, e.ec + 1⟩ >>= fun _ => wrT n dst (.d (.tup []))
     else zm
    | none => zm
   | none => zm
  | _ => zm
 | _ => zm
open Classical in
def vcO (tt : TT) (n : Fr) (dst : Option Nat) (ty sz r : Nat) (v : Value) (l : Int) (x : Operand) : SM Unit := do
 let tx ← opnd x
 let e ← rdE r
 if tx = .d (.atom (kz sz v l)) ∧ Va n.pin r = some v then vcK tt n dst ty sz r l e else zm
def vcH (tt : TT) (n : Fr) (dst : Option Nat) (ty sz r : Nat) (v : Value) (l : Int) (x : Operand) : HM Unit := zT (opnd x) >>= fun tx => zT (rdE r) >>= fun e => j9 (tx = .d (.atom (kz sz v l)) ∧ Va n.pin r = some v)
  (match e.t with
  | .own (.osl sz' tg es) =>
   match tt ty with
   | some ⟨.slice el, _, _, _, _⟩ =>
    match tt el with
    | some i =>
     match z0o i with
     | some z => if sz' = sz ∧ i.size = sz then j9 (0 ≤ l ∧ l.toNat ≤ es.length ∧ A.areD es = true)
       (eqL (es.take l.toNat ++ List.replicate (es.length - l.toNat) z) >>= fun zs => zT (wrE r ⟨.own (.osl sz tg zs), e.er, e.ec + 1⟩ >>= fun _ => wrT n dst (.d (.tup []))))
      else zx
     | none => zx
    | none => zx
   | _ => zx
  | _ => zx)
open Classical in
theorem zct (tt : TT) (n : Fr) (dst : Option Nat) (ty sz r : Nat) (v : Value) (l : Int) (x : Operand) : Snd (vcO tt n dst ty sz r v l x) (vcH tt n dst ty sz r v l x) := by
 refine za (zi _) fun tx => za (zi _) fun e => vA ?_
 unfold vcK
 cases e.t with
 | own y =>
  cases y with
  | osl sz' tg es =>
   dsimp only
   generalize tt ty = q
   rcases q with _ | ⟨k, a1, a2, a3, a4⟩
   ·exact zl _
   ·cases k with
    | slice el =>
     dsimp only
     generalize tt el = q
     cases q with
     | none => exact zl _
     | some i =>
      dsimp only
      cases z0o i with
      | none => exact zl _
      | some z =>
       refine V8 (fun h1 h2 => ⟨h1.1, h1.2, h2.1, h2.2.1, h2.2.2⟩) ?_
       exact YW (zM _ fun zs => wrE r ⟨.own (.osl sz tg zs), e.er, e.ec + 1⟩ >>= fun _ => wrT n dst (.d (.tup []))).symm (za (z2m _) fun _ => zi _)
    | _ => exact zl _
  | _ => exact zl _
 | _ => exact zl _
open Classical in
theorem Loc.vcO (tt : TT) (n : Fr) (dst : Option Nat) (ty sz r : Nat) (v : Value) (l : Int) (x : Operand) : Loc (vcO tt n dst ty sz r v l x) := by
 unfold Go.Own.vcO
 refine Loc.bind (Loc.opnd _) fun _ => Loc.bind (Loc.rdE _) fun _ => Loc.ite ?_ Loc.fail
 unfold Go.Own.vcK
 split
 ·split
  ·split
   ·split
    ·exact Loc.ite (Loc.bind (Loc.wrE _ _) fun _ => Loc.wrT _ _ _) Loc.fail
    ·exact Loc.fail
   ·exact Loc.fail
  ·exact Loc.fail
 ·exact Loc.fail
theorem zaM (hT : xH P tt) (h : Sim C S Fp [] st a w)  {t sz r : Nat} {v : Value} {l : Int} {x : Operand} (ho : o.op = .call ⟨.builtin .clear, ⟨[x]⟩, ⟨[t]⟩⟩)    (e0 : vcO tt C.n o.dst t sz r v l x st = some (u, R, U)) : vX P C o a w (ze U st) := by
  unfold vcO at e0
  have ⟨tx, _, hx, e1⟩ := bR (zu h) e0
  have ⟨_, e4⟩ := bD e1
  split at e4
  · rename_i hc
    obtain ⟨rfl, c2⟩ := hc
    have hs := h.pin r v (uw c2)
    unfold vcK at e4
    cases ht : (st r).t with
    | own y =>
     cases y with
     | osl sz' tg es =>
      simp only [ht] at e4
      obtain ⟨el, a1, a2, a3, a4, hty⟩ : ∃ el a1 a2 a3 a4, tt t = some ⟨.slice el, a1, a2, a3, a4⟩ := by
        cases hq : tt t with
        | none => simp only [hq] at e4; cases e4
        | some it =>
          have ⟨k, a1, a2, a3, a4⟩ := it
          cases k with
          | slice el => exact ⟨el, a1, a2, a3, a4, rfl⟩
          | _ => simp only [hq] at e4; cases e4
      simp only [hty] at e4
      obtain ⟨i, hi⟩ : ∃ i, tt el = some i := by
        cases hq : tt el with
        | none => simp only [hq] at e4; cases e4
        | some i => exact ⟨i, rfl⟩
      simp only [hi] at e4
      obtain ⟨z', hz'⟩ : ∃ z', z0o i = some z' := by
        cases hq : z0o i with
        | none => simp only [hq] at e4; cases e4
        | some i => exact ⟨i, rfl⟩
      simp only [hz'] at e4
      have hel : P.underlying t = some (.slice el) := (hT _ _ hty).kind
      · · split at e4
          · rename_i hd
            obtain ⟨rfl, d2, d3, d4, d5⟩ := hd
            obtain ⟨z, hz, hlv, rfl⟩ := z2h hz'
            have ⟨f, f1, f2, f3, f4⟩ := (hT _ _ hi).info
            have ⟨zv, v1, v2, v3⟩ := f4 z hz
            have hzr : Rep S z.shut.loose zv.cells.toList := ((v3 S w.heap).shut (fun _ _ _ q => q) hlv (by simp)).loose
            have hzl : zv.cells.toList.length = sz' := by rw [((v3 S w.heap).shut (S' := S) (fun _ _ _ q => q) hlv (by simp)).len, A.size_shut, v2, d2]
            have hq := h.ent r
            unfold xh at hq
            simp only [ht] at hq
            have ⟨cs, c1, c3, c4⟩ := hq
            simp only [zw] at c1
            obtain ⟨p, c, rfl, t1, t2, t3, t4, t5⟩ := c1
            have ev : Act.tv a r = .slice p es.length c := c4
            have hvv : v = .slice p es.length c := by rw [← hs, ev]
            have hxv := (zo.1 hx).1
            rw [hvv] at hxv
            obtain ⟨y1, R9, U9, R10, U10, h9, e5, rfl, rfl⟩ := bind_some e4
            cases h9
            have hlen : (es.take l.toNat ++ List.replicate (es.length - l.toNat) z.shut.loose).length = es.length := by simp; omega
            have hsz : ∀ y ∈ es.take l.toNat ++ List.replicate (es.length - l.toNat) z.shut.loose, y.size = sz' := by
              intro y hy
              rcases List.mem_append.1 hy with q | q
              · exact t4 y (List.mem_of_mem_take q)
              · rw [List.eq_of_mem_replicate q, ← hzr.len, hzl]
            have hreps : ∀ n, y5 S (List.replicate n z.shut.loose) (List.replicate n zv.cells.toList).flatten := by
              intro n
              induction n with
              | zero => simp [y5]
              | succ n ih => simp only [List.replicate_succ, List.flatten_cons, y5]; exact ⟨_, _, rfl, hzr, ih⟩
            obtain ⟨w', F', hrun, hkept, hst, hfr, hconc, hF'⟩ : ∃ w' F', (Builtin.clear_ #[t] o.type #[a.eval x]).run P w = .ok (.tuple #[]) w' ∧ ZQ C.M w w' ∧ (∀ b o u, S b o = some u → zU w'.heap b o = some u) ∧ (∀ k, k ∉ Fp r → w'.heap[k]? = w.heap[k]?) ∧
                zw S w'.heap (.osl sz' tg (es.take l.toNat ++ List.replicate (es.length - l.toNat) z.shut.loose)) [.slice p es.length c] F' ∧ F' = Fp r := by
              by_cases hn : es.length - l.toNat = 0
              · refine ⟨w, Fp r, ?_, ZQ.refl _ _, h.still.cell, fun _ _ => rfl, ?_, rfl⟩
                · rw [hxv]
                  simp only [kz]
                  rw [hn]
                  cases hp : (if c = l.toNat then p else p.map (·.add (l.toNat * sz'))) with
                  | _ => simp [Builtin.clear_, run_underlying hel]
                · have : es.take l.toNat ++ List.replicate (es.length - l.toNat) z.shut.loose = es := by rw [hn, List.replicate_zero, List.append_nil, List.take_of_length_le (by omega)]
                  rw [this]
                  simp only [zw]
                  exact ⟨p, c, rfl, t1, t2, t3, t4, t5⟩
              · rcases t5 with ⟨rfl, _⟩ | ⟨b, arr, ty, cl, F1, rfl, k1, k2, k3, k4, k5, k6⟩
                · simp at hn
                obtain ⟨hr, rfl⟩ := k4.areD d5
                let zs := (List.replicate (es.length - l.toNat) zv.cells.toList).flatten
                have hzs : zs.length = (es.length - l.toNat) * sz' := by
                  show (List.replicate _ _).flatten.length = _
                  rw [List.length_flatten]
                  simp [hzl]
                have hfit : l.toNat * sz' + zs.length ≤ arr.size := by
                  rw [hzs, ← Nat.add_mul]
                  refine Nat.le_trans (Nat.mul_le_mul_right _ ?_) k2
                  omega
                let w' := w.setRow b (Zs arr (l.toNat * sz') zs)
                have hheap : ∀ k, k ≠ b → w'.heap[k]? = w.heap[k]? := fun k hk => setRow_other w b k _ hk
                have hheapb : w'.heap[b]? = some (.cells (Zs arr (l.toNat * sz') zs) ty (0, 0)) := setRow_heap w b arr _ ty (0, 0) k1
                have hb : b ∈ Fp r := by rw [k5]; simp
                have h1c : ∀ u ∈ zs, u.oneCell' = true := by
                  intro u hu
                  have ⟨m, hm, hu⟩ := List.mem_flatten.1 hu
                  rw [List.eq_of_mem_replicate hm] at hu
                  exact hzr.one u hu
                refine ⟨w', Fp r, ?_, ⟨rfl, rfl, rfl, Nat.le_refl _, by simp [w'], fun k hk => hheap k (fun e => hk (e ▸ h.base r b hb))⟩, ?_, fun k hk => hheap k (fun e => hk (e ▸ hb)), ?_, rfl⟩
                · have hst := run_storeCells_at P b (l.toNat * sz') ty zs 0 arr w k1 (by simpa using hfit) h1c
                  simp only [Nat.add_zero] at hst
                  rw [ve hfit] at hst
                  have hz0 : (zeroValue el).run P w = .ok zv w := by simp [zeroValue, typeInfo, f1, v1]
                  rw [hxv]
                  have hcl : ¬ c = l.toNat := by omega
                  simp only [kz, if_neg hcl, Option.map_some, Addr.add_lit, Nat.zero_add]
                  obtain ⟨m, hm⟩ : ∃ m, es.length - l.toNat = m + 1 := ⟨es.length - l.toNat - 1, by omega⟩
                  have hzc : (Builtin.zeroCells zv.cells (m + 1)).toList = zs := by rw [Q6, ← hm]
                  rw [hm]
                  simp [Builtin.clear_, run_underlying hel, hz0, hzc, hst, w']
                · intro b' o'' u hu
                  have hne : b' ≠ b := by rintro rfl; rw [k6] at hu; cases hu
                  rw [xv (h := w.heap) (h' := w'.heap) (hheap b' hne)]
                  exact h.still b' o'' u hu
                · simp only [zw, hlen]
                  refine ⟨_, c, rfl, t1, t2, t3, hsz, .inr ⟨b, _, ty, _, [], rfl, hheapb, by simpa using k2, rfl, ?_, k5, k6⟩⟩
                  have e1 : es.length * sz' = l.toNat * sz' + zs.length := by rw [hzs, ← Nat.add_mul]; congr 1; omega
                  rw [e1, z3y hfit]
                  have e2 : arr.toList.take (l.toNat * sz') = cl.take (l.toNat * sz') := by
                    rw [← k3, List.take_take, Nat.min_eq_left (Nat.mul_le_mul_right _ d4)]
                  rw [e2]
                  exact ((z6E hr t4 _).append (hreps _)).concs _
            subst hF'
            have hs1 : Sim C S (WO Fp r (Fp r)) [] (upd st r ⟨.own (.osl sz' tg (es.take l.toNat ++ List.replicate (es.length - l.toNat) z.shut.loose)), (st r).er, (st r).ec + 1⟩) a w' := by
              refine h.change r (.own _) _ _ (Fp r) (h.below.trans hkept) (fun _ _ _ q => q) hst h.sbase ?_ ⟨⟨_, hconc, c3, by rw [ev]; simp [zI]⟩, _, ht⟩ (.inl ⟨_, ht⟩) (Nat.le_refl _) (Nat.lt_succ_self _) ?_ ?_ (by simp) (by simp) (by simp) (by simp)
              · intro t' k htr hk
                exact ⟨hfr k (fun q => htr (h.disj t' r k hk q)), (h.free t' k hk).2.1⟩
              · intro t' k htr hk hk'
                exact htr (h.disj t' r k hk' hk)
              · intro k hk
                exact h.base r k hk
            rw [zr]
            simp only [ze] at e5 ⊢
            have ⟨Fp', hs'⟩ := xP hs1 e5 (x := .d (.tup [])) (v := .tuple #[]) (by simp only [TOk, yX]; exact ⟨[], rfl, trivial⟩)
            refine zk ?_ hs'
            simp [execOp, ho, resolve, invoke, builtin, hrun]
          · cases e4
     | _ => simp only [ht] at e4; cases e4
    | _ => simp only [ht] at e4; cases e4
  · cases e4
end
end Go.Own
end
