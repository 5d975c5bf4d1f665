/- -/
import Derived.Test.YtkalhfmehmcofaaGreatPartB
import Derived.LoopNIn
import Derived.IntWalk
import Derived.Shelf.SlSortCmp.NoneTotal
noncomputable section
set_option linter.unusedVariables false
set_option linter.unusedSimpArgs false
namespace Go.Own
def zcd (tt : TT) (n : Fr) (dst : Option Nat) (op : BinOp) (xt : Nat) (vx vy : A) : HM Unit :=
 match op with
 | .quo | .rem =>
  match vx, vy with
  | .atom (.int k a), .atom (.int k' b) => if k = k' then wy (b ≠ 0) (zH (wrT n dst (.d (.atom (.int k (match op with | .quo => k.wrap (a.tdiv b) | _ => a.tmod b)))))) else zz
  | _, _ => zz
 | _ => zH (ofO (z9D tt op xt vx vy) >>= fun r => wrT n dst (.d r))
theorem zbq (tt : TT) (n : Fr) (dst : Option Nat) (op : BinOp) (xt : Nat) (vx vy : A) : Snd (ofO (z9D tt op xt vx vy) >>= fun r => wrT n dst (.d r)) (zcd tt n dst op xt vx vy) := by
 have main : ∀ op, op = .quo ∨ op = .rem → Snd (ofO (z9D tt op xt vx vy) >>= fun r => wrT n dst (.d r)) (match vx, vy with
  | .atom (.int k a), .atom (.int k' b) => if k = k' then wy (b ≠ 0) (zH (wrT n dst (.d (.atom (.int k (match op with | .quo => k.wrap (a.tdiv b) | _ => a.tmod b)))))) else zz
  | _, _ => zz) := by
  intro op hop
  cases vx with
  | atom v =>
   cases v with
   | int k a =>
    cases vy with
    | atom u =>
     cases u with
     | int k' b =>
      dsimp only
      by_cases hk : k = k'
      ·rw [if_pos hk]
       refine Vw fun hb => ?_
       refine Xe ?_ (ze _)
       rcases hop with rfl | rfl <;> simp [z9D, if_pos hk, z6X, if_neg hb] <;> exact zL _ _
      ·rw [if_neg hk]; exact zl _
     | _ => exact zl _
    | _ => exact zl _
   | _ => exact zl _
  | _ => exact zl _
 cases op with
 | quo => exact main _ (.inl rfl)
 | rem => exact main _ (.inr rfl)
 | _ => exact ze _
def zbC (n : Fr) (dst : Option Nat) (c x y : Operand) : HM Unit := zH (opnd c) >>= fun tc => Yx tc >>= fun vc =>
 match vc with
 | .atom (.bool b) => zcg b >>= fun b => match b with | true => zH (opnd x >>= fun t => wrT n dst t) | false => zH (opnd y >>= fun t => wrT n dst t)
 | _ => zz
theorem zbl (n : Fr) (dst : Option Nat) (c x y : Operand) : Snd (z4a n dst c x y) (zbC n dst c x y) := by
 refine z8 (ze _) fun tc => z8 (wx _) fun vc => ?_
 cases vc with
 | atom v =>
  cases v with
  | bool b =>
   refine Xe (m' := pure b >>= fun b => match b with | true => (opnd x >>= fun t => wrT n dst t) | false => (opnd y >>= fun t => wrT n dst t)) ?_ (z8 (z3R _) fun b => ?_)
   ·rw [zL]; cases b <;> rfl
   ·cases b <;> exact ze _
  | _ => exact zl _
 | _ => exact zl _
def z1c (n : Fr) (dst : Option Nat) (x : Operand) : HM Unit := zH (opnd x) >>= fun y =>
 match y with
 | .d (.fn f cs) => zH (wrT n dst (.d (.fn f cs)))
 | y => QE y >>= fun q =>
  match q with
  | .inl _ => zH (wrT n dst y)
  | .inr (r, p, er, ec) => Ka r p er ec >>= fun _ => zH (wrT n dst y)
theorem z3n (n : Fr) (dst : Option Nat) (x : Operand) : Snd (nilCheckO n dst x) (z1c n dst x) := by
 refine z8 (ze _) fun y => ?_
 have main : ∀ y : T, Snd (ptrOf y >>= fun q => match q with
  | .inl _ => wrT n dst y
  | .inr (r, p, er, ec) => lookP r p er ec >>= fun _ => wrT n dst y) (QE y >>= fun q =>
  match q with
  | .inl _ => zH (wrT n dst y)
  | .inr (r, p, er, ec) => Ka r p er ec >>= fun _ => zH (wrT n dst y)) := by
  intro y
  refine z8 (Qr _) fun q => ?_
  rcases q with z | ⟨r, p, er, ec⟩
  ·exact ze _
  ·exact z8 (KW _ _ _ _) fun _ => ze _
 cases y with
 | d a =>
  cases a with
  | fn f cs => exact ze _
  | _ => exact main _
 | _ => exact main _
def Jj (dflt : Nat) : Option Operand → HM Nat
 | none => pure dflt
 | some x => zH (opnd x) >>= fun t => Yx t >>= fun v =>
  match v with
  | .atom (.int _ j) => wy (0 ≤ j) (pure j.toNat)
  | _ => zz
theorem Vx (dflt : Nat) (x : Option Operand) : Snd (bound dflt x) (Jj dflt x) := by
 cases x with
 | none => exact yV _
 | some x =>
  refine z8 (ze _) fun t => z8 (wx _) fun v => ?_
  cases v with
  | atom v =>
   cases v with
   | int k j => exact ym (yV _)
   | _ => exact zl _
  | _ => exact zl _
def z7I (tt : TT) (n : Fr) (dst : Option Nat) (t : Nat) (x : Operand) (lo hi mx : Option Operand) : HM Unit := zH (opnd x) >>= fun y =>
 match y with
 | .d (.sl sz tg xs) =>
  if ya tt t = some sz then Jj 0 lo >>= fun l => Jj xs.length hi >>= fun h =>
   match mx with
   | none => wy (l ≤ h ∧ h ≤ xs.length) (eqA (.sl sz (tg && h == xs.length) ((xs.drop l).take (h - l))) >>= fun z => zH (wrT n dst (.d z)))
   | some _ => Jj 0 mx >>= fun m => if hi.isSome = true then wy (l ≤ h ∧ h ≤ m ∧ m ≤ xs.length) (eqA (.sl sz (m == h) ((xs.drop l).take (h - l))) >>= fun z => zH (wrT n dst (.d z))) else zz
  else zz
 | _ => zz
theorem z8N (tt : TT) (n : Fr) (dst : Option Nat) (t : Nat) (x : Operand) (lo hi mx : Option Operand) : Snd (sliceO tt n dst t x lo hi mx) (z7I tt n dst t x lo hi mx) := by
 refine z8 (ze _) fun y => ?_
 cases y with
 | d a =>
  cases a with
  | sl sz tg xs =>
   refine xT (z8 (Vx _ _) fun l => z8 (Vx _ _) fun h => ?_) (zl _)
   cases mx with
   | none =>
    refine ym ?_
    exact Xe (zL _ fun z => wrT n dst (.d z)).symm (z8 (JJ _) fun _ => ze _)
   | some m =>
    refine z8 (Vx _ _) fun m => W6 (fun h1 h2 => ⟨h2.1, h2.2.1, h2.2.2, h1⟩) ?_
    exact Xe (zL _ fun z => wrT n dst (.d z)).symm (z8 (JJ _) fun _ => ze _)
  | _ => exact zl _
 | _ => exact zl _
def VE (tt : TT) (n : Fr) (dst : Option Nat) (t : Nat) (l c : Operand) : HM Unit := zH (opnd l) >>= fun tl => Yx tl >>= fun vl => zH (opnd c) >>= fun tc => Yx tc >>= fun vc =>
 match vl, vc with
 | .atom (.int _ x), .atom (.int _ y) =>
  match tt t with
  | some ⟨.slice e, _, _, _, _⟩ =>
   match tt e with
   | some i =>
    match i.zero with
    | some z => if i.bytes ≤ 4096 then wy (0 ≤ x ∧ x ≤ y ∧ y ≤ lim) (eqA (.osl i.size (decide (x = y)) (List.replicate x.toNat z)) >>= fun r => zH (wrT n dst (.own r))) else zz
    | none => zz
   | none => zz
  | _ => zz
 | _, _ => zz
theorem Qs (tt : TT) (n : Fr) (dst : Option Nat) (t : Nat) (l c : Operand) : Snd (qp tt n dst t l c) (VE tt n dst t l c) := by
 refine z8 (ze _) fun tl => z8 (wx _) fun vl => z8 (ze _) fun tc => z8 (wx _) fun vc => ?_
 cases vl with
 | atom v =>
  cases v with
  | int k x =>
   cases vc with
   | atom u =>
    cases u with
    | int k' y =>
     dsimp only
     generalize tt t = q
     rcases q with _ | ⟨k, a1, a2, a3, a4⟩
     ·exact zl _
     ·cases k with
      | slice e =>
       dsimp only
       generalize tt e = q
       cases q with
       | none => exact zl _
       | some i =>
        dsimp only
        cases i.zero with
        | none => exact zl _
        | some z =>
         refine W6 (fun h1 h2 => ⟨h2.1, h2.2.1, h2.2.2, h1⟩) ?_
         exact Xe (zL _ fun z => wrT n dst (.own z)).symm (z8 (JJ _) fun _ => ze _)
      | _ => exact zl _
    | _ => exact zl _
   | _ => exact zl _
  | _ => exact zl _
 | _ => exact zl _
def ZO (tt : TT) (n : Fr) (dst : Option Nat) (t len : Nat) (ps : List (Nat × Operand)) : HM Unit :=
 match tt t with
 | some ⟨.slice e, _, _, _, _⟩ =>
  match tt e with
  | some i =>
   match i.zero with
   | some z => z2r (ps.map fun p => (p.2, e)) tt >>= fun xs =>
    if QL (List.replicate len z) ((ps.map (·.1)).zip xs) = true ∧ len * i.size ≤ 16777216 ∧ len ≤ lim then
     zH (wrT n dst (.own (.osl i.size true (Vu (List.replicate len z) ((ps.map (·.1)).zip xs)))))
    else zz
   | none => zz
  | none => zz
 | _ => zz
theorem Uh (tt : TT) (n : Fr) (dst : Option Nat) (t len : Nat) (ps : List (Nat × Operand)) : Snd (vw tt n dst t len ps) (ZO tt n dst t len ps) := by
 unfold vw ZO
 generalize tt t = q
 rcases q with _ | ⟨k, a1, a2, a3, a4⟩
 ·exact zl _
 ·cases k with
  | slice e =>
   dsimp only
   generalize tt e = q
   cases q with
   | none => exact zl _
   | some i =>
    dsimp only
    cases i.zero with
    | none => exact zl _
    | some z => exact z8 (z1V _ _) fun xs => xT (ze _) (zl _)
  | _ => exact zl _
def z4U (tt : TT) (n : Fr) (dst : Option Nat) (t : Nat) (ps : List (Nat × Operand)) : HM Unit :=
 match tt t with
 | some i =>
  match i.zero with
  | some (.agg zs) => z2r (ps.map fun p => (p.2, 0)) tt >>= fun xs =>
   if QL zs ((ps.map (·.1)).zip xs) = true ∧ z2K tt t zs ((ps.map (·.1)).zip xs) = true ∧ i.kind.isAgg = true ∧ ((qQ tt t 0).isSome = true ∨ QR i.kind = true) then
    zH (wrT n dst (mkT (.agg (Vu zs ((ps.map (·.1)).zip xs)))))
   else zz
  | _ => zz
 | none => zz
theorem z8Y (tt : TT) (n : Fr) (dst : Option Nat) (t : Nat) (ps : List (Nat × Operand)) : Snd (Kl tt n dst t ps) (z4U tt n dst t ps) := by
 unfold Kl z4U
 generalize tt t = q
 cases q with
 | none => exact zl _
 | some i =>
  dsimp only
  cases i.zero with
  | none => exact zl _
  | some z =>
   cases z with
   | agg zs => exact z8 (z1V _ _) fun xs => xT (ze _) (zl _)
   | _ => exact zl _
def z0M (tt : TT) (ctr : Ctr) (n : Fr) (o : Oper) : HM Unit :=
 match o.op with
 | .assign x => zH (opnd x) >>= fun y =>
  match y with
  | .ptr r p er ec => zH (wrT n o.dst (.ptr r p er ec))
  | y => WC tt o.type y >>= fun z => zH (wrT n o.dst (mkT z))
 | .binOp op xt x y _ => zH (opnd x) >>= fun tx => Yx tx >>= fun vx => zH (opnd y) >>= fun ty => Yx ty >>= fun vy => zcd tt n o.dst op xt vx vy
 | .unOp op _ x => zH (opnd x) >>= fun t => Yx t >>= fun y => zH (ofO (unA op y) >>= fun r => wrT n o.dst (.d r))
 | .convert s t x => zH (opnd x) >>= fun y => Yx y >>= fun v =>
  match v with
  | .atom (.int _ m) =>
   match tt s with
   | some _ =>
    match tt t with
    | some ⟨.int k, _, _, _, _⟩ => zH (wrT n o.dst (.d (.atom (.int k (k.wrap m)))))
    | _ => zz
   | none => zz
  | _ => zz
 | .pick c x y => zbC n o.dst c x y
 | .nilCheck x => z1c n o.dst x
 | .slice t x lo hi mx => z7I tt n o.dst t x lo hi mx
 | .load t x => zH (opnd x) >>= fun y => z4r tt n o.dst t y
 | .store t x v => if o.dst = none then zH (opnd x) >>= fun y => zH (opnd v) >>= fun z => z3H tt t y z else zz
 | .fieldAddr t x i => zH (opnd x) >>= fun y => Jd tt n o.dst t i y
 | .indexAddr t x i => zH (opnd x) >>= fun y => zH (opnd i) >>= fun ti => Yx ti >>= fun vi =>
  if (z2i tt t).isSome = true then VJ tt n o.dst t y vi else QX tt n o.dst t y vi
 | .box t x => zH (opnd x) >>= fun y => WC tt t y >>= fun z =>
  match z with
  | .tup _ => zz
  | z => if z.isAgg = true ∨ z.size = 1 then zH (wrT n o.dst (.own (.box z))) else zz
 | .makeSlice t l c => VE tt n o.dst t l c
 | .buildSlice t len ps => ZO tt n o.dst t len ps.toList
 | .build t ps => z4U tt n o.dst t ps.toList
 | .makeFunc (.func f) ⟨[]⟩ caps => ww tt (caps.toList.map fun x => (x, 0)) >>= fun xs => if xs.all VD = true then zH (wrT n o.dst (.d (.fn f xs))) else zz
 | .call ⟨.builtin .len, ⟨[x]⟩, ⟨[t]⟩⟩ => zH (opnd x) >>= fun y => JM y >>= fun z => zH (ofO (lenOf z)) >>= fun m => if wb tt t = true then eqA (.atom (.int .i64 m)) >>= fun r => zH (wrT n o.dst (.d r)) else zz
 | .call ⟨.builtin .cap, ⟨[x]⟩, ⟨[t]⟩⟩ => zH (opnd x) >>= fun y => JM y >>= fun z => zH (ofO (z7g z)) >>= fun m => if wb tt t = true then eqA (.atom (.int .i64 m)) >>= fun r => zH (wrT n o.dst (.d r)) else zz
 | .call ⟨.builtin .append, ⟨[s, x]⟩, ⟨[t, t']⟩⟩ => if t = t' then zH (opnd s) >>= fun ts => zH (opnd x) >>= fun tx => JM tx >>= fun y =>
   match y with
   | .osl _ _ ys => zcg (A.areD ys) >>= fun b => match b with | true => UY tt n o.dst t ts tx | false => Wi tt n o.dst t s x
   | _ => UY tt n o.dst t ts tx
  else zz
 | .call ⟨.value f, args, tys⟩ => if args.size = tys.size then zH (opnd f) >>= fun tf => Yx tf >>= fun vf => z4T tt ctr n o.dst vf (args.toList.zip tys.toList) else zz
 | _ => zH (stepO tt ctr n o)
theorem zbp (tt : TT) (n : Fr) (dst : Option Nat) (s t : Nat) (v : A) : Snd (match v with
  | .atom (.int _ m) =>
   match tt s with
   | some _ =>
    match tt t with
    | some ⟨.int k, _, _, _, _⟩ => wrT n dst (.d (.atom (.int k (k.wrap m))))
    | _ => zm
   | none => zm
  | _ => zm : SM Unit) (match v with
  | .atom (.int _ m) =>
   match tt s with
   | some _ =>
    match tt t with
    | some ⟨.int k, _, _, _, _⟩ => zH (wrT n dst (.d (.atom (.int k (k.wrap m)))))
    | _ => zz
   | none => zz
  | _ => zz) := by
 cases v with
 | atom u =>
  cases u with
  | int k m =>
   dsimp only
   generalize tt s = q
   cases q with
   | none => exact zl _
   | some _ =>
    dsimp only
    generalize tt t = q
    rcases q with _ | ⟨k, a1, a2, a3, a4⟩
    ·exact zl _
    ·cases k <;> first | exact ze _ | exact zl _
  | _ => exact zl _
 | _ => exact zl _
theorem z1W (tt : TT) (ctr : Ctr) (n : Fr) (o : Oper) : Snd (stepO tt ctr n o) (z0M tt ctr n o) := by
 unfold stepO z0M
 cases ho : o.op with
 | move x => exact sdLift' ho
 | assign x =>
  refine z8 (ze _) fun y => ?_
  cases y with
  | ptr r p er ec => exact ze _
  | _ => exact z8 (W5 _ _ _) fun z => ze _
 | binOp op xt x y yt => exact z8 (ze _) fun tx => z8 (wx _) fun vx => z8 (ze _) fun ty => z8 (wx _) fun vy => zbq _ _ _ _ _ _ _
 | unOp op xt x => exact z8 (ze _) fun t => z8 (wx _) fun y => ze _
 | convert s t x => exact z8 (ze _) fun y => z8 (wx _) fun v => zbp _ _ _ _ _ _
 | pick c x y => exact zbl _ _ _ _ _
 | extract x i => exact sdLift' ho
 | nilCheck x => exact z3n _ _ _
 | slice t x lo hi mx => exact z8N _ _ _ _ _ _ _ _
 | load t x => exact z8 (ze _) fun y => z3O _ _ _ _ _
 | store t x v => exact xT (z8 (ze _) fun y => z8 (ze _) fun z => z6v _ _ _ _) (zl _)
 | fieldAddr t x i => exact z8 (ze _) fun y => z0S _ _ _ _ _ _
 | indexAddr t x i => exact z8 (ze _) fun y => z8 (ze _) fun ti => z8 (wx _) fun vi => xT (Qt _ _ _ _ _ _) (z0R _ _ _ _ _ _)
 | alloc t => exact sdLift' ho
 | box t x =>
  refine z8 (ze _) fun y => z8 (W5 _ _ _) fun z => ?_
  cases z <;> first | exact zl _ | exact xT (ze _) (zl _)
 | makeSlice t l c => exact Qs _ _ _ _ _ _
 | buildSlice t len ps => exact Uh _ _ _ _ _ _
 | build t ps => exact z8Y _ _ _ _ _
 | makeFunc fn first caps =>
  cases fn with
  | func f =>
   have ⟨l⟩ := first
   cases l with
   | nil => exact z8 (vC _ _) fun xs => xT (ze _) (zl _)
   | cons _ _ => exact sdLift' ho
  | _ => exact sdLift' ho
 | call c =>
  have ⟨callee, ⟨args⟩, ⟨tys⟩⟩ := c
  cases callee with
  | value f => exact xT (z8 (ze _) fun tf => z8 (wx _) fun vf => z8X _ _ _ _ _ _) (zl _)
  | invoke r m => exact sdLift' ho
  | builtin b =>
   cases b with
   | len =>
    rcases args with _ | ⟨x, _ | ⟨y, l⟩⟩ <;> rcases tys with _ | ⟨t, _ | ⟨t', l'⟩⟩ <;> first | exact sdLift' ho | exact z8 (ze _) fun y => z8 (WI _) fun z => z8 (ze _) fun m => xT (Xe (zL _ fun r => wrT n o.dst (.d r)).symm (z8 (JJ _) fun r => ze _)) (zl _)
   | cap =>
    rcases args with _ | ⟨x, _ | ⟨y, l⟩⟩ <;> rcases tys with _ | ⟨t, _ | ⟨t', l'⟩⟩ <;> first | exact sdLift' ho | exact z8 (ze _) fun y => z8 (WI _) fun z => z8 (ze _) fun m => xT (Xe (zL _ fun r => wrT n o.dst (.d r)).symm (z8 (JJ _) fun r => ze _)) (zl _)
   | append =>
    rcases args with _ | ⟨x, _ | ⟨y, _ | ⟨z, l⟩⟩⟩ <;> rcases tys with _ | ⟨t, _ | ⟨t', _ | ⟨t'', l'⟩⟩⟩ <;> first | exact sdLift' ho | skip
    refine xT (z8 (ze _) fun ts => z8 (ze _) fun tx => z8 (WI _) fun w => ?_) (zl _)
    cases w with
    | osl sz tg ys =>
     dsimp only
     refine Xe (m' := pure (A.areD ys) >>= fun b => match b with | true => appendA tt n o.dst t ts tx | false => appendOwnA tt n o.dst t x y) ?_ (z8 (z3R _) fun b => ?_)
     ·rw [zL]
      cases A.areD ys <;> rfl
     ·cases b
      ·exact z0T _ _ _ _ _ _
      ·exact z0U _ _ _ _ _ _
    | _ => exact z0U _ _ _ _ _ _
   | _ => exact sdLift' ho
 | _ => exact sdLift' ho
where sdLift' {op : Op} {tt : TT} {ctr : Ctr} {n : Fr} {o : Oper} {m : SM Unit} (ho : o.op = op) (e : stepO tt ctr n o = m := by first | rfl | (unfold stepO; simp [ho])) : Snd m (zH (stepO tt ctr n o)) := e ▸ ze _
def zdr (mx : Bool) : A → A → Option A
 | .atom (.int k a), .atom (.int k' b) => if k = k' then some (.atom (.int k (if mx = true then (if a < b then b else a) else (if b < a then b else a)))) else none
 | _, _ => none
def minO (n : Fr) (dst : Option Nat) (mx : Bool) (x y : Operand) : SM Unit := do
 let tx ← opnd x
 let vx ← val tx
 let ty ← opnd y
 let vy ← val ty
 let r ← ofO (zdr mx vx vy)
 wrT n dst (.d r)
def cutO (tt : TT) (n : Fr) (dst : Option Nat) (t : Nat) (x hi : Operand) : SM Unit := do
 let y ← opnd x
 let z ← take y
 match z with
 | .osl sz _ es =>
  if ya tt t = some sz then (bound es.length (some hi) >>= fun h => if h ≤ es.length then wrT n dst (.own (.osl sz false (es.take h))) else zm)
  else zm
 | _ => zm
variable {P : Program}{U : List (Nat × Ent)}{R : List Nat}{S : zf}{tt : TT}{u : Unit}{o : Oper}{h : Array Obj}{t : Nat}{xs : List A}
section
variable {C : Ctx} {S : zf} {Fp : Nat → List Nat} {X : List Nat} {st : St} {a : Act} {w : World}
theorem z7Y (h : Sim C S Fp [] st a w)  {mx : Bool} {x y : Operand} {t1 t2 : Nat} (ho : o.op = .call ⟨.builtin (if mx = true then .max else .min), ⟨[x, y]⟩, ⟨[t1, t2]⟩⟩)    (e : minO C.n o.dst mx x y st = some (u, R, U)) : xz P C o a w (zb U st) := by
 unfold minO at e
 have ⟨tx, _, hx, e1⟩ := bR (zr h) e
 have ⟨vx, _, qx, e2⟩ := bR (xe h hx) e1
 have ⟨ty, _, hy, e3⟩ := bR (zr h) e2
 have ⟨vy, _, qy, e4⟩ := bR (xe h hy) e3
 have ⟨r, _, hr, e5⟩ := bO e4
 unfold zdr at hr
 split at hr
 ·split at hr
  ·rename_i hk
   simp [Option.some.injEq] at hr
   subst hr hk
   have ⟨ex, _⟩ := zj.1 qx
   have ⟨ey, _⟩ := zj.1 qy
   have ⟨Fp', hs⟩ := yk h e5 (x := .d _) (zj.2 ⟨rfl, rfl⟩)
   refine zi ?_ hs
   cases mx
   ·simp [execOp, ho, resolve, invoke, builtin, ex, ey, Builtin.min_, Builtin.min2]
   ·simp [execOp, ho, resolve, invoke, builtin, ex, ey, Builtin.max_, Builtin.max2]
  ·cases hr
 ·cases hr
theorem Ki {cs : List Value} {F : List Nat} (q : zC S h xs cs F) (k : Nat) : ∃ F', zC S h (xs.take k) (cs.take (A.sizes (xs.take k))) F' ∧ (∀ b ∈ F', b ∈ F) ∧ (F.Nodup → F'.Nodup) := by
 induction xs generalizing cs F k with
 | nil =>
  simp only [zC] at q
  obtain ⟨rfl, rfl⟩ := q
  exact ⟨[], by simp [zC], by simp, by simp⟩
 | cons x xs ih =>
  cases k with
  | zero => exact ⟨[], by simp [zC, A.sizes], by simp, by simp⟩
  | succ k =>
   simp only [zC] at q
   obtain ⟨c1, c2, F1, F2, rfl, rfl, q1, q2⟩ := q
   have ⟨F', g1, g2, g3⟩ := ih q2 k
   refine ⟨F1 ++ F', ?_, ?_, ?_⟩
   ·simp only [List.take_succ_cons, zC, A.sizes]
    refine ⟨c1, c2.take (A.sizes (xs.take k)), F1, F', ?_, rfl, q1, g1⟩
    rw [List.take_append, q1.len, List.take_of_length_le (by rw [q1.len]; omega)]
    simp
   ·intro b hb
    rcases List.mem_append.1 hb with hb | hb
    ·simp [hb]
    ·simp [g2 b hb]
   ·intro hn
    rw [List.nodup_append] at hn ⊢
    refine ⟨hn.1, g3 hn.2.1, ?_⟩
    intro k hk k' hk'
    exact hn.2.2 k hk k' (g2 k' hk')
theorem zc8 {P : Program}  (hT : yH P tt) (h : Sim C S Fp [] st a w)   {x hi : Operand} (ho : o.op = .slice t x none (some hi) none)    (e : cutO tt C.n o.dst t x hi st = some (u, R, U)) : xz P C o a w (zb U st) := by
 unfold cutO at e
 have ⟨y, _, hx, e1⟩ := bR (zr h) e
 obtain ⟨z, R3, U3, R4, U4, h3, e2, rfl, rfl⟩ := bind_some e1
 have ⟨Fp', F, g1, g2⟩ := Vq h hx h3
 rw [zn]
 cases z with
 | osl sz tg es =>
  simp only at e2
  split at e2
  ·rename_i hel
   have ⟨hh, _, b2, e3⟩ := bR (Xn g1) e2
   split at e3
   ·rename_i hle
    have ⟨el, he, hsz⟩ := yu hT hel w
    obtain ⟨cs, k1, k2, k3⟩ : ∃ cs, zw S w.heap (.osl sz tg es) cs F ∧ F.Nodup ∧ a.eval x = zJ (.osl sz tg es) cs := by
     rcases g2 with ⟨q, _⟩ | q
     ·simp only [yi, xM, Rep, false_and, exists_false] at q
     ·exact q
    simp only [zw] at k1
    obtain ⟨p, c, rfl, t1, t2, t3, t4, t5⟩ := k1
    have ev : a.eval x = .slice p es.length c := k3
    have hrun := vp (P := P) (w := w) he hsz (p := p) (len := es.length) (c := c) (lo := none) (mx := none) (.inl ⟨rfl, rfl⟩) (Xo b2) (.inl ⟨rfl, rfl⟩) (Nat.zero_le _) (by omega) (Nat.le_refl c) (by simp)
    have hp : (if c = 0 then p else p.map (·.add (0 * sz))) = p := by
     split
     ·rfl
     ·cases p <;> simp [Addr.add]
    rw [hp] at hrun
    have hlen : (es.take hh).length = hh := by simp; omega
    have ht4 : ∀ x ∈ es.take hh, x.size = sz := fun x hx => t4 x (List.mem_of_mem_take hx)
    obtain ⟨F2, cs2, m1, m2, m3, m4⟩ : ∃ F2 cs2, zw S w.heap (.osl sz false (es.take hh)) cs2 F2 ∧ F2.Nodup ∧ (∀ k ∈ F2, k ∈ F) ∧ zJ (.osl sz false (es.take hh)) cs2 = .slice p hh c := by
     rcases t5 with ⟨rfl, rfl, rfl, rfl⟩ | ⟨b, arr, ty, l, F', rfl, e1, e2, e3, e4, rfl, e5⟩
     ·have : hh = 0 := by simp at hle; omega
      subst this
      refine ⟨[], [.slice none 0 0], ?_, by simp, by simp, rfl⟩
      simp only [zw]
      exact ⟨none, 0, by simp, by simp, by simp, Nat.zero_le _, by simp, .inl (by simp)⟩
     ·have ⟨F3, q1, q2, q3⟩ := Ki e4 hh
      have hn := List.nodup_cons.1 k2
      refine ⟨b :: F3, [.slice (some ⟨b, 0, none⟩) hh c], ?_, List.nodup_cons.2 ⟨fun q => hn.1 (q2 b q), q3 hn.2⟩, ?_, rfl⟩
      ·simp only [zw]
       refine ⟨some ⟨b, 0, none⟩, c, by rw [hlen], by simp, by rw [hlen]; omega, t3, ht4, .inr ⟨b, arr, ty, _, F3, rfl, e1, e2, ?_, q1, rfl, e5⟩⟩
       rw [← e3, List.take_take, A.sizes_const ht4, hlen]
       congr 1
       have := Nat.mul_le_mul_right sz hle
       omega
      ·intro k hk
       rcases List.mem_cons.1 hk with rfl | hk
       ·simp
       ·simp [q2 k hk]
    have g1' : Sim C S Fp' (F2 ++ []) (zb U3 st) a w := g1.mem g1.below (fun _ _ _ h => h) g1.still.cell g1.sbase (fun t' k hk => ⟨rfl, (g1.free t' k hk).2.1⟩) (by simpa using m2) (fun t' k hk => g1.xd t' k (by simp at hk ⊢; exact m3 k hk)) (fun k hk => g1.xb k (by simp at hk ⊢; exact m3 k hk))
    have ⟨Fp'', hs⟩ := jI g1' e3 m1 m2
    rw [m4] at hs
    refine zi ?_ hs
    simp only [Nat.sub_zero] at hrun
    simp only [Option.map_some] at hrun
    simp [execOp, ho, ev, hrun]
   ·cases e3
  ·cases e2
 | _ => cases e2
end
variable {w : World}{y : A}
theorem z6y (hT : yH P tt)   (hf : wW tt t y = true) {w : World} {c1 cs c2 : List Value} (hl : cs.length = y.size) :
  (part t (c1 ++ cs ++ c2).toArray c1.length).run P w = .ok (zJ y cs) w := by
 unfold wW at hf
 split at hf
 ·rename_i i hi
  simp only [Bool.and_eq_true, beq_iff_eq, Bool.or_eq_true] at hf
  have ⟨⟨h1, h2⟩, h3⟩ := hf
  have hk := YR (hT t i hi).kind w
  unfold part
  simp only [Sem.run_bind, hk, Result.andThen_ok, Sem.run_ite]
  by_cases ha : i.kind.isAgg = true
  ·rw [if_pos ha]
   rw [h1] at ha
   cases y <;> simp [A.isAgg] at ha
   simp only [wF hT hi, Result.andThen_ok, h2, ← hl, Sem.run_pure, zJ]
   congr 2
   simp [List.extract_eq_take_drop]
  ·rw [if_neg ha]
   have h4 : i.size = 1 := by simpa [ha] using h3
   have hlen : cs.length = 1 := by omega
   obtain ⟨c, rfl⟩ := List.length_eq_one_iff.1 hlen
   rw [h1] at ha
   have : ((c1 ++ [c] ++ c2).toArray)[c1.length]? = some c := by simp
   rw [this]
   cases y <;> simp_all [A.isAgg, zJ]
 ·cases hf
def z87 (tt : TT) (t : Nat) : Option (Nat × Nat) :=
 match tt t with
 | some ⟨.array n e, _, _, _, _⟩ => some (n, e)
 | _ => none
def indexO (tt : TT) (n : Fr) (dst : Option Nat) (t : Nat) (x i : Operand) : SM Unit := do
 let tx ← opnd x
 let vx ← val tx
 let ti ← opnd i
 let vi ← val ti
 match vx, vi with
 | .agg fs, .atom (.int _ j) =>
  match z87 tt t with
  | some (m, e) => match fs[j.toNat]? with
   | some y => if 0 ≤ j ∧ j < (m : Int) ∧ wW tt e y = true ∧ y.isD = true ∧ (fs.take j.toNat).all (fun z => z.size == y.size) = true then wrT n dst (.d y) else zm
   | none => zm
  | none => zm
 | _, _ => zm
variable {st : St}{Fp : Nat → List Nat}{a : Act}{C : Ctx}
theorem z2U {P : Program}  (hT : yH P tt)      {w : World} (h : Sim C S Fp [] st a w)   {x i : Operand} (ho : o.op = .index t x i)    (e : indexO tt C.n o.dst t x i st = some (u, R, U)) : xz P C o a w (zb U st) := by
 unfold indexO at e
 have ⟨tx, _, hx, e1⟩ := bR (zr h) e
 have ⟨vx, _, qx, e2⟩ := bR (xe h hx) e1
 have ⟨ty, _, hy, e3⟩ := bR (zr h) e2
 have ⟨vy, _, qy, e4⟩ := bR (xe h hy) e3
 split at e4
 ·rename_i fs k j
  cases ha : z87 tt t with
  | none => simp only [ha] at e4; cases e4
  | some q =>
   have ⟨m, el⟩ := q
   simp only [ha] at e4
   cases hf : fs[j.toNat]? with
   | none => simp only [hf] at e4; cases e4
   | some y =>
    simp only [hf] at e4
    split at e4
    ·rename_i hc
     have ⟨c1, c2, c3, c4, c5⟩ := hc
     have hk : P.underlying t = some (.array m el) := by
      unfold z87 at ha
      split at ha
      ·rename_i ht; cases ha; exact (hT _ _ ht).kind
      ·cases ha
     obtain ⟨i', hi⟩ : ∃ i', tt el = some i' := by
      unfold wW at c3
      split at c3
      ·exact ⟨_, by assumption⟩
      ·cases c3
     have ⟨cs, r1, r2⟩ := (qx : xM S (.agg fs) (a.eval x))
     simp only [Rep] at r1
     obtain ⟨d1, ci, d2, rfl, hl, hr⟩ := Xg r1 hf
     have ei := (zj.1 qy).1
     have hsz : i'.size = y.size := by
      unfold wW at c3
      rw [hi] at c3
      simp only [Bool.and_eq_true, beq_iff_eq] at c3
      exact c3.1.2
     have hoff : d1.length = j.toNat * i'.size := by
      rw [hl, A.sizes_const (sz := y.size) (fun z hz => by simpa using List.all_eq_true.1 c5 z hz), List.length_take, hsz]
      congr 1
      have := (List.getElem?_eq_some_iff.1 hf).1
      omega
     have ⟨Fp', hs⟩ := yk h e4 (x := .d y) (xM.repV ⟨ci, hr, rfl⟩)
     refine zi ?_ hs
     have hp := z6y (P := P) hT c3 (w := w) (c1 := d1) (c2 := d2) hr.len
     rw [hoff] at hp
     have ex : a.eval x = .agg (d1 ++ ci ++ d2).toArray := r2
     simp only [execOp, ho, Instr.index, asIntOf, ei, ex, Sem.run_bind, Sem.run_pure, Result.andThen_ok, run_underlying hk, c1, c2, and_self, if_true, wF hT hi, hp]
    ·cases e4
 ·cases e4
def z9X (tt : TT) (n : Fr) (o : Oper) : Option (SM Unit) :=
 match o.op with
 | .call ⟨.builtin .min, ⟨[x, y]⟩, ⟨[_, _]⟩⟩ => some (minO n o.dst false x y)
 | .call ⟨.builtin .max, ⟨[x, y]⟩, ⟨[_, _]⟩⟩ => some (minO n o.dst true x y)
 | .index t x i => some (indexO tt n o.dst t x i)
 | _ => none
theorem Loc.indexO (tt : TT) (n : Fr) (dst : Option Nat) (t : Nat) (x i : Operand) : Loc (indexO tt n dst t x i) := by
 unfold Go.Own.indexO
 refine Loc.bind (Loc.opnd _) fun _ => Loc.bind (Loc.val _) fun _ => Loc.bind (Loc.opnd _) fun _ => Loc.bind (Loc.val _) fun _ => ?_
 split
 ·split
  ·split
   ·exact Loc.ite (Loc.wrT _ _ _) Loc.fail
   ·exact Loc.fail
  ·exact Loc.fail
 ·exact Loc.fail
theorem Loc.minO (n : Fr) (dst : Option Nat) (mx : Bool) (x y : Operand) : Loc (minO n dst mx x y) := by
 unfold Go.Own.minO
 exact Loc.bind (Loc.opnd _) fun _ => Loc.bind (Loc.val _) fun _ => Loc.bind (Loc.opnd _) fun _ => Loc.bind (Loc.val _) fun _ => Loc.bind (Loc.ofO _) fun _ => Loc.wrT _ _ _
theorem Loc.cutO (tt : TT) (n : Fr) (dst : Option Nat) (t : Nat) (x hi : Operand) : Loc (cutO tt n dst t x hi) := by
 unfold Go.Own.cutO
 refine Loc.bind (Loc.opnd _) fun _ => Loc.bind (Loc.take _) fun z => ?_
 cases z with
 | osl sz tg es => exact Loc.ite (Loc.bind (Loc.bound _ _) fun _ => Loc.ite (Loc.wrT _ _ _) Loc.fail) Loc.fail
 | _ => exact Loc.fail
theorem z9l (hT : yH P tt) : Jo P (z9X tt) := by
 refine ⟨?_, ?_⟩
 ·intro C S Fp st a w o m u R U e h h2
  unfold z9X at e
  split at e
  ·rename_i ho; cases e; exact z7Y (mx := false) h ho h2
  ·rename_i ho; cases e; exact z7Y (mx := true) h ho h2
  ·rename_i ho; cases e; exact z2U hT h ho h2
  ·cases e
 ·intro n o m e
  unfold z9X at e
  split at e
  ·cases e; exact fun st st' a R U => Loc.minO _ _ _ _ _ st st' a R U
  ·cases e; exact fun st st' a R U => Loc.minO _ _ _ _ _ st st' a R U
  ·cases e; exact fun st st' a R U => Loc.indexO _ _ _ _ _ _ st st' a R U
  ·cases e
def Kh (tt : TT) (d : Nat) (n : Fr) (o : Oper) : Option (SM Unit) :=
 match o.op with
 | .slice t x none (some hi) none => if o.dst = some d then some (cutO tt n o.dst t x hi) else none
 | _ => none
theorem z4J (hT : yH P tt) (d : Nat) : Jo P (Kh tt d) := by
 refine ⟨?_, ?_⟩
 ·intro C S Fp st a w o m u R U e h h2
  unfold Kh at e
  split at e
  ·rename_i ho
   split at e
   ·cases e; exact zc8 hT h ho h2
   ·cases e
  ·cases e
 ·intro n o m e
  unfold Kh at e
  split at e
  ·split at e
   ·cases e; exact fun st st' a R U => Loc.cutO _ _ _ _ _ _ st st' a R U
   ·cases e
  ·cases e
structure XH (P : Program) where
 e : Fr → Oper → Option (SM Unit)
 h : Fr → Oper → Option (HM Unit)
 ok : Jo P e
 none : ∀ n o, e n o = none → h n o = none
 some : ∀ n o m, e n o = some m → ∃ q, h n o = some q ∧ Snd m q
def XH.or (x y : XH P) : XH P := {
 e := fun n o => match x.e n o with | .some m => .some m | .none => y.e n o
 h := fun n o => match x.h n o with | .some m => .some m | .none => y.h n o
 ok := by
  refine ⟨?_, ?_⟩
  ·intro C S Fp st a w o m u R U e
   cases hx : x.e C.n o with
   | some m' => simp only [hx] at e; cases e; exact x.ok.1 C S Fp st a w o _ u R U hx
   | none => simp only [hx] at e; exact y.ok.1 C S Fp st a w o _ u R U e
  ·intro n o m e
   cases hx : x.e n o with
   | some m' => simp only [hx] at e; cases e; exact x.ok.2 n o _ hx
   | none => simp only [hx] at e; exact y.ok.2 n o _ e
 none := by
  intro n o e
  cases hx : x.e n o with
  | some m' => simp only [hx] at e; cases e
  | none => simp only [hx] at e; simp only [x.none n o hx]; exact y.none n o e
 some := by
  intro n o m e
  cases hx : x.e n o with
  | some m' =>
   simp only [hx] at e; cases e
   have ⟨q, h1, h2⟩ := x.some n o _ hx
   exact ⟨q, by simp only [h1], h2⟩
  | none =>
   simp only [hx] at e
   have ⟨q, h1, h2⟩ := y.some n o _ e
   exact ⟨q, by simp only [x.none n o hx]; exact h1, h2⟩ }
def zdq (n : Fr) (dst : Option Nat) (mx : Bool) (x y : Operand) : HM Unit := zH (opnd x) >>= fun tx => Yx tx >>= fun vx => zH (opnd y) >>= fun ty => Yx ty >>= fun vy => zH (ofO (zdr mx vx vy) >>= fun r => wrT n dst (.d r))
theorem zbm (n : Fr) (dst : Option Nat) (mx : Bool) (x y : Operand) : Snd (minO n dst mx x y) (zdq n dst mx x y) :=
 z8 (ze _) fun _ => z8 (wx _) fun _ => z8 (ze _) fun _ => z8 (wx _) fun _ => ze _
def zfj (tt : TT) (n : Fr) (dst : Option Nat) (t : Nat) (x hi : Operand) : HM Unit := zH (opnd x) >>= fun y => z1R y >>= fun z =>
 match z with
 | .osl sz _ es => if ya tt t = some sz then Jj es.length (some hi) >>= fun h => wy (h ≤ es.length) (eqL (es.take h) >>= fun xs => zH (wrT n dst (.own (.osl sz false xs)))) else zz
 | _ => zz
theorem zda (tt : TT) (n : Fr) (dst : Option Nat) (t : Nat) (x hi : Operand) : Snd (cutO tt n dst t x hi) (zfj tt n dst t x hi) := by
 refine z8 (ze _) fun y => z8 (JZ _) fun z => ?_
 cases z with
 | osl sz tg es =>
  refine xT (z8 (Vx _ _) fun h => ym ?_) (zl _)
  exact Xe (zL _ fun xs => wrT n dst (.own (.osl sz false xs))).symm (z8 (z3o _) fun _ => ze _)
 | _ => exact zl _
def z84 (tt : TT) (n : Fr) (dst : Option Nat) (t : Nat) (x i : Operand) : HM Unit := zH (opnd x) >>= fun tx => Yx tx >>= fun vx => zH (opnd i) >>= fun ti => Yx ti >>= fun vi =>
 zH (match vx, vi with
 | .agg fs, .atom (.int _ j) =>
  match z87 tt t with
  | some (m, e) => match fs[j.toNat]? with
   | some y => if 0 ≤ j ∧ j < (m : Int) ∧ wW tt e y = true ∧ y.isD = true ∧ (fs.take j.toNat).all (fun z => z.size == y.size) = true then wrT n dst (.d y) else zm
   | none => zm
  | none => zm
 | _, _ => zm)
theorem z8V (tt : TT) (n : Fr) (dst : Option Nat) (t : Nat) (x i : Operand) : Snd (indexO tt n dst t x i) (z84 tt n dst t x i) :=
 z8 (ze _) fun _ => z8 (wx _) fun _ => z8 (ze _) fun _ => z8 (wx _) fun _ => ze _
def xB (hT : yH P tt) : XH P := {
 e := z9X tt
 h := fun n o => match o.op with
  | .call ⟨.builtin .min, ⟨[x, y]⟩, ⟨[_, _]⟩⟩ => some (zdq n o.dst false x y)
  | .call ⟨.builtin .max, ⟨[x, y]⟩, ⟨[_, _]⟩⟩ => some (zdq n o.dst true x y)
  | .index t x i => some (z84 tt n o.dst t x i)
  | _ => none
 ok := z9l hT
 none := by
  intro n o e
  unfold z9X at e
  split at e
  ·cases e
  ·cases e
  ·cases e
  ·rfl
 some := by
  intro n o m e
  unfold z9X at e
  split at e
  ·rename_i ho; cases e; exact ⟨_, by simp only, zbm _ _ _ _ _⟩
  ·rename_i ho; cases e; exact ⟨_, by simp only, zbm _ _ _ _ _⟩
  ·rename_i ho; cases e; exact ⟨_, by simp only, z8V _ _ _ _ _ _⟩
  ·cases e }
def zcJ (hT : yH P tt) (d : Nat) : XH P := {
 e := Kh tt d
 h := fun n o => match o.op with
  | .slice t x none (some hi) none => if o.dst = some d then some (zfj tt n o.dst t x hi) else none
  | _ => none
 ok := z4J hT d
 none := by
  intro n o e
  unfold Kh at e
  split at e
  ·rename_i ho
   split at e
   ·cases e
   ·rename_i hd; simp [if_neg hd]
  ·rfl
 some := by
  intro n o m e
  unfold Kh at e
  split at e
  ·rename_i ho
   split at e
   ·rename_i hd; cases e; exact ⟨_, by simp [if_pos hd], zda _ _ _ _ _ _⟩
   ·cases e
  ·cases e }
theorem z4E {ks : List Nat} {m : SM Unit} (hm : ∀ S Fp st, Sim C S Fp [] st a w → ∀ u R U, m st = some (u, R, U) → xz P C o a w (zb U st)) (h : Sim C S Fp [] st a w) {u : Unit} {R : List Nat} {U : List (Nat × Ent)}
  (e : (shutArgs (fun _ => none) (ks.map fun k => (.tmp k, 0)) >>= fun _ => m) st = some (u, R, U)) : xz P C o a w (zb U st) := by
 obtain ⟨xs, R1, U1, R2, U2, h1, e1, rfl, rfl⟩ := bind_some e
 have ⟨S1, Fp1, g1, _⟩ := xK h h1
 rw [zn]
 exact hm _ _ _ g1 _ _ _ e1
def zfd (d : Nat ⊕ Nat) (o : Oper) : Bool :=
 match d with
 | .inl d => o.dst == some d
 | .inr p => match o.op with | .store _ (.tmp q) _ => q == p | _ => false
def Je (tt : TT) (d : Nat ⊕ Nat) (ks : List Nat) (n : Fr) (o : Oper) : Option (SM Unit) :=
 if zfd d o = true then some (shutArgs (fun _ => none) (ks.map fun k => (.tmp k, 0)) >>= fun _ => stepO tt VT n o) else none
def YB (hT : yH P tt) (d : Nat ⊕ Nat) (ks : List Nat) : XH P := {
 e := Je tt d ks
 h := fun n o => if zfd d o = true then some (ww (fun _ => none) (ks.map fun k => (.tmp k, 0)) >>= fun _ => z0M tt VT n o) else none
 ok := by
  refine ⟨?_, ?_⟩
  ·intro C S Fp st a w o m u R U e h h2
   unfold Je at e
   split at e
   ·cases e
    exact z4E (fun S Fp st h u R U e => KQ hT (z2e P) h e) h h2
   ·cases e
  ·intro n o m e
   unfold Je at e
   split at e
   ·cases e
    exact fun st st' a R U => Loc.bind (Loc.shutArgs _ _) (fun _ => Loc.stepO _ _ _ _) st st' a R U
   ·cases e
 none := by
  intro n o e
  unfold Je at e
  split at e
  ·cases e
  ·rename_i hd; rw [if_neg hd]
 some := by
  intro n o m e
  unfold Je at e
  split at e
  ·rename_i hd; cases e
   exact ⟨_, by rw [if_pos hd], z8 (vC _ _) fun _ => z1W _ _ _ _⟩
  ·cases e }
def z2u (X : XH P) (tt : TT) (ctr : Ctr) (n : Fr) (o : Oper) : HM Unit :=
 match X.h n o with
 | some q => q
 | none => z0M tt (ctr.withE X.e) n o
theorem z3L (X : XH P) (tt : TT) (ctr : Ctr) (n : Fr) (o : Oper) : Snd (stepX tt (ctr.withE X.e) n o) (z2u X tt ctr n o) := by
 unfold stepX z2u
 cases he : X.e n o with
 | none =>
  rw [X.none n o he]
  exact Xe (by simp [he]) (z1W _ _ _ _)
 | some m =>
  have ⟨q, h1, h2⟩ := X.some n o m he
  rw [h1]
  exact Xe (by simp [he]) h2
def z1U (X : XH P) (tt : TT) (ctr : Ctr) (n : Fr) (ops : Array Oper) (o : Oper) : HM Unit :=
 match o.guard with
 | none => z2u X tt ctr n o
 | some (j, want) =>
  match (ops[j]?).bind (·.dst) with
  | some g => zH (rdE g) >>= fun e =>
   match e.t with
   | .d (.atom (.bool b)) => zcg b >>= fun b => if b = want then z2u X tt ctr n o else zH (wrT n o.dst (.d (.tup [])))
   | .d (.tup []) => zH (wrT n o.dst (.d (.tup [])))
   | _ => zz
  | none => zz
def z7V : List H → List H
 | .op 0 :: hs => hs
 | .op (m + 1) :: hs => .op m :: hs
 | hs => hs
def z2v (X : XH P) (tt : TT) (ctr : Ctr) (n : Fr) (ops : Array Oper) (o : Oper) : HM Unit := fun st hs => z1U X tt ctr n ops o st (z7V hs)
theorem z6w (X : XH P) (tt : TT) (ctr : Ctr) (n : Fr) (ops : Array Oper) (o : Oper) : Snd (stepG tt (ctr.withE X.e) n ops o) (z1U X tt ctr n ops o) := by
 unfold stepG z1U
 cases o.guard with
 | none => exact z3L _ _ _ _ _
 | some q =>
  have ⟨j, want⟩ := q
  dsimp only
  cases (ops[j]?).bind (·.dst) with
  | none => exact zl _
  | some g =>
   refine z8 (ze _) fun e => ?_
   have ⟨t, a, b⟩ := e
   cases t with
   | d x =>
    cases x with
    | atom v =>
     cases v with
     | bool b =>
      refine Xe (m' := pure b >>= fun b => if b = want then stepX tt (ctr.withE X.e) n o else wrT n o.dst (.d (.tup []))) (zL _ _).symm ?_
      exact z8 (z3R _) fun b => xT (z3L _ _ _ _ _) (ze _)
     | _ => exact zl _
    | tup l =>
     cases l with
     | nil => exact ze _
     | cons _ _ => exact zl _
    | _ => exact zl _
   | _ => exact zl _
theorem z3M (X : XH P) (tt : TT) (ctr : Ctr) (n : Fr) (ops : Array Oper) (o : Oper) : Snd (stepG tt (ctr.withE X.e) n ops o) (z2v X tt ctr n ops o) :=
 fun st hs a R U hs' ob e ho => z6w X tt ctr n ops o st (z7V hs) a R U hs' ob e ho
abbrev Lg := List (List Nat × List Nat)
def z3m (X : XH P) (tt : TT) (ctr : Ctr) (n : Fr) (ops : Array Oper) : List Oper → St → List H → Option (St × List H × List Prop × Lg)
 | [], st, hs => some (st, hs, [], [])
 | o :: os, st, hs =>
  match z2v X tt ctr n ops o st hs with
  | none => none
  | some (_, R, U, hs', ob) =>
   match z3m X tt ctr n ops os (zb U st) hs' with
   | none => none
   | some (st', hs'', ob', lg) => some (st', hs'', ob ++ ob', (R, U.map (·.1)) :: lg)
variable {ops : Array Oper}
section
variable {P : Program} {X : XH P} {tt : TT} {ctr : Ctr} {n : Fr}
theorem UO {K : St → Prop} : ∀ (l : List Oper) (st : St) (hs : List H) {st' : St} {hs' : List H} {ob : List Prop} {lg : Lg}, z3m X tt ctr n ops l st hs = some (st', hs', ob, lg) → Q2 ob → K st' → z8M tt (ctr.withE X.e) n ops l st K
 | [], st, hs, st', hs', ob, lg, e, ho, hk => by
  simp only [z3m, Option.some.injEq, Prod.mk.injEq] at e
  obtain ⟨rfl, _⟩ := e
  exact hk
 | o :: os, st, hs, st', hs', ob, lg, e, ho, hk => by
  simp only [z3m] at e
  cases e1 : z2v X tt ctr n ops o st hs with
  | none => simp only [e1] at e; cases e
  | some q =>
   have ⟨u, R, U, hs1, ob1⟩ := q
   simp only [e1] at e
   cases e2 : z3m X tt ctr n ops os (zb U st) hs1 with
   | none => simp only [e2] at e; cases e
   | some q =>
    have ⟨st2, hs2, ob2, lg2⟩ := q
    simp only [e2, Option.some.injEq, Prod.mk.injEq] at e
    obtain ⟨rfl, rfl, rfl, rfl⟩ := e
    have ⟨o1, o2⟩ := y7 ho
    simp only [z8M, z9T]
    rw [z3M X tt ctr n ops o _ _ _ _ _ _ _ e1 o1]
    exact UO os _ _ e2 o2 hk
theorem z0P {K : St → Prop} : ∀ (l : List Oper) (st : St) (hs : List H) (logs : Lg) {st' : St} {hs' : List H} {ob : List Prop} {lg : Lg}, z3m X tt ctr n ops l st hs = some (st', hs', ob, lg) → Q2 ob → Jg ops.toList (logs ++ lg) = true → K st' → z3v tt (ctr.withE X.e) n ops l st logs K
 | [], st, hs, logs, st', hs', ob, lg, e, ho, hd, hk => by
  simp only [z3m, Option.some.injEq, Prod.mk.injEq] at e
  obtain ⟨rfl, _, _, rfl⟩ := e
  exact ⟨by simpa using hd, hk⟩
 | o :: os, st, hs, logs, st', hs', ob, lg, e, ho, hd, hk => by
  simp only [z3m] at e
  cases e1 : z2v X tt ctr n ops o st hs with
  | none => simp only [e1] at e; cases e
  | some q =>
   have ⟨u, R, U, hs1, ob1⟩ := q
   simp only [e1] at e
   cases e2 : z3m X tt ctr n ops os (zb U st) hs1 with
   | none => simp only [e2] at e; cases e
   | some q =>
    have ⟨st2, hs2, ob2, lg2⟩ := q
    simp only [e2, Option.some.injEq, Prod.mk.injEq] at e
    obtain ⟨rfl, rfl, rfl, rfl⟩ := e
    have ⟨o1, o2⟩ := y7 ho
    simp only [z3v, z9T]
    rw [z3M X tt ctr n ops o _ _ _ _ _ _ _ e1 o1]
    exact z0P os _ _ _ e2 o2 (by simpa using hd) hk
end
inductive Fm where
 | seq (y : Code)
 | blk (id : Nat)
 | pre (J : St → Prop)
 | rnd (m : Nat) (c : Code)
def za5 (P : Program) (n : Fr) (c : Code) : Nat → St → (Exit → St → Prop) → Prop
 | 0, _, _ => False
 | m + 1, st, Q => AWP P n c st (z1Q (fun st' => za5 P n c m st' Q) Q)
variable {Q : Exit → St → Prop}{c : Code}{n : Fr}
theorem za5.loop : ∀ (m : Nat) (st : St), za5 P n c m st Q → AWP P n (.loop c) st Q := by
 intro m st h rd mm df w0 S0 M S Fp a w hc hs
 refine wpIn_loop_rounds m ?_
 have gen : ∀ (m : Nat) (st : St) (df' : List Nat) (S : zf) (Fp : Nat → List Nat) (a : Act) (w : World), za5 P n c m st Q → Sim ⟨n, df', w0, S0, M⟩ S Fp [] st a w → uX df M df' Fp w → Code.roundsIn (fen rd) mm P c (z5n n df w0 S0 M Q) m a w := by
  intro m
  induction m with
  | zero => intro st df' S Fp a w h _ _; exact h.elim
  | succ m ih =>
   intro st df' S Fp a w h hs hd
   refine wpIn_mono (AWP.go h hc hs hd) ?_
   intro e a' w' hp
   cases e with
   | normal =>
    have ⟨df2, st2, S2, Fp2, h1, h2, h3⟩ := hp
    exact ih st2 df2 S2 Fp2 a' w' h3 h1 h2
   | _ => exact hp.next fun _ q => q
 exact gen m st df S Fp a w h hs (hc.post hs)
def Qf (P : Program) (n : Fr) : List Fm → (Exit → St → Prop) → Exit → St → Prop
 | [], Q => Q
 | .seq y :: fs, Q => z1Q (fun st => AWP P n y st (Qf P n fs Q)) (Qf P n fs Q)
 | .blk id :: fs, Q => Km id (Qf P n fs Q)
 | .pre J :: fs, Q => z1Q J (Qf P n fs Q)
 | .rnd m c :: fs, Q => z1Q (fun st => za5 P n c m st (Qf P n fs Q)) (Qf P n fs Q)
inductive z3c where
 | fin (e : Exit)
 | back (J : St → Prop)
 | at (c : Code) (fs : List Fm)
def z3c.sem (P : Program) (n : Fr) (Q : Exit → St → Prop) : z3c → St → Prop
 | .fin e, st => Q e st
 | .back J, st => J st
 | .at c fs, st => AWP P n c st (Qf P n fs Q)
inductive Nxt where
 | go (y : Code) (fs : List Fm)
 | stop (s : z3c)
 | none
def unw : List Fm → Nxt
 | [] => .stop (.fin .normal)
 | .seq y :: fs => .go y fs
 | .blk _ :: fs => unw fs
 | .pre J :: _ => .stop (.back J)
 | .rnd (m + 1) c :: fs => .go c (.rnd m c :: fs)
 | .rnd 0 _ :: _ => .none
def z1D (id : Nat) : List Fm → Option (List Fm)
 | [] => none
 | .blk i :: fs => if id = i then some fs else z1D id fs
 | .seq _ :: fs => z1D id fs
 | .pre _ :: fs => z1D id fs
 | .rnd _ _ :: fs => z1D id fs
abbrev z5m := Option (z3c × St × List H × List Prop)
def za0 (ob : List Prop) : z5m → z5m
 | none => none
 | some (s, st, hs, ob') => some (s, st, hs, ob ++ ob')
def goN (rec : Code → List Fm → St → List H → z5m) (x : Nxt) (st : St) (hs : List H) : z5m :=
 match x with
 | .go y fs => rec y fs st hs
 | .stop s => some (s, st, hs, [])
 | .none => none
def z6u (k : Nat) : SM Unit := do
 let y ← opnd (.tmp k)
 let q ← ptrOf y
 match q with
 | .inr (r, p, er, ec) => do
  let _ ← lookP r p er ec
  let _ ← shutT (fun _ => none) 0 (.als r p er ec)
  pure ()
 | .inl _ => zm
def z6s (k : Nat) : SM Unit := do
 let e ← rdE k
 match e.t with
 | .own (.osl sz t es) => if A.lives es = true then wrE k ⟨.own (.osl sz t (A.shuts es)), e.er, e.ec + 1⟩ else zm
 | _ => zm
def z6W : T → Bool
 | .own (.osl _ _ _) => true
 | _ => false
def sealX (k : Nat) : SM Unit := do
 let e ← rdE k
 if z6W e.t = true then z6s k else z6u k
def z2y : List Nat → SM Unit
 | [] => pure ()
 | k :: ks => do
  sealX k
  z2y ks
def z7L (k : Nat) : HM Unit :=
 zH (opnd (.tmp k)) >>= fun y => zH (ptrOf y) >>= fun q =>
 match q with
 | .inr (r, p, er, ec) => zH (lookP r p er ec) >>= fun _ => JW (fun _ => none) 0 (.als r p er ec) >>= fun _ => pure ()
 | .inl _ => zz
def z7K (k : Nat) : HM Unit :=
 zH (rdE k) >>= fun e =>
 match e.t with
 | .own (.osl sz t es) => z6Y >>= fun es' => wy (A.lives es = true ∧ A.shuts es = es') (zH (wrE k ⟨.own (.osl sz t es'), e.er, e.ec + 1⟩))
 | _ => zz
def z7J (k : Nat) : HM Unit := zH (rdE k) >>= fun e => if z6W e.t = true then z7K k else z7L k
def KV : List Nat → HM Unit
 | [] => pure ()
 | k :: ks => z7J k >>= fun _ => KV ks
theorem z8S (k : Nat) : Snd (z6u k) (z7L k) :=
 z8 (ze _) fun y => z8 (ze _) fun q => by
  cases q with
  | inl _ => exact zl _
  | inr q =>
   have ⟨r, p, er, ec⟩ := q
   exact z8 (ze _) fun _ => z8 (YQ _ _ _) fun _ => yV _
theorem z8R (k : Nat) : Snd (z6s k) (z7K k) := by
 refine z8 (ze _) fun e => ?_
 have ⟨t, er, ec⟩ := e
 cases t with
 | own x =>
  cases x with
  | osl sz tg es =>
   intro st hs b R U hs' ob e ho
   obtain ⟨es', R1, U1, hs1, ob1, R2, U2, ob2, e1, e2, rfl, rfl, rfl⟩ := X3 e
   unfold z6Y at e1
   split at e1
   ·cases e1
    have ⟨⟨q1, q2⟩, ob', e3, o3⟩ := z07 e2 (y7 ho).2
    subst q2
    dsimp only
    rw [if_pos q1]
    exact ze _ _ _ _ _ _ _ _ e3 o3
   ·cases e1
  | _ => exact zl _
 | _ => exact zl _
theorem z8Q (k : Nat) : Snd (sealX k) (z7J k) := z8 (ze _) fun e => xT (z8R k) (z8S k)
theorem z2z : ∀ ks, Snd (z2y ks) (KV ks)
 | [] => yV _
 | k :: ks => z8 (z8Q k) fun _ => z2z ks
variable {k : Nat}
theorem z6r (h : Sim C S Fp [] st a w)     (e : z6s k st = some (u, R, U)) : ∃ S' Fp', Sim C S' Fp' [] (zb U st) a w := by
 unfold z6s at e
 have ⟨_, e1⟩ := bD e
 have hno : ∀ x, (st k).t = x → z6W x = false → False := by
  intro x hx hn
  rw [hx] at e1
  cases x with
  | own y => cases y <;> first | exact wj e1 | (simp [z6W] at hn)
  | _ => exact wj e1
 have hyes : ∃ sz t es, (st k).t = .own (.osl sz t es) := by
  cases hx : (st k).t with
  | own y => cases y <;> first | exact ⟨_, _, _, rfl⟩ | exact (hno _ hx rfl).elim
  | _ => exact (hno _ hx rfl).elim
 have ⟨sz, t, es, ht⟩ := hyes
 rw [ht] at e1
 dsimp only at e1
 split at e1
 ·rename_i hl
  cases e1
  have hr := h.ent k
  unfold yf at hr
  simp only [ht] at hr
  have ⟨cs, q, q1, q2⟩ := hr
  simp only [zw] at q
  obtain ⟨p, c, rfl, d1, d2, d3, d4, d5⟩ := q
  simp only [zb]
  rcases d5 with ⟨rfl, rfl, rfl, hF0⟩ | ⟨b, arr, ty, l, F1, rfl, e1, e2, e3, e4, hF0, e5⟩
  ·exact ⟨S, Zj Fp k [], h.change k (.own (.osl sz t (A.shuts []))) _ _ [] h.below (fun _ _ _ q => q) h.still.cell h.sbase (fun t' k' hk hk' => ⟨rfl, (h.free t' k' hk').2.1⟩)
    ⟨⟨_, by simp only [zw]; exact ⟨none, 0, rfl, fun _ => rfl, Nat.le_refl _, Nat.zero_le _, by simp [A.shuts], .inl (by simp [A.shuts])⟩, by simp, by rw [q2]; rfl⟩, _, ht⟩ (.inl ⟨_, ht⟩) (Nat.le_refl _) (Nat.lt_succ_self _) (by simp) (by simp) h.xn (fun t k _ hk => h.xd t k hk) (by simp) h.xb⟩
  ·have hF7 : ∀ q ∈ F1, q ∈ Fp k := fun q hq => by rw [hF0]; exact List.mem_cons_of_mem _ hq
   have ⟨m1, m2, m3, m4⟩ := YZ h hF7
   have hrs := zC.shut (S' := zA S w.heap F1) m1 e4 hl (fun k hk o => by unfold zA; rw [if_pos hk])
   have hlen : (A.shuts es).length = es.length := by simp [A.shuts_eq]
   have hb : b ∉ F1 := by rw [hF0] at q1; exact (List.nodup_cons.1 q1).1
   have hbk : b ∈ Fp k := by rw [hF0]; exact List.mem_cons_self
   refine ⟨zA S w.heap F1, Zj Fp k [b], h.change k (.own (.osl sz t (A.shuts es))) _ _ [b] h.below m1 m2 m3 ?_ ⟨⟨_, ?_, by simp, by rw [q2]; rfl⟩, _, ht⟩ (.inl ⟨_, ht⟩) (Nat.le_refl _) (Nat.lt_succ_self _) ?_ ?_ h.xn (fun t k _ hk => h.xd t k hk) (by simp) h.xb⟩
   ·intro t' k' hk hk'
    refine ⟨rfl, fun o => ?_⟩
    rw [m4 k' (fun hF => hk (h.disj t' k k' hk' (hF7 k' hF)))]
    exact (h.free t' k' hk').2.1 o
   ·simp only [zw]
    refine ⟨some ⟨b, 0, none⟩, c, by rw [hlen], fun ht => by rw [hlen]; exact d1 ht, by rw [hlen]; exact d2, d3, ?_, .inr ⟨b, arr, ty, _, [], rfl, e1, e2, by rw [hlen]; exact e3, zV.concs _ hrs, rfl, ?_⟩⟩
    ·intro x hx
     rw [A.shuts_eq] at hx
     obtain ⟨y, hy, rfl⟩ := List.mem_map.1 hx
     rw [A.size_shut]
     exact d4 y hy
    ·intro o
     rw [m4 b hb]
     exact e5 o
   ·intro t' k' hk hk' hk2
    simp only [List.mem_cons, List.not_mem_nil, or_false] at hk'
    subst hk'
    exact hk (h.disj t' k _ hk2 hbk)
   ·intro k' hk'
    simp only [List.mem_cons, List.not_mem_nil, or_false] at hk'
    subst hk'
    exact h.base k _ hbk
 ·cases e1
theorem z6t (h : Sim C S Fp [] st a w)     (e : z6u k st = some (u, R, U)) : ∃ S' Fp', Sim C S' Fp' [] (zb U st) a w := by
 unfold z6u at e
 obtain ⟨y, R1, U1, R2, U2, h1, e1, rfl, rfl⟩ := bind_some e
 obtain ⟨rfl, hx⟩ := zr h h1
 obtain ⟨q, R3, U3, R4, U4, h3, e2, rfl, rfl⟩ := bind_some e1
 obtain ⟨rfl, hq⟩ := Xi h hx h3
 simp only [zb, List.nil_append] at e2 ⊢
 split at e2
 ·rename_i r p er ec
  obtain ⟨z, R7, U7, R8, U8, h7, e4, rfl, rfl⟩ := bind_some e2
  obtain ⟨rfl, x0, k1, k2, k3, k4⟩ := Xm h7
  simp only [zb, List.nil_append] at e4 ⊢
  obtain ⟨z2, R9, U9, R10, U10, h9, e5, rfl, rfl⟩ := bind_some e4
  obtain ⟨_, _, rfl⟩ := xU e5
  have ⟨b, o', arr, ty, csy, Fy, cs, ev, o1, f2, f3, f4, f5, f6, f7, f8, f9, f10, f11, _⟩ := QD h hq k1 k2 k3 k4
  have hals : TOk S w.heap st (Act.tv a) (.als r p er ec) (zJ z csy) := ⟨by omega, by omega, by
   simp only [k1]
   exact fun _ _ => .inr ⟨o1, z, b, o', csy, k4, f11, f4.len, KT f2 f3, rfl⟩⟩
  have ⟨S', Fp', g1, _⟩ := WG h hals h9
  exact ⟨S', Fp', by simpa using g1⟩
 ·cases e2
theorem z6q (h : Sim C S Fp [] st a w)     (e : sealX k st = some (u, R, U)) : ∃ S' Fp', Sim C S' Fp' [] (zb U st) a w := by
 unfold sealX at e
 have ⟨_, e1⟩ := bD e
 split at e1
 ·exact z6r h e1
 ·exact z6t h e1
theorem z0Q : ∀ {ks : List Nat} {S : zf} {Fp : Nat → List Nat} {st : St}, Sim C S Fp [] st a w → ∀ {u : Unit} {R : List Nat} {U : List (Nat × Ent)}, z2y ks st = some (u, R, U) → ∃ S' Fp', Sim C S' Fp' [] (zb U st) a w
 | [], S, Fp, st, h, u, R, U, e => by
  obtain ⟨_, rfl, rfl⟩ := xU e
  exact ⟨S, Fp, h⟩
 | k :: ks, S, Fp, st, h, u, R, U, e => by
  simp [z2y] at e
  obtain ⟨_, R1, U1, R2, U2, h1, e1, rfl, rfl⟩ := bind_some e
  have ⟨S1, Fp1, g1⟩ := z6q h h1
  rw [zn]
  exact z0Q g1 e1
def zfC : List H → List H
 | .n (m + 1) ks :: hs => .n m ks :: hs
 | .v (m + 1) ks :: hs => .v m ks :: hs
 | .stp (m + 1) :: hs => .stp m :: hs
 | hs => hs
def KS (rec : Code → List Fm → St → List H → z5m) (X : XH P) (tt : TT) (ctr : Ctr) (n : Fr) (c : Code) (fs : List Fm) (st : St) (hs : List H) : z5m :=
  match c with
  | .skip => goN rec (unw fs) st hs
  | .label _ => goN rec (unw fs) st hs
  | .ret => some (.fin .ret, st, hs, [])
   | .exit id => match z1D id fs with | some fs' => goN rec (unw fs') st hs | none => some (.fin (.exit id), st, hs, [])
  | .region _ ops d =>
   match z3m X tt ctr n ops ops.toList st hs with
   | some (st', hs', ob, lg) => if d = false ∨ Jg ops.toList lg = true then za0 ob (goN rec (unw fs) st' hs') else none
   | none => none
  | .seq x y =>
   match hs with
   | .cut 0 :: hs' => some (.at (.seq x y) fs, st, hs', [])
   | .cut (m + 1) :: hs' => rec x (.seq y :: fs) st (.cut m :: hs')
   | hs => rec x (.seq y :: fs) st hs
  | .cond o x y =>
   match z2f st o with
   | some b =>
    match hs with
    | .b b' :: hs' => za0 [b = b'] (rec (match b' with | true => x | false => y) fs st hs')
    | _ => none
   | none => none
  | .block id c => rec c (.blk id :: fs) st hs
  | .loop c =>
   match hs with
   | .u m :: hs' => rec c (.rnd m c :: fs) st hs'
   | hs => some (.at (.loop c) fs, st, hs, [])
  | c => some (.at c fs, st, hs, [])
def z3Y (X : XH P) (tt : TT) (ctr : Ctr) (n : Fr) : Nat → Code → List Fm → St → List H → z5m
 | 0, _, _, _, _ => none
 | k + 1, c, fs, st, hs =>
  match hs with
  | .n 0 ks :: hs =>
   match ww (fun _ => none) (ks.map fun i => (.tmp i, 0)) st hs with
   | some (_, _, U, hs', ob) => za0 ob (z3Y X tt ctr n k c fs (zb U st) hs')
   | none => none
  | .v 0 ks :: hs =>
   match KV ks st hs with
   | some (_, _, U, hs', ob) => za0 ob (z3Y X tt ctr n k c fs (zb U st) hs')
   | none => none
  | .stp 0 :: hs => some (.at c fs, st, hs, [])
  | hs => KS (z3Y X tt ctr n k) X tt ctr n c fs st (zfC hs)
variable {fs : List Fm}{rec : Code → List Fm → St → List H → z5m}{hs : List H}
section
variable {P : Program} {tt : TT} {ctr : Ctr} {n : Fr} {Q : Exit → St → Prop}
theorem z0E {k : Nat}  (hrec : ∀ c fs st hs s st' hs' ob, rec c fs st hs = some (s, st', hs', ob) → Q2 ob → s.sem P n Q st' → AWP P n c st (Qf P n fs Q)) :
  ∀ (fs : List Fm) {st : St} {hs : List H} {s : z3c} {st' : St} {hs' : List H} {ob : List Prop}, goN rec (unw fs) st hs = some (s, st', hs', ob) → Q2 ob → s.sem P n Q st' → Qf P n fs Q .normal st
 | [], st, hs, s, st', hs', ob, e, ho, h => by
  simp only [unw, goN, Option.some.injEq, Prod.mk.injEq] at e
  obtain ⟨rfl, rfl, _⟩ := e
  exact h
 | .seq y :: fs, st, hs, s, st', hs', ob, e, ho, h => by
  simp only [unw, goN] at e
  exact hrec _ _ _ _ _ _ _ _ e ho h
 | .blk id :: fs, st, hs, s, st', hs', ob, e, ho, h => by
  simp only [unw] at e
  exact z0E (k := k) hrec fs e ho h
 | .pre J :: fs, st, hs, s, st', hs', ob, e, ho, h => by
  simp only [unw, goN, Option.some.injEq, Prod.mk.injEq] at e
  obtain ⟨rfl, rfl, _⟩ := e
  exact h
 | .rnd (m + 1) c :: fs, st, hs, s, st', hs', ob, e, ho, h => by
  simp only [unw, goN] at e
  exact hrec _ _ _ _ _ _ _ _ e ho h
 | .rnd 0 c :: fs, st, hs, s, st', hs', ob, e, ho, h => by
  simp only [unw, goN] at e
  cases e
theorem Qg {id : Nat}  : ∀ (fs : List Fm) {fs' : List Fm}, z1D id fs = some fs' → Qf P n fs' Q .normal st → Qf P n fs Q (.exit id) st
 | [], fs', e, h => by cases e
 | .blk i :: fs, fs', e, h => by
  simp [z1D] at e
  simp [Qf, Km]
  split at e
  ·rename_i hi
   cases e
   rw [if_pos hi]
   exact h
  ·rename_i hi
   rw [if_neg hi]
   exact Qg fs e h
 | .seq y :: fs, fs', e, h => Qg fs (by simpa only [z1D] using e) h
 | .pre J :: fs, fs', e, h => Qg fs (by simpa only [z1D] using e) h
 | .rnd _ _ :: fs, fs', e, h => Qg fs (by simpa only [z1D] using e) h
theorem z12 : ∀ (fs : List Fm), Q .ret st → Qf P n fs Q .ret st
 | [], h => h
 | .seq _ :: fs, h => z12 fs h
 | .blk _ :: fs, h => z12 fs h
 | .pre _ :: fs, h => z12 fs h
 | .rnd _ _ :: fs, h => z12 fs h
theorem QC {id : Nat}  : ∀ (fs : List Fm), z1D id fs = none → Q (.exit id) st → Qf P n fs Q (.exit id) st
 | [], _, h => h
 | .blk i :: fs, e, h => by
  simp [z1D] at e
  simp [Qf, Km]
  split at e
  ·cases e
  ·rename_i hi
   rw [if_neg hi]
   exact QC fs e h
 | .seq y :: fs, e, h => QC fs (by simpa only [z1D] using e) h
 | .pre J :: fs, e, h => QC fs (by simpa only [z1D] using e) h
 | .rnd _ _ :: fs, e, h => QC fs (by simpa only [z1D] using e) h
theorem V8 {ob : List Prop} {x : z5m} {s : z3c}   {ob' : List Prop} (e : za0 ob x = some (s, st, hs, ob')) : ∃ ob2, x = some (s, st, hs, ob2) ∧ ob' = ob ++ ob2 := by
 cases x with
 | none => cases e
 | some q =>
  have ⟨s1, st1, hs1, ob1⟩ := q
  simp [za0, Option.some.injEq, Prod.mk.injEq] at e
  obtain ⟨rfl, rfl, rfl, rfl⟩ := e
  exact ⟨ob1, rfl, rfl⟩
theorem AWP.label {l : Nat}   (h : Q .normal st) : AWP P n (.label l) st Q := fun _ _ _ _ _ _ _ _ _ _ hc hs => wpIn_label (hc.fin hs h)
theorem z6m (X : XH P) (hT : yH P tt) (hC : vT P ctr) (hm : P.follows .mixedOrders = true)  (ih : ∀ c fs st hs s st' hs' ob, rec c fs st hs = some (s, st', hs', ob) → Q2 ob → s.sem P n Q st' → AWP P n c st (Qf P n fs Q)) (c : Code) (fs : List Fm) (st : St) (hs : List H) (s : z3c) (st' : St) (hs' : List H) (ob : List Prop)
  (e : KS rec X tt ctr n c fs st hs = some (s, st', hs', ob)) (ho : Q2 ob) (h : s.sem P n Q st') : AWP P n c st (Qf P n fs Q) := by
 cases c with
 | skip => exact AWP.skip (z0E (k := 0) ih fs e ho h)
 | label l => exact AWP.label (z0E (k := 0) ih fs e ho h)
 | ret =>
  simp only [KS, Option.some.injEq, Prod.mk.injEq] at e
  obtain ⟨rfl, rfl, _⟩ := e
  exact AWP.ret (z12 fs h)
 | exit id =>
  simp only [KS] at e
  cases hx : z1D id fs with
  | none =>
   simp only [hx, Option.some.injEq, Prod.mk.injEq] at e
   obtain ⟨rfl, rfl, _⟩ := e
   exact AWP.exit (QC fs hx h)
  | some fs' =>
   simp only [hx] at e
   exact AWP.exit (Qg fs hx (z0E (k := 0) ih fs' e ho h))
 | region id ops d =>
  simp only [KS] at e
  cases hx : z3m X tt ctr n ops ops.toList st hs with
  | none => simp only [hx] at e; cases e
  | some q =>
   have ⟨st1, hs1, ob1, lg⟩ := q
   simp only [hx] at e
   by_cases hd : d = false ∨ Jg ops.toList lg = true
   ·rw [if_pos hd] at e
    obtain ⟨ob2, e2, rfl⟩ := V8 e
    have ⟨o1, o2⟩ := y7 ho
    have hq := z0E (k := 0) ih fs e2 o2 h
    cases d with
    | false => exact AWP.region hT (hC.withE X.ok) (UO _ _ _ hx o1 hq)
    | true => exact AWP.drawn hT (hC.withE X.ok) hm (z0P _ _ _ [] hx o1 (by simpa using hd) hq)
   ·rw [if_neg hd] at e; cases e
 | seq x y =>
  have gen : ∀ hs, rec x (.seq y :: fs) st hs = some (s, st', hs', ob) → AWP P n (.seq x y) st (Qf P n fs Q) := fun hs e => AWP.seq (ih _ _ _ _ _ _ _ _ e ho h)
  rcases hs with _ | ⟨q, hs⟩
  ·exact gen _ e
  ·cases q with
   | cut m =>
    cases m with
    | zero =>
     simp only [KS, Option.some.injEq, Prod.mk.injEq] at e
     obtain ⟨rfl, rfl, _⟩ := e
     exact h
    | succ m => exact gen _ e
   | _ => exact gen _ e
 | cond o x y =>
  simp only [KS] at e
  cases hb : z2f st o with
  | none => simp only [hb] at e; cases e
  | some b =>
   simp only [hb] at e
   rcases hs with _ | ⟨q, hs⟩
   ·cases e
   ·cases q with
    | b b' =>
     obtain ⟨ob2, e2, rfl⟩ := V8 e
     have h1 : b = b' := ho.1
     subst h1
     cases b with
     | true => exact AWP.condT hb (ih _ _ _ _ _ _ _ _ e2 ho.2 h)
     | false => exact AWP.condF hb (ih _ _ _ _ _ _ _ _ e2 ho.2 h)
    | _ => cases e
 | block id c => exact AWP.block (ih _ _ _ _ _ _ _ _ e ho h)
 | loop c =>
  have gen : some (z3c.at (.loop c) fs, st, hs, ([] : List Prop)) = some (s, st', hs', ob) → AWP P n (.loop c) st (Qf P n fs Q) := by
   intro e
   cases e
   exact h
  rcases hs with _ | ⟨q, hs⟩
  ·exact gen e
  ·cases q with
   | u m => exact za5.loop (m + 1) st (ih _ _ _ _ _ _ _ _ e ho h)
   | _ => exact gen e
 | _ =>
  simp only [KS, Option.some.injEq, Prod.mk.injEq] at e
  obtain ⟨rfl, rfl, _⟩ := e
  exact h
theorem Qw (X : XH P) (hT : yH P tt) (hC : vT P ctr) (hm : P.follows .mixedOrders = true) : ∀ (k : Nat) (c : Code) (fs : List Fm) (st : St) (hs : List H) (s : z3c) (st' : St) (hs' : List H) (ob : List Prop),
  z3Y X tt ctr n k c fs st hs = some (s, st', hs', ob) → Q2 ob → s.sem P n Q st' → AWP P n c st (Qf P n fs Q) := by
 intro k
 induction k with
 | zero => intro c fs st hs s st' hs' ob e; cases e
 | succ k ih =>
  intro c fs st hs s st' hs' ob e ho h
  have gen : ∀ hs, KS (z3Y X tt ctr n k) X tt ctr n c fs st hs = some (s, st', hs', ob) → AWP P n c st (Qf P n fs Q) := fun hs e => z6m X hT hC hm ih c fs st hs s st' hs' ob e ho h
  rcases hs with _ | ⟨q, hs⟩
  ·exact gen _ e
  ·cases q with
   | v m ks =>
    cases m with
    | zero =>
     simp only [z3Y] at e
     cases hx : KV ks st hs with
     | none => simp only [hx] at e; cases e
     | some q =>
      have ⟨xs, R, U, hs1, ob1⟩ := q
      simp only [hx] at e
      obtain ⟨ob2, e2, rfl⟩ := V8 e
      have ⟨o1, o2⟩ := y7 ho
      have h1 := z2z _ _ _ _ _ _ _ _ hx o1
      have h2 := ih c fs _ _ _ _ _ _ e2 o2 h
      intro rd m df w0 S0 M S Fp a w hc hs
      have ⟨S', Fp', g1⟩ := z0Q hs h1
      exact h2 rd m df w0 S0 M S' Fp' a w hc g1
    | succ m => exact gen _ e
   | n m ks =>
    cases m with
    | zero =>
     simp only [z3Y] at e
     cases hx : ww (fun _ => none) (ks.map fun i => (.tmp i, 0)) st hs with
     | none => simp only [hx] at e; cases e
     | some q =>
      have ⟨xs, R, U, hs1, ob1⟩ := q
      simp only [hx] at e
      obtain ⟨ob2, e2, rfl⟩ := V8 e
      have ⟨o1, o2⟩ := y7 ho
      have h1 := vC (fun _ => none) _ _ _ _ _ _ _ _ hx o1
      have h2 := ih c fs _ _ _ _ _ _ e2 o2 h
      intro rd m df w0 S0 M S Fp a w hc hs
      have ⟨S', Fp', g1, _⟩ := xK hs h1
      exact h2 rd m df w0 S0 M S' Fp' a w hc g1
    | succ m => exact gen _ e
   | stp m =>
    cases m with
    | zero =>
     simp only [z3Y, Option.some.injEq, Prod.mk.injEq] at e
     obtain ⟨rfl, rfl, _⟩ := e
     exact h
    | succ m => exact gen _ e
   | _ => exact gen _ e
structure Ob where
 p : Prop
 h : p
def ob {p : Prop} (h : p) : Ob := ⟨p, h⟩
theorem K7 : ∀ (l : List Ob), Q2 (l.map Ob.p)
 | [] => trivial
 | o :: l => ⟨o.h, K7 l⟩
def zdc (X : XH P) (tt : TT) (ctr : Ctr) (n : Fr) (live : List Nat) (k : Nat) (c : Code) (fs : List Fm) (st : St) (hs : List H) : Option (z3c × St × List Prop) :=
 match z3Y X tt ctr n k c fs st hs with
 | some (s, st', [], ob) => some (s, canon live st', ob)
 | _ => none
theorem z9F (X : XH P) (hT : yH P tt) (hC : vT P ctr) (hm : P.follows .mixedOrders = true) (live : List Nat) (k : Nat) {c : Code} {fs : List Fm} {st : St} {hs : List H} {s : z3c} {st' : St} (obs : List Ob)
  (e : zdc X tt ctr n live k c fs st hs = some (s, st', obs.map Ob.p)) (h : ∀ st0, canon live st0 = st' → s.sem P n Q st0) : AWP P n c st (Qf P n fs Q) := by
 unfold zdc at e
 split at e
 ·rename_i s1 st1 ob1 e1
  simp [Option.some.injEq, Prod.mk.injEq] at e
  obtain ⟨rfl, h1, rfl⟩ := e
  exact Qw X hT hC hm k c fs st hs _ _ _ _ e1 (K7 obs) (h _ h1)
 ·cases e
def sub : List Nat → Code → Code
 | [], c => c
 | 0 :: p, .seq x _ => sub p x
 | 1 :: p, .seq _ y => sub p y
 | 2 :: p, .seq x _ => sub p x
 | 0 :: p, .cond _ x _ => sub p x
 | 1 :: p, .cond _ _ y => sub p y
 | _ :: p, .block _ c => sub p c
 | _ :: p, .loop c => sub p c
 | _ :: p, .scope c => sub p c
 | 0 :: p, .rangeFunc _ _ c _ => sub p c
 | 1 :: p, .rangeFunc _ _ _ c => sub p c
 | _ :: _, c => c
def frs : List Nat → List (St → Prop) → Code → List Fm → List Fm
 | [], _, _, fs => fs
 | 0 :: p, Js, .seq x y, fs => frs p Js x (.seq y :: fs)
 | 1 :: p, Js, .seq _ y, fs => frs p Js y fs
 | 2 :: p, J :: Js, .seq x _, fs => frs p Js x (.pre J :: fs)
 | 0 :: p, Js, .cond _ x _, fs => frs p Js x fs
 | 1 :: p, Js, .cond _ _ y, fs => frs p Js y fs
 | _ :: p, Js, .block id c, fs => frs p Js c (.blk id :: fs)
 | (m + 3) :: p, Js, .loop c, fs => frs p Js c (.rnd m c :: fs)
 | _ :: p, J :: Js, .loop c, fs => frs p Js c (.pre J :: fs)
 | _ :: p, Js, .scope c, fs => frs p Js c fs
 | 0 :: p, Js, .rangeFunc _ _ c _, _ => frs p Js c []
 | 1 :: p, Js, .rangeFunc _ _ _ c, _ => frs p Js c []
 | _ :: _, _, _, fs => fs
end
class LeA (x y : A) : Prop where
 rep : ∀ S cs, Rep S x cs → Rep S y cs
 conc : ∀ S h cs F, zw S h x cs F → zw S h y cs F
 val : ∀ cs, zJ x cs = zJ y cs
 tup : ∀ fs, x = .tup fs → y = x
class z1C (xs ys : List A) : Prop where
 rep : ∀ S cs, zV S xs cs → zV S ys cs
 conc : ∀ S h cs F, zC S h xs cs F → zC S h ys cs F
 len : xs.length = ys.length
 size : ∀ sz, (∀ x ∈ xs, x.size = sz) → ∀ y ∈ ys, y.size = sz
instance (priority := 2000) LeA.refl (x : A) : LeA x x := ⟨fun _ _ h => h, fun _ _ _ _ h => h, fun _ => rfl, fun _ _ => rfl⟩
instance (priority := 2000) z1C.refl (x : List A) : z1C x x := ⟨fun _ _ h => h, fun _ _ _ _ h => h, rfl, fun _ h => h⟩
theorem Vy {S : zf} {xs ys : List A} (hl : xs.length = ys.length) (h : xs = []) : ys = [] := by
 subst h; exact List.length_eq_zero_iff.1 hl.symm
instance LeA.osl (sz : Nat) (t : Bool) (xs ys : List A) [h : z1C xs ys] : LeA (.osl sz t xs) (.osl sz false ys) := {
 rep := fun S cs q => by simp only [Rep] at q
 conc := fun S hp cs F q => by
  simp only [zw] at q ⊢
  have ⟨p, c, e, h1, h2, h3, h4, h5⟩ := q
  refine ⟨p, c, by rw [← h.len]; exact e, by simp, by rw [← h.len]; exact h2, h3, h.size _ h4, ?_⟩
  rcases h5 with ⟨q1, q2, q3, q4⟩ | ⟨b, arr, ty, l, F', e1, e2, e3, e4, e5, e6, e7⟩
  ·exact .inl ⟨Vy (S := S) h.len q1, q2, q3, q4⟩
  ·exact .inr ⟨b, arr, ty, l, F', e1, e2, e3, by rw [← h.len]; exact e4, h.conc _ _ _ _ e5, e6, e7⟩
 val := fun _ => rfl
 tup := fun _ e => by cases e }
instance LeA.sl (sz : Nat) (t : Bool) (xs ys : List A) [h : z1C xs ys] : LeA (.sl sz t xs) (.sl sz false ys) := {
 rep := fun S cs q => by
  simp only [Rep] at q ⊢
  have ⟨p, c, e, h1, h2, h3, h4⟩ := q
  refine ⟨p, c, by rw [← h.len]; exact e, by simp, by rw [← h.len]; exact h2, h.size _ h3, ?_⟩
  rcases h4 with q | ⟨b, o, l, q1, q2, q3⟩
  ·exact .inl (Vy (S := S) h.len q)
  ·exact .inr ⟨b, o, l, q1, h.rep _ _ q2, q3⟩
 conc := fun S hp cs F q => by
  simp only [zw] at q ⊢
  refine ⟨?_, q.2⟩
  have q := q.1
  simp only [Rep] at q ⊢
  have ⟨p, c, e, h1, h2, h3, h4⟩ := q
  refine ⟨p, c, by rw [← h.len]; exact e, by simp, by rw [← h.len]; exact h2, h.size _ h3, ?_⟩
  rcases h4 with q | ⟨b, o, l, q1, q2, q3⟩
  ·exact .inl (Vy (S := S) h.len q)
  ·exact .inr ⟨b, o, l, q1, h.rep _ _ q2, q3⟩
 val := fun _ => rfl
 tup := fun _ e => by cases e }
instance LeA.agg (xs ys : List A) [h : z1C xs ys] : LeA (.agg xs) (.agg ys) := {
 rep := fun S cs q => by simp [Rep] at q ⊢; exact h.rep _ _ q
 conc := fun S hp cs F q => by simp [zw] at q ⊢; exact h.conc _ _ _ _ q
 val := fun _ => rfl
 tup := fun _ e => by cases e }
instance LeA.box (x y : A) [h : LeA x y] : LeA (.box x) (.box y) := {
 rep := fun S cs q => by simp [Rep] at q
 conc := fun S hp cs F q => by
  simp [zw] at q ⊢
  have ⟨b, ty, l, F', e1, e2, e3, e4, e5⟩ := q
  exact ⟨b, ty, l, F', e1, e2, h.conc _ _ _ _ e3, e4, e5⟩
 val := fun _ => rfl
 tup := fun _ e => by cases e }
class SzA (x y : A) : Prop where
 eq : x.size = y.size
instance (priority := 2000) SzA.refl (x : A) : SzA x x := ⟨rfl⟩
class za1 (x y : List A) : Prop where
 eq : A.sizes x = A.sizes y
instance za1.nil : za1 [] [] := ⟨rfl⟩
instance za1.cons (x y : A) (xs ys : List A) [h : SzA x y] [k : za1 xs ys] : za1 (x :: xs) (y :: ys) := ⟨by simp [A.sizes, h.eq, k.eq]⟩
instance SzA.agg (xs ys : List A) [h : za1 xs ys] : SzA (.agg xs) (.agg ys) := ⟨by simp [A.size, h.eq]⟩
instance z1C.nil : z1C [] [] := z1C.refl []
instance z1C.cons (x y : A) (xs ys : List A) [h : LeA x y] [z : SzA x y] [k : z1C xs ys] : z1C (x :: xs) (y :: ys) := {
 rep := fun S cs q => by
  simp [zV] at q ⊢
  have ⟨c1, c2, e, q1, q2⟩ := q
  exact ⟨c1, c2, e, h.rep _ _ q1, k.rep _ _ q2⟩
 conc := fun S hp cs F q => by
  simp [zC] at q ⊢
  have ⟨c1, c2, F1, F2, e, e2, q1, q2⟩ := q
  exact ⟨c1, c2, F1, F2, e, e2, h.conc _ _ _ _ q1, k.conc _ _ _ _ q2⟩
 len := by simp [k.len]
 size := fun sz q => by
  intro y' hy
  rcases List.mem_cons.1 hy with rfl | hy
  ·rw [← z.eq]; exact q x (by simp)
  ·exact k.size sz (fun x hx => q x (by simp [hx])) y' hy }
variable {α : Type}
theorem zbR {f g : α → A} (h : ∀ x, LeA (f x) (g x)) (z : ∀ x, SzA (f x) (g x)) : ∀ l : List α, z1C (l.map f) (l.map g)
 | [] => z1C.nil
 | x :: l => @z1C.cons _ _ _ _ (h x) (z x) (zbR h z l)
instance z1C.map {α : Type} (f g : α → A) [h : ∀ x, LeA (f x) (g x)] [z : ∀ x, SzA (f x) (g x)] (l : List α) : z1C (l.map f) (l.map g) := zbR h z l
variable {v : Value}
theorem LeA.repV {x y : A} (h : LeA x y)   (q : yi S x v) : yi S y v := by
 by_cases ht : ∃ fs, x = .tup fs
 ·obtain ⟨fs, rfl⟩ := ht
  rw [h.tup fs rfl]; exact q
 ·have q1 : xM S x v := by cases x <;> simp [yi] at q <;> first | exact q | exact absurd ⟨_, rfl⟩ ht
  have ⟨cs, c1, c2⟩ := q1
  exact xM.repV ⟨cs, h.rep _ _ c1, by rw [← h.val]; exact c2⟩
class LeV (x y : A) : Prop where
 has : ∀ S h v F, Has S h x v F → Has S h y v F
instance (priority := 2000) LeV.refl (x : A) : LeV x x := ⟨fun _ _ _ _ h => h⟩
instance LeV.one (x y : A) [h : LeA x y] : LeV x y := ⟨fun S hp v F q => by
 rcases q with ⟨q, e⟩ | ⟨cs, q1, q2, q3⟩
 ·exact .inl ⟨h.repV q, e⟩
 ·exact .inr ⟨cs, h.conc _ _ _ _ q1, q2, by rw [← h.val]; exact q3⟩⟩
class Yy (xs ys : List A) : Prop where
 all : ∀ S vs, uH (xM S) xs vs → uH (xM S) ys vs
instance Yy.nil : Yy [] [] := ⟨fun _ _ h => h⟩
instance Yy.cons (x y : A) (xs ys : List A) [h : LeA x y] [k : Yy xs ys] : Yy (x :: xs) (y :: ys) := ⟨fun S vs q => by
 cases vs with
 | nil => exact q.elim
 | cons v vs =>
  refine ⟨?_, k.all S vs q.2⟩
  have ⟨cs, c1, c2⟩ := q.1
  exact ⟨cs, h.rep _ _ c1, by rw [← h.val]; exact c2⟩⟩
instance LeV.tup (xs ys : List A) [k : Yy xs ys] : LeV (.tup xs) (.tup ys) := ⟨fun S hp v F q => by
 rcases q with ⟨q, e⟩ | ⟨cs, q1, q2, q3⟩
 ·simp [yi] at q
  have ⟨vs, e2, q⟩ := q
  exact .inl ⟨by simp [yi]; exact ⟨vs, e2, k.all _ _ q⟩, e⟩
 ·simp [zw] at q1⟩
def LeT : T → T → Prop
 | .own x, y => ∃ z, y = .own z ∧ LeA x z
 | .d x, y => ∃ z, y = .d z ∧ LeA x z
 | .als r p er ec, y => p = [] ∧ y = .als r [] er ec
 | .gone, y => y = .gone
 | _, _ => False
class Q1 (l m : List (Nat × T)) : Prop where
 ent : ∀ t, (ofL l t).er = (ofL m t).er ∧ (ofL l t).ec = (ofL m t).ec ∧ LeT (ofL l t).t (ofL m t).t
instance Q1.nil : Q1 [] [] := ⟨fun t => ⟨rfl, rfl, rfl⟩⟩
theorem Q1.cons' {x y : T} {l m : List (Nat × T)} (h : LeT x y) (hl : Q1 l m) : Q1 ((k, x) :: l) ((k, y) :: m) := ⟨fun t => by
 simp [ofL]
 split
 ·exact ⟨rfl, rfl, h⟩
 ·exact hl.ent t⟩
instance Q1.own (k : Nat) (x y : A) (l m : List (Nat × T)) [h : LeA x y] [hl : Q1 l m] : Q1 ((k, .own x) :: l) ((k, .own y) :: m) := Q1.cons' ⟨y, rfl, h⟩ hl
instance Q1.d (k : Nat) (x y : A) (l m : List (Nat × T)) [h : LeA x y] [hl : Q1 l m] : Q1 ((k, .d x) :: l) ((k, .d y) :: m) := Q1.cons' ⟨y, rfl, h⟩ hl
instance Q1.als (k r er ec : Nat) (l m : List (Nat × T)) [hl : Q1 l m] : Q1 ((k, .als r [] er ec) :: l) ((k, .als r [] er ec) :: m) := Q1.cons' ⟨rfl, rfl⟩ hl
class LeL (l m : List (Nat × T)) : Prop where
 or : l = m ∨ Q1 l m
instance (priority := 2000) LeL.refl (l : List (Nat × T)) : LeL l l := ⟨.inl rfl⟩
instance LeL.of0 (l m : List (Nat × T)) [h : Q1 l m] : LeL l m := ⟨.inr h⟩
variable {X : List Nat}
theorem Sim.le {st st' : St}   (h : Sim C S Fp X st a w) (hl : ∀ t, (st t).er = (st' t).er ∧ (st t).ec = (st' t).ec ∧ LeT (st t).t (st' t).t) : Sim C S Fp X st' a w := {
 size := h.size
 pin := h.pin
 defers := h.defers
 below := h.below
 mine := h.mine
 still := h.still
 sinc := h.sinc
 sbase := h.sbase
 disj := h.disj
 base := h.base
 xn := h.xn
 xd := h.xd
 xb := h.xb
 ent := fun t => by
  have q := h.ent t
  have ⟨_, _, l3⟩ := hl t
  unfold yf at q ⊢
  cases ht : (st t).t with
  | gone =>
   simp only [ht, LeT] at l3 q
   simp only [l3]; exact q
  | d x =>
   simp only [ht, LeT] at l3 q
   have ⟨z, e, l3⟩ := l3
   simp only [e]; exact ⟨l3.repV q.1, q.2⟩
  | own x =>
   simp only [ht, LeT] at l3 q
   have ⟨z, e, l3⟩ := l3
   simp only [e]
   have ⟨cs, q1, q2, q3⟩ := q
   exact ⟨cs, l3.conc _ _ _ _ q1, q2, by rw [← l3.val]; exact q3⟩
  | als r p er ec =>
   simp only [ht, LeT] at l3 q
   obtain ⟨rfl, e⟩ := l3
   simp only [e]
   refine ⟨q.1, ?_⟩
   have ⟨q1, q2, q3⟩ := q.2
   have ⟨r1, r2, r3⟩ := hl r
   unfold wZ
   refine ⟨by rw [← r1]; exact q1, by rw [← r2]; exact q2, ?_⟩
   cases hr : (st r).t with
   | own x =>
    simp only [hr, LeT] at q3 r3
    have ⟨z, e2, _⟩ := r3
    simp only [e2]
    intro g1 g2
    rcases q3 (by rw [r1]; exact g1) (.inl trivial) with g | g
    ·exact .inl g
    ·simp [Xw] at g
   | d x =>
    simp only [hr, LeT] at q3 r3
    have ⟨z, e2, _⟩ := r3
    simp only [e2]
    intro g1 _
    exact q3 (by rw [r1]; exact g1) trivial
   | gone => simp only [hr, LeT] at r3; simp only [r3]
   | als u p e1 e2 => simp only [hr, LeT] at r3; simp only [r3.2]
   | ptr u p e1 e2 => simp only [hr, LeT] at r3
  | ptr r p er ec => simp only [ht, LeT] at l3 }
variable {fn : Func}{body : Code}{r : A}{st0 : St}{keep : Bool}
section
variable {P : Program} {tt : TT} {ctr : Ctr} {n : Fr} {Q : Exit → St → Prop}
theorem z7C {l m : List (Nat × T)} (h : LeL l m) (k : AWP P n c (ofL m) Q) : AWP P n c (ofL l) Q :=
 h.or.elim (fun e => e ▸ k) fun h => fun rd mm df w0 S0 M S Fp a w hc hs => k rd mm df w0 S0 M S Fp a w hc (hs.le h.ent)
theorem z7B {X : Type} {c c' : Code} {fs : List Fm}  (e : c = .loop c') (live : List Nat) (Inv : X → Prop) (mu : X → Nat) (stOf : X → List (Nat × T)) (x0 : X) (l0 : List (Nat × T)) (hs : canon live st0 = ofL l0) (hl : LeL l0 (stOf x0)) (h0 : Inv x0)
  (round : ∀ x, Inv x → ∀ J : St → Prop, (∀ st' l' x', Inv x' → mu x' < mu x → canon live st' = ofL l' → LeL l' (stOf x') → J st') → AWP P n c' (ofL (stOf x)) (Qf P n (.pre J :: fs) Q)) : AWP P n c st0 (Qf P n fs Q) := by
 subst e
 refine AWP.loop live (fun k st => ∃ x l, Inv x ∧ mu x = k ∧ st = ofL l ∧ LeL l (stOf x)) (mu x0) ⟨x0, l0, h0, rfl, hs, hl⟩ ?_
 rintro k st ⟨x, l, hx, rfl, rfl, hl⟩
 refine z7C hl ?_
 exact round x hx _ fun st' l' x' h1 h2 h3 h4 => ⟨_, h2, x', l', h1, rfl, h3, h4⟩
theorem z7D {X : Type} {c x y : Code}   (e : c = .seq x y) (live live0 : List Nat) (l0 : List (Nat × T)) (hs : canon live0 st0 = ofL l0) (Inv : X → Prop) (stJ : X → List (Nat × T)) (h1 : ∀ z, Inv z → AWP P n y (ofL (stJ z)) (Qf P n fs Q))
  (h2 : ∀ J : St → Prop, (∀ st' l' z, Inv z → canon live st' = ofL l' → LeL l' (stJ z) → J st') → AWP P n x (ofL l0) (Qf P n (.pre J :: fs) Q)) : AWP P n c st0 (Qf P n fs Q) := by
 subst e
 refine AWP.canon live0 ?_
 rw [hs]
 refine AWP.nextC live fun K hK => h2 K fun st' l' z hz he hl => hK st' ?_
 rw [he]
 exact z7C hl (h1 z hz)
def z9U (tt : TT) (keep : Bool) (rs : List (Nat × Option Nat)) : SM A :=
 match keep, rs with
 | true, [(t, none)] => zbu tt true [t]
 | _, rs => zbt tt rs
def z6D (tt : TT) (keep : Bool) (rs : List (Nat × Option Nat)) : HM A :=
 match keep, rs with
 | true, [(t, none)] => zH (zbu tt true [t])
 | _, rs => ww tt (rs.map fun r => (.tmp r.1, 0)) >>= fun xs =>
  match vP tt rs xs with
  | some [y] => pure y
  | some ys => pure (.tup ys)
  | none => zz
theorem z7N (tt : TT) (rs : List (Nat × Option Nat)) : Snd (zbt tt rs) (ww tt (rs.map fun r => (.tmp r.1, 0)) >>= fun xs =>
  match vP tt rs xs with
  | some [y] => pure y
  | some ys => pure (.tup ys)
  | none => zz) := by
 refine z8 (vC _ _) fun xs => ?_
 cases vP tt rs xs with
 | none => exact zl _
 | some ys => rcases ys with _ | ⟨y, _ | ⟨z, l⟩⟩ <;> exact yV _
theorem zbi (tt : TT) (keep : Bool) (rs : List (Nat × Option Nat)) : Snd (z9U tt keep rs) (z6D tt keep rs) := by
 cases keep with
 | false => rcases rs with _ | ⟨⟨t, _ | ty⟩, _ | ⟨q, l⟩⟩ <;> exact z7N _ _
 | true => rcases rs with _ | ⟨⟨t, _ | ty⟩, _ | ⟨q, l⟩⟩ <;> first | exact ze _ | exact z7N _ _
theorem z7i {n : Fr}   {keep : Bool} {rs : List (Nat × Option Nat)} {ls : List A} {r : A} (hT : yH P tt) (hf : P.funcs[k]? = some fn) (hnm : (fn.name == "runtime.NumGoroutine") = false) (hb : fn.body = some body)
  (hn : n = ⟨fn.ntmps, []⟩) (hr : fn.results = (rs.map z0K).toArray) (ha : ls.length ≤ fn.ntmps)
  (h : ∀ E : St → Prop, (∀ st x R U, z9U tt keep rs st = some (x, R, U) → LeV x r → E st) → AWP P n body (ofL (z0q 0 ls)) (Qf P n [] (z7O E))) : wB P k ls r := by
 have h' := h (fun st => ∃ x R U, z9U tt keep rs st = some (x, R, U) ∧ LeV x r) fun st x R U h1 h2 => ⟨x, R, U, h1, h2⟩
 refine ⟨⟨fn, hf, hnm, by rw [hb]; rfl⟩, ?_⟩
 intro S w vs F hS hq hF
 have h2 : AWP P n body (ini ls) (fun ex st => (ex = .normal ∨ ex = .ret) ∧ ∃ x R U, z9U tt keep rs st = some (x, R, U) ∧ LeV x r) := by
  rw [QU]
  refine AWP.mono h' ?_
  intro e st q
  cases e with
  | normal => exact ⟨.inl rfl, q⟩
  | ret => exact ⟨.inr rfl, q⟩
  | _ => exact q.elim
 refine VU (R := fun w e w' => ∃ v' S' F', e = .returned v' ∧ uG (fun k => w.heap.size ≤ k ∨ k ∈ F) w w' ∧ (∀ b o u, S b o = some u → S' b o = some u) ∧ (∀ b o, b < w.heap.size → b ∉ F → S' b o = S b o) ∧ y5 S' w' ∧ Has S' w'.heap r v' F' ∧ F'.Nodup ∧
   ∀ k ∈ F', w.heap.size ≤ k ∨ k ∈ F) hf hb (by rw [hn]) (by rw [hn]; simp) ha hS hq hF h2 ?_
 rintro ex st' ⟨hx, x, R, U, h3, h4⟩
 refine ⟨hx, ?_⟩
 intro df S' Fp' a' w' h1
 have gcase : zbt tt rs st' = some (x, R, U) → ∃ v, (results fn a'.tmps).run P w' = .ok v w' ∧ ∃ v' S' F', Ending.returned v = .returned v' ∧ uG (fun k => w.heap.size ≤ k ∨ k ∈ F) w w' ∧ (∀ b o u, S b o = some u → S' b o = some u) ∧ (∀ b o, b < w.heap.size → b ∉ F → S' b o = S b o) ∧ y5 S' w' ∧ Has S' w'.heap r v' F' ∧ F'.Nodup ∧
   ∀ k ∈ F', w.heap.size ≤ k ∨ k ∈ F := by
  intro he
  have ⟨v, S2, hres, g1, g2, g3, g4⟩ := z93 (P := P) hT hr h1 he
  refine ⟨_, hres, _, S2, [], rfl, h1.below, fun b o u hu => g1 _ _ _ (h1.sinc _ _ _ hu), ?_, g3, h4.has _ _ _ _ (.inl ⟨g4, rfl⟩), by simp, by simp⟩
  intro b o hb' hbF
  exact g2 b o (by rintro (hq | hq) <;> first | omega | exact hbF hq)
 cases keep with
 | false => exact gcase (by rcases rs with _ | ⟨⟨t, _ | ty⟩, _ | ⟨q, l⟩⟩ <;> exact h3)
 | true =>
  rcases rs with _ | ⟨⟨t, _ | ty⟩, _ | ⟨q, l⟩⟩
  ·exact gcase h3
  ·have h3' : zbu tt true [t] st' = some (x, R, U) := h3
   have ⟨hl, S2, F', g1, g2, g3, g4, g5, g6⟩ := z94 h1 h3'
   refine ⟨_, z1Y (P := P) (ts := [t]) hr hl a' w', _, S2, F', rfl, h1.below, fun b o u hu => g1 _ _ _ (h1.sinc _ _ _ hu), ?_, g3, h4.has _ _ _ _ g4, g5, g6⟩
   intro b o hb' hbF
   exact g2 b o (by rintro (hq | hq) <;> first | omega | exact hbF hq)
  ·exact gcase h3
  ·exact gcase h3
  ·exact gcase h3
def zdd (X : XH P) (tt : TT) (ctr : Ctr) (n : Fr) (keep : Bool) (rs : List (Nat × Option Nat)) (k : Nat) (c : Code) (fs : List Fm) (st : St) (hs : List H) : Option (A × List Prop) :=
 match z3Y X tt ctr n k c fs st hs with
 | some (.fin .normal, st', hs', ob) => match z6D tt keep rs st' hs' with | some (x, _, _, [], ob') => some (x, ob ++ ob') | _ => none
 | some (.fin .ret, st', hs', ob) => match z6D tt keep rs st' hs' with | some (x, _, _, [], ob') => some (x, ob ++ ob') | _ => none
 | _ => none
theorem zcf (X : XH P) (hT : yH P tt) (hC : vT P ctr) (hm : P.follows .mixedOrders = true) {E : St → Prop}   {rs : List (Nat × Option Nat)} (hE : ∀ st x R U, z9U tt keep rs st = some (x, R, U) → LeV x r → E st) (k : Nat) {c : Code} {fs : List Fm} {st : St} {hs : List H} {x : A} (obs : List Ob)
  (e : zdd X tt ctr n keep rs k c fs st hs = some (x, obs.map Ob.p)) (hle : LeV x r) : AWP P n c st (Qf P n fs (z7O E)) := by
 unfold zdd at e
 have fin : ∀ {st' hs' ob}, (match z6D tt keep rs st' hs' with | some (x, _, _, [], ob') => some (x, ob ++ ob') | _ => none) = some (x, obs.map Ob.p) → Q2 ob ∧ E st' := by
  intro st' hs' ob e
  split at e
  ·rename_i x1 R U ob' he
   simp [Option.some.injEq, Prod.mk.injEq] at e
   obtain ⟨rfl, e2⟩ := e
   have ha := K7 obs
   rw [← e2] at ha
   have ⟨o1, o2⟩ := y7 ha
   exact ⟨o1, hE _ _ _ _ (zbi tt keep rs _ _ _ _ _ _ _ he o2) hle⟩
  ·cases e
 split at e
 ·rename_i st' hs' ob' he
  have ⟨h1, h2⟩ := fin e
  exact Qw X hT hC hm k c fs st hs _ _ _ _ he h1 h2
 ·rename_i st' hs' ob' he
  have ⟨h1, h2⟩ := fin e
  exact Qw X hT hC hm k c fs st hs _ _ _ _ he h1 h2
 ·cases e
end
abbrev w64 (x : Int) : Int := IntKind.i64.wrap x
def idx (l : List α) : Int → Option α
 | .ofNat n => l[n]?
 | .negSucc _ => none
inductive LR (σ τ : Type) where
 | next (s : σ)
 | done (t : τ)
variable {σ τ : Type}
def JN (step : σ → Option (LR σ τ)) (n : Nat) : σ → Option τ :=
 Nat.rec (fun _ => none) (fun _ ih s => match step s with | none => none | some (.next s') => ih s' | some (.done t) => some t) n
def z3s : Nat := 18446744073709551616
def loop (step : σ → Option (LR σ τ)) (s : σ) : Option τ := JN step z3s s
def zfw (step : σ → Option (LR σ τ)) (m : Nat) (t : τ) : LR σ τ → Prop
 | .next s' => JN step m s' = some t
 | .done t' => t' = t
theorem zdt {step : σ → Option (LR σ τ)} {n : Nat} {s : σ} {t : τ} (h : JN step n s = some t) : ∃ m lr, n = m + 1 ∧ step s = some lr ∧ zfw step m t lr := by
 cases n with
 | zero => cases h
 | succ m =>
  have h' : (match step s with | none => none | some (.next s') => JN step m s' | some (.done t) => some t) = some t := h
  cases hs : step s with
  | none => simp [hs] at h'
  | some lr =>
   refine ⟨m, lr, rfl, rfl, ?_⟩
   cases lr with
   | next s' => simp [hs] at h'; exact h'
   | done t' => simp [hs, Option.some.injEq] at h'; exact h'
theorem zt {α β : Type} {x : Option α} {f : α → Option β} {r : β} (h : Option.bind x f = some r) : ∃ u, x = some u ∧ f u = some r := by
 cases x with
 | none => cases h
 | some u => exact ⟨u, rfl, h⟩
theorem zy {c : Bool} {x y : Option α} {r : α} (h : (bif c then x else y) = some r) : (c = true ∧ x = some r) ∨ (c = false ∧ y = some r) := by
 cases c
 ·exact .inr ⟨rfl, h⟩
 ·exact .inl ⟨rfl, h⟩
def gd (p : Prop) [Decidable p] (x : Option α) : Option α := if p then x else none
theorem gdE {p : Prop} [Decidable p] {x : Option α} {r : α} (h : gd p x = some r) : p ∧ x = some r := by
 unfold gd at h
 by_cases hp : p
 ·rw [if_pos hp] at h; exact ⟨hp, h⟩
 ·rw [if_neg hp] at h; cases h
theorem yY {a b : α} (h : some a = some b) : a = b := by cases h; rfl
variable {gives : List Bool}{β : Type}{i : Int}{as_ : List A}
section
variable {α : Type}
def eI (k : IntKind) (x : Int) : A := .atom (.int k x)
def eB (b : Bool) : A := .atom (.bool b)
def eSl (sz : Nat) (t : Bool) (f : α → A) (l : List α) : A := .sl sz t (l.map f)
def eOs (sz : Nat) (t : Bool) (f : α → A) (l : List α) : A := .osl sz t (l.map f)
def eBx (f : α → A) (x : α) : A := .box (f x)
def eSp (f : α → A) (x : α) : A := .sptr (f x)
def z9Z (k : Nat) (_ : Unit) : A := .fn k []
def Ve (k : Nat) (f : α → A) (x : α) : A := .fn k [f x]
def zfi (k : Nat) (f : α → A) (g : β → A) (x : α × β) : A := .fn k [f x.1, g x.2]
def zdG (f : α → A) (g : β → A) (x : α × β) : A := .agg [f x.1, g x.2]
def zg6 {β γ : Type} (f : α → A) (g : β → A) (h : γ → A) (x : α × β × γ) : A := .agg [f x.1, g x.2.1, h x.2.2]
class Wq (f : α → A) : Prop where
 isD : ∀ x, (f x).isD = true
class zgc (f : α → A) : Prop where
 no : ∀ x, (f x).isD = false
class Zi (f : α → A) (g : outParam (α → A)) : Prop where
 lo : ∀ x, (f x).loose = g x
class Vb (f : α → A) (g : outParam (α → A)) : Prop where
 live : ∀ x, (f x).live = true
 sh : ∀ x, (f x).shut = g x
class vS (f : α → A) : Prop where
 inj : ∀ x y, f x = f y → x = y
instance (k : IntKind) : Wq (eI k) := ⟨fun _ => rfl⟩
instance : Wq eB := ⟨fun _ => rfl⟩
instance (sz : Nat) (t : Bool) (f : α → A) : Wq (eSl sz t f) := ⟨fun _ => rfl⟩
instance (k : Nat) : Zi (z9Z k) (z9Z k) := ⟨fun _ => rfl⟩
instance (k : Nat) (f f' : α → A) [h : Zi f f'] : Zi (Ve k f) (Ve k f') := ⟨fun x => by simp [Ve, A.loose, A.looses, h.lo]⟩
instance (k : Nat) : vS (z9Z k) := ⟨fun _ _ _ => rfl⟩
instance (k : Nat) (f : α → A) [h : vS f] : vS (Ve k f) := ⟨fun a b e => by simp [Ve, A.fn.injEq, List.cons.injEq, true_and, and_true] at e; exact h.inj _ _ e⟩
instance (k : IntKind) : Zi (eI k) (eI k) := ⟨fun _ => rfl⟩
instance : Zi eB eB := ⟨fun _ => rfl⟩
instance (sz : Nat) (t : Bool) (f g : α → A) [h : Zi f g] : Zi (eSl sz t f) (eSl sz false g) := ⟨fun l => by simp [eSl, A.loose, K8, h.lo]⟩
instance (sz : Nat) (t : Bool) (f g : α → A) [h : Zi f g] : Zi (eOs sz t f) (eOs sz false g) := ⟨fun l => by simp [eOs, A.loose, K8, h.lo]⟩
instance (f g : α → A) [h : Zi f g] : Zi (eSp f) (eSp g) := ⟨fun l => by simp [eSp, A.loose, h.lo]⟩
instance (k : IntKind) : Vb (eI k) (eI k) := ⟨fun _ => rfl, fun _ => rfl⟩
instance : Vb eB eB := ⟨fun _ => rfl, fun _ => rfl⟩
instance (sz : Nat) (t : Bool) (f : α → A) : Vb (eSl sz t f) (eSl sz t f) := ⟨fun _ => rfl, fun _ => rfl⟩
instance (sz : Nat) (t : Bool) (f g : α → A) [h : Vb f g] : Vb (eOs sz t f) (eSl sz t g) := ⟨fun l => by simp [eOs, A.live]; exact WT f l h.live, fun l => by simp [eOs, eSl, A.shut, YO, h.sh]⟩
instance (k : IntKind) : vS (eI k) := ⟨fun a b h => by simpa [eI] using h⟩
instance : vS eB := ⟨fun a b h => by simpa [eB] using h⟩
theorem z4p {f : α → β} (hf : ∀ a b, f a = f b → a = b) : ∀ {l l' : List α}, l.map f = l'.map f → l = l'
 | [], [], _ => rfl
 | [], _ :: _, h => by simp at h
 | _ :: _, [], h => by simp at h
 | a :: l, b :: l', h => by
  simp [List.map_cons, List.cons.injEq] at h
  rw [hf _ _ h.1, z4p hf h.2]
instance (sz : Nat) (t : Bool) (f : α → A) [h : vS f] : vS (eSl sz t f) := ⟨fun a b e => by simp [eSl, A.sl.injEq, true_and] at e; exact z4p h.inj e⟩
instance (sz : Nat) (t : Bool) (f : α → A) [h : vS f] : vS (eOs sz t f) := ⟨fun a b e => by simp [eOs, A.osl.injEq, true_and] at e; exact z4p h.inj e⟩
instance (f : α → A) [h : vS f] : vS (eSp f) := ⟨fun a b e => by simp [eSp, A.sptr.injEq] at e; exact h.inj _ _ e⟩
instance (sz sz' : Nat) (t t' : Bool) (f g : α → A) (l l' : List α) : SzA (eSl sz t f l) (eSl sz' t' g l') := ⟨rfl⟩
instance (sz : Nat) (t : Bool) (f g : α → A) [h : ∀ x, LeA (f x) (g x)] [z : ∀ x, SzA (f x) (g x)] (l : List α) : LeA (eSl sz t f l) (eSl sz false g l) := LeA.sl sz t (l.map f) (l.map g)
instance (sz : Nat) (t : Bool) (f g : α → A) [h : ∀ x, LeA (f x) (g x)] [z : ∀ x, SzA (f x) (g x)] (l : List α) : LeA (eOs sz t f l) (eOs sz false g l) := LeA.osl sz t (l.map f) (l.map g)
theorem i0 {l : List α}  {u : α} (h : idx l i = some u) : 0 ≤ i := by
 cases i with
 | ofNat n => exact Int.natCast_nonneg n
 | negSucc n => cases h
theorem iE {l : List α}  {u : α} (h : idx l i = some u) : l[i.toNat]? = some u := by
 cases i with
 | ofNat n => exact h
 | negSucc n => cases h
theorem iM (f : α → A) {l : List α}  {u : α} (h : idx l i = some u) : (l.map f)[i.toNat]? = some (f u) := by rw [List.getElem?_map, iE h]; rfl
theorem iL (f : α → A) {l : List α}  {u : α} (h : idx l i = some u) : 0 ≤ i ∧ i.toNat < (l.map f).length := ⟨i0 h, by rw [List.length_map]; exact (List.getElem?_eq_some_iff.1 (iE h)).1⟩
theorem arJ {fs : List A} {j : Int} (h0 : vR tt t fs 0 = true) (hj : 0 ≤ j) : vR tt t fs j = true := by
 unfold vR at h0 ⊢
 split at h0
 ·simp [decide_true, Bool.and_true, Bool.and_eq_true] at h0
  simp [hj, decide_true, Bool.and_true, Bool.and_eq_true]
  exact h0
 ·cases h0
theorem sM (f : α → A) (l : List α) (i : Int) (v : α) : (l.map f).set i.toNat (f v) = (l.set i.toNat v).map f := by rw [List.map_set]
theorem dM (f : α → A) [h : Wq f] (l : List α) : A.areD (l.map f) = true := z0n f l h.isD
theorem d1 (f : α → A) [h : Wq f] (x : α) : A.areD [f x] = true := by simp [A.areD, h.isD]
theorem o1 (f : α → A) [h : zgc f] (x : α) : A.areD [f x] = false := by simp [A.areD, h.no]
theorem shM (f g : α → A) [h : Vb f g] (l : List α) : A.lives (l.map f) = true ∧ A.shuts (l.map f) = l.map g := ⟨WT f l h.live, by rw [YO]; simp [h.sh]⟩
theorem aM (f : α → A) (l m : List α) : l.map f ++ m.map f = (l ++ m).map f := by rw [List.map_append]
theorem aL (f g : α → A) {l m : List α} (h : l.length + m.length ≤ 4294967296) : (l.map f).length + (m.map g).length ≤ lim := by simpa [lim] using h
theorem aN (f g : α → A) [Wq g] {l m : List α} (h : l.length + m.length ≤ 4294967296) (hm : m ≠ []) : (l.map g).length + (m.map f).length ≤ lim ∧ m.map f ≠ [] ∧ A.areD (l.map g) = true := ⟨by simpa [lim] using h, by simpa using hm, dM g l⟩
theorem rM (sz : Nat) (f : α → A) (n : Int) (z : α) : A.osl sz (decide (n = n)) (List.replicate n.toNat (f z)) = eOs sz true f (List.replicate n.toNat z) := by simp [eOs]
theorem rL {n : Int} (h : 0 ≤ n ∧ n ≤ 4294967296) : 0 ≤ n ∧ n ≤ n ∧ n ≤ ((lim : Nat) : Int) := ⟨h.1, Int.le_refl _, h.2⟩
theorem lnM (f : α → A) (l : List α) : A.atom (.int .i64 (((l.map f).length : Nat) : Int)) = .atom (.int .i64 ((l.length : Nat) : Int)) := by rw [List.length_map]
theorem aM0 (f : α → A) (m : List α) : ([] : List A) ++ m.map f = m.map f := rfl
theorem slA {a : Int} {r : Prop} (h : 0 ≤ a ∧ r) : 0 ≤ a := h.1
theorem slB {a b : Int} {r : Prop} (h : 0 ≤ a ∧ a ≤ b ∧ r) : 0 ≤ b := Int.le_trans h.1 h.2.1
theorem slC {a b m : Int} {r : Prop} (h : 0 ≤ a ∧ a ≤ b ∧ r ∧ b ≤ m) : 0 ≤ m := by omega
theorem zcV (f : α → A) {l : List α} {a b : Int} (h : 0 ≤ a ∧ a ≤ b ∧ b ≤ ((l.length : Nat) : Int)) : a.toNat ≤ b.toNat ∧ b.toNat ≤ (l.map f).length := by simp; omega
theorem z8L (f : α → A) {l : List α} {b m : Int} (h : (0 : Int) ≤ 0 ∧ 0 ≤ b ∧ m ≤ ((l.length : Nat) : Int) ∧ b ≤ m) : 0 ≤ b.toNat ∧ b.toNat ≤ m.toNat ∧ m.toNat ≤ (l.map f).length := by simp; omega
theorem zcU (sz : Nat) (f : α → A) (l : List α) (a b : Nat) : A.sl sz (b == b) (((l.map f).drop a).take (b - a)) = eSl sz true f ((l.drop a).take (b - a)) := by simp [eSl]
def mx (a b : Int) : Int := if a < b then b else a
theorem cuB (f : α → A) {l : List α} {b : Int} (h : 0 ≤ b ∧ b ≤ ((l.length : Nat) : Int)) : b.toNat ≤ (l.map f).length := by simp; omega
theorem cuM (f : α → A) (l : List α) (b : Int) : (l.map f).take b.toNat = (l.take b.toNat).map f := by rw [List.map_take]
theorem slM (sz : Nat) (t : Bool) (f : α → A) (l : List α) (a b : Nat) : A.sl sz t (((l.map f).drop a).take (b - a)) = eSl sz t f ((l.drop a).take (b - a)) := by simp [eSl]
def spF (k : Nat) {α ρ : Type} (enc : α → List A) (encR : ρ → A) (F : α → Option ρ) (gives : List Bool) (inj : ∀ x y, enc x = enc y → x = y) : y6 := {
 α := α
 k := k
 raw := false
 gives := gives
 enc := enc
 pre := fun x => ∃ r, F x = some r
 f := fun x => match F x with | some r => encR r | none => .dead 0
 inj := by
  intro x y h _ _
  rw [inj x y h] }
theorem z9W {c : Ctr}  {α ρ : Type} {enc : α → List A} {encR : ρ → A} {F : α → Option ρ}  {inj : ∀ x y, enc x = enc y → x = y} (h : c.Has (spF k enc encR F gives inj)) {x : α} {r : ρ} (hr : F x = some r)  (ha : as_.map A.loose = enc x) :
  c.run k (c.norm k as_) = some (encR r) := by
 have h1 := h.run x ⟨r, hr⟩
 have h2 : c.raw k = false := h.raw
 unfold Ctr.norm
 rw [h2]
 simp [Bool.false_eq_true]
 rw [ha]
 refine Eq.trans h1 ?_
 simp [spF, hr]
theorem Us {c : Ctr}  {α ρ : Type} {enc : α → List A} {encR : ρ → A} {F : α → Option ρ}  {inj : ∀ x y, enc x = enc y → x = y} (h : c.Has (spF k enc encR F gives inj)) : c.gives k = gives := h.gives
theorem WE {α ρ : Type} {enc : α → List A} {encR : ρ → A} {F : α → Option ρ}  {inj : ∀ x y, enc x = enc y → x = y} (h : ∀ x r, F x = some r → wB P k (enc x) (encR r)) : (spF k enc encR F gives inj).Ok P := by
 rintro x ⟨r, hr⟩
 have := h x r hr
 simpa only [spF, hr] using this
theorem loN : ([] : List A).map A.loose = [] := rfl
theorem loC (f : α → A) {g : α → A} [h : Zi f g] (x : α) {as_ bs : List A} (k : as_.map A.loose = bs) : (f x :: as_).map A.loose = g x :: bs := by simp [List.map_cons, h.lo, k]
end
open Classical
def JO : A → Option (List Value)
 | .atom (.int k x) => some [.int k x]
 | .atom (.string s) => some [.string s]
 | .agg fs => keyLs fs
 | _ => none
where keyLs : List A → Option (List Value)
 | [] => some []
 | a :: as_ => match JO a, keyLs as_ with | some x, some y => some (x ++ y) | _, _ => none
def Vc (a : A) : Option Value := (JO a).map (zJ a)
mutual
theorem z2S : ∀ {a : A} {cs l : List Value}, Rep S a cs → JO a = some l → cs = l
 | .atom v, cs, l, h, e => by
  cases v <;> simp only [JO] at e <;> first | (cases e; done) | skip
  all_goals
   simp only [Rep] at h
   cases e
   exact h.1
 | .agg fs, cs, l, h, e => by
  simp only [Rep] at h
  simp only [JO] at e
  exact z1h h e
 | .fn _ _, _, _, _, e => by cases e
 | .tup _, _, _, _, e => by cases e
 | .sl _ _ _, _, _, _, e => by cases e
 | .sptr _, _, _, _, e => by cases e
 | .dop _, _, _, _, e => by cases e
 | .osl _ _ _, _, _, _, e => by cases e
 | .box _, _, _, _, e => by cases e
 | .dead _, _, _, _, e => by cases e
 | .opq _, _, _, _, e => by cases e
theorem z1h : ∀ {as_ : List A} {cs l : List Value}, zV S as_ cs → JO.keyLs as_ = some l → cs = l
 | [], cs, l, h, e => by
  simp only [zV] at h
  simp only [JO.keyLs] at e
  cases e
  exact h
 | a :: as_, cs, l, h, e => by
  simp only [zV] at h
  obtain ⟨c1, c2, rfl, h1, h2⟩ := h
  simp only [JO.keyLs] at e
  cases e1 : JO a with
  | none => simp only [e1] at e; cases e
  | some x =>
   cases e2 : JO.keyLs as_ with
   | none => simp only [e1, e2] at e; cases e
   | some y =>
    simp only [e1, e2] at e
    cases e
    rw [z2S h1 e1, z1h h2 e2]
end
theorem z2R {a : A} {v kv : Value} (h : xM S a v) (e : Vc a = some kv) : v = kv := by
 obtain ⟨cs, h1, rfl⟩ := h
 unfold Vc at e
 obtain ⟨l, e1, rfl⟩ := Option.map_eq_some_iff.1 e
 rw [z2S h1 e1]
def Uy (S : zf) (es : List (A × A)) (ents : List MapEntry) : Prop := uH (fun p (e : MapEntry) => Vc p.1 = some e.key ∧ xM S p.2 e.val) es ents
def Xx (es : List (A × A)) : Opq := {
 holds := fun S h u F => ∃ b ents cl, u = .map (some b) ∧ F = [b] ∧ h[b]? = some (.map ents cl) ∧ (∀ o, S b o = none) ∧ Uy S es ents.toList
 one := fun ⟨_, _, _, e, _⟩ => .inl (by rw [e]; rfl)
 frame := fun hS hF ⟨b, ents, cl, e1, e2, e3, e4, e5⟩ => by
  subst e2
  have ⟨g1, g2⟩ := hF b (by simp)
  exact ⟨b, ents, cl, e1, rfl, g1.trans e3, g2, uH.mono (fun _ _ q => ⟨q.1, q.2.mono hS⟩) e5⟩
 own := fun ⟨b, ents, cl, e1, e2, e3, e4, e5⟩ k hk => by
  subst e2
  simp [List.mem_cons, List.not_mem_nil, or_false] at hk
  subst hk
  exact ⟨(Array.getElem?_eq_some_iff.1 e3).1, e4⟩
 idx := 0 }
def ZG (k : A) : List (A × A) → Nat → Option (Nat × A)
 | [], _ => none
 | p :: es, i => if Vc p.1 = Vc k then some (i, p.2) else ZG k es (i + 1)
def Wg (k : Value) : List MapEntry → Nat → Option (Nat × Value)
 | [], _ => none
 | e :: es, i => if e.key = k then some (i, e.val) else Wg k es (i + 1)
variable {kv : Value}
theorem z0j {k : A}  (hk : Vc k = some kv) : ∀ {es : List (A × A)} {ents : List MapEntry} {i : Nat}, Uy S es ents →
  (ZG k es i = none ∧ Wg kv ents i = none) ∨ ∃ j y v, ZG k es i = some (j, y) ∧ Wg kv ents i = some (j, v) ∧ xM S y v ∧ i ≤ j ∧ j < i + es.length ∧ (ents[j - i]?).map (·.key) = some kv
 | [], [], i, _ => .inl ⟨rfl, rfl⟩
 | p :: es, e :: ents, i, h => by
  simp only [ZG, Wg]
  by_cases hp : Vc p.1 = Vc k
  ·have he : e.key = kv := by
    have := h.1.1.symm.trans (hp.trans hk)
    simpa using this
   rw [if_pos hp, if_pos he]
   exact .inr ⟨i, p.2, e.val, rfl, rfl, h.1.2, Nat.le_refl _, by simp, by simp [he]⟩
  ·have he : ¬ e.key = kv := fun q => hp (by rw [h.1.1, hk, q])
   rw [if_neg hp, if_neg he]
   rcases z0j hk (i := i + 1) h.2 with q | ⟨j, y, v, q1, q2, q3, q4, q5, q6⟩
   ·exact .inl q
   ·refine .inr ⟨j, y, v, q1, q2, q3, by omega, by simp only [List.length_cons]; omega, ?_⟩
    rw [show j - i = (j - (i + 1)) + 1 by omega, List.getElem?_cons_succ]
    exact q6
 | [], _ :: _, _, h => h.elim
 | _ :: _, [], _, h => h.elim
structure z5g (P : Program) (t kt et : Nat) (ok : A → Bool) (z : A) : Prop where
 und : P.underlying t = some (.map kt et)
 zero : ∃ zv, (∀ w, (zeroValue et).run P w = .ok zv w) ∧ ∀ S, xM S z zv
 check : ∀ a kv e w, ok a = true → Vc a = some kv → (Instr.checkKey e 10000 kt kv).run P w = .ok () w
 find : ∀ a kv, ok a = true → Vc a = some kv → ∀ (ents : List MapEntry) (es : List (A × A)), (∀ p ∈ es, ok p.1 = true) → uH (fun p (e : MapEntry) => Vc p.1 = some e.key) es ents → ∀ w, (Instr.findKey kt kv ents).run P w = .ok (Wg kv ents 0) w
 bits : ∀ a kv, ok a = true → Vc a = some kv → Instr.sameBits 10000 kv kv = true
 key : ∀ a, ok a = true → ∃ kv, Vc a = some kv
 zd : z.isD = true
variable {es : List (A × A)}
section
variable {P : Program} {C : Ctx} {S : zf} {Fp : Nat → List Nat} {X : List Nat} {st : St} {a : Act} {w : World} {t kt et : Nat} {ok : A → Bool} {z : A}
def z6O (n : Fr) (dst : Option Nat) (es : List (A × A)) (ok : A → Bool) (z : A) (x k : Operand) (two : Bool) : SM Unit := do
 let tx ← opnd x
 let y ← peek tx
 let tk ← opnd k
 let vk ← val tk
 if y = .opq (Xx es) ∧ ok vk = true ∧ ∀ p ∈ es, ok p.1 = true then
  wrT n dst (.d (match ZG vk es 0 with
   | some (_, v) => if two = true then .tup [v, .atom (.bool true)] else v
   | none => if two = true then .tup [z, .atom (.bool false)] else z))
 else zm
theorem z08 {q : Opq}  (h : yi S (.opq q) v ∨ ∃ cs F, zw S w.heap (.opq q) cs F ∧ v = zJ (.opq q) cs) : ∃ F, q.holds S w.heap v F := by
 rcases h with h | ⟨cs, F, h1, h2⟩
 ·simp [yi, xM, Rep, false_and] at h
 ·simp [zw] at h1
  obtain ⟨u, rfl, h1⟩ := h1
  exact ⟨F, by rw [h2]; exact h1⟩
theorem z6M (mt : z5g P t kt et ok z)  {ents : Array MapEntry} {cl b : Nat} (hb : w.heap[b]? = some (.map ents cl)) (he : Uy S es ents.toList) (hok : ∀ p ∈ es, ok p.1 = true) {vk : A}  (hv : ok vk = true) (hk : Vc vk = some kv) (two : Bool) :
    ∃ v, (Instr.lookup t (.map (some b)) kv two).run P w = .ok v w ∧ yi S (match ZG vk es 0 with
      | some (_, v) => if two = true then .tup [v, .atom (.bool true)] else v
      | none => if two = true then .tup [z, .atom (.bool false)] else z) v := by
  have ⟨zv, z1, z2⟩ := mt.zero
  have hf := mt.find vk kv hv hk ents.toList es hok (uH.mono (fun _ _ q => q.1) he) w
  have hc := mt.check vk kv ents.isEmpty w hv hk
  have run : (Instr.lookup t (.map (some b)) kv two).run P w = (do
        let (v, b) ← match Wg kv ents.toList 0 with
          | some (_, v) => pure (v, true)
          | none => pure (← zeroValue et, false)
        pure (if two then .tuple #[v, .bool b] else v) : Sem Value).run P w := by
    unfold Instr.lookup
    rw [Sem.run_bind, run_underlying mt.und, Result.andThen_ok]
    have hg : (getObj b).run P w = .ok (.map ents cl) w := by simp [getObj, Sem.run, hb]
    simp only [Sem.run_bind, hg, Result.andThen_ok, Sem.run_pure, hc, hf]
    cases Wg kv ents.toList 0 <;> rfl
  rcases z0j hk (i := 0) he with ⟨q1, q2⟩ | ⟨j, y, v, q1, q2, q3, _⟩
  · rw [q1]
    refine ⟨if two = true then .tuple #[zv, .bool false] else zv, ?_, ?_⟩
    · rw [run, q2]; simp [z1]
    · cases two
      · exact (z2 S).repV
      · simp only [if_true, yi]
        exact ⟨[zv, .bool false], rfl, z2 S, yc.2 ⟨rfl, rfl⟩, trivial⟩
  · rw [q1]
    refine ⟨if two = true then .tuple #[v, .bool true] else v, ?_, ?_⟩
    · rw [run, q2]; simp
    · cases two
      · exact q3.repV
      · simp only [if_true, yi]
        exact ⟨[v, .bool true], rfl, q3, yc.2 ⟨rfl, rfl⟩, trivial⟩
theorem z6N (mt : z5g P t kt et ok z) (h : Sim C S Fp [] st a w)   {x k : Operand} {two : Bool} (ho : o.op = .lookup t x k two)    (e : z6O C.n o.dst es ok z x k two st = some (u, R, U)) : xz P C o a w (zb U st) := by
 unfold z6O at e
 have ⟨tx, _, hx, e1⟩ := bR (zr h) e
 have ⟨y, _, qx, e2⟩ := bR (Zz h hx) e1
 have ⟨tk, _, hk, e3⟩ := bR (zr h) e2
 have ⟨vk, _, qk, e4⟩ := bR (xe h hk) e3
 split at e4
 ·rename_i hc
  obtain ⟨rfl, c2, c3⟩ := hc
  have ⟨F, b, ents, cl, ev, _, g1, _, g3⟩ := z08 qx
  have ⟨kv, hkv⟩ := mt.key vk c2
  have hkd : a.eval k = kv := by
   refine z2R (S := S) ?_ hkv
   cases vk <;> first | exact qk | (simp only [Vc, JO, Option.map_none] at hkv; cases hkv)
  have ⟨v, r1, r2⟩ := z6M mt g1 g3 c3 c2 hkv two
  have ⟨Fp', hs⟩ := yk h e4 (x := .d _) r2
  exact zi (by simp [execOp, ho, ev, hkd, r1]) hs
 ·cases e4
def z7S (es : List (A × A)) (k v : A) : List (A × A) :=
 match ZG k es 0 with
 | some (j, _) => es.set j (k, v)
 | none => es ++ [(k, v)]
def z9R (es : List (A × A)) (ok : A → Bool) (x k v : Operand) : SM Unit := do
 let tx ← opnd x
 match tx with
 | .als r [] er ec => do
  let e ← rdE r
  let tk ← opnd k
  let vk ← val tk
  let tv ← opnd v
  let vv ← val tv
  if e.t = .own (.opq (Xx es)) ∧ e.er = er ∧ ok vk = true ∧ vv.isD = true ∧ ∀ p ∈ es, ok p.1 = true then
   wrE r ⟨.own (.opq (Xx (z7S es vk vv))), e.er, e.ec + 1⟩
  else zm
 | _ => zm
theorem z2x : ∀ {es : List (A × A)} {ents : List MapEntry} {j : Nat} {p : A × A} {f : MapEntry → MapEntry}, Uy S es ents → (∀ e, ents[j]? = some e → Vc p.1 = some (f e).key ∧ xM S p.2 (f e).val) → Uy S (es.set j p) (ents.modify j f)
 | [], [], j, p, f, _, _ => by simp [List.set_nil, List.modify_nil]; exact trivial
 | q :: es, e :: ents, 0, p, f, h, hf => by
  have := hf e (by simp)
  simp [List.set_cons_zero, List.modify_zero_cons]
  exact ⟨this, h.2⟩
 | q :: es, e :: ents, j + 1, p, f, h, hf => by
  simp [List.set_cons_succ, List.modify_succ_cons]
  exact ⟨h.1, z2x h.2 (fun e' he' => hf e' (by simpa using he'))⟩
 | [], _ :: _, _, _, _, h, _ => h.elim
 | _ :: _, [], _, _, _, h, _ => h.elim
theorem z3E (mt : z5g P t kt et ok z) (h : Sim C S Fp [] st a w)   {x k v : Operand} (ho : o.op = .mapUpdate t x k v ∨ o.op = .insert t x k v) (hd : o.dst = none)    (e : z9R es ok x k v st = some (u, R, U)) : xz P C o a w (zb U st) := by
 unfold z9R at e
 have ⟨tx, _, hx, e1⟩ := bR (zr h) e
 split at e1
 ·rename_i r er ec
  have ⟨_, e2⟩ := bD e1
  have ⟨tk, _, hk, e3⟩ := bR (zr h) e2
  have ⟨vk, _, qk, e4⟩ := bR (xe h hk) e3
  have ⟨tv, _, hv, e5⟩ := bR (zr h) e4
  have ⟨vv, _, qv, e6⟩ := bR (xe h hv) e5
  split at e6
  ·rename_i hc
   have ⟨c1, c2, c3, c4, c5⟩ := hc
   cases e6
   have hr := h.ent r
   unfold yf at hr
   simp only [c1] at hr
   have ⟨cs, k1, k2, k3⟩ := hr
   simp only [zw] at k1
   obtain ⟨v0, rfl, b, ents, cl, rfl, hF, g1, g2, g3⟩ := k1
   have hev : a.eval x = .map (some b) := by
    have := hx.2.2
    simp only [c1] at this
    rcases this c2 (.inl trivial) with ⟨_, q⟩ | ⟨q, _⟩
    ·rw [q, k3]; rfl
    ·simp [Xw] at q
   have ⟨kv, hkv⟩ := mt.key vk c3
   have hkd : a.eval k = kv := by
    refine z2R (S := S) ?_ hkv
    cases vk <;> first | exact qk | (simp only [Vc, JO, Option.map_none] at hkv; cases hkv)
   have hvd : xM S vv (a.eval v) := qv.rep1 c4
   have hf := mt.find vk kv c3 hkv ents.toList es c5 (uH.mono (fun _ _ q => q.1) g3) w
   have hck := mt.check vk kv false w c3 hkv
   have hget : (getObj b).run P w = .ok (.map ents cl) w := by simp [getObj, Sem.run, g1]
   have hset : ∀ o', (setObj b o').run P w = .ok () (w.putObj b o') := by intro o'; simp [setObj, Sem.run, g1, World.putObj]
   have hbM : C.M b := h.base r b (by rw [hF]; simp)
   have hoth : ∀ k o', k ≠ b → (w.putObj b o').heap[k]? = w.heap[k]? := fun k o' hk => World.putObj_heap_other hk
   have hlt : b < w.heap.size := (Array.getElem?_eq_some_iff.1 g1).1
   have fin : ∀ ents' cl' es', Uy S es' ents'.toList → ∃ Fp', Sim C S Fp' [] (upd st r ⟨.own (.opq (Xx es')), (st r).er, (st r).ec + 1⟩) a (w.putObj b (.map ents' cl')) := by
    intro ents' cl' es' he'
    refine ⟨_, h.change r (.own (.opq (Xx es'))) _ _ [b] ?_ (fun _ _ _ q => q) ?_ h.sbase ?_ ⟨⟨[.map (some b)], ?_, by simp, k3⟩, _, c1⟩ (.inl ⟨_, c1⟩) (Nat.le_refl _) (Nat.lt_succ_self _) ?_ ?_ (by simp) (by simp) (by simp) (by simp)⟩
    ·exact h.below.trans ⟨rfl, rfl, rfl, Nat.le_refl _, by simp [World.putObj], fun k hk => hoth k _ (by rintro rfl; exact hk hbM)⟩
    ·intro b' o' v' hs
     have := h.still b' o' v' hs
     unfold zP at this ⊢
     rw [hoth b' _ (by rintro rfl; rw [g2] at hs; cases hs)]
     exact this
    ·intro t' k' ht' hk'
     exact ⟨hoth k' _ (by rintro rfl; exact ht' (h.disj t' r _ hk' (by rw [hF]; simp))), (h.free t' k' hk').2.1⟩
    ·simp only [zw]
     exact ⟨_, rfl, b, ents', cl', rfl, rfl, World.putObj_heap_same hlt, g2, he'⟩
    ·intro t' k' ht' hk' hk2
     simp only [List.mem_cons, List.not_mem_nil, or_false] at hk'
     subst hk'
     exact ht' (h.disj t' r _ hk2 (by rw [hF]; simp))
    ·intro k' hk'
     simp only [List.mem_cons, List.not_mem_nil, or_false] at hk'
     subst hk'
     exact hbM
   have run : (Instr.mapUpdate t (.map (some b)) kv (a.eval v)).run P w = (do
     match Wg kv ents.toList 0 with
     | some (i, _) => do
      let key ← Instr.keyThatStays (((ents[i]?).map (·.key)).getD kv) kv
      setObj b (.map (ents.modify i fun e => { e with key, val := a.eval v }) cl)
     | none => setObj b (.map (ents.push { key := kv, val := a.eval v, born := cl }) (cl + 1)) : Sem Unit).run P w := by
    unfold Instr.mapUpdate
    rw [Sem.run_bind, run_underlying mt.und, Result.andThen_ok]
    simp only [Sem.run_bind, hget, Result.andThen_ok, hck, hf]
    cases Wg kv ents.toList 0 <;> rfl
   simp only [zb]
   have good : ∀ w', (Instr.mapUpdate t (.map (some b)) kv (a.eval v)).run P w = .ok () w' → ∀ es' Fp', Sim C S Fp' [] (upd st r ⟨.own (.opq (Xx es')), (st r).er, (st r).ec + 1⟩) a w' → xz P C o a w (upd st r ⟨.own (.opq (Xx es')), (st r).er, (st r).ec + 1⟩) := by
    intro w' hw es' Fp' hs
    refine z1p (w' := w') ?_ hd hs
    rcases ho with ho | ho <;> simp [execOp, ho, hev, hkd, hw]
   rcases z0j hkv (i := 0) g3 with ⟨q1, q2⟩ | ⟨j, y, v', q1, q2, q3, q4, q5, q6⟩
   ·have he' : Uy S (z7S es vk vv) (ents.push { key := kv, val := a.eval v, born := cl }).toList := by
     simp only [z7S, q1, Array.toList_push]
     exact Q0 g3 ⟨⟨hkv, hvd⟩, trivial⟩
    have ⟨Fp', hs⟩ := fin _ (cl + 1) _ he'
    exact good _ (by rw [run, q2]; exact hset _) _ _ hs
   ·have hkey : (ents[j]?).map (·.key) = some kv := by
     simp only [Nat.sub_zero] at q6
     rw [← Array.getElem?_toList]; exact q6
    have he' : Uy S (z7S es vk vv) (ents.modify j fun e => { e with key := kv, val := a.eval v }).toList := by
     simp only [z7S, q1]
     rw [Array.toList_modify]
     exact z2x g3 fun _ _ => ⟨hkv, hvd⟩
    have ⟨Fp', hs⟩ := fin _ cl _ he'
    refine good _ ?_ _ _ hs
    rw [run, q2]
    simp only [hkey, Option.getD_some, Instr.keyThatStays, mt.bits vk kv c3 hkv, if_true, Sem.run_bind, Sem.run_pure, Result.andThen_ok, hset]
  ·cases e6
 ·cases e1
end
variable {x : Operand}
section
variable {P : Program} {C : Ctx} {S : zf} {Fp : Nat → List Nat} {X : List Nat} {st : St} {a : Act} {w : World} {t kt et : Nat} {ok : A → Bool} {z : A}
def z4o (n : Fr) (dst : Option Nat) : SM Unit := wrT n dst (.own (.opq (Xx [])))
theorem z4n (h : Sim C S Fp [] st a w)  (ho : o.op = .makeMap t none)    (e : z4o C.n o.dst st = some (u, R, U)) : xz P C o a w (zb U st) := by
 have h2 := h.alloc (by simp) (.map #[] 0)
 have hc : zw S (w.alloc (.map #[] 0)).heap (.opq (Xx [])) [.map (some w.heap.size)] [w.heap.size] := by
  simp only [zw]
  exact ⟨_, rfl, w.heap.size, #[], 0, rfl, rfl, heap_alloc_new w _, fun o => h.free_new (Nat.le_refl _) o, trivial⟩
 have ⟨Fp'', hs⟩ := jI (F := [w.heap.size]) (X := []) h2 e hc (by simp)
 refine zi (v := .map (some w.heap.size)) ?_ hs
 simp [execOp, ho, Instr.makeMap]
def z6L (n : Fr) (dst : Option Nat) (es : List (A × A)) (x : Operand) : SM Unit := do
 let tx ← opnd x
 let y ← peek tx
 if y = .opq (Xx es) then wrT n dst (.d (.atom (.int .i64 (es.length : Nat)))) else zm
theorem z6K (mt : z5g P t kt et ok z) (h : Sim C S Fp [] st a w)   {x : Operand} (ho : o.op = .call ⟨.builtin .len, ⟨[x]⟩, ⟨[t]⟩⟩)    (e : z6L C.n o.dst es x st = some (u, R, U)) : xz P C o a w (zb U st) := by
 unfold z6L at e
 have ⟨tx, _, hx, e1⟩ := bR (zr h) e
 have ⟨y, _, qx, e2⟩ := bR (Zz h hx) e1
 split at e2
 ·rename_i hc
  subst hc
  have ⟨F, b, ents, cl, ev, _, g1, _, g3⟩ := z08 qx
  have hl : es.length = ents.size := by simpa using UZ g3
  have ⟨Fp', hs⟩ := yk h e2 (x := .d _) (zj.2 ⟨rfl, rfl⟩)
  refine zi ?_ hs
  have hg : (getObj b).run P w = .ok (.map ents cl) w := by simp [getObj, Sem.run, g1]
  simp [execOp, ho, resolve, invoke, builtin, Builtin.len_, ev, run_underlying mt.und, hg, goInt, hl]
 ·cases e2
end
def z7Z (n : Fr) (dst : Option Nat) (es : List (A × A)) (ok : A → Bool) (z : A) (x k : Operand) (two : Bool) : HM Unit :=
 zH (opnd x) >>= fun tx => JM tx >>= fun y => zH (opnd k) >>= fun tk => Yx tk >>= fun vk =>
 wy (y = .opq (Xx es) ∧ ok vk = true ∧ ∀ p ∈ es, ok p.1 = true) (eqA (match ZG vk es 0 with
   | some (_, v) => if two = true then .tup [v, .atom (.bool true)] else v
   | none => if two = true then .tup [z, .atom (.bool false)] else z) >>= fun r => zH (wrT n dst (.d r)))
theorem z8T (n : Fr) (dst : Option Nat) (es : List (A × A)) (ok : A → Bool) (z : A) (x k : Operand) (two : Bool) : Snd (z6O n dst es ok z x k two) (z7Z n dst es ok z x k two) :=
 z8 (ze _) fun _ => z8 (WI _) fun _ => z8 (ze _) fun _ => z8 (wx _) fun _ => ym (Xe (zL _ fun r => wrT n dst (.d r)).symm (z8 (JJ _) fun _ => ze _))
def zcP (es es' : List (A × A)) (ok : A → Bool) (x k v : Operand) : HM Unit := zH (opnd x) >>= fun tx =>
 match tx with
 | .als r [] er ec => zH (rdE r) >>= fun e => zH (opnd k) >>= fun tk => Yx tk >>= fun vk => zH (opnd v) >>= fun tv => Yx tv >>= fun vv =>
  wy (e.t = .own (.opq (Xx es)) ∧ e.er = er ∧ ok vk = true ∧ vv.isD = true ∧ ∀ p ∈ es, ok p.1 = true) (wy (z7S es vk vv = es') (zH (wrE r ⟨.own (.opq (Xx es')), e.er, e.ec + 1⟩)))
 | _ => zz
theorem z7M (es es' : List (A × A)) (ok : A → Bool) (x k v : Operand) : Snd (z9R es ok x k v) (zcP es es' ok x k v) := by
 refine z8 (ze _) fun tx => ?_
 cases tx with
 | als r p er ec =>
  cases p with
  | nil =>
   refine z8 (ze _) fun e => z8 (ze _) fun tk => z8 (wx _) fun vk => z8 (ze _) fun tv => z8 (wx _) fun vv => ym ?_
   exact Vw fun hq => by rw [hq]; exact ze _
  | cons _ _ => exact zl _
 | _ => exact zl _
def zbO (n : Fr) (dst : Option Nat) (es : List (A × A)) (x : Operand) : HM Unit := zH (opnd x) >>= fun tx => JM tx >>= fun y => wy (y = .opq (Xx es)) (eqA (.atom (.int .i64 (es.length : Nat))) >>= fun r => zH (wrT n dst (.d r)))
theorem zbn (n : Fr) (dst : Option Nat) (es : List (A × A)) (x : Operand) : Snd (z6L n dst es x) (zbO n dst es x) :=
 z8 (ze _) fun _ => z8 (WI _) fun _ => ym (Xe (zL _ fun r => wrT n dst (.d r)).symm (z8 (JJ _) fun _ => ze _))
def za9 (P : Program) (d : Nat) : XH P := {
 e := fun n o => match o.op with | .makeMap _ none => if o.dst = some d then some (z4o n o.dst) else none | _ => none
 h := fun n o => match o.op with | .makeMap _ none => if o.dst = some d then some (zH (z4o n o.dst)) else none | _ => none
 ok := by
  refine ⟨?_, ?_⟩
  ·intro C S Fp st a w o m u R U e h h2
   dsimp only at e
   split at e
   ·rename_i ho
    split at e
    ·cases e; exact z4n h ho h2
    ·cases e
   ·cases e
  ·intro n o m e
   dsimp only at e
   split at e
   ·split at e
    ·cases e; exact fun st st' a R U => Loc.wrT _ _ _ st st' a R U
    ·cases e
   ·cases e
 none := by
  intro n o e
  skip
  split at e
  ·split at e
   ·cases e
   ·rename_i hd; rw [if_neg hd]
  ·rfl
 some := by
  intro n o m e
  skip
  split at e
  ·split at e
   ·rename_i hd; cases e; exact ⟨_, by rw [if_pos hd], ze _⟩
   ·cases e
  ·cases e }
variable {z : A}
def z3B {t kt et : Nat} {ok : A → Bool}  (mt : z5g P t kt et ok z) (d : Nat) (es : List (A × A)) : XH P := {
 e := fun n o => match o.op with | .lookup t' x k two => if o.dst = some d ∧ t' = t then some (z6O n o.dst es ok z x k two) else none | _ => none
 h := fun n o => match o.op with | .lookup t' x k two => if o.dst = some d ∧ t' = t then some (z7Z n o.dst es ok z x k two) else none | _ => none
 ok := by
  refine ⟨?_, ?_⟩
  ·intro C S Fp st a w o m u R U e h h2
   dsimp only at e
   split at e
   ·rename_i t' x k two ho
    split at e
    ·rename_i hd
     obtain ⟨_, rfl⟩ := hd
     cases e; exact z6N mt h ho h2
    ·cases e
   ·cases e
  ·intro n o m e
   dsimp only at e
   split at e
   ·split at e
    ·cases e
     refine Loc.bind (Loc.opnd _) fun _ => Loc.bind (Loc.peek _) fun _ => Loc.bind (Loc.opnd _) fun _ => Loc.bind (Loc.val _) fun _ => Loc.ite (Loc.wrT _ _ _) Loc.fail
    ·cases e
   ·cases e
 none := by
  intro n o e
  skip
  split at e
  ·split at e
   ·cases e
   ·rename_i hd; rw [if_neg hd]
  ·rfl
 some := by
  intro n o m e
  skip
  split at e
  ·split at e
   ·rename_i hd; cases e; exact ⟨_, by rw [if_pos hd], z8T _ _ _ _ _ _ _ _⟩
   ·cases e
  ·cases e }
def zcI {t kt et : Nat} {ok : A → Bool}  (mt : z5g P t kt et ok z) (d : Nat) (es : List (A × A)) : XH P := {
 e := fun n o => match o.op with | .call ⟨.builtin .len, ⟨[x]⟩, ⟨[t']⟩⟩ => if o.dst = some d ∧ t' = t then some (z6L n o.dst es x) else none | _ => none
 h := fun n o => match o.op with | .call ⟨.builtin .len, ⟨[x]⟩, ⟨[t']⟩⟩ => if o.dst = some d ∧ t' = t then some (zbO n o.dst es x) else none | _ => none
 ok := by
  refine ⟨?_, ?_⟩
  ·intro C S Fp st a w o m u R U e h h2
   dsimp only at e
   split at e
   ·rename_i x t' ho
    split at e
    ·rename_i hd
     obtain ⟨_, rfl⟩ := hd
     cases e; exact z6K mt h ho h2
    ·cases e
   ·cases e
  ·intro n o m e
   dsimp only at e
   split at e
   ·split at e
    ·cases e
     exact Loc.bind (Loc.opnd _) fun _ => Loc.bind (Loc.peek _) fun _ => Loc.ite (Loc.wrT _ _ _) Loc.fail
    ·cases e
   ·cases e
 none := by
  intro n o e
  skip
  split at e
  ·split at e
   ·cases e
   ·rename_i hd; rw [if_neg hd]
  ·rfl
 some := by
  intro n o m e
  skip
  split at e
  ·split at e
   ·rename_i hd; cases e; exact ⟨_, by rw [if_pos hd], zbn _ _ _ _⟩
   ·cases e
  ·cases e }
def ze9 {t kt et : Nat} {ok : A → Bool}  (mt : z5g P t kt et ok z) (q : Nat) (es es' : List (A × A)) : XH P := {
 e := fun n o => match o.op with
  | .mapUpdate t' (.tmp x) k v => if x = q ∧ t' = t ∧ o.dst = none then some (z9R es ok (.tmp x) k v) else none
  | .insert t' (.tmp x) k v => if x = q ∧ t' = t ∧ o.dst = none then some (z9R es ok (.tmp x) k v) else none
  | _ => none
 h := fun n o => match o.op with
  | .mapUpdate t' (.tmp x) k v => if x = q ∧ t' = t ∧ o.dst = none then some (zcP es es' ok (.tmp x) k v) else none
  | .insert t' (.tmp x) k v => if x = q ∧ t' = t ∧ o.dst = none then some (zcP es es' ok (.tmp x) k v) else none
  | _ => none
 ok := by
  have loc : ∀ x k v, Loc (z9R es ok x k v) := by
   intro x k v
   refine Loc.bind (Loc.opnd _) fun tx => ?_
   split
   ·exact Loc.bind (Loc.rdE _) fun _ => Loc.bind (Loc.opnd _) fun _ => Loc.bind (Loc.val _) fun _ => Loc.bind (Loc.opnd _) fun _ => Loc.bind (Loc.val _) fun _ => Loc.ite (Loc.wrE _ _) Loc.fail
   ·exact Loc.fail
  refine ⟨?_, ?_⟩
  ·intro C S Fp st a w o m u R U e h h2
   dsimp only at e
   split at e
   ·rename_i t' x k v ho
    split at e
    ·rename_i hd
     obtain ⟨_, rfl, hd⟩ := hd
     cases e; exact z3E mt h (.inl ho) hd h2
    ·cases e
   ·rename_i t' x k v ho
    split at e
    ·rename_i hd
     obtain ⟨_, rfl, hd⟩ := hd
     cases e; exact z3E mt h (.inr ho) hd h2
    ·cases e
   ·cases e
  ·intro n o m e
   dsimp only at e
   split at e
   ·split at e
    ·cases e; exact loc _ _ _
    ·cases e
   ·split at e
    ·cases e; exact loc _ _ _
    ·cases e
   ·cases e
 none := by
  intro n o e
  skip
  split at e
  ·split at e
   ·cases e
   ·rename_i hd; rw [if_neg hd]
  ·split at e
   ·cases e
   ·rename_i hd; rw [if_neg hd]
  ·rfl
 some := by
  intro n o m e
  skip
  split at e
  ·split at e
   ·rename_i hd; cases e; exact ⟨_, by rw [if_pos hd], z7M _ _ _ _ _ _⟩
   ·cases e
  ·split at e
   ·rename_i hd; cases e; exact ⟨_, by rw [if_pos hd], z7M _ _ _ _ _ _⟩
   ·cases e
  ·cases e }
variable {K V : Type}
def z1F [BEq K] : List (K × V) → K → Option V
 | [], _ => none
 | p :: l, x => if p.1 == x then some p.2 else z1F l x
def z5j [BEq K] : List (K × V) → K → V → List (K × V)
 | [], x, v => [(x, v)]
 | p :: l, x, v => if p.1 == x then (x, v) :: l else p :: z5j l x v
class ze8 {K : Type} [BEq K] (f : K → A) : Prop where
 eq : ∀ x y, (Vc (f x) = Vc (f y)) ↔ (x == y) = true
def uE (f : K → A) (g : V → A) (l : List (K × V)) : List (A × A) := l.map fun p => (f p.1, g p.2)
theorem z30 {f : K → A} {g : V → A} (x : K) : ∀ (l : List (K × V)) (i j : Nat) (y : A), ZG (f x) (uE f g l) i = some (j, y) → i ≤ j
 | [], _, _, _, e => by cases e
 | p :: l, i, j, y, e => by
  simp [uE, List.map_cons, ZG] at e
  split at e
  ·cases e; exact Nat.le_refl _
  ·exact Nat.le_of_succ_le (z30 x l (i + 1) j y e)
section
variable {K V : Type} [BEq K] {f : K → A} {g : V → A} [hk : ze8 f]
theorem z0k (x : K) : ∀ (l : List (K × V)) (i : Nat), (ZG (f x) (uE f g l) i).map (·.2) = (z1F l x).map g
 | [], _ => rfl
 | p :: l, i => by
  simp [uE, List.map_cons, ZG, z1F]
  by_cases h : (p.1 == x) = true
  ·rw [if_pos ((hk.eq _ _).2 h), if_pos h]; rfl
  ·rw [if_neg (fun q => h ((hk.eq _ _).1 q)), if_neg h]; exact z0k x l (i + 1)
theorem z44 (x : K) (v : V) : ∀ (l : List (K × V)) (i : Nat), (match ZG (f x) (uE f g l) i with | some (j, _) => (uE f g l).set (j - i) (f x, g v) | none => uE f g l ++ [(f x, g v)]) = uE f g (z5j l x v)
 | [], _ => rfl
 | p :: l, i => by
  simp [uE, List.map_cons, ZG, z5j]
  by_cases h : (p.1 == x) = true
  ·rw [if_pos ((hk.eq _ _).2 h), if_pos h]
   simp
  ·rw [if_neg (fun q => h ((hk.eq _ _).1 q)), if_neg h]
   have ih := z44 x v l (i + 1)
   simp [List.map_cons]
   simp [uE] at ih
   cases hf : ZG (f x) (l.map fun p => (f p.1, g p.2)) (i + 1) with
   | none =>
    simp [hf] at ih ⊢
    simp [ih]
   | some q =>
    have ⟨j, y⟩ := q
    have hle := z30 (f := f) (g := g) x l (i + 1) j y hf
    simp [hf] at ih ⊢
    rw [show j - i = (j - (i + 1)) + 1 by omega, List.set_cons_succ, ih]
theorem z43 (x : K) (v : V) (l : List (K × V)) : z7S (uE f g l) (f x) (g v) = uE f g (z5j l x v) := by
 have := z44 (f := f) (g := g) x v l 0
 simpa only [Nat.sub_zero, z7S] using this
theorem zfh {z0 : V}  (hz : g z0 = z) (x : K) (l : List (K × V)) : (match ZG (f x) (uE f g l) 0 with
      | some (_, v) => if false = true then A.tup [v, .atom (.bool true)] else v
      | none => if false = true then A.tup [z, .atom (.bool false)] else z) = g ((z1F l x).getD z0) := by
  have := z0k (f := f) (g := g) x l 0
  cases hf : ZG (f x) (uE f g l) 0 with
  | none => rw [hf] at this; cases hm : z1F l x with | none => simp [hz] | some y => simp [hm] at this
  | some q => have ⟨j, y⟩ := q; rw [hf] at this; cases hm : z1F l x with | none => simp [hm] at this | some y' => simp [hm] at this; simp [this]
theorem zg4 {z0 : V}  (hz : g z0 = z) (x : K) (l : List (K × V)) : (match ZG (f x) (uE f g l) 0 with
      | some (_, v) => if true = true then A.tup [v, .atom (.bool true)] else v
      | none => if true = true then A.tup [z, .atom (.bool false)] else z) = .tup [g ((z1F l x).getD z0), .atom (.bool (z1F l x).isSome)] := by
  have := z0k (f := f) (g := g) x l 0
  cases hf : ZG (f x) (uE f g l) 0 with
  | none => rw [hf] at this; cases hm : z1F l x with | none => simp [hz] | some y => simp [hm] at this
  | some q => have ⟨j, y⟩ := q; rw [hf] at this; cases hm : z1F l x with | none => simp [hm] at this | some y' => simp [hm] at this; simp [this]
end
theorem z1w {f : K → A} {g : V → A} {ok : A → Bool} (h : ∀ x, ok (f x) = true) (l : List (K × V)) : ∀ p ∈ uE f g l, ok p.1 = true := by
 intro p hp
 obtain ⟨q, _, rfl⟩ := List.mem_map.1 hp
 exact h _
theorem z9q (f : K → A) (g : V → A) (l : List (K × V)) : A.atom (.int .i64 (((uE f g l).length : Nat) : Int)) = .atom (.int .i64 ((l.length : Nat) : Int)) := by simp [uE]
def z4I : List IntKind → List Value → Bool
 | [], [] => true
 | k :: ks, .int k' _ :: vs => k' == k && z4I ks vs
 | _, _ => false
def QM (ks : List IntKind) : A → Bool
 | .agg fs => match JO.keyLs fs with | some l => z4I ks l | none => false
 | _ => false
variable {ks : List IntKind}
theorem kU {a : A} (h : QM ks a = true) : ∃ l, JO a = some l ∧ z4I ks l = true ∧ Vc a = some (.agg l.toArray) := by
 unfold QM at h
 split at h
 ·rename_i fs
  cases e : JO.keyLs fs with
  | none => simp [e] at h
  | some l =>
   simp [e] at h
   exact ⟨l, by simp [JO, e], h, by simp [Vc, JO, e, Option.map_some, zJ]⟩
 ·cases h
theorem UU : ∀ {ks : List IntKind} {l : List Value}, z4I ks l = true → l.length = ks.length
 | [], [], _ => rfl
 | k :: ks, v :: l, h => by
  cases v <;> simp only [z4I] at h <;> first | (cases h; done) | skip
  simp only [Bool.and_eq_true] at h
  simp [UU h.2]
 | [], _ :: _, h => by cases h
 | _ :: _, [], h => by cases h
theorem z4H : ∀ {ks : List IntKind} {l m : List Value}, z4I ks l = true → z4I ks m = true → ∃ r, yg l m = some r ∧ (r = true ↔ m = l)
 | [], [], [], _, _ => ⟨true, rfl, by simp⟩
 | k :: ks, v :: l, u :: m, h1, h2 => by
  cases v <;> simp only [z4I] at h1 <;> first | (cases h1; done) | skip
  cases u <;> simp only [z4I] at h2 <;> first | (cases h2; done) | skip
  simp only [Bool.and_eq_true, beq_iff_eq] at h1 h2
  obtain ⟨rfl, h1⟩ := h1
  obtain ⟨rfl, h2⟩ := h2
  have ⟨r, q1, q2⟩ := z4H h1 h2
  rename_i a _ b
  refine ⟨(a == b) && r, by simp [yg, q1], ?_⟩
  simp only [Bool.and_eq_true, beq_iff_eq, List.cons.injEq, Value.int.injEq, true_and, q2]
  constructor
  ·rintro ⟨rfl, rfl⟩; exact ⟨rfl, rfl⟩
  ·rintro ⟨rfl, rfl⟩; exact ⟨rfl, rfl⟩
 | [], _ :: _, _, h, _ => by cases h
 | [], [], _ :: _, _, h => by cases h
 | _ :: _, [], _, h, _ => by cases h
 | _ :: _, _ :: _, [], _, h => by cases h
section
variable {P : Program} {t kt et : Nat} {z : A}
theorem z6J {i : Go.Ex.EI} (hu : P.underlying t = some (.map kt et)) (d : TypeDesc) (hk : P.underlying kt = some d) (hx : Go.Ex.z5o P kt i) (he : z5o P kt ks.length) (hn : i.size = ks.length) (hz : ∃ zv, (∀ w, (zeroValue et).run P w = .ok zv w) ∧ ∀ S, xM S z zv) (zd : z.isD = true) : z5g P t kt et (QM ks) z := {
 und := hu
 zero := hz
 zd := zd
 key := fun a h => by have ⟨l, _, _, h3⟩ := kU h; exact ⟨_, h3⟩
 check := fun a kv e w h hv => by
  have ⟨l, _, h2, h3⟩ := kU h
  rw [h3] at hv
  cases hv
  exact hx.key l e w (by rw [hn]; exact UU h2)
 bits := fun a kv h hv => by
  have ⟨l, _, h2, h3⟩ := kU h
  rw [h3] at hv
  cases hv
  have : ∀ {ks : List IntKind} {l : List Value}, z4I ks l = true → (l.zip l).all (fun (x, y) => Instr.sameBits 9999 x y) = true := by
   intro ks
   induction ks with
   | nil => intro l h; cases l <;> first | rfl | cases h
   | cons k ks ih =>
    intro l h
    cases l with
    | nil => rfl
    | cons v l =>
     cases v <;> simp only [z4I] at h <;> first | (cases h; done) | skip
     simp only [Bool.and_eq_true] at h
     simp only [List.zip_cons_cons, List.all_cons, Bool.and_eq_true]
     exact ⟨by simp [Instr.sameBits], ih h.2⟩
  simp only [Instr.sameBits, beq_self_eq_true, Bool.true_and]
  exact this h2
 find := fun a kv h hv ents es hes hall w => by
  have ⟨l, _, h2, h3⟩ := kU h
  rw [h3] at hv
  cases hv
  have gen : ∀ (ents : List MapEntry) (es : List (A × A)) (i : Nat), (∀ p ∈ es, QM ks p.1 = true) → uH (fun p (e : MapEntry) => Vc p.1 = some e.key) es ents → (Instr.findAsking kt (.agg l.toArray) ents i).run P w = .ok (Wg (.agg l.toArray) ents i) w := by
   intro ents
   induction ents with
   | nil => intro es i _ _; simp [Instr.findAsking, Wg]
   | cons e ents ih =>
    intro es i h1 h2'
    cases es with
    | nil => exact h2'.elim
    | cons p es =>
     have ⟨m, _, g2, g3⟩ := kU (h1 p (by simp))
     have hk2 : e.key = .agg m.toArray := by
      have : Vc p.1 = some e.key := h2'.1
      rw [g3] at this
      exact (Option.some.inj this).symm
     have ⟨r, r1, r2⟩ := z4H h2 g2
     have hrun := he.run l m r w (UU h2) (UU g2) r1
     simp only [Instr.findAsking, Wg, Sem.run_bind, show (Op.equal kt (Value.agg l.toArray) e.key).run P w = .ok r w by rw [hk2]; exact hrun, Result.andThen_ok]
     by_cases hlm : m = l
     ·have hr := r2.2 hlm
      subst hlm
      rw [hr]; simp [hk2]
     ·have hr : r = false := by
       cases r
       ·rfl
       ·exact absurd (r2.1 rfl) hlm
      have hne : ¬ e.key = Value.agg l.toArray := by rw [hk2]; intro q; exact hlm (by simpa using q)
      simp only [hr, Bool.false_eq_true, if_false, if_neg hne]
      exact ih es (i + 1) (fun p hp => h1 p (by simp [hp])) h2'.2
  cases ents with
  | nil => simp [Instr.findKey, run_underlying hk, Instr.findNow, Wg]
  | cons e ents =>
   have hn : Instr.findNow d (.agg l.toArray) (e :: ents) 0 = none := by
    simp only [Instr.findNow]
    cases d <;> rfl
   simp only [Instr.findKey, Sem.run_bind, run_underlying hk, Result.andThen_ok, hn]
   exact gen (e :: ents) es 0 hes hall }
end
theorem z2n {f : TypeInfo}  (h : P.info? t = some f) (hz : f.zero = some v) (w : World) : (zeroValue t).run P w = .ok v w := by simp [zeroValue, typeInfo, h, hz]
def z2m (P : Program) (f : A)  (enc : β → Bool → Value → List A) (F : ∀ {σ : Type}, (σ → β → Option (σ × Bool)) → σ → Option σ) : Prop :=
 ∀ (σ : Type) (yv : Value) (Y : σ → kB) (y : σ → β → Option (σ × Bool)), (∀ s x s' b, y s x = some (s', b) → ∀ v, yl P (.atom yv) (enc x b v) [(yv, .opq (Y s).q)] (.atom (.bool b)) [.opq (Y s').q]) →
  ∀ s s', F y s = some s' → yl P f [.atom yv] [(yv, .opq (Y s).q)] (.tup []) [.opq (Y s').q]
def YOk (P : Program) (yv : Value) {σ β : Type} (Y : σ → kB) (enc : β → Bool → Value → List A) (y : σ → β → Option (σ × Bool)) : Prop :=
 ∀ s x s' b, y s x = some (s', b) → ∀ v, yl P (.atom yv) (enc x b v) [(yv, .opq (Y s).q)] (.atom (.bool b)) [.opq (Y s').q]
def yOf {σ τ β : Type} (step : σ → β → Option (LR σ τ)) : LR σ τ → β → Option (LR σ τ × Bool)
 | .next s, x => match step s x with | some (.next s') => some (.next s', true) | some (.done t) => some (.done t, false) | none => none
 | .done _, _ => none
def z9V : LR σ τ → Bool
 | .next _ => true
 | .done _ => false
variable {b : Bool}
theorem Ks {σ τ β : Type} {step : σ → β → Option (LR σ τ)} {l l' : LR σ τ} {x : β}  (h : yOf step l x = some (l', b)) : ∃ s, l = .next s ∧ step s x = some l' ∧ b = z9V l' := by
 cases l with
 | done t => cases h
 | next s =>
  simp [yOf] at h
  cases hs : step s x with
  | none => simp [hs] at h
  | some r =>
   cases r with
   | _ => simp [hs, Option.some.injEq, Prod.mk.injEq] at h; obtain ⟨rfl, rfl⟩ := h; exact ⟨s, rfl, hs, rfl⟩
variable {caps : List A}{ps : List Nat}{g : Operand}
section
variable {σ τ β : Type}
def Qp (stF : σ → St) (stD : τ → St) : LR σ τ → St
 | .next s => stF s
 | .done t => stD t
def z3q (jc : τ → Code) : LR σ τ → Option Code
 | .next _ => none
 | .done t => some (jc t)
def kO (rec : Loop) (jc : τ → Code) (l : LR σ τ) : Loop := { rec with state := if (z3q jc l).isNone then .ready else .done, pending := z3q jc l }
theorem AWP.iterG {P : Program} {n : Fr} {st : St} {Q : Exit → St → Prop} {g : Operand} {ps : List Nat} {assign body : Code} {K : Nat} {caps : List A} (live : List Nat) (stF : σ → St) (stD : τ → St) (jc : τ → Code) (enc : β → Bool → Value → List A)
  (step : σ → β → Option (LR σ τ)) (s0 : σ) (lr : LR σ τ)
  (hg : zcy st g = some (.fn K caps)) (hnd : live.Nodup) (h0 : Own.canon live st = stF s0)
  (hcan : ∀ l, (∀ t, (Qp stF stD l t).t.plain = true) ∧ ∀ t, t ∉ live → (Qp stF stD l t).t = .gone)
  (hps : ∀ p ∈ ps, p < n.size ∧ p ∉ live ∧ pinned n.pin p = false) (hlen : ∀ x b v, ps.length = (enc x b v).length)
  (hit : ∀ (L : Nat) (rec : Loop) (tv : Nat → Value), YOk P (.func (.yield L) #[] #[]) (fun l => (Wb L (kO rec jc l) tv (Qp stF stD l) (hcan l).1 0).single rfl) enc (yOf step) →
   yl P (.fn K caps) [.atom (.func (.yield L) #[] #[])] [(.func (.yield L) #[] #[], .opq (Wb L (kO rec jc (LR.next s0 : LR σ τ)) tv (Qp stF stD (.next s0)) (hcan (.next s0)).1 0))] (.tup []) [.opq (Wb L (kO rec jc lr) tv (Qp stF stD lr) (hcan lr).1 0)])
  (hround : ∀ (tv : Nat → Value) (s : σ) (x : β) (v : Value) (r : LR σ τ), step s x = some r → AWP P ⟨n.size, live.map (fun t => (t, tv t)) ++ n.pin⟩ assign (z15 (stF s) ps (enc x (z9V r) v)) (fun e st1 => e = .normal ∧ AWP P ⟨n.size, live.map (fun t => (t, tv t)) ++ n.pin⟩ body st1 (fun ex st2 => z4y ex = some (z3q jc r) ∧ Own.canon live st2 = Qp stF stD r)))
  (hend : zdF P n (Qp stF stD lr) Q (z3q jc lr)) : AWP P n (.rangeFunc g ps.toArray assign body) st Q := by
 intro rd mm df w0 S0 M S Fp a w hc hs
 obtain ⟨us, hev, hreps⟩ : ∃ us : List Value, a.eval g = .func (.func K) #[] us.toArray ∧ xM S (.fn K caps) (a.eval g) := by
  unfold zcy at hg
  split at hg
  ·rename_i t
   split at hg
   ·rename_i x ht
    cases hg
    have q := hs.ent t
    unfold yf at q
    simp [ht] at q
    have q1 : xM S (.fn K caps) (Act.tv a t) := q.1
    have ⟨cs, c1, c2⟩ := q1
    have c1' := c1
    simp [Rep] at c1
    obtain ⟨us, _, _, rfl⟩ := c1
    exact ⟨us, c2, ⟨_, c1', c2⟩⟩
   ·cases hg
  ·cases hg
 have ⟨Fp0, hs0, hd0⟩ := hs.canonD (hc.post hs) live
 rw [h0] at hs0
 refine wpIn_rangeFunc ?_
 intro fn hfn
 have ⟨df', wA, dq, en1, en2, en3⟩ := zc4 (P := P) hc hs0 hd0 fn ps.toArray assign body
 generalize (df'.map z9e).take (df'.length - df.length) = mk at en1 en2
 obtain ⟨rec, hrec⟩ : ∃ q : Loop, q = { state := .ready, pending := none, fn, tmps := a.tmps, params := ps.toArray, assign, body, defers := dq } := ⟨_, rfl⟩
 rw [← hrec] at en1
 have hs1 := en2.newObj (.loop rec)
 have hl : (wA.alloc (.loop rec)).heap[wA.heap.size]? = some (.loop rec) := World.alloc_heap_new wA _
 have hfr : ∀ t k, k ∈ Fp0 t → k < wA.heap.size := fun t k hk => (en2.free t k hk).1
 have hlF : ∀ t, wA.heap.size ∉ Fp0 t := fun t hk => by have := hfr t _ hk; omega
 have hSl : ∀ o, S wA.heap.size o = none := by
  intro o
  cases hq : S wA.heap.size o with
  | none => rfl
  | some v => have := en2.still_lt hq; omega
 have hrec0 : ∀ s, kO rec jc (LR.next s : LR σ τ) = rec := by intro s; rw [hrec]; rfl
 have hY : ∀ (l : LR σ τ) (x : β) (l' : LR σ τ) (b : Bool), yOf step l x = some (l', b) → ∀ v, yl P (.atom (.func (.yield wA.heap.size) #[] #[])) (enc x b v) [(.func (.yield wA.heap.size) #[] #[], .opq (Wb wA.heap.size (kO rec jc l) (jH a.tmps) (Qp stF stD l) (hcan l).1 0))] (.atom (.bool b))
   [.opq (Wb wA.heap.size (kO rec jc l') (jH a.tmps) (Qp stF stD l') (hcan l').1 0)] := by
  intro l x l' b hy v
  obtain ⟨s, rfl, hst, rfl⟩ := Ks hy
  have htm : (kO rec jc (LR.next s : LR σ τ)).tmps = a.tmps := by rw [hrec0, hrec]
  have hb : z9V l' = (z3q jc l').isNone := by cases l' <;> rfl
  have r := z6A (P := P) (n := ⟨n.size, live.map (fun t => (t, jH a.tmps t)) ++ n.pin⟩) (l := wA.heap.size) (rec := kO rec jc (LR.next s : LR σ τ)) (ps := ps) (ys := enc x (z9V l') v) (st0 := stF s) (st1 := Qp stF stD l') (i := 0) (i2 := 0) (live := live) (jc := z3q jc l') (hcan (.next s)).1 (hcan l').1
   (by rw [hrec0, hrec]) (by rw [hrec0, hrec]) (by rw [htm]; exact hs.size)
   (by
    intro j u hj
    rw [htm]
    rcases List.mem_append.1 hj with hj | hj
    ·have ⟨t, ht, he⟩ := List.mem_map.1 hj
     cases he
     rfl
    ·exact hs.pin j u hj)
   (fun t ht => by rw [htm]; exact List.mem_append.2 (.inl (List.mem_map.2 ⟨t, ht, rfl⟩))) hnd
   (fun p hp => by
    have ⟨p1, p2, p3⟩ := hps p hp
    refine ⟨p1, (hcan (.next s)).2 p p2, ?_⟩
    have gen : ∀ l : List Nat, p ∉ l → pinned (l.map (fun t => (t, jH a.tmps t)) ++ n.pin) p = false := by
     intro l
     induction l with
     | nil => intro _; exact p3
     | cons t l ih =>
      intro hl
      simp [List.mem_cons, not_or] at hl
      simp [List.map_cons, List.cons_append, pinned, ih hl.2, Bool.or_false]
      simpa using Ne.symm hl.1
    exact gen live p2) (hlen x _ v)
   (by
    have := hround (jH a.tmps) s x v l' hst
    rw [hrec0, hrec]
    exact this)
  have e : ({ kO rec jc (LR.next s : LR σ τ) with state := if (z3q jc l').isNone then .ready else .done, pending := z3q jc l' } : Loop) = kO rec jc l' := rfl
  rw [e] at r
  simp [htm] at r
  rw [← hb] at r
  exact r
 have hL := hit wA.heap.size rec (jH a.tmps) hY S (wA.alloc (.loop rec)) (a.eval g) [.func (.yield wA.heap.size) #[] #[]] (wA.heap.size :: live.flatMap Fp0) hs1.still hreps ⟨yc.2 ⟨rfl, rfl⟩, trivial⟩
  ⟨_, [], rfl, W9 ⟨rfl, by rw [hrec0]; exact hl, hSl, Fp0, (fun t => hs1.ent t), en2.disj, hlF, (fun k => by
   simp [List.mem_cons, List.mem_flatMap]
   constructor
   ·rintro (rfl | ⟨t, _, ht⟩)
    ·exact .inl rfl
    ·exact .inr ⟨t, ht⟩
   ·rintro (rfl | ⟨t, ht⟩)
    ·exact .inl rfl
    ·refine .inr ⟨t, ?_, ht⟩
     apply Classical.byContradiction
     intro hn
     have q := en2.ent t
     unfold yf at q
     have hg := (hcan (.next s0)).2 t hn
     simp [Qp] at hg
     simp [hg] at q
     rw [q] at ht
     simp at ht)⟩ (z2N en2 hnd hlF), rfl⟩ (z2N en2 hnd hlF)
 rcases hL with ⟨k, cs, fn', a1, a2, a3, a4, a5⟩ | ⟨L, q, a1, _⟩
 rotate_left
 ·rw [hev] at a1; cases a1
 refine ⟨wA.heap.size, mk, wA.alloc (.loop rec), { target := .fn (.func k) cs, args := #[.func (.yield wA.heap.size) #[] #[]] }, wA.alloc (.loop rec), k, #[.func (.yield wA.heap.size) #[] #[]] ++ cs, wA.alloc (.loop rec), en1, ?_, fun _ _ => trivial, ?_, fun h => (by cases h), ?_⟩
 ·simp [resolve, a1]
  simp [go_sem]
 ·simp [invoke]
  exact Xf a2 a3 a4 _ _
 ·refine (X9 a5 rd (mm - 1)).mono ?_
  rintro e w' ⟨v', rfl, S', F', G, b1, b2, b3, b4, _, b6, _, b8⟩
  have ⟨G1, G2, hGe, b6, hnil⟩ := b6
  have hG2 : G2 = [] := hnil
  subst hG2
  simp [List.nil_append] at hGe
  subst hGe
  have ⟨_, c2, c3, Fp', c4, c5, c6, c7⟩ := X4 b6
  have hnb : (kO rec jc lr).state ≠ .busy := by
   simp [kO]
   cases lr <;> simp [z3q]
  have hpend : (kO rec jc lr).pending = z3q jc lr := rfl
  refine ⟨_, _, run_endLoop c2 hnb, ?_⟩
  rw [hpend]
  have hMl : M wA.heap.size := en2.mine _ en2.below.size
  have hMn : ∀ k, ((wA.alloc (.loop rec)).heap.size ≤ k ∨ k ∈ wA.heap.size :: live.flatMap Fp0) → M k := by
   rintro k (hk | hk)
   ·exact hs1.mine k (Nat.le_trans hs1.below.size hk)
   ·rcases List.mem_cons.1 hk with rfl | hk
    ·exact hMl
    ·have ⟨t, _, ht⟩ := List.mem_flatMap.1 hk
     exact en2.base t k ht
  have hout : ∀ t k, k ∈ Fp' t → ((wA.alloc (.loop rec)).heap.size ≤ k ∨ k ∈ wA.heap.size :: live.flatMap Fp0) := fun t k hk => b8 k (List.mem_append.2 (.inl ((c7 k).2 (.inr ⟨t, hk⟩))))
  have hpf : ∀ o, Sim ⟨n, df', w0, S0, M⟩ S' Fp' [] (Qp stF stD lr) { a with defers := mk ++ a.defers } (w'.putObj wA.heap.size o) := by
   intro o
   refine { size := hs.size, pin := hs.pin, defers := en2.defers, below := ?_, mine := hs.mine, still := ?_, sinc := fun b o v q => b2 _ _ _ (en2.sinc _ _ _ q), sbase := ?_, ent := ?_, disj := c5, base := fun t k hk => hMn k (hout t k hk), xn := by simp, xd := by simp, xb := by simp }
   ·exact (hs1.below.trans (b1.mono hMn)).trans ⟨rfl, rfl, rfl, Nat.le_refl _, by simp [World.putObj], fun k hk => World.putObj_heap_other (by rintro rfl; exact hk hMl)⟩
   ·refine ⟨?_, b4.gok, b4.blk.of (fun _ _ _ q => q) fun g x e => World.putObj_heap_other (by rintro rfl; exact b4.blk.ne (c3 0) x e)⟩
    intro b i v q
    have hne : b ≠ wA.heap.size := by rintro rfl; rw [c3] at q; cases q
    have := b4 b i v q
    unfold zP at this ⊢
    rw [World.putObj_heap_other hne]
    exact this
   ·intro b i hb
    rcases Nat.lt_or_ge b (wA.alloc (.loop rec)).heap.size with hlt | hge
    ·rw [b3 b i hlt (fun hF => hb (hMn b (.inr hF)))]
     exact en2.sbase b i hb
    ·exact absurd (hMn b (.inl hge)) hb
   ·intro t
    exact (c4 t).frame ((hcan lr).1 t) (fun _ _ _ q => q) (fun k hk => ⟨World.putObj_heap_other (by rintro rfl; exact c6 t hk), ((c4 t).owns ((hcan lr).1 t) k hk).2⟩)
  have hdp : ∀ o, uX df M df' Fp' (w'.putObj wA.heap.size o) := by
   intro o
   have hlt : ∀ D ∈ df', D < wA.heap.size := fun D hD => (Array.getElem?_eq_some_iff.1 (en3.ent D hD)).1
   have hno : ∀ D ∈ df', ¬ ((wA.alloc (.loop rec)).heap.size ≤ D ∨ D ∈ wA.heap.size :: live.flatMap Fp0) := by
    rintro D hD (q | q)
    ·have := hlt D hD
     have h3 : (wA.alloc (.loop rec)).heap.size = wA.heap.size + 1 := by simp
     omega
    ·rcases List.mem_cons.1 q with rfl | q
     ·have := hlt _ hD; omega
     ·have ⟨t, _, ht⟩ := List.mem_flatMap.1 q
      exact en3.off D hD t ht
   refine ⟨en3.nodup, fun D hD => ?_, fun D hD t ht => hno D hD (hout t D ht), en3.old⟩
   rw [World.putObj_heap_other (by have := hlt D hD; omega), b1.block D (hno D hD), World.alloc_old _ (hlt D hD)]
   exact en3.ent D hD
  cases lr with
  | next s => exact ⟨df', stF s, S', Fp', hpf _, hdp _, hend⟩
  | done t => exact AWP.go hend hc (hpf _) (hdp _)
end
def WQ (live : List Nat) (l : List (Nat × T)) : Bool := l.all fun q => live.contains q.1 && q.2.plain
theorem z4i : ∀ (l : List (Nat × T)) (t : Nat), ofL l t = ⟨(ofL l t).t, 0, 0⟩
 | [], t => rfl
 | p :: l, t => by
  simp [ofL]
  split
  ·rfl
  ·exact z4i l t
theorem QG {live : List Nat} : ∀ {l : List (Nat × T)}, WQ live l = true → (∀ t, (ofL l t).t.plain = true) ∧ ∀ t, t ∉ live → (ofL l t).t = .gone
 | [], _ => ⟨fun _ => rfl, fun _ _ => rfl⟩
 | p :: l, h => by
  simp only [WQ, List.all_cons, Bool.and_eq_true] at h
  obtain ⟨h1, h2⟩ := QG (l := l) (by simpa only [WQ] using h.2)
  constructor
  ·intro t
   simp only [ofL]
   split
   ·exact h.1.2
   ·exact h1 t
  ·intro t ht
   simp only [ofL]
   split
   ·rename_i e
    subst e
    exact absurd (List.contains_iff_mem.1 h.1.1) ht
   ·exact h2 t ht
variable {l : List (Nat × T)}
theorem Jh {live : List Nat}  (h : WQ live l = true) : Own.canon live (ofL l) = ofL l := by
 have ⟨h1, h2⟩ := QG h
 funext t
 rw [qh]
 by_cases ht : t ∈ live
 ·rw [if_pos ht]
  have h3 := h1 t
  rw [z4i l t]
  unfold z5l
  cases hx : (ofL l t).t with
  | als r p er ec => rw [hx] at h3; cases h3
  | ptr r p er ec => rw [hx] at h3; cases h3
  | _ => rfl
 ·rw [if_neg ht, z4i l t, h2 t ht]
  rfl
theorem AWP.weak {Q Q' : Exit → St → Prop} (h : AWP P n c st Q') (hq : ∀ e st, Q' e st → ∃ live l m, Own.canon live st = ofL l ∧ LeL l m ∧ Q e (ofL m)) : AWP P n c st Q := by
 intro rd mm df w0 S0 M S Fp a w hc hs
 refine wpIn_mono (h rd mm df w0 S0 M S Fp a w hc hs) ?_
 rintro e a' w' ⟨df', st1, S1, Fp1, h1, h2, h3⟩
 have ⟨live, l, m, e1, e2, e3⟩ := hq _ _ h3
 have ⟨Fp2, g1, g2⟩ := Sim.canonD h1 h2 live
 rw [e1] at g1
 exact ⟨df', ofL m, S1, Fp2, e2.or.elim (fun e => e ▸ g1) fun h => g1.le h.ent, g2, e3⟩
def zcp : List (Nat × T) → List Nat → List A → List (Nat × T)
 | l, p :: ps, y :: ys => zcp ((p, .d y) :: l) ps ys
 | l, _, _ => l
theorem z2L : ∀ (ps : List Nat) (ys : List A) (l : List (Nat × T)), z15 (ofL l) ps ys = ofL (zcp l ps ys)
 | [], _, l => by cases l <;> rfl
 | _ :: _, [], l => by cases l <;> rfl
 | p :: ps, y :: ys, l => z2L ps ys ((p, .d y) :: l)
def zeO (n : Fr) (ps live : List Nat) : Bool := ps.all fun p => decide (p < n.size) && (!live.contains p && !pinned n.pin p)
section
variable {σ τ β : Type}
def zbb (stF : σ → List (Nat × T)) (stD : τ → List (Nat × T)) : LR σ τ → List (Nat × T)
 | .next s => stF s
 | .done t => stD t
def itQ (live : List Nat) (stF : σ → List (Nat × T)) (stD : τ → List (Nat × T)) (jc : τ → Code) (r : LR σ τ) (ex : Exit) (st : St) : Prop :=
 z4y ex = some (z3q jc r) ∧ ∃ l', Own.canon live st = ofL l' ∧ LeL l' (zbb stF stD r)
theorem z37 {P : Program} {n : Fr} {Q : Exit → St → Prop}  {fs : List Fm} {st0 : St}   {assign body : Code} {K : Nat} {caps : List A} (e : c = .rangeFunc g ps.toArray assign body) (live : List Nat) (stF : σ → List (Nat × T)) (stD : τ → List (Nat × T)) (jc : τ → Code) (enc : β → Bool → Value → List A)
  (step : σ → β → Option (LR σ τ)) (s0 : σ) (lr : LR σ τ) (l0 : List (Nat × T)) (hs : Own.canon live st0 = ofL l0) (hl : LeL l0 (stF s0)) (hg : zcy (ofL (stF s0)) g = some (.fn K caps)) (hnd : live.Nodup) (hp : ∀ s, WQ live (stF s) = true) (hp2 : ∀ t, WQ live (stD t) = true)
  (hps : zeO n ps live = true) (hlen : ∀ x b v, ps.length = (enc x b v).length) (hit : ∀ (L : Nat) (rec : Loop) (tv : Nat → Value) (hp : ∀ l t, (Qp (fun s => ofL (stF s)) (fun t => ofL (stD t)) l t).t.plain = true), YOk P (.func (.yield L) #[] #[]) (fun l => (Wb L (kO rec jc l) tv (Qp (fun s => ofL (stF s)) (fun t => ofL (stD t)) l) (hp l) 0).single rfl) enc (yOf step) →
   yl P (.fn K caps) [.atom (.func (.yield L) #[] #[])] [(.func (.yield L) #[] #[], .opq (Wb L (kO rec jc (LR.next s0 : LR σ τ)) tv (Qp (fun s => ofL (stF s)) (fun t => ofL (stD t)) (.next s0)) (hp (.next s0)) 0))] (.tup []) [.opq (Wb L (kO rec jc lr) tv (Qp (fun s => ofL (stF s)) (fun t => ofL (stD t)) lr) (hp lr) 0)])
  (hround : ∀ (tv : Nat → Value) (s : σ) (x : β) (v : Value) (r : LR σ τ), step s x = some r → AWP P ⟨n.size, live.map (fun t => (t, tv t)) ++ n.pin⟩ assign (ofL (zcp (stF s) ps (enc x (z9V r) v)))
   (Qf P ⟨n.size, live.map (fun t => (t, tv t)) ++ n.pin⟩ [] (fun e st1 => e = .normal ∧ AWP P ⟨n.size, live.map (fun t => (t, tv t)) ++ n.pin⟩ body st1 (Qf P ⟨n.size, live.map (fun t => (t, tv t)) ++ n.pin⟩ [] (itQ live stF stD jc r)))))
  (hend : zdF P n (ofL (zbb stF stD lr)) (Qf P n fs Q) (z3q jc lr)) : AWP P n c st0 (Qf P n fs Q) := by
 subst e
 refine AWP.canon live ?_
 rw [hs]
 refine z7C hl ?_
 have hst : ∀ l : LR σ τ, Qp (fun s => ofL (stF s)) (fun t => ofL (stD t)) l = ofL (zbb stF stD l) := by intro l; cases l <;> rfl
 have hpl : ∀ l : LR σ τ, WQ live (zbb stF stD l) = true := by
  intro l
  cases l with
  | next s => exact hp s
  | done t => exact hp2 t
 refine AWP.iterG live (fun s => ofL (stF s)) (fun t => ofL (stD t)) jc enc step s0 lr hg hnd (Jh (hp s0)) (fun l => by rw [hst]; exact QG (hpl l)) ?_ hlen (fun L rec tv hY => hit L rec tv _ hY) ?_ (by rw [hst]; exact hend)
 ·intro p hp
  have := List.all_eq_true.1 hps p hp
  simp only [Bool.and_eq_true, decide_eq_true_eq, Bool.not_eq_true'] at this
  exact ⟨this.1, fun h => by rw [List.contains_iff_mem.2 h] at this; simp at this, this.2.2⟩
 ·intro tv s x v r hr
  rw [z2L]
  refine AWP.mono (hround tv s x v r hr) ?_
  rintro e st1 ⟨h1, h2⟩
  refine ⟨h1, AWP.weak h2 ?_⟩
  rintro ex st2 ⟨hj, l', q1, q2⟩
  refine ⟨live, l', _, q1, q2, hj, ?_⟩
  rw [Jh (hpl r), hst]
theorem VV {P : Program} {n : Fr} {Q : Exit → St → Prop}  {fs : List Fm} {st0 : St}   {assign body : Code} {K : Nat} {caps : List A} (e : c = .rangeFunc g ps.toArray assign body) (live : List Nat) (stF : σ → List (Nat × T)) (stD : τ → List (Nat × T)) (jc : τ → Code) (enc : β → Bool → Value → List A) {F : ∀ {σ : Type}, (σ → β → Option (σ × Bool)) → σ → Option σ}
  (step : σ → β → Option (LR σ τ)) (s0 : σ) (lr : LR σ τ) (l0 : List (Nat × T)) (hs : Own.canon live st0 = ofL l0) (hl : LeL l0 (stF s0)) (hg : zcy (ofL (stF s0)) g = some (.fn K caps)) (hnd : live.Nodup) (hp : ∀ s, WQ live (stF s) = true) (hp2 : ∀ t, WQ live (stD t) = true)
  (hps : zeO n ps live = true) (hlen : ∀ x b v, ps.length = (enc x b v).length) (hit : z2m P (.fn K caps) enc F) (hF : F (yOf step) (.next s0) = some lr)
  (hround : ∀ (tv : Nat → Value) (s : σ) (x : β) (v : Value) (r : LR σ τ), step s x = some r → AWP P ⟨n.size, live.map (fun t => (t, tv t)) ++ n.pin⟩ assign (ofL (zcp (stF s) ps (enc x (z9V r) v)))
   (Qf P ⟨n.size, live.map (fun t => (t, tv t)) ++ n.pin⟩ [] (fun e st1 => e = .normal ∧ AWP P ⟨n.size, live.map (fun t => (t, tv t)) ++ n.pin⟩ body st1 (Qf P ⟨n.size, live.map (fun t => (t, tv t)) ++ n.pin⟩ [] (itQ live stF stD jc r)))))
  (hend : zdF P n (ofL (zbb stF stD lr)) (Qf P n fs Q) (z3q jc lr)) : AWP P n c st0 (Qf P n fs Q) :=
 z37 e live stF stD jc enc step s0 lr l0 hs hl hg hnd hp hp2 hps hlen (fun L rec tv hp hY => hit _ _ _ _ hY _ _ hF) hround hend
end
section
variable {P : Program} {tt : TT} {ctr : Ctr} {n : Fr} {Q : Exit → St → Prop}
theorem uF {J : St → Prop} : ∀ {fs : List Fm} {st : St}, unw fs = .stop (.back J) → J st → Qf P n fs Q .normal st
 | [], _, e, _ => by cases e
 | .seq z :: fs, _, e, h => by cases e
 | .blk id :: fs, _, e, h => uF (fs := fs) (by simpa only [unw] using e) h
 | .pre J :: fs, _, e, h => by
  simp [unw, Nxt.stop.injEq, z3c.back.injEq] at e
  subst e
  exact h
 | .rnd (m + 1) c :: fs, _, e, h => by cases e
 | .rnd 0 _ :: _, _, e, _ => by cases e
theorem JR {live : List Nat}   (h0 : canon live st0 = ofL l) (h : AWP P n c (ofL l) Q) : AWP P n c st0 Q := by
 refine AWP.canon live ?_
 rw [h0]
 exact h
end
variable {yv : Value}{nt : Nat}
theorem z1i {tt : TT}    {nt : Nat} {caps : List A} {yv : Value} {o o' : kB} (hT : yH P tt) (hf : P.funcs[k]? = some fn) (hnm : (fn.name == "runtime.NumGoroutine") = false) (hb : fn.body = some body)
  (hn : nt = fn.ntmps) (hr : fn.results = #[]) (ha : caps.length + 1 ≤ fn.ntmps)
  (h : ∀ E : Exit → St → Prop, (∀ ex st, (ex = .normal ∨ ex = .ret) → canon [0] st = ofL [(0, .own (.opq o'.q))] → E ex st) →
   AWP P ⟨nt, [(0, yv)]⟩ body (ofL (z0q 0 (.opq o.q :: caps))) (Qf P ⟨nt, [(0, yv)]⟩ [] E)) : yl P (.fn k caps) [.atom yv] [(yv, .opq o.q)] (.tup []) [.opq o'.q] := by
 subst hn
 refine QP (tt := tt) (rs := []) [0] (args := [.atom yv]) (caps := caps) (xs := [.opq o.q]) (vals := [yv]) hT hf hnm hb hr (by simpa using ha) (by simp) (by simp) rfl ?_
 rw [QU]
 refine h _ ?_
 intro ex st hx hc
 refine ⟨hx, ?_⟩
 have h0 := congrFun hc 0
 rw [qh] at h0
 simp only [List.mem_singleton, if_true, ofL, Ent.mk.injEq, and_true] at h0
 have h1 : (st 0).t = .own (.opq o'.q) := by
  unfold z5l at h0
  cases hx : (st 0).t with
  | own a => simpa only [hx] using h0
  | d a => simp only [hx] at h0; cases h0
  | gone => simp only [hx] at h0; cases h0
  | _ => simp only [hx] at h0; split at h0 <;> cases h0
 have h2 : Uk [0] st = some ([.opq o'.q], [0], []) := by
  simp only [Uk]
  show SM.bind (rdE 0) _ st = _
  unfold SM.bind
  simp only [rdE, zb, h1]
  rfl
 refine ⟨[0], [], ?_⟩
 simp only [zc5, List.map_nil]
 show SM.bind (shutArgs tt []) _ st = _
 unfold SM.bind
 simp only [shutArgs]
 simp only [pure, SM.pure, bind, SM.bind, zb, h2]
 rfl
theorem QQ {nt : Nat} {caps : List A}  {enc : β → Bool → Value → List A} {F : ∀ {σ : Type}, (σ → β → Option (σ × Bool)) → σ → Option σ} (hT : yH P tt) (hf : P.funcs[k]? = some fn) (hnm : (fn.name == "runtime.NumGoroutine") = false) (hb : fn.body = some body)
  (hn : nt = fn.ntmps) (hr : fn.results = #[]) (ha : caps.length + 1 ≤ fn.ntmps)
  (h : ∀ (σ : Type) (yv : Value) (Y : σ → kB) (y : σ → β → Option (σ × Bool)), YOk P yv Y enc y → ∀ s s', F y s = some s' → ∀ E : Exit → St → Prop, (∀ ex st, (ex = .normal ∨ ex = .ret) → canon [0] st = ofL [(0, .own (.opq (Y s').q))] → E ex st) →
   AWP P ⟨nt, [(0, yv)]⟩ body (ofL (z0q 0 (.opq (Y s).q :: caps))) (Qf P ⟨nt, [(0, yv)]⟩ [] E)) : z2m P (.fn k caps) enc F := fun σ yv Y y hy s s' hs => z1i hT hf hnm hb hn hr ha (h σ yv Y y hy s s' hs)
def z6E (tt : TT) (n : Fr) (ty : Nat) (x : T) : HM A :=
 match x with
 | .als r p er ec =>
  match ZW n.pin r with
  | some _ => zH (refT tt n ty (.als r p er ec))
  | none => JW tt ty (.als r p er ec)
 | x => JW tt ty x
theorem zbk (tt : TT) (n : Fr) (ty : Nat) (x : T) : Snd (refT tt n ty x) (z6E tt n ty x) := by
 cases x with
 | als r p er ec =>
  cases hp : ZW n.pin r with
  | some v => simp [z6E, hp]; exact ze _
  | none => simp [z6E, refT, hp]; exact YQ tt ty (.als r p er ec)
 | d a => exact YQ tt ty (.d a)
 | own a => exact YQ tt ty (.own a)
 | ptr r p er ec => exact YQ tt ty (.ptr r p er ec)
 | gone => exact YQ tt ty .gone
def wG (tt : TT) (n : Fr) : List (Operand × Nat) → HM (List A)
 | [] => pure []
 | (x, t) :: as_ => zH (opnd x) >>= fun y => z6E tt n t y >>= fun a => wG tt n as_ >>= fun bs => pure (a :: bs)
theorem wh (tt : TT) (n : Fr) : ∀ as_, Snd (refArgs tt n as_) (wG tt n as_)
 | [] => yV _
 | (x, t) :: as_ => z8 (ze _) fun y => z8 (zbk _ _ _ _) fun a => z8 (wh tt n as_) fun bs => yV _
open Classical in
def z8E (yv : Value) {σ β : Type} (Y : σ → kB) (enc : β → Bool → Value → List A) (s : σ) (x : β) (s' : σ) (b : Bool) (v : Value) (f : A) (xs : List A) (ls : List (Value × A)) : Option (A × List A) :=
 if f = .atom yv ∧ ls = [(yv, .opq (Y s).q)] ∧ (∀ S vs, uH (xM S) xs vs → uH (xM S) (enc x b v) vs) then some (.atom (.bool b), [.opq (Y s').q]) else none
theorem z8D {σ β : Type} {Y : σ → kB} {enc : β → Bool → Value → List A} {y : σ → β → Option (σ × Bool)} (hy : YOk P yv Y enc y) {s : σ} {x : β} {s' : σ}  (v : Value) (h : y s x = some (s', b)) :
  ∀ f xs ls r ys, z8E yv Y enc s x s' b v f xs ls = some (r, ys) → yl P f xs ls r ys := by
 intro f xs ls r ys e
 unfold z8E at e
 split at e
 ·rename_i hc
  obtain ⟨rfl, rfl, h3⟩ := hc
  cases e
  intro S w fv vs F hS hfv hvs
  exact hy s x s' b h v S w fv vs F hS hfv (h3 S vs hvs)
 ·cases e
theorem Qo {σ β : Type} {Y : σ → kB} {enc : β → Bool → Value → List A} {s : σ} {x : β} {s' : σ}   (xs : List A) (h : Yy xs (enc x b v)) : z8E yv Y enc s x s' b v (.atom yv) xs [(yv, .opq (Y s).q)] = some (.atom (.bool b), [.opq (Y s').q]) := by
 unfold z8E
 rw [if_pos ⟨rfl, rfl, h.all⟩]
def z2O (tt : TT) (tab : A → List A → List (Value × A) → Option (A × List A)) (r : A) (ys : List A) (n : Fr) (dst : Option Nat) (f : Operand) (as_ : List (Operand × Nat)) (L : List Nat) : HM Unit :=
 wG tt n [(f, 0)] >>= fun fs => wG tt n as_ >>= fun xs => zH (lentsA n L) >>= fun ls =>
  match fs with
  | [fa] => z9a (tab fa xs ls = some (r, ys)) >>= fun _ => zH (backsA L ys >>= fun _ => wrT n dst (mkT r))
  | _ => zz
theorem z3P (tt : TT) (tab : A → List A → List (Value × A) → Option (A × List A)) (r : A) (ys : List A) (n : Fr) (dst : Option Nat) (f : Operand) (as_ : List (Operand × Nat)) (L : List Nat) : Snd (lentQ tt tab n dst f as_ L) (z2O tt tab r ys n dst f as_ L) := by
 unfold lentQ z2O
 refine z8 (wh _ _ _) fun fs => z8 (wh _ _ _) fun xs => z8 (ze _) fun ls => ?_
 rcases fs with _ | ⟨fa, _ | ⟨z, l⟩⟩
 ·exact zl _
 ·refine Vw fun h => ?_
  simp [h]
  exact ze _
 ·exact zl _
def YA (tt : TT)  {σ β : Type} {Y : σ → kB} {enc : β → Bool → Value → List A} {y : σ → β → Option (σ × Bool)} (hy : YOk P yv Y enc y) (d : Nat) {s : σ} {x : β} {s' : σ}  (v : Value) (h : y s x = some (s', b)) : XH P := {
 e := ZI tt (z8E yv Y enc s x s' b v) d [0]
 h := fun n o => match o.op with
  | .call ⟨.value f, args, tys⟩ => if o.dst = some d ∧ args.size = tys.size then some (z2O tt (z8E yv Y enc s x s' b v) (.atom (.bool b)) [.opq (Y s').q] n o.dst f (args.toList.zip tys.toList) [0]) else none
  | _ => none
 ok := Kg (z8D hy v h) d [0]
 none := by
  intro n o e
  unfold ZI at e
  split at e
  ·rename_i ho
   split at e
   ·cases e
   ·rename_i hd; simp [ho, if_neg hd]
  ·rename_i hne
   split
   ·rename_i ho2; exact absurd ho2 (by intro h; exact hne _ _ _ h)
   ·rfl
 some := by
  intro n o m e
  unfold ZI at e
  split at e
  ·rename_i ho
   split at e
   ·rename_i hd; cases e
    refine ⟨_, ?_, z3P tt (z8E yv Y enc s x s' b v) (.atom (.bool b)) [.opq (Y s').q] n o.dst _ _ [0]⟩
    rw [ho]
    exact if_pos hd
   ·cases e
  ·cases e }
variable {M : Nat → Prop}{df : List Nat}{w0 : World}
theorem Sim.pinned {S0 : zf}        (h : Sim ⟨n, df, w0, S0, M⟩ S Fp X st a w) (k : Nat) : Sim ⟨⟨n.size, (k, Act.tv a k) :: n.pin⟩, df, w0, S0, M⟩ S Fp X st a w := {
 size := h.size
 pin := fun j u hj => by
  rcases List.mem_cons.1 hj with e | hj
  ·cases e; rfl
  ·exact h.pin j u hj
 defers := h.defers
 below := h.below
 mine := h.mine
 still := h.still
 sinc := h.sinc
 sbase := h.sbase
 ent := h.ent
 disj := h.disj
 base := h.base
 xn := h.xn
 xd := h.xd
 xb := h.xb }
theorem Sim.unpinned {S0 : zf}        (h : Sim ⟨⟨n.size, (k, v) :: n.pin⟩, df, w0, S0, M⟩ S Fp X st a w) : Sim ⟨n, df, w0, S0, M⟩ S Fp X st a w := {
 size := h.size
 pin := fun j u hj => h.pin j u (List.mem_cons_of_mem _ hj)
 defers := h.defers
 below := h.below
 mine := h.mine
 still := h.still
 sinc := h.sinc
 sbase := h.sbase
 ent := h.ent
 disj := h.disj
 base := h.base
 xn := h.xn
 xd := h.xd
 xb := h.xb }
theorem AWP.pin (k : Nat) (h : ∀ v, AWP P ⟨n.size, (k, v) :: n.pin⟩ c st Q) : AWP P n c st Q := by
 intro rd m df w0 S0 M S Fp a w hc hs
 refine wpIn_mono (h (Act.tv a k) rd m df w0 S0 M S Fp a w ⟨hc.nodup, hc.df, hc.rd⟩ (hs.pinned k)) ?_
 rintro e a' w' ⟨df', st1, S1, Fp1, h1, h2, h3⟩
 exact ⟨df', st1, S1, Fp1, h1.unpinned, h2, h3⟩
theorem z1z (e : fs = []) (k : Nat) (h : ∀ v, AWP P ⟨n.size, (k, v) :: n.pin⟩ c st (Qf P ⟨n.size, (k, v) :: n.pin⟩ [] Q)) : AWP P n c st (Qf P n fs Q) := by
 subst e
 exact AWP.pin k h
def zeT (tt : TT) (n : Fr) (dst : Option Nat) (f : Nat) (caps : List Operand) : HM Unit :=
 wG tt n (caps.map fun x => (x, 0)) >>= fun xs => if xs.all VD = true then zH (wrT n dst (.d (.fn f xs))) else zz
theorem zd7 (tt : TT) (n : Fr) (dst : Option Nat) (f : Nat) (caps : List Operand) : Snd (mkQ tt n dst f caps) (zeT tt n dst f caps) :=
 z8 (wh _ _ _) fun xs => xT (ze _) (zl _)
def xMk (P : Program) (tt : TT) : XH P := {
 e := z3u tt
 h := fun n o => match o.op with
  | .makeFunc (.func f) ⟨[]⟩ caps => some (zeT tt n o.dst f caps.toList)
  | _ => none
 ok := z75 P tt
 none := by
  intro n o e
  unfold z3u at e
  split at e
  ·cases e
  ·rename_i hne
   split
   ·rename_i ho2; exact absurd ho2 (by intro h; exact hne _ _ h)
   ·rfl
 some := by
  intro n o m e
  unfold z3u at e
  split at e
  ·rename_i ho; cases e
   refine ⟨_, ?_, zd7 tt n o.dst _ _⟩
   rw [ho]
  ·cases e }
open Classical in
def z8G (f : A) (xs : List A) (ls : List (Value × A)) (r : A) (ys : List A) (f' : A) (xs' : List A) (ls' : List (Value × A)) : Option (A × List A) :=
 if f' = f ∧ ls' = ls ∧ (∀ S vs, uH (xM S) xs' vs → uH (xM S) xs vs) then some (r, ys) else none
variable {ls : List (Value × A)}{ys : List A}{f : A}
theorem z8F (h : yl P f xs ls r ys) : ∀ f' xs' ls' r' ys', z8G f xs ls r ys f' xs' ls' = some (r', ys') → yl P f' xs' ls' r' ys' := by
 intro f' xs' ls' r' ys' e
 unfold z8G at e
 split at e
 ·rename_i hc
  obtain ⟨rfl, rfl, h3⟩ := hc
  cases e
  intro S w fv vs F hS hfv hvs
  exact h S w fv vs F hS hfv (h3 S vs hvs)
 ·cases e
theorem Zp (xs' : List A) (h : Yy xs' xs) : z8G f xs ls r ys f xs' ls = some (r, ys) := by
 unfold z8G
 rw [if_pos ⟨rfl, rfl, h.all⟩]
def Jt (tt : TT) (L : List Nat)      (h : yl P f xs ls r ys) (dd : Nat) : XH P := {
 e := ZI tt (z8G f xs ls r ys) dd L
 h := fun n o => match o.op with
  | .call ⟨.value g, args, tys⟩ => if o.dst = some dd ∧ args.size = tys.size then some (z2O tt (z8G f xs ls r ys) r ys n o.dst g (args.toList.zip tys.toList) L) else none
  | _ => none
 ok := Kg (z8F h) dd L
 none := by
  intro n o e
  unfold ZI at e
  split at e
  ·rename_i ho
   split at e
   ·cases e
   ·rename_i hd; simp [ho, if_neg hd]
  ·rename_i hne
   split
   ·rename_i ho2; exact absurd ho2 (by intro h; exact hne _ _ _ h)
   ·rfl
 some := by
  intro n o m e
  unfold ZI at e
  split at e
  ·rename_i ho
   split at e
   ·rename_i hd; cases e
    refine ⟨_, ?_, z3P tt (z8G f xs ls r ys) r ys n o.dst _ _ L⟩
    rw [ho]
    exact if_pos hd
   ·cases e
  ·cases e }
theorem QK {st : St} : ∀ {is : List Nat} {ys : List A}, is.length = ys.length → (∀ p ∈ is.zip ys, (st p.1).t = .own p.2) → Uk is st = some (ys, is, [])
 | [], [], _, _ => rfl
 | i :: is, y :: ys, hl, h => by
  have h1 : (st i).t = .own y := h (i, y) (by simp)
  have h2 := QK (st := st) (is := is) (ys := ys) (by simpa using hl) (fun p hp => h p (by simp [hp]))
  simp only [Uk]
  show SM.bind (rdE i) _ st = _
  unfold SM.bind
  simp only [rdE, zb, h1, bind, SM.bind, h2, pure, SM.pure]
  simp
 | [], _ :: _, hl, _ => by simp at hl
 | _ :: _, [], hl, _ => by simp at hl
theorem z7h {live : List Nat}    (h : z5l live st k = .own y) : (st k).t = .own y := by
 unfold z5l at h
 cases hx : (st k).t with
 | own a => simpa only [hx] using h
 | d a => simp only [hx] at h; cases h
 | gone => simp only [hx] at h; cases h
 | _ => simp only [hx] at h; split at h <;> cases h
theorem z0b {tt : TT}    {nt : Nat} (is : List Nat) {args caps xs : List A} {vals : List Value} {ys : List A} (hT : yH P tt) (hf : P.funcs[k]? = some fn) (hnm : (fn.name == "runtime.NumGoroutine") = false) (hb : fn.body = some body)
  (hn : nt = fn.ntmps) (hr : fn.results = #[]) (ha : (args ++ caps).length ≤ fn.ntmps) (hnd : is.Nodup) (hbase : is.map (fun i => (args ++ caps)[i]?) = vals.map (fun v => some (.atom v))) (hl : xs.length = vals.length)
  (h : ∀ E : Exit → St → Prop, (∀ ex st, (ex = .normal ∨ ex = .ret) → (∀ p ∈ is.zip ys, (st p.1).t = .own p.2) → E ex st) →
   AWP P ⟨nt, is.zip vals⟩ body (ofL (z0q 0 (ZU (args ++ caps) is xs))) (Qf P ⟨nt, is.zip vals⟩ [] E)) (hy : is.length = ys.length) : yl P (.fn k caps) args (vals.zip xs) (.tup []) ys := by
 subst hn
 refine QP (tt := tt) (rs := []) is hT hf hnm hb hr ha hnd hbase hl ?_
 rw [QU]
 refine h _ ?_
 intro ex st hx hc
 refine ⟨hx, is, [], ?_⟩
 have h2 := QK hy hc
 simp [zc5, List.map_nil]
 show SM.bind (shutArgs tt []) _ st = _
 unfold SM.bind
 simp [shutArgs]
 simp [pure, SM.pure, bind, SM.bind, zb, h2]
 show (match (match (SM.pure (A.tup [], ys) : SM (A × List A)) st with | none => none | some (b, R', U') => some (b, is ++ R', [] ++ U')) with | none => none | some (b, R', U') => some (b, [] ++ R', [] ++ U')) = _
 simp [SM.pure]
theorem z7U {live : List Nat}   (hc : canon live st = ofL l)   (hk : live.contains k = true) (hy : (ofL l k).t = .own y) : (st k).t = .own y := by
 have := congrFun hc k
 rw [qh, if_pos (List.contains_iff_mem.1 hk)] at this
 rw [← this] at hy
 exact z7h hy
def z89 (live : List Nat) (l : List (Nat × T)) : List Nat → List A → Prop
 | i :: is, y :: ys => (live.contains i = true ∧ (ofL l i).t = .own y) ∧ z89 live l is ys
 | _, _ => True
theorem ui {live : List Nat}   (hc : canon live st = ofL l) : ∀ {is : List Nat} {ys : List A}, z89 live l is ys → ∀ p ∈ is.zip ys, (st p.1).t = .own p.2
 | [], _, _, p, hp => by simp at hp
 | _ :: _, [], _, p, hp => by simp at hp
 | i :: is, y :: ys, h, p, hp => by
  rcases List.mem_cons.1 hp with rfl | hp
  ·exact z7U hc h.1.1 h.1.2
  ·exact ui hc h.2 p hp
theorem z9E {c x y : Code}    (e : c = .seq x y) (E : St → Prop) (h : AWP P n x st (Qf P n [] (fun e st1 => e = .normal ∧ E st1))) (h2 : ∀ st1, E st1 → AWP P n y st1 (Qf P n fs Q)) : AWP P n c st (Qf P n fs Q) := by
 subst e
 refine AWP.seq (AWP.mono h ?_)
 rintro e st1 ⟨rfl, q⟩
 exact h2 st1 q
theorem z1y {c x y : Code}    (e : c = .seq x y) (k : Nat) (E : St → Prop) (h : ∀ v, AWP P ⟨n.size, (k, v) :: n.pin⟩ x st (Qf P ⟨n.size, (k, v) :: n.pin⟩ [] (fun e st1 => e = .normal ∧ E st1))) (h2 : ∀ st1, E st1 → AWP P n y st1 (Qf P n fs Q)) : AWP P n c st (Qf P n fs Q) :=
 z9E e E (AWP.pin k fun v => h v) h2
theorem yrE {σ : Type} {y : Option (σ × Bool)} {r : σ × Bool}  (h : y = some r) (c : r.2 = b) : y = some (r.1, b) := by
 subst c; exact h
variable {s : Nat}
section
variable {C : Ctx} {S : zf} {Fp : Nat → List Nat} {st : St} {a : Act} {w : World}
open Classical in
def mvQ (n : Fr) (dst : Option Nat) (s : Nat) (v : Value) : SM Unit := if ZW n.pin s = some v then wrT n dst (.d (.atom v)) else zm
open Classical in
theorem Loc.mvQ (n : Fr) (dst : Option Nat) (s : Nat) (v : Value) : Loc (mvQ n dst s v) := by
 unfold Go.Own.mvQ
 exact Loc.ite (Loc.wrT _ _ _) Loc.fail
def zeS (n : Fr) (dst : Option Nat) (s : Nat) (v : Value) : HM Unit := wy (ZW n.pin s = some v) (zH (wrT n dst (.d (.atom v))))
open Classical in
theorem zfR (n : Fr) (dst : Option Nat) (s : Nat) (v : Value) : Snd (mvQ n dst s v) (zeS n dst s v) := ym (ze _)
theorem zbM (h : Sim C S Fp [] st a w)   {v : Value} (hv : v.oneCell' = true) (ho : o.op = .move (.tmp s))    (e : mvQ C.n o.dst s v st = some (u, R, U)) : xz P C o a w (zb U st) := by
 unfold mvQ at e
 split at e
 ·rename_i hp
  have hs := h.pin s v (xu hp)
  have ⟨Fp', hs'⟩ := yk h e (x := .d (.atom v)) (v := v) (zj.2 ⟨rfl, hv⟩)
  refine zi ?_ hs'
  have ev : a.eval (.tmp s) = v := hs
  simp [execOp, ho, ev]
 ·cases e
def xMv (P : Program) (d s : Nat) (v : Value) (hv : v.oneCell' = true) : XH P := {
 e := fun n o => match o.op with | .move (.tmp t) => if o.dst = some d ∧ t = s then some (mvQ n o.dst s v) else none | _ => none
 h := fun n o => match o.op with | .move (.tmp t) => if o.dst = some d ∧ t = s then some (zeS n o.dst s v) else none | _ => none
 ok := by
  refine ⟨?_, ?_⟩
  ·intro C S Fp st a w o m u R U e h h2
   dsimp only at e
   split at e
   ·rename_i t ho
    split at e
    ·rename_i hd
     obtain ⟨_, rfl⟩ := hd
     cases e; exact zbM h hv ho h2
    ·cases e
   ·cases e
  ·intro n o m e
   dsimp only at e
   split at e
   ·split at e
    ·cases e
     exact fun st st' a R U => Loc.mvQ _ _ _ _ st st' a R U
    ·cases e
   ·cases e
 none := by
  intro n o e
  skip
  split at e
  ·split at e
   ·cases e
   ·rename_i hd; rw [if_neg hd]
  ·rfl
 some := by
  intro n o m e
  skip
  split at e
  ·split at e
   ·rename_i hd; cases e; exact ⟨_, by rw [if_pos hd], zfR _ _ _ _⟩
   ·cases e
  ·cases e }
end
theorem Jk (e : fs = []) (k : Nat)  (hk : (st k).t = .own y) (ho : z17 y = true) (h : ∀ v, v.oneCell' = true → AWP P ⟨n.size, (k, v) :: n.pin⟩ c st (Qf P ⟨n.size, (k, v) :: n.pin⟩ [] Q)) : AWP P n c st (Qf P n fs Q) := by
 subst e
 intro rd m df w0 S0 M S Fp a w hc hs
 have hone : (Act.tv a k).oneCell' = true := by
  have q := hs.ent k
  unfold yf at q
  simp [hk] at q
  have ⟨cs, c1, _, hv⟩ := q
  have hcs := jN ho c1
  rw [hv]
  exact c1.one1 (Xk ho) _ (by have q := List.mem_singleton_self (zJ y cs); rwa [← hcs] at q)
 refine wpIn_mono (h (Act.tv a k) hone rd m df w0 S0 M S Fp a w ⟨hc.nodup, hc.df, hc.rd⟩ (hs.pinned k)) ?_
 rintro e a' w' ⟨df', st1, S1, Fp1, h1, h2, h3⟩
 exact ⟨df', st1, S1, Fp1, h1.unpinned, h2, h3⟩
def shrO (n : Fr) (dst : Option Nat) (x y : Operand) : SM Unit := do
 let tx ← opnd x
 let vx ← val tx
 let ty ← opnd y
 let vy ← val ty
 match vx, vy with
 | .atom (.int k p), .atom (.int _ q) => if 0 ≤ q then wrT n dst (.d (.atom (.int k (p.fdiv (2 ^ (min q.toNat k.bits)))))) else zm
 | _, _ => zm
def zeD (n : Fr) (dst : Option Nat) (x y : Operand) : HM Unit := zH (opnd x) >>= fun tx => Yx tx >>= fun vx => zH (opnd y) >>= fun ty => Yx ty >>= fun vy =>
 zH (match vx, vy with
 | .atom (.int k p), .atom (.int _ q) => if 0 ≤ q then wrT n dst (.d (.atom (.int k (p.fdiv (2 ^ (min q.toNat k.bits)))))) else zm
 | _, _ => zm)
theorem zcX (n : Fr) (dst : Option Nat) (x y : Operand) : Snd (shrO n dst x y) (zeD n dst x y) :=
 z8 (ze _) fun _ => z8 (wx _) fun _ => z8 (ze _) fun _ => z8 (wx _) fun _ => ze _
theorem Loc.shrO (n : Fr) (dst : Option Nat) (x y : Operand) : Loc (shrO n dst x y) := by
 unfold Go.Own.shrO
 refine Loc.bind (Loc.opnd _) fun _ => Loc.bind (Loc.val _) fun _ => Loc.bind (Loc.opnd _) fun _ => Loc.bind (Loc.val _) fun _ => ?_
 split
 ·exact Loc.ite (Loc.wrT _ _ _) Loc.fail
 ·exact Loc.fail
section
variable {C : Ctx} {S : zf} {Fp : Nat → List Nat} {st : St} {a : Act} {w : World}
theorem zbf (h : Sim C S Fp [] st a w)  {xt yt : Nat} {x y : Operand} (ho : o.op = .binOp .shr xt x y yt)    (e0 : shrO C.n o.dst x y st = some (u, R, U)) : xz P C o a w (zb U st) := by
 unfold shrO at e0
 have ⟨tx, _, hx, e1⟩ := bR (zr h) e0
 have ⟨vx, _, qx, e2⟩ := bR (xe h hx) e1
 have ⟨ty, _, hy, e3⟩ := bR (zr h) e2
 have ⟨vy, _, qy, e4⟩ := bR (xe h hy) e3
 split at e4
 ·rename_i k p k' q
  split at e4
  ·rename_i hq
   have ⟨ex, _⟩ := zj.1 qx
   have ⟨ey, _⟩ := zj.1 qy
   have ⟨Fp', hs⟩ := yk h e4 (x := .d _) (zj.2 ⟨rfl, rfl⟩)
   refine zi ?_ hs
   have hn : ¬ q < 0 := by omega
   simp [execOp, ho, ex, ey, eqGuard, Go.binOp, Op.shift, hn]
  ·cases e4
 ·cases e4
end
def zea (P : Program) : XH P := {
 e := fun n o => match o.op with | .binOp .shr _ x y _ => some (shrO n o.dst x y) | _ => none
 h := fun n o => match o.op with | .binOp .shr _ x y _ => some (zeD n o.dst x y) | _ => none
 ok := by
  refine ⟨?_, ?_⟩
  ·intro C S Fp st a w o m u R U e0 h h2
   dsimp only at e0
   split at e0
   ·rename_i ho; cases e0; exact zbf h ho h2
   ·cases e0
  ·intro n o m e0
   dsimp only at e0
   split at e0
   ·cases e0
    exact fun st st' a R U => Loc.shrO _ _ _ _ st st' a R U
   ·cases e0
 none := by
  intro n o e0
  skip
  split at e0
  ·cases e0
  ·rfl
 some := by
  intro n o m e0
  skip
  split at e0
  ·cases e0; exact ⟨_, rfl, zcX _ _ _ _⟩
  ·cases e0 }
open Classical
def ko (S : zf) (h : Array Obj) : List (Option A) → List Value → List Nat → Prop
 | [], [], F => F = []
 | none :: ys, _ :: vs, F => ko S h ys vs F
 | some y :: ys, v :: vs, F => ∃ F1 F2, F = F2 ++ F1 ∧ Has S h y v F1 ∧ ko S h ys vs F2
 | _, _, _ => False
theorem ko.frame {S S' : zf} {h h' : Array Obj} (hS : ∀ b o u, S b o = some u → S' b o = some u) : ∀ {ys : List (Option A)} {vs : List Value} {F : List Nat}, ko S h ys vs F → (∀ k ∈ F, h'[k]? = h[k]? ∧ ∀ o, S' k o = none) → ko S' h' ys vs F
 | [], [], _, q, _ => q
 | none :: ys, _ :: vs, F, q, hF => ko.frame (ys := ys) (vs := vs) (F := F) hS q hF
 | some _ :: _, _ :: _, _, ⟨F1, F2, e, q1, q2⟩, hF => ⟨F1, F2, e, q1.frame hS (fun k hk => hF k (by rw [e]; simp [hk])), ko.frame hS q2 (fun k hk => hF k (by rw [e]; simp [hk]))⟩
 | [], _ :: _, _, q, _ => q.elim
 | none :: _, [], _, q, _ => q.elim
 | some _ :: _, [], _, q, _ => q.elim
theorem ko.own : ∀ {ys : List (Option A)} {vs : List Value} {F : List Nat}, ko S h ys vs F → ∀ k ∈ F, k < h.size ∧ ∀ o, S k o = none
 | [], [], F, q, k, hk => by
  have e : F = [] := q
  subst e; simp at hk
 | none :: ys, _ :: vs, F, q, k, hk => ko.own (ys := ys) (vs := vs) (F := F) q k hk
 | some _ :: _, _ :: _, F, ⟨F1, F2, e, q1, q2⟩, k, hk => by
  subst e
  rcases List.mem_append.1 hk with hk | hk
  ·exact ko.own q2 k hk
  ·exact q1.own k hk
 | [], _ :: _, _, q, _, _ => q.elim
 | none :: _, [], _, q, _, _ => q.elim
 | some _ :: _, [], _, q, _, _ => q.elim
theorem ko.of : ∀ {ys : List A} {vs : List Value} {F : List Nat}, qj S h ys vs F → ko S h (ys.map some) vs F
 | [], [], _, q => q
 | _ :: _, _ :: _, _, ⟨F1, F2, e, q1, q2⟩ => ⟨F1, F2, e, q1, ko.of q2⟩
 | [], _ :: _, _, q => q.elim
 | _ :: _, [], _, q => q.elim
theorem ko.at : ∀ {ys : List (Option A)} {vs : List Value} {F : List Nat} {i : Nat} {y : A}, ko S h ys vs F → ys[i]? = some (some y) →
  ∃ v F1 F2, vs[i]? = some v ∧ Has S h y v F1 ∧ ko S h (ys.set i none) vs F2 ∧ (∀ k, k ∈ F ↔ k ∈ F1 ∨ k ∈ F2) ∧ (F.Nodup → F1.Nodup ∧ F2.Nodup ∧ ∀ k ∈ F1, k ∉ F2)
 | [], [], _, _, _, _, e => by simp at e
 | none :: ys, v :: vs, F, 0, y, q, e => by simp at e
 | none :: ys, v :: vs, F, i + 1, y, q, e => by
  obtain ⟨u, F1, F2, h1, h2, h3, h4, h5⟩ := ko.at (ys := ys) (vs := vs) (F := F) q (by simpa using e)
  exact ⟨u, F1, F2, by simpa using h1, h2, h3, h4, h5⟩
 | some z :: ys, v :: vs, F, 0, y, ⟨F1, F2, e1, q1, q2⟩, e => by
  simp [Option.some.injEq] at e
  subst e e1
  refine ⟨v, F1, F2, rfl, q1, q2, fun k => by rw [List.mem_append]; exact or_comm, fun hn => ?_⟩
  rw [List.nodup_append] at hn
  exact ⟨hn.2.1, hn.1, fun k hk hk' => hn.2.2 k hk' k hk rfl⟩
 | some z :: ys, v :: vs, F, i + 1, y, ⟨F1, F2, e1, q1, q2⟩, e => by
  obtain ⟨u, G1, G2, h1, h2, h3, h4, h5⟩ := ko.at q2 (by simpa using e)
  subst e1
  refine ⟨u, G1, G2 ++ F1, by simpa using h1, h2, ⟨F1, G2, rfl, q1, h3⟩, fun k => by simp [List.mem_append, h4 k, or_assoc], fun hn => ?_⟩
  rw [List.nodup_append] at hn
  obtain ⟨n1, n2, n3⟩ := h5 hn.1
  refine ⟨n1, ?_, ?_⟩
  ·rw [List.nodup_append]
   exact ⟨n2, hn.2.1, fun k hk k' hk' => hn.2.2 k ((h4 k).2 (.inr hk)) k' hk'⟩
  ·intro k hk hk'
   rcases List.mem_append.1 hk' with hk' | hk'
   ·exact n3 k hk hk'
   ·exact hn.2.2 k ((h4 k).2 (.inl hk)) k hk' rfl
 | [], _ :: _, _, _, _, q, _ => q.elim
 | none :: _, [], _, _, _, q, _ => q.elim
 | some _ :: _, [], _, _, _, q, _ => q.elim
def z2o (xs : List (Option A)) : Opq := {
 holds := fun S h v F => ∃ vs : List Value, v = .tuple vs.toArray ∧ ko S h xs vs F
 multi := true
 one := fun ⟨vs, e, _⟩ => .inr ⟨rfl, _, e⟩
 frame := fun hS hF ⟨vs, e, q⟩ => ⟨vs, e, q.frame hS hF⟩
 own := fun ⟨_, _, q⟩ => q.own
 idx := 0 }
def z4j : A → Bool
 | .tup _ => false
 | _ => true
section
variable {P : Program} {C : Ctx} {S : zf} {Fp : Nat → List Nat} {X : List Nat} {st : St} {a : Act} {w : World}
def z72 (n : Fr) (dst : Option Nat) (xs : List (Option A)) (r : Nat) (e : Ent) (i : Nat) : SM Unit :=
 match xs[i]? with
 | some (some y) =>
  if y.isD = true then wrT n dst (.d y)
  else if z4j y = true then do
   wrE r ⟨.own (.opq (z2o (xs.set i none))), e.er, e.ec + 1⟩
   wrT n dst (.own y)
  else zm
 | _ => zm
def z74 (n : Fr) (dst : Option Nat) (xs : List (Option A)) (x : Operand) (i : Nat) : SM Unit := do
 let tx ← opnd x
 match tx with
 | .als r [] er ec => do
  let e ← rdE r
  if e.t = .own (.opq (z2o xs)) ∧ e.er = er then z72 n dst xs r e i
  else zm
 | _ => zm
theorem z73 (h : Sim C S Fp [] st a w)  {xs : List (Option A)} {x : Operand} {i : Nat} (ho : o.op = .extract x i)    (e : z74 C.n o.dst xs x i st = some (u, R, U)) : xz P C o a w (zb U st) := by
 unfold z74 at e
 have ⟨tx, _, hx, e1⟩ := bR (zr h) e
 split at e1
 ·rename_i r er ec
  have ⟨_, e2⟩ := bD e1
  split at e2
  ·rename_i hc
   have ⟨c1, c2⟩ := hc
   have hr := h.ent r
   unfold yf at hr
   simp only [c1] at hr
   have ⟨cs, k1, k2, k3⟩ := hr
   simp only [zw] at k1
   obtain ⟨v0, rfl, vs, rfl, g1⟩ := k1
   have hev : a.eval x = .tuple vs.toArray := by
    have := hx.2.2
    simp only [c1] at this
    rcases this c2 (.inl trivial) with ⟨_, q⟩ | ⟨q, _⟩
    ·rw [q, k3]; rfl
    ·simp [Xw] at q
   unfold z72 at e2
   cases hy0 : xs[i]? with
   | none => simp only [hy0] at e2; cases e2
   | some yo =>
   cases yo with
   | none => simp only [hy0] at e2; cases e2
   | some y =>
    simp only [hy0] at e2
    have hy : xs[i]? = some (some y) := hy0
    have ⟨v, F1, F2, m1, m2, m3, m4, m5⟩ := g1.at hy
    have ⟨n1, n2, n3⟩ := m5 k2
    have run : (execOp a.eval o).run P w = .ok (.value v) w := by simp [execOp, ho, hev, Instr.extract, m1]
    split at e2
    ·rename_i hd
     have ⟨q1, _⟩ := UT hd m2
     have ⟨Fp', hs⟩ := yk h e2 (x := .d y) q1.repV
     exact zi run hs
    ·split at e2
     ·rename_i hnt
      obtain ⟨u5, R5, U5, R6, U6, h5, h6, rfl, rfl⟩ := bind_some e2
      cases h5
      have ⟨cs, c3, c4, c5⟩ := m2.cells (by rintro fs rfl; cases hnt)
      have h2 : Sim C S (Zj Fp r F2) (F1 ++ []) (upd st r ⟨.own (.opq (z2o (xs.set i none))), (st r).er, (st r).ec + 1⟩) a w := by
       refine h.change r (.own (.opq (z2o (xs.set i none)))) _ _ F2 h.below (fun _ _ _ q => q) h.still.cell h.sbase (fun t k _ hk => ⟨rfl, (h.free t k hk).2.1⟩) ⟨⟨[.tuple vs.toArray], ?_, n2, k3⟩, _, c1⟩ (.inl ⟨_, c1⟩) (Nat.le_refl _) (Nat.lt_succ_self _) ?_ ?_ (by simpa using n1) ?_ ?_ ?_
       ·simp only [zw]
        exact ⟨_, rfl, vs, rfl, m3⟩
       ·intro t k ht hk hk'
        exact ht (h.disj t r k hk' ((m4 k).2 (.inr hk)))
       ·intro k hk
        exact h.base r k ((m4 k).2 (.inr hk))
       ·intro t k ht hk hk'
        exact ht (h.disj t r k hk' ((m4 k).2 (.inl (by simpa using hk))))
       ·intro k hk
        exact n3 k (by simpa using hk)
       ·intro k hk
        exact h.base r k ((m4 k).2 (.inl (by simpa using hk)))
      simp only [zb] at h6 ⊢
      have ⟨Fp', hs⟩ := jI h2 h6 c3 c4
      subst c5
      exact zi run hs
     ·cases e2
  ·cases e2
 ·cases e1
end
def zc3 (n : Fr) (dst : Option Nat) (xs : List (Option A)) (x : Operand) (i : Nat) : HM Unit := zH (opnd x) >>= fun tx =>
 match tx with
 | .als r [] er ec => zH (rdE r) >>= fun e => wy (e.t = .own (.opq (z2o xs)) ∧ e.er = er) (zH (z72 n dst xs r e i))
 | _ => zz
theorem zbo (n : Fr) (dst : Option Nat) (xs : List (Option A)) (x : Operand) (i : Nat) : Snd (z74 n dst xs x i) (zc3 n dst xs x i) := by
 refine z8 (ze _) fun tx => ?_
 cases tx with
 | als r p er ec =>
  cases p with
  | nil => exact z8 (ze _) fun e => ym (ze _)
  | cons _ _ => exact zl _
 | _ => exact zl _
def zaa (P : Program) (d : Nat) (xs : List (Option A)) : XH P := {
 e := fun n o => match o.op with | .extract x i => if o.dst = some d then some (z74 n o.dst xs x i) else none | _ => none
 h := fun n o => match o.op with | .extract x i => if o.dst = some d then some (zc3 n o.dst xs x i) else none | _ => none
 ok := by
  refine ⟨?_, ?_⟩
  ·intro C S Fp st a w o m u R U e h h2
   dsimp only at e
   split at e
   ·rename_i x i ho
    split at e
    ·cases e; exact z73 h ho h2
    ·cases e
   ·cases e
  ·intro n o m e
   dsimp only at e
   split at e
   ·split at e
    ·cases e
     refine Loc.bind (Loc.opnd _) fun tx => ?_
     split
     ·refine Loc.bind (Loc.rdE _) fun _ => Loc.ite ?_ Loc.fail
      unfold z72
      split
      ·exact Loc.ite (Loc.wrT _ _ _) (Loc.ite (Loc.bind (Loc.wrE _ _) fun _ => Loc.wrT _ _ _) Loc.fail)
      ·exact Loc.fail
     ·exact Loc.fail
    ·cases e
   ·cases e
 none := by
  intro n o e
  skip
  split at e
  ·split at e
   ·cases e
   ·rename_i hd; rw [if_neg hd]
  ·rfl
 some := by
  intro n o m e
  skip
  split at e
  ·split at e
   ·rename_i hd; cases e; exact ⟨_, by rw [if_pos hd], zbo _ _ _ _ _⟩
   ·cases e
  ·cases e }
def z3p (tt : TT) (x : T) (c : Option Nat) : Option A :=
 match x, c with
 | .own y, none => if z4j y = true then some y else none
 | .own (.box y), some ty => if wW tt ty y = true then some y else none
 | _, _ => none
def zcm (tt : TT) (g : Bool) (t : Nat) (c : Option Nat) : SM A :=
 if g = true then do
  let e ← rdE t
  let x ← ofO (z3p tt e.t c)
  wrE t ⟨.gone, e.er + 1, e.ec + 1⟩
  pure x
 else do
  let xs ← shutArgs tt [(.tmp t, 0)]
  match c, xs with
  | none, [x] => pure x
  | some ty, [.sptr y] => if wW tt ty y = true then pure y else zm
  | _, _ => zm
def z40 (tt : TT) : List (Bool × Nat × Option Nat) → SM (List A)
 | [] => pure []
 | (g, t, c) :: rs => do
  let x ← zcm tt g t c
  let xs ← z40 tt rs
  pure (x :: xs)
def z92 (tt : TT) (rs : List (Bool × Nat × Option Nat)) : SM A := do
 let xs ← z40 tt rs
 match xs with
 | [y] => pure y
 | ys => pure (.opq (z2o (ys.map some)))
variable {rs : List (Bool × Nat × Option Nat)}
section
variable {P : Program} {C : Ctx} {a : Act} {w : World}
def Kp (P : Program) (a : Act) (w : World) (r : ResultVar) (v : Value) : Prop := ((fun r : ResultVar => match r with | .tmp t => (pure (a.tmps.getD t undef) : Sem Value) | .cell b t => do loadVar t (← asAddr (a.tmps.getD b undef))) r).run P w = .ok v w
theorem z95 (hT : yH P tt)     (h : Sim C S Fp X st a w) {g : Bool}  {c : Option Nat} {x : A}   (e : zcm tt g t c st = some (x, R, U)) :
  ∃ S' Fp' F v, Sim C S' Fp' (F ++ X) (zb U st) a w ∧ (∀ b o u, S b o = some u → S' b o = some u) ∧ (∀ k ∈ X, ∀ o, S k o = none → S' k o = none) ∧ Has S' w.heap x v F ∧ Kp P a w (z0K (t, c)) v := by
 unfold zcm at e
 split at e
 ·have ⟨_, e1⟩ := bD e
  have ⟨x0, _, hk, e2⟩ := bO e1
  obtain ⟨u5, R5, U5, R6, U6, h5, h6, rfl, rfl⟩ := bind_some e2
  cases h5
  cases h6
  have hr := h.ent t
  unfold yf at hr
  have fin : ∀ F', (∃ y, (st t).t = .own y) → F'.Nodup → (∀ k ∈ F', k ∈ Fp t) → Sim C S (Zj Fp t []) (F' ++ X) (upd st t ⟨.gone, (st t).er + 1, (st t).ec + 1⟩) a w := by
   intro F' ho hn hmem
   refine h.change t .gone _ _ [] h.below (fun _ _ _ q => q) h.still.cell h.sbase (fun t' k _ hk => ⟨rfl, (h.free t' k hk).2.1⟩) rfl (.inl ho) (Nat.le_succ _) (Nat.lt_succ_self _) (by simp) (by simp) ?_ ?_ (by simp) ?_
   ·rw [List.nodup_append]
    refine ⟨hn, h.xn, ?_⟩
    rintro m hm m' hm' rfl
    exact h.xd t m hm' (hmem m hm)
   ·intro t' k ht' hk
    rcases List.mem_append.1 hk with hk | hk
    ·exact fun hk' => ht' (h.disj t' t k hk' (hmem k hk))
    ·exact h.xd t' k hk
   ·intro k hk
    rcases List.mem_append.1 hk with hk | hk
    ·exact h.base t k (hmem k hk)
    ·exact h.xb k hk
  cases ht : (st t).t with
  | own z =>
   simp only [ht] at hr hk
   have ⟨cs, c1, c2, c3⟩ := hr
   cases c with
   | none =>
    have hz : x = z := by
     cases z <;> simp only [z3p, z4j] at hk <;> simpa using hk.symm
    subst hz
    refine ⟨S, Zj Fp t [], Fp t, Act.tv a t, by simpa [zb] using fin (Fp t) ⟨_, ht⟩ c2 (fun _ h => h), fun _ _ _ q => q, fun _ _ _ q => q, .inr ⟨cs, c1, c2, c3⟩, ?_⟩
    simp only [Kp, z0K]; exact Sem.run_pure ..
   | some ty =>
    cases z with
    | box y =>
     simp only [z3p] at hk
     split at hk
     ·rename_i hf
      simp only [Option.some.injEq] at hk
      subst hk
      simp only [zw] at c1
      obtain ⟨b, bty, l, F', rfl, d1, d2, d3, d4⟩ := c1
      have hn2 : (b :: F').Nodup := d3 ▸ c2
      refine ⟨S, Zj Fp t [], F', zJ y l, by simpa [zb] using fin F' ⟨_, ht⟩ (List.nodup_cons.1 hn2).2 (fun k hk => by rw [d3]; simp [hk]), fun _ _ _ q => q, fun _ _ _ q => q, .inr ⟨l, d2, (List.nodup_cons.1 hn2).2, rfl⟩, ?_⟩
      have hv : a.tmps.getD t undef = .pointer (some ⟨b, 0, none⟩) := c3
      simp only [Kp, z0K]
      rw [hv]
      simp only [asAddr, Sem.run_bind, Sem.run_pure, Result.andThen_ok]
      refine uh hT hf d2.len ?_
      intro j u hj
      simp only [zP, d1, Nat.zero_add]
      simpa using hj
     ·cases hk
    | _ => simp only [z3p] at hk; cases hk
  | _ => simp only [ht, z3p] at hk; cases hk
 ·obtain ⟨xs, R1, U1, R2, U2, h1, e1, rfl, rfl⟩ := bind_some e
  have ⟨S1, Fp1, g1, g2, g3, g4⟩ := xK h h1
  split at e1
  ·cases e1
   refine ⟨S1, Fp1, [], Act.tv a t, by simpa using g1, g2, g3, .inl ⟨g4.1.repV, rfl⟩, ?_⟩
   simp only [Kp, z0K]; exact Sem.run_pure ..
  ·rename_i ty y
   split at e1
   ·rename_i hf
    cases e1
    have ⟨cs, q1, q2⟩ := g4.1
    simp only [Rep] at q1
    obtain ⟨b, o, l, rfl, r1, r2⟩ := q1
    refine ⟨S1, Fp1, [], zJ x l, by simpa using g1, g2, g3, .inl ⟨xM.repV ⟨l, r1, rfl⟩, rfl⟩, ?_⟩
    have hv : a.tmps.getD t undef = .pointer (some ⟨b, o, none⟩) := q2
    simp only [Kp, z0K]
    rw [hv]
    simp only [asAddr, Sem.run_bind, Sem.run_pure, Result.andThen_ok]
    exact uh hT hf r1.len (fun j u hj => g1.still _ _ _ (r2 j u hj))
   ·cases e1
  ·cases e1
theorem z2E (hT : yH P tt) : ∀ {rs : List (Bool × Nat × Option Nat)} {S : zf} {Fp : Nat → List Nat} {X : List Nat} {st : St}, Sim C S Fp X st a w → ∀ {xs : List A} {R : List Nat} {U : List (Nat × Ent)}, z40 tt rs st = some (xs, R, U) →
  ∃ S' Fp' G vs, Sim C S' Fp' (G ++ X) (zb U st) a w ∧ (∀ b o u, S b o = some u → S' b o = some u) ∧ (∀ k ∈ X, ∀ o, S k o = none → S' k o = none) ∧ qj S' w.heap xs vs G ∧ uH (Kp P a w) (rs.map fun r => z0K r.2) vs
 | [], S, Fp, X, st, h, xs, R, U, e => by
  cases e
  exact ⟨S, Fp, [], [], h, fun _ _ _ h => h, fun _ _ _ h => h, rfl, trivial⟩
 | (g, t, c) :: rs, S, Fp, X, st, h, xs, R, U, e => by
  simp [z40] at e
  obtain ⟨y, R1, U1, R2, U2, h1, e1, rfl, rfl⟩ := bind_some e
  obtain ⟨ys, R3, U3, R4, U4, h3, e2, rfl, rfl⟩ := bind_some e1
  have ⟨S1, Fp1, F, v, g1, g2, g3, g4, g5⟩ := z95 hT h h1
  have ⟨S2, Fp2, G, vs, k1, k2, k3, k4, k5⟩ := z2E hT g1 h3
  cases e2
  refine ⟨S2, Fp2, G ++ F, v :: vs, ?_, fun b o u hs => k2 b o u (g2 b o u hs), fun k hk o hn => k3 k (by simp [hk]) o (g3 k hk o hn), ⟨F, G, rfl, g4.grow k2 (fun k hk o hn => k3 k (by simp [hk]) o hn), k4⟩, g5, k5⟩
  rw [List.append_nil, zn, List.append_assoc]
  exact k1
theorem z91 (hT : yH P tt)   (hr : fn.results = (rs.map fun r => z0K r.2).toArray)    (h : Sim C S Fp [] st a w) {x : A}   (e : z92 tt rs st = some (x, R, U)) :
  ∃ v S' F', (results fn a.tmps).run P w = .ok v w ∧ (∀ b o u, S b o = some u → S' b o = some u) ∧ (∀ b o, ¬ C.M b → S' b o = C.S0 b o) ∧ y5 S' w ∧ Has S' w.heap x v F' ∧ F'.Nodup ∧ ∀ k ∈ F', C.M k := by
 unfold z92 at e
 obtain ⟨xs, R1, U1, R2, U2, h1, e1, rfl, rfl⟩ := bind_some e
 have ⟨S1, Fp1, G, vs, g1, g2, _, g3, g4⟩ := z2E hT h h1
 have hrun : (results fn a.tmps).run P w = .ok (if h : vs.toArray.size = 1 then vs.toArray[0] else .tuple vs.toArray) w := by
  unfold results
  rw [hr, Array.mapM_eq_foldlM, List.foldlM_toArray, Sem.run_bind]
  have := Zw (P := P) (w := w) _ _ vs #[] g4
  rw [Array.empty_append] at this
  exact (congrArg (fun r => Result.andThen r (fun q w' => Sem.run P (pure (if h : q.size = 1 then q[0] else Value.tuple q)) w')) this).trans rfl
 have hn : G.Nodup := by have := g1.xn; simpa using this
 have hM : ∀ k ∈ G, C.M k := fun k hk => g1.xb k (by simp [hk])
 have many : ∀ ys : List A, qj S1 w.heap ys vs G → ys.length ≠ 1 → Has S1 w.heap (.opq (z2o (ys.map some))) (.tuple vs.toArray) G ∧ vs.length ≠ 1 := by
  intro ys q hl
  refine ⟨.inr ⟨[.tuple vs.toArray], ?_, hn, rfl⟩, by rw [← q.nil]; exact hl⟩
  simp only [zw]
  exact ⟨_, rfl, vs, rfl, ko.of q⟩
 split at e1
 ·cases e1
  rcases vs with _ | ⟨v, _ | ⟨v2, l⟩⟩
  ·exact g3.elim
  ·obtain ⟨F1, F2, rfl, q1, q2⟩ := g3
   have e2 : F2 = [] := q2
   subst e2
   exact ⟨v, S1, F1, hrun, g2, g1.sbase, g1.still, q1, by simpa using hn, by simpa using hM⟩
  ·obtain ⟨F1, F2, rfl, q1, q2⟩ := g3
   exact q2.elim
 ·rename_i hne
  cases e1
  have ⟨m1, m2⟩ := many _ g3 (by
   intro hl
   have ⟨y, hy⟩ := List.length_eq_one_iff.1 hl
   exact hne y hy)
  rw [dif_neg (by simpa using m2)] at hrun
  exact ⟨_, S1, G, hrun, g2, g1.sbase, g1.still, m1, hn, hM⟩
end
def zbv (tt : TT) (g : Bool) (t : Nat) (c : Option Nat) : HM A :=
 if g = true then zH (rdE t >>= fun e => ofO (z3p tt e.t c) >>= fun x => wrE t ⟨.gone, e.er + 1, e.ec + 1⟩ >>= fun _ => pure x)
 else ww tt [(.tmp t, 0)] >>= fun xs =>
  match c, xs with
  | none, [x] => pure x
  | some ty, [.sptr y] => if wW tt ty y = true then pure y else zz
  | _, _ => zz
theorem zbj (tt : TT) (g : Bool) (t : Nat) (c : Option Nat) : Snd (zcm tt g t c) (zbv tt g t c) := by
 refine xT (ze _) (z8 (vC _ _) fun xs => ?_)
 split
 ·exact yV _
 ·exact xT (yV _) (zl _)
 ·exact zl _
def z3Z (tt : TT) : List (Bool × Nat × Option Nat) → HM (List A)
 | [] => pure []
 | (g, t, c) :: rs => zbv tt g t c >>= fun x => z3Z tt rs >>= fun xs => pure (x :: xs)
theorem z3N (tt : TT) : ∀ rs, Snd (z40 tt rs) (z3Z tt rs)
 | [] => yV _
 | (g, t, c) :: rs => z8 (zbj tt g t c) fun x => z8 (z3N tt rs) fun xs => yV _
def z6C (tt : TT) (rs : List (Bool × Nat × Option Nat)) : HM A := z3Z tt rs >>= fun xs =>
 match xs with
 | [y] => pure y
 | ys => pure (.opq (z2o (ys.map some)))
theorem zbh (tt : TT) (rs : List (Bool × Nat × Option Nat)) : Snd (z92 tt rs) (z6C tt rs) := by
 refine z8 (z3N _ _) fun xs => ?_
 split <;> exact yV _
section
variable {P : Program} {tt : TT} {ctr : Ctr} {n : Fr} {Q : Exit → St → Prop}
theorem z35 {n : Fr}   {rs : List (Bool × Nat × Option Nat)} {ls : List A} {r : A} (hT : yH P tt) (hf : P.funcs[k]? = some fn) (hnm : (fn.name == "runtime.NumGoroutine") = false) (hb : fn.body = some body)
  (hn : n = ⟨fn.ntmps, []⟩) (hr : fn.results = (rs.map fun r => z0K r.2).toArray) (ha : ls.length ≤ fn.ntmps)
  (h : ∀ E : St → Prop, (∀ st x R U, z92 tt rs st = some (x, R, U) → LeV x r → E st) → AWP P n body (ofL (z0q 0 ls)) (Qf P n [] (z7O E))) : wB P k ls r := by
 have h' := h (fun st => ∃ x R U, z92 tt rs st = some (x, R, U) ∧ LeV x r) fun st x R U h1 h2 => ⟨x, R, U, h1, h2⟩
 refine ⟨⟨fn, hf, hnm, by rw [hb]; rfl⟩, ?_⟩
 intro S w vs F hS hq hF
 have h2 : AWP P n body (ini ls) (fun ex st => (ex = .normal ∨ ex = .ret) ∧ ∃ x R U, z92 tt rs st = some (x, R, U) ∧ LeV x r) := by
  rw [QU]
  refine AWP.mono h' ?_
  intro e st q
  cases e with
  | normal => exact ⟨.inl rfl, q⟩
  | ret => exact ⟨.inr rfl, q⟩
  | _ => exact q.elim
 refine VU (R := fun w e w' => ∃ v' S' F', e = .returned v' ∧ uG (fun k => w.heap.size ≤ k ∨ k ∈ F) w w' ∧ (∀ b o u, S b o = some u → S' b o = some u) ∧ (∀ b o, b < w.heap.size → b ∉ F → S' b o = S b o) ∧ y5 S' w' ∧ Has S' w'.heap r v' F' ∧ F'.Nodup ∧
   ∀ k ∈ F', w.heap.size ≤ k ∨ k ∈ F) hf hb (by rw [hn]) (by rw [hn]; simp) ha hS hq hF h2 ?_
 rintro ex st' ⟨hx, x, R, U, h3, h4⟩
 refine ⟨hx, ?_⟩
 intro df S' Fp' a' w' h1
 have ⟨v, S2, F', hres, g1, g2, g3, g4, g5, g6⟩ := z91 (P := P) hT hr h1 h3
 refine ⟨_, hres, _, S2, F', rfl, h1.below, fun b o u hu => g1 _ _ _ (h1.sinc _ _ _ hu), ?_, g3, h4.has _ _ _ _ g4, g5, g6⟩
 intro b o hb' hbF
 exact g2 b o (by rintro (hq | hq) <;> first | omega | exact hbF hq)
def zbr (X : XH P) (tt : TT) (ctr : Ctr) (n : Fr) (rs : List (Bool × Nat × Option Nat)) (k : Nat) (c : Code) (fs : List Fm) (st : St) (hs : List H) : Option (A × List Prop) :=
 match z3Y X tt ctr n k c fs st hs with
 | some (.fin .normal, st', hs', ob) => match z6C tt rs st' hs' with | some (x, _, _, [], ob') => some (x, ob ++ ob') | _ => none
 | some (.fin .ret, st', hs', ob) => match z6C tt rs st' hs' with | some (x, _, _, [], ob') => some (x, ob ++ ob') | _ => none
 | _ => none
theorem z51 (X : XH P) (hT : yH P tt) (hC : vT P ctr) (hm : P.follows .mixedOrders = true) {E : St → Prop}   (hE : ∀ st x R U, z92 tt rs st = some (x, R, U) → LeV x r → E st) (k : Nat) {c : Code} {fs : List Fm} {st : St} {hs : List H} {x : A} (obs : List Ob)
  (e : zbr X tt ctr n rs k c fs st hs = some (x, obs.map Ob.p)) (hle : LeV x r) : AWP P n c st (Qf P n fs (z7O E)) := by
 unfold zbr at e
 have fin : ∀ {st' hs' ob}, (match z6C tt rs st' hs' with | some (x, _, _, [], ob') => some (x, ob ++ ob') | _ => none) = some (x, obs.map Ob.p) → Q2 ob ∧ E st' := by
  intro st' hs' ob e
  split at e
  ·rename_i x1 R U ob' he
   simp [Option.some.injEq, Prod.mk.injEq] at e
   obtain ⟨rfl, e2⟩ := e
   have ha := K7 obs
   rw [← e2] at ha
   have ⟨o1, o2⟩ := y7 ha
   exact ⟨o1, hE _ _ _ _ (zbh tt rs _ _ _ _ _ _ _ he o2) hle⟩
  ·cases e
 split at e
 ·rename_i st' hs' ob' he
  have ⟨h1, h2⟩ := fin e
  exact Qw X hT hC hm k c fs st hs _ _ _ _ he h1 h2
 ·rename_i st' hs' ob' he
  have ⟨h1, h2⟩ := fin e
  exact Qw X hT hC hm k c fs st hs _ _ _ _ he h1 h2
 ·cases e
end
theorem lentCall (h : wB P k as_ r) : yl P (.fn k []) as_ [] r [] := by
 intro S w fv vs F hS hfv hvs hH hF
 have hF0 : F = [] := hH
 subst hF0
 obtain ⟨cs, c1, c2⟩ := hfv
 simp only [Rep] at c1
 obtain ⟨us, u1, _, rfl⟩ := c1
 have hu : us = [] := by
  cases us with
  | nil => rfl
  | cons _ _ => simp [zV] at u1
 subst hu
 obtain ⟨⟨fn, f1, f2, f3⟩, hc⟩ := h
 refine .inl ⟨k, #[], fn, c2, f1, f2, f3, ?_⟩
 rw [Array.append_empty]
 have hass : ∀ {as_ : List A} {vs : List Value}, uH (xM S) as_ vs → qj S w.heap as_ vs [] := by
  intro as_
  induction as_ with
  | nil => intro vs q; cases vs with | nil => rfl | cons _ _ => exact q.elim
  | cons a as_ ih =>
   intro vs q
   cases vs with
   | nil => exact q.elim
   | cons v vs => exact ⟨[], [], rfl, .inl ⟨q.1.repV, rfl⟩, ih q.2⟩
 refine (hc S w vs [] hS (hass hvs) List.nodup_nil).mono ?_
 rintro e w' ⟨v', S', F', he, b1, b2, b3, b4, b5, b6, b7⟩
 exact ⟨v', he, S', F', [], b1, b2, b3, b4, b5, rfl, by simpa using b6, by simpa using b7⟩
theorem z9k {c : Ctr} (hC : vT P c)  {α ρ : Type} {enc : α → List A} {encR : ρ → A} {F : α → Option ρ}  {inj : ∀ x y, enc x = enc y → x = y} (h : c.Has (spF k enc encR F gives inj)) {x : α} {r : ρ} (hr : F x = some r) : wB P k (enc x) (encR r) := by
 have h1 := h.run x ⟨r, hr⟩
 have := hC.1 _ _ _ h1
 simpa only [spF, hr] using this
structure ArN (n : Nat) (α : Type) where
 l : List α
 len : l.length = n
 deriving DecidableEq
section
variable {α : Type} {n : Nat}
def ArN.rep (n : Nat) (v : α) : ArN n α := ⟨List.replicate n v, List.length_replicate⟩
def ArN.setI (x : ArN n α) (i : Int) (v : α) : ArN n α := ⟨x.l.set i.toNat v, by rw [List.length_set]; exact x.len⟩
def yp (n : Nat) (f : α → A) (x : ArN n α) : A := .agg (x.l.map f)
theorem ArN.setL (f : α → A) (x : ArN n α) (i : Int) (v : α) : (x.l.map f).set i.toNat (f v) = ((ArN.setI x i v).l).map f := by
 unfold ArN.setI
 rw [List.map_set]
theorem sizes_const {sz : Nat} : ∀ {l : List A}, (∀ x ∈ l, x.size = sz) → A.sizes l = l.length * sz
 | [], _ => by simp [A.sizes]
 | x :: l, h => by
  rw [A.sizes, h x List.mem_cons_self, sizes_const fun y hy => h y (List.mem_cons_of_mem _ hy), List.length_cons, Nat.add_mul, Nat.one_mul, Nat.add_comm]
class za4 (f : α → A) (sz : outParam Nat) : Prop where
 sz : ∀ x, (f x).size = sz
theorem z7E {f : α → A}  [h : za4 f s] (x : ArN n α) : (yp n f x).size = n * s := by
 unfold yp
 rw [A.size, sizes_const (sz := s) fun y hy => by obtain ⟨u, _, rfl⟩ := List.mem_map.1 hy; exact h.sz u, List.length_map, x.len]
instance {f : α → A} {s : Nat} [h : za4 f s] : za4 (yp n f) (n * s) := ⟨fun x => z7E x⟩
theorem Xa {f : α → A}  [h : za4 f s] (ha : z2i tt t = some (n, s)) (x : ArN n α) {j : Int} (hj : 0 ≤ j) : vR tt t (x.l.map f) j = true := by
 unfold vR
 rw [ha]
 simp only [List.length_map, x.len, beq_self_eq_true, Bool.true_and, hj, decide_true]
 rw [List.all_eq_true]
 intro y hy
 obtain ⟨u, _, rfl⟩ := List.mem_map.1 hy
 rw [h.sz]
 exact beq_self_eq_true _
end
open Go.Proofs Go.Shelf
section
variable {α : Type}
def z9g (c : α → α → Int) (x : α) : List α → List α
 | [] => [x]
 | y :: l => if c y x < 0 then y :: z9g c x l else x :: y :: l
def z0c (c : α → α → Int) : List α → List α
 | [] => []
 | x :: l => z9g c x (z0c c l)
def SOk (c : α → α → Int) (l : List α) : Prop :=
 (∀ x ∈ l, ¬ c x x < 0) ∧ (∀ x ∈ l, ∀ y ∈ l, ∀ z ∈ l, c x y < 0 → c y z < 0 → c x z < 0) ∧ (∀ x ∈ l, ∀ y ∈ l, ¬ c x y < 0 → ¬ c y x < 0 → x = y)
instance [DecidableEq α] (c : α → α → Int) (l : List α) : Decidable (SOk c l) := by unfold SOk; infer_instance
def z8K [DecidableEq α] (cmp : α → α → Option Int) (l : List α) : Option (List α) :=
 gd (l.length ≤ 4294967296 ∧ ∀ x ∈ l, ∀ y ∈ l, (cmp x y).isSome = true) <| gd (SOk (fun x y => (cmp x y).getD 0) l) <| some (z0c (fun x y => (cmp x y).getD 0) l)
theorem SOk.ntr {c : α → α → Int} {l : List α} (h : SOk c l) : ∀ x ∈ l, ∀ y ∈ l, ∀ z ∈ l, ¬ c x y < 0 → ¬ c y z < 0 → ¬ c x z < 0 := by
 intro x hx y hy z hz h1 h2 h3
 by_cases h4 : c y x < 0
 ·exact h2 (h.2.1 y hy x hx z hz h4 h3)
 ·have := h.2.2 x hx y hy h1 h4
  subst this
  exact h2 h3
theorem QT (c : α → α → Int) (x : α) : ∀ l, (z9g c x l).Perm (x :: l)
 | [] => .refl _
 | y :: l => by
  simp [z9g]
  split
  ·exact ((QT c x l).cons y).trans (.swap x y l)
  ·exact .refl _
theorem kY (c : α → α → Int) : ∀ l, (z0c c l).Perm l
 | [] => .refl _
 | x :: l => (QT c x _).trans ((kY c l).cons x)
theorem QS {c : α → α → Int} {L : List α} (h : SOk c L) {x : α} (hx : x ∈ L) : ∀ {l : List α}, (∀ y ∈ l, y ∈ L) → l.Pairwise (fun a b => ¬ c b a < 0) → (z9g c x l).Pairwise (fun a b => ¬ c b a < 0)
 | [], _, _ => by simp [z9g]
 | y :: l, hl, hp => by
  have hy := hl y (by simp)
  have ⟨p1, p2⟩ := List.pairwise_cons.1 hp
  simp only [z9g]
  split
  ·rename_i hc
   refine List.pairwise_cons.2 ⟨?_, QS h hx (fun z hz => hl z (by simp [hz])) p2⟩
   intro z hz
   rcases List.mem_cons.1 ((QT c x l).mem_iff.1 hz) with rfl | hz
   ·exact fun q => h.1 _ hx (h.2.1 _ hx _ hy _ hx q hc)
   ·exact p1 z hz
  ·rename_i hc
   refine List.pairwise_cons.2 ⟨?_, hp⟩
   intro z hz
   rcases List.mem_cons.1 hz with rfl | hz
   ·exact hc
   ·exact h.ntr z (hl z (by simp [hz])) y hy x hx (p1 z hz) hc
theorem Uo {c : α → α → Int} {L : List α} (h : SOk c L) : ∀ {l : List α}, (∀ y ∈ l, y ∈ L) → (z0c c l).Pairwise (fun a b => ¬ c b a < 0)
 | [], _ => .nil
 | x :: l, hl => QS h (hl x (by simp)) (fun y hy => hl y (by simp [(kY c l).mem_iff.1 hy])) (Uo h fun y hy => hl y (by simp [hy]))
theorem z1k {c : α → α → Int} {l l' : List α} (h : SOk c l) (hp : l'.Perm l) (hs : l'.Pairwise (fun a b => ¬ c b a < 0)) : l' = z0c c l := by
 refine List.Perm.eq_of_pairwise (le := fun a b => ¬ c b a < 0) ?_ hs (Uo h fun _ q => q) (hp.trans (kY c l).symm)
 intro a b ha hb h1 h2
 exact h.2.2 a (hp.mem_iff.1 ha) b ((kY c l).mem_iff.1 hb) h2 h1
theorem z3l [DecidableEq α] {cmp : α → α → Option Int} {l l' : List α} (h : z8K cmp l = some l') : l.length ≤ 4294967296 ∧ (∀ x ∈ l, ∀ y ∈ l, cmp x y = some ((cmp x y).getD 0)) ∧ SOk (fun x y => (cmp x y).getD 0) l ∧ l' = z0c (fun x y => (cmp x y).getD 0) l := by
 have ⟨h1, h⟩ := gdE h
 have ⟨h2, h⟩ := gdE h
 refine ⟨h1.1, fun x hx y hy => ?_, h2, (yY h).symm⟩
 have := h1.2 x hx y hy
 cases hc : cmp x y with
 | none => rw [hc] at this; cases this
 | some _ => rfl
end
theorem zc2 [Inhabited α] (enc : α → List Value) (k : Nat) (hk : ∀ x, (enc x).length = k) : ∀ l : List α, ((List.range (l.length * k)).map fun t => (enc l[t / k]!)[t % k]!) = l.flatMap enc
 | [] => by simp
 | x :: l => by
  rcases Nat.eq_zero_or_pos k with rfl | h0
  ·simp only [Nat.mul_zero, List.range_zero, List.map_nil]
   symm
   rw [List.flatMap_eq_nil_iff]
   intro y _
   exact List.eq_nil_of_length_eq_zero (hk y)
  rw [List.length_cons, Nat.add_mul, Nat.one_mul, Nat.add_comm, List.range_add, List.map_append, List.map_map, List.flatMap_cons]
  congr 1
  ·apply List.ext_getElem?
   intro i
   rw [List.getElem?_map]
   by_cases hi : i < k
   ·rw [List.getElem?_range hi, Option.map_some, Nat.div_eq_of_lt hi, Nat.mod_eq_of_lt hi]
    have : i < (enc x).length := by rw [hk]; exact hi
    simp [this]
   ·rw [List.getElem?_eq_none (by simpa using hi), List.getElem?_eq_none (by rw [hk]; omega)]; rfl
  ·rw [← zc2 enc k hk l]
   apply List.map_congr_left
   intro t _
   simp only [Function.comp]
   rw [Nat.add_div_left _ h0, Nat.add_mod_left]
   simp
theorem Uu [Inhabited α] (enc : α → List Value) (k : Nat) (hk : ∀ x, (enc x).length = k) (d : Array α) : (Sort.flatK enc k d).toList = d.toList.flatMap enc := by
 rw [← zc2 enc k hk d.toList]
 simp only [Sort.flatK, Array.toList_map, Array.toList_range, Array.length_toList]
 apply List.map_congr_left
 intro a _
 have : d.toList[a / k]! = d[a / k]! := by
  by_cases hlt : a / k < d.size
  ·rw [getElem!_pos d _ hlt, getElem!_pos d.toList _ (by simpa using hlt)]; simp
  ·rw [getElem!_neg d _ hlt, getElem!_neg d.toList _ (by simpa using hlt)]
 rw [this]
def z9K (P : Program) (kf k : Nat) (ag : Bool) : Prop := ∃ ρ, SlLaysF0.n6 P ρ ∧ ρ.f 6 = kf ∧ (∀ w, (isAgg (ρ.t 24)).run P w = .ok ag w) ∧ (∀ w, (Go.sizeOf (ρ.t 24)).run P w = .ok k w) ∧ (ag = false → k = 1)
theorem K2 {enc : α → A}  (hsz : ∀ x, (enc x).size = k) (L : List α) : ∀ {l : List α} {cs : List Value}, (∀ x ∈ l, x ∈ L) → zV S (l.map enc) cs →
  ∃ d : List {p : List Value × α // Rep S (enc p.2) p.1 ∧ p.2 ∈ L}, d.map (fun p => p.1.2) = l ∧ d.flatMap (fun p => p.1.1) = cs
 | [], cs, _, h => by
  simp [List.map_nil, zV] at h
  exact ⟨[], rfl, by simp [h]⟩
 | x :: l, cs, hl, h => by
  simp [List.map_cons, zV] at h
  obtain ⟨c1, c2, rfl, h1, h2⟩ := h
  have ⟨d, e1, e2⟩ := K2 hsz L (fun y hy => hl y (by simp [hy])) h2
  exact ⟨⟨(c1, x), h1, hl x (by simp)⟩ :: d, by simp [e1], by simp [e2]⟩
theorem WK {enc : α → A} {L : List α} : ∀ (d : List {p : List Value × α // Rep S (enc p.2) p.1 ∧ p.2 ∈ L}), zV S ((d.map fun p => p.1.2).map enc) (d.flatMap fun p => p.1.1)
 | [] => by simp [zV]
 | p :: d => by
  simp only [List.map_cons, List.flatMap_cons, zV]
  exact ⟨_, _, rfl, p.2.1, WK d⟩
variable {ag : Bool}
theorem z6o {ρ : Ren} {kf k t : Nat}  (hT : yH P tt) (L : SlLaysF0.n6 P ρ) (h6 : ρ.f 6 = kf) (h24 : ρ.t 24 = t) (hs : (tt t).map (fun i => (i.kind.isAgg, i.size)) = some (ag, k)) (h1 : ag = false → k = 1) : z9K P kf k ag := by
 have ⟨i, hi, he⟩ := Option.map_eq_some_iff.1 hs
 simp [Prod.mk.injEq] at he
 refine ⟨ρ, L, h6, fun w => ?_, fun w => ?_, h1⟩
 ·rw [h24, YR (hT t i hi).kind w, he.1]
 ·rw [h24, wF hT hi w, he.2]
section
variable {α : Type} [Inhabited α] (enc : α → List Value) (k : Nat) (w : World) (b n : Nat) (d : Array α) (os : Array Obj)
theorem KO {j : Nat} (hj : j < w.heap.size) (hb : j ≠ b) : (sortWorldK enc k w b 0 n d os).heap[j]? = w.heap[j]? := by
 show ((w.heap.modify b _) ++ os)[j]? = _
 rw [Array.getElem?_append_left (by simpa using hj), Array.getElem?_modify, if_neg (Ne.symm hb)]
theorem zcS {arr : Array Value} {ty : TypeId} {fr : Nat × Nat} (hb : w.heap[b]? = some (.cells arr ty fr)) : (sortWorldK enc k w b 0 n d os).heap[b]? = some (.cells (Sort.putCells id 0 (Sort.flatK enc k d) arr) ty fr) := by
 have hlt := (Array.getElem?_eq_some_iff.1 hb).1
 show ((w.heap.modify b _) ++ os)[b]? = _
 rw [Array.getElem?_append_left (by simpa using hlt), Array.getElem?_modify, if_pos rfl, hb]
 rfl
theorem z8I : (sortWorldK enc k w b 0 n d os).heap.size = w.heap.size + os.size := by
 show ((w.heap.modify b _) ++ os).size = _
 simp
end
theorem z01 {D arr : Array Value} (h : D.size ≤ arr.size) : (Sort.putCells id 0 D arr).toList.take D.size = D.toList := by
 apply List.ext_getElem?
 intro i
 rw [List.getElem?_take]
 by_cases hi : i < D.size
 ·rw [if_pos hi]
  have : i < arr.size := by omega
  simp [Sort.putCells, hi, this]
 ·rw [if_neg hi, List.getElem?_eq_none (by simpa using hi)]
theorem z02 (D arr : Array Value) : (Sort.putCells id 0 D arr).size = arr.size := by simp [Sort.putCells]
theorem z11 : ∀ {caps : List A} {vs : List Value}, zV S caps vs → (∀ c ∈ caps, c.size = 1 ∧ ∀ fs, c ≠ .agg fs) → uH (xM S) caps vs
 | [], vs, h, _ => by simp [zV] at h; subst h; trivial
 | c :: caps, vs, h, hc => by
  simp [zV] at h
  obtain ⟨c1, c2, rfl, h1, h2⟩ := h
  have ⟨s1, s2⟩ := hc c (by simp)
  have hl := h1.len
  rw [s1] at hl
  obtain ⟨u, rfl⟩ := List.length_eq_one_iff.1 hl
  refine ⟨⟨[u], h1, ?_⟩, z11 h2 fun x hx => hc x (by simp [hx])⟩
  cases c <;> first | rfl | exact absurd rfl (s2 _)
theorem Ur : ∀ {bs : List A} {vs : List Value}, uH (xM S) bs vs → qj S h bs vs []
 | [], [], _ => rfl
 | _ :: _, _ :: _, q => ⟨[], [], rfl, .inl ⟨q.1.repV, rfl⟩, Ur q.2⟩
 | [], _ :: _, q => q.elim
 | _ :: _, [], q => q.elim
theorem z4x {w w' : World} (h : uG (fun k => w.heap.size ≤ k) w w') : ∃ q os', w' = Sort.grow (w.drewN q) os' := by
 refine ⟨w'.drawn - w.drawn, w'.heap.extract w.heap.size w'.heap.size, ?_⟩
 have h1 : w'.heap = w.heap ++ w'.heap.extract w.heap.size w'.heap.size := by
  apply Array.ext_getElem?
  intro i
  by_cases hi : i < w.heap.size
  ·rw [Array.getElem?_append_left hi]
   exact h.block i (by omega)
  ·rw [Array.getElem?_append_right (by omega), Array.getElem?_extract]
   by_cases h2 : i < w'.heap.size
   ·rw [if_pos (by omega)]
    congr 1; omega
   ·rw [if_neg (by omega), Array.getElem?_eq_none (by omega)]
 have h2 := h.drawn
 have h3 := h.os
 have h4 := h.tape
 have h5 := h.output
 cases w' with
 | mk heap tape drawn os output =>
  cases w with
  | mk heap0 tape0 drawn0 os0 output0 =>
   simp only at h1 h2 h3 h4 h5
   subst h3 h4 h5
   simp [Sort.grow, World.drewN, World.mk.injEq, true_and, and_true]
   exact ⟨h1, by omega⟩
theorem z7H [Inhabited α] (enc : α → List Value) (e1 : α → Value) (he : ∀ x, enc x = [e1 x]) (w : World) (b m : Nat) (d : Array α) (os : Array Obj) : sortWorld e1 w b 0 m d os = sortWorldK enc 1 w b 0 m d os := by
 have hflat : Sort.flatK enc 1 d = d.map e1 := by
  apply Array.ext
  ·simp [Sort.flatK]
  ·intro i h1 h2
   have hi : i < d.size := by simpa using h2
   have := Sort.get_flatK enc 1 d i (by omega)
   rw [getElem!_pos _ i h1] at this
   rw [this, he]
   simp [Nat.mod_one, hi]
 unfold sortWorld sortWorldK
 congr 1
 unfold Sort.putRowK Sort.putRow
 congr 1
 rw [hflat]
 funext c
 unfold Sort.putCells
 congr 1
 funext k x
 simp [Nat.zero_le, true_and, Nat.zero_add, Nat.sub_zero, Array.size_map, id]
 by_cases hk : k < d.size
 ·rw [if_pos hk, if_pos hk, getElem!_pos d k hk, getElem!_pos _ k (by simpa using hk)]; simp
 ·rw [if_neg hk, if_neg hk]
theorem z4C [Inhabited α] {enc : α → List Value} {e1 : α → Value} (he : ∀ x, enc x = [e1 x])  {b : Nat} {d : Array α} (h : Sort.HoldsK enc 1 w b 0 d) : Sort.Holds e1 w b 0 d := by
 intro j hj
 have := h j (by simpa using hj)
 rw [Sort.get_flatK enc 1 d j (by omega), he] at this
 simpa [Nat.mod_one] using this
theorem z3J {P : Program} {kf k g : Nat}   [DecidableEq α] {f : α → A} [hD : Wq f] {t : Bool} {v : Value} {caps : List A} {cmp : α → α → Option Int} {l l' : List α} (hT : z9K P kf k ag) (hsz : ∀ x, (f x).size = k) (hag : ∀ x, (f x).isAgg = ag)
  (hc : ∀ x y c, cmp x y = some c → wB P g (f x :: f y :: caps) (.atom (.int .i64 c))) (h : z8K cmp l = some l') : yl P (.fn kf []) [.atom v, .fn g caps] [(v, .osl k t (l.map f))] (.tup []) [.osl k t (l'.map f)] := by
 obtain ⟨hlen0, hcmp, hO, rfl⟩ := z3l h
 obtain ⟨ρ, L, rfl, aE, zE, hk1⟩ := hT
 intro S w fv vs F hS hfv hvs hH hF
 have ⟨cs, c1, c2⟩ := hfv
 simp only [Rep] at c1
 obtain ⟨us, u1, _, rfl⟩ := c1
 have hu : us = [] := by
  cases us with
  | nil => rfl
  | cons _ _ => simp [zV] at u1
 subst hu
 rcases vs with _ | ⟨v1, _ | ⟨v2, _ | ⟨v3, vs⟩⟩⟩
 ·exact hvs.elim
 ·exact hvs.2.elim
 case cons.cons.cons => exact hvs.2.2.elim
 have ⟨hv1, hv2, _⟩ := hvs
 obtain ⟨rfl, _⟩ := yc.1 hv1
 have ⟨cs2, d1, d2⟩ := hv2
 simp only [Rep] at d1
 obtain ⟨cv, d3, d4, rfl⟩ := d1
 have hcv := z11 d3 d4
 obtain ⟨F1, F2, rfl, q1, q2⟩ := hH
 have hF2 : F2 = [] := q2
 subst hF2
 rw [List.nil_append] at hF ⊢
 have act : ∀ R : Ending → World → Prop, Calls P (ρ.f 6) #[v1, .func (.func g) #[] cv.toArray] w R → Calls P (ρ.f 6) ([v1, v2].toArray ++ #[]) w R := by
  intro R q
  rw [d2, Array.append_empty]
  exact q
 have fnOk : ∃ fn, P.funcs[ρ.f 6]? = some fn ∧ (fn.name == "runtime.NumGoroutine") = false ∧ fn.body.isNone = false := by
  have ⟨nm, hne, FG⟩ := L.f6
  exact ⟨_, FG, by simpa using hne, rfl⟩
 have ⟨fn, f1, f2, f3⟩ := fnOk
 refine .inl ⟨ρ.f 6, #[], fn, c2, f1, f2, f3, act _ ?_⟩
 rcases q1 with ⟨q1, _⟩ | ⟨cs, q1, q3, q4⟩
 ·simp only [yi, xM, Rep, false_and, exists_false] at q1
 simp only [zw] at q1
 obtain ⟨p, c, rfl, t1, t2, t3, t4, t5⟩ := q1
 have ev : v1 = .slice p l.length c := by
  have q5 : v1 = zJ (.osl k t (l.map f)) [.slice p (l.map f).length c] := q4
  rw [q5]; simp [zJ]
 subst ev
 simp only [List.length_map] at t1 t2 t5
 by_cases hl : l = []
 ·subst hl
  refine (AnyF.slices_SortFunc_none { L with } p c _ w).mono ?_
  rintro e w' ⟨rfl, rfl⟩
  refine ⟨.tuple #[], rfl, S, [], F1, uG.refl _ _, fun _ _ _ q => q, fun _ _ _ _ => rfl, hS, .inl ⟨?_, rfl⟩, ⟨F1, [], by simp, .inr ⟨[.slice p 0 c], ?_, q3, rfl⟩, rfl⟩, by simpa using hF, fun k hk => .inr (by simpa using hk)⟩
  ·simp only [yi]; exact ⟨[], rfl, trivial⟩
  ·simp only [z0c, List.map_nil, zw]
   exact ⟨p, c, rfl, t1, t2, t3, by simp, by simpa using t5⟩
 have hpos : 0 < l.length := List.length_pos_iff.2 hl
 rcases t5 with ⟨e, _⟩ | ⟨b, arr, ty, cl, F', rfl, e1, e2, e3, e4, rfl, e5⟩
 ·exact absurd (by simpa using e) hl
 obtain ⟨hr, rfl⟩ := e4.areD (dM f l)
 have ⟨d, g1, g2⟩ := K2 (S := S) hsz l (fun _ q => q) hr
 have hblk := (Array.getElem?_eq_some_iff.1 e1).1
 obtain ⟨x0, hx0⟩ : ∃ x, x ∈ d := by
  cases d with
  | nil => exact absurd g1.symm hl
  | cons x _ => exact ⟨x, by simp⟩
 letI : Inhabited {p : List Value × α // Rep S (f p.2) p.1 ∧ p.2 ∈ l} := ⟨x0⟩
 let enc : {p : List Value × α // Rep S (f p.2) p.1 ∧ p.2 ∈ l} → List Value := fun p => p.1.1
 let c0 : α → α → Int := fun x y => (cmp x y).getD 0
 have hk : ∀ x, (enc x).length = k := fun x => (x.2.1.len).trans (hsz _)
 have h1 : ∀ x, ∀ v ∈ enc x, v.oneCell' = true := fun x => x.2.1.one
 have hswo : Sort.SWO (ltOf fun x y : {p : List Value × α // Rep S (f p.2) p.1 ∧ p.2 ∈ l} => c0 x.1.2 y.1.2) := by
  refine ⟨fun x => ?_, fun x y z q1 q2 => ?_, fun x y z q1 q2 => ?_⟩
  ·simpa [ltOf] using hO.1 _ x.2.2
  ·simp only [ltOf, decide_eq_true_eq] at q1 q2 ⊢
   exact hO.2.1 _ x.2.2 _ y.2.2 _ z.2.2 q1 q2
  ·simp only [ltOf, decide_eq_false_iff_not] at q1 q2 ⊢
   exact hO.ntr _ x.2.2 _ y.2.2 _ z.2.2 q1 q2
 have hdl : d.length = l.length := by have := congrArg List.length g1; simpa using this
 have hD0 : (Sort.flatK enc k d.toArray).toList = cl := by rw [Uu enc k hk]; exact g2
 have hszF : ∀ d' : Array {p : List Value × α // Rep S (f p.2) p.1 ∧ p.2 ∈ l}, d'.size = d.length → (Sort.flatK enc k d').size = l.length * k := fun d' q => by rw [Sort.size_flatK, q, hdl]
 have hle : l.length * k ≤ arr.size := Nat.le_trans (Nat.mul_le_mul_right _ t2) e2
 have hH2 : Sort.HoldsK enc k w b 0 d.toArray := by
  intro j hj
  have hj' : j < cl.length := by rw [← hD0]; simpa using hj
  have hget : (Sort.flatK enc k d.toArray)[j]! = cl[j] := by
   rw [getElem!_pos _ j hj]
   have : (Sort.flatK enc k d.toArray).toList[j]'(by simpa using hj) = cl[j] := by simp only [hD0]
   simpa using this
  have hcell : arr[j]? = some cl[j] := by
   obtain ⟨u, hu⟩ : ∃ u, u = cl[j] := ⟨_, rfl⟩
   have q : cl[j]? = some u := by rw [hu]; exact List.getElem?_eq_getElem hj'
   rw [← hu]
   clear hget hu
   subst e3
   rw [List.getElem?_take] at q
   split at q
   ·simpa using q
   ·cases q
  constructor
  ·simp only [World.cell?, e1, Option.isSome_none, Bool.false_eq_true, if_false, Nat.zero_add, id, hget]
   exact hcell
  ·simp [World.frozen?, e1]
 have hst : ∀ n (d' : Array {p : List Value × α // Rep S (f p.2) p.1 ∧ p.2 ∈ l}) os, y5 S (sortWorldK enc k w b 0 n d' os) := by
  refine fun n d' os => ⟨?_, hS.gok, hS.blk.of (fun _ _ _ q => q) fun g x e => KO enc k w b n d' os (hS.blk.lt e) (by rintro rfl; exact hS.blk.ne (e5 0) x e)⟩
  intro b' o' u hu
  have hne : b' ≠ b := by rintro rfl; rw [e5] at hu; cases hu
  have := hS b' o' u hu
  have hlt : b' < w.heap.size := by
   unfold zP at this
   cases hq : w.heap[b']? with
   | none => simp [hq] at this
   | some _ => exact (Array.getElem?_eq_some_iff.1 hq).1
  unfold zP at this ⊢
  rw [KO enc k w b n d' os hlt hne]
  exact this
 have heg : Enters P g := by
  have ⟨⟨fn', p1, p2, p3⟩, _⟩ := hc x0.1.2 x0.1.2 _ (hcmp _ x0.2.2 _ x0.2.2)
  cases hb : fn'.body with
  | none => simp [hb] at p3
  | some body => exact enters_of p1 p2 hb
 have hcall0 : ∀ (m : Nat) (os : Array Obj) (dk : Array {p : List Value × α // Rep S (f p.2) p.1 ∧ p.2 ∈ l}) (x y : {p : List Value × α // Rep S (f p.2) p.1 ∧ p.2 ∈ l}),
   Calls P g (#[zJ (f x.1.2) (enc x), zJ (f y.1.2) (enc y)] ++ cv.toArray) (sortWorldK enc k w b 0 m dk os) fun e w' => e = .returned (.int .i64 (c0 x.1.2 y.1.2)) ∧ ∃ q os', w' = Sort.grow ((sortWorldK enc k w b 0 m dk os).drewN q) os' := by
  intro m os dk x y
  have hcall := (hc x.1.2 y.1.2 _ (hcmp _ x.2.2 _ y.2.2)).2 S (sortWorldK enc k w b 0 m dk os) (zJ (f x.1.2) (enc x) :: zJ (f y.1.2) (enc y) :: cv) [] (hst _ _ _)
   (Ur ⟨⟨enc x, x.2.1, rfl⟩, ⟨enc y, y.2.1, rfl⟩, hcv⟩) List.nodup_nil
  have ea : (#[zJ (f x.1.2) (enc x), zJ (f y.1.2) (enc y)] ++ cv.toArray : Array Value) = (zJ (f x.1.2) (enc x) :: zJ (f y.1.2) (enc y) :: cv : List Value).toArray := by simp
  rw [ea]
  refine hcall.mono ?_
  rintro e w' ⟨v', S', F', rfl, b1, b2, b3, b4, b5, b6, b7⟩
  have hv : v' = .int .i64 (c0 x.1.2 y.1.2) := by
   rcases b5 with ⟨r, _⟩ | ⟨cs, r, _, r2⟩
   ·exact (zj.1 r).1
   ·simp only [zw, Rep] at r
    rw [r2, r.1.1]; rfl
  refine ⟨by rw [hv], z4x (b1.mono fun k hk => ?_)⟩
  simpa using hk
 have hsz62 : d.toArray.size < 4611686018427387904 := by
  simp only [List.size_toArray, hdl]
  omega
 have hcon : Calls P (ρ.f 6) #[.slice (some ⟨b, 0, none⟩) d.toArray.size c, .func (.func g) #[] cv.toArray] w fun e w' =>
   e = .returned (.tuple #[]) ∧ ∃ d' n os, Sort.PermIn 0 d.toArray.size d.toArray d' ∧ Sort.SortedIn (ltOf fun x y : {p : List Value × α // Rep S (f p.2) p.1 ∧ p.2 ∈ l} => c0 x.1.2 y.1.2) 0 d.toArray.size d' ∧ w' = sortWorldK enc k w b 0 n d' os := by
  cases ag with
  | true =>
   refine AnyQ.slices_SortFunc (P := P) (ρ := ρ) L k aE zE enc hk h1 (fun x y => c0 x.1.2 y.1.2) hswo g cv.toArray b 0 c d.toArray w heg ?_ hH2 hblk hsz62
   intro m os dk hs x y
   have q := hcall0 m os dk x y
   have hx : ∀ z : {p : List Value × α // Rep S (f p.2) p.1 ∧ p.2 ∈ l}, zJ (f z.1.2) (enc z) = .agg (enc z).toArray := by
    intro z
    have := hag z.1.2
    cases hz : f z.1.2 <;> simp [hz, A.isAgg] at this
    rfl
   rw [hx, hx] at q
   exact q
  | false =>
   have hk1' := hk1 rfl
   subst hk1'
   let e1 : {p : List Value × α // Rep S (f p.2) p.1 ∧ p.2 ∈ l} → Value := fun x => (enc x).headD undef
   have he : ∀ x, enc x = [e1 x] := by
    intro x
    have ⟨u, hu⟩ := List.length_eq_one_iff.1 (hk x)
    show enc x = [(enc x).headD undef]
    rw [hu]; rfl
   have hx : ∀ z : {p : List Value × α // Rep S (f p.2) p.1 ∧ p.2 ∈ l}, zJ (f z.1.2) (enc z) = e1 z := by
    intro z
    have := hag z.1.2
    cases hz : f z.1.2 <;> simp [hz, A.isAgg] at this <;> rfl
   refine (Any.slices_SortFunc (P := P) (ρ := ρ) { L with a24 := aE, z24 := zE } e1 (fun x => h1 x _ (by rw [he x]; simp)) (fun x y => c0 x.1.2 y.1.2) hswo g cv.toArray b 0 c d.toArray w heg ?_ (z4C he hH2) hblk hsz62).mono ?_
   ·intro m os dk hs x y
    have q := hcall0 m os dk x y
    rw [hx, hx] at q
    rw [z7H enc e1 he]
    exact q
   ·rintro e w' ⟨q1, d', n, os, q2, q3, q4⟩
    exact ⟨q1, d', n, os, q2, q3, by rw [q4, z7H enc e1 he]⟩
 have ea2 : (#[.slice (some ⟨b, 0, none⟩) l.length c, .func (.func g) #[] cv.toArray] : Array Value) = #[.slice (some ⟨b, 0, none⟩) d.toArray.size c, .func (.func g) #[] cv.toArray] := by simp only [List.size_toArray, hdl]
 rw [ea2]
 refine hcon.mono ?_
 rintro e w' ⟨rfl, d', n, os, hp, hs, rfl⟩
 have hds : d'.size = d.length := by simpa using hp.1
 have hperm : d'.toList.Perm d := by
  have := hp.2.2
  have e1 : d'.extract 0 d.toArray.size = d' := by rw [show d.toArray.size = d'.size by simp [hds]]; exact Array.extract_size
  rw [e1, Array.extract_size] at this
  simpa using this
 have hl' : d'.toList.map (fun p => p.1.2) = z0c c0 l := by
  refine z1k hO ?_ ?_
  ·exact (hperm.map _).trans (List.Perm.of_eq g1)
  ·rw [List.pairwise_map, List.pairwise_iff_getElem]
   intro i j hi hj hij
   have hi' : i < d'.size := by simpa using hi
   have hj' : j < d'.size := by simpa using hj
   have := hs i j (Nat.zero_le _) hij (by simpa [hds] using hj')
   rw [getElem!_pos d' j hj', getElem!_pos d' i hi'] at this
   simpa [ltOf] using this
 have hat := zcS enc k w b n d' os e1
 have hFs : (Sort.flatK enc k d').size = l.length * k := hszF d' hds
 have hlen : (z0c c0 l).length = l.length := (kY c0 l).length_eq
 refine ⟨.tuple #[], rfl, S, [], [b], ⟨rfl, rfl, rfl, Nat.le_add_right _ _, by rw [z8I]; omega, ?_⟩, fun _ _ _ q => q, fun _ _ _ _ => rfl, hst _ _ _, .inl ⟨?_, rfl⟩, ⟨[b], [], rfl, .inr ⟨[.slice (some ⟨b, 0, none⟩) l.length c], ?_, by simp, rfl⟩, rfl⟩, by simp, by simp⟩
 ·intro j hj
  simp only [not_or, Nat.not_le, List.mem_cons, List.not_mem_nil, or_false] at hj
  exact KO enc k w b n d' os hj.1 hj.2
 ·simp only [yi]; exact ⟨[], rfl, trivial⟩
 ·simp only [zw, List.length_map]
  refine ⟨some ⟨b, 0, none⟩, c, by rw [hlen], by rw [hlen]; exact t1, by rw [hlen]; exact t2, t3, ?_, .inr ⟨b, _, ty, (Sort.flatK enc k d').toList, [], rfl, hat, by rw [z02]; exact e2, ?_, ?_, rfl, e5⟩⟩
  ·intro x hx
   obtain ⟨y, _, rfl⟩ := List.mem_map.1 hx
   exact hsz y
  ·rw [hlen, ← hFs]
   exact z01 (by rw [hFs]; exact hle)
  ·have := (WK d'.toList).concs (sortWorldK enc k w b 0 n d' os).heap
   rw [hl'] at this
   rw [Uu enc k hk]
   exact this
def Zg (sz : Nat) (v : Value) (l : Int) : Value :=
 match v with
 | .slice a n c => .slice (if c = l.toNat then a else a.map (·.add (l.toNat * sz))) (n - l.toNat) (c - l.toNat)
 | v => v
theorem z78 {sz : Nat}  {l : Int} (h : v.oneCell' = true) : (Zg sz v l).oneCell' = true := by
 unfold Zg
 split
 ·rfl
 ·exact h
section
variable {C : Ctx} {S : zf} {Fp : Nat → List Nat} {st : St} {a : Act} {w : World}
theorem z03 {r : Nat} {er ec : Nat} {u : Value} (ha : wZ w.heap st (Act.tv a) r [] er ec u) {x0 : A} (hr : (st r).t = .own x0) (e1 : (st r).er = er) : u = Act.tv a r := by
 have a3 := ha.2.2
 simp [hr] at a3
 simp [Xw] at a3
 exact a3 e1
theorem VB (h : Sim C S Fp [] st a w) {r sz : Nat} {tg : Bool} {es : List A} (hr : (st r).t = .own (.osl sz tg es)) :
  ∃ p c, Act.tv a r = .slice p es.length c ∧ es.length ≤ c ∧ (∀ x ∈ es, x.size = sz) ∧ (0 < es.length → ∃ b, p = some ⟨b, 0, none⟩) := by
 have hq := h.ent r
 unfold yf at hq
 simp only [hr] at hq
 have ⟨cs, c1, c2, c3⟩ := hq
 simp only [zw] at c1
 obtain ⟨p, c, rfl, t1, t2, t3, t4, t5⟩ := c1
 refine ⟨p, c, by rw [c3]; rfl, t2, t4, fun hp => ?_⟩
 rcases t5 with ⟨rfl, _⟩ | ⟨b, arr, ty, l, F', rfl, _⟩
 ·simp at hp
 ·exact ⟨b, rfl⟩
open Classical in
def vwK (tt : TT) (n : Fr) (dst : Option Nat) (ty r : Nat) (v : Value) (tx : T) (vl : A) (e : Ent) : SM Unit :=
 match vl with
 | .atom (.int _ j) =>
  if (tx = .als r [] e.er e.ec ∨ tx = .d (.atom v)) ∧ ZW n.pin r = some v then
   match e.t with
   | .own (.osl sz _ es) => if ya tt ty = some sz ∧ 0 ≤ j ∧ j.toNat ≤ es.length then wrT n dst (.d (.atom (Zg sz v j))) else zm
   | _ => zm
  else zm
 | _ => zm
def vwO (tt : TT) (n : Fr) (dst : Option Nat) (ty r : Nat) (v : Value) (x lo : Operand) : SM Unit := do
 let tx ← opnd x
 let tl ← opnd lo
 let vl ← val tl
 let e ← rdE r
 vwK tt n dst ty r v tx vl e
def vwH (tt : TT) (n : Fr) (dst : Option Nat) (ty r : Nat) (v : Value) (x lo : Operand) : HM Unit := zH (opnd x) >>= fun tx => zH (opnd lo) >>= fun tl => Yx tl >>= fun vl => zH (rdE r) >>= fun e =>
 match vl with
 | .atom (.int _ j) => wy ((tx = .als r [] e.er e.ec ∨ tx = .d (.atom v)) ∧ ZW n.pin r = some v)
   (match e.t with
   | .own (.osl sz _ es) => if ya tt ty = some sz then wy (0 ≤ j ∧ j.toNat ≤ es.length) (zH (wrT n dst (.d (.atom (Zg sz v j))))) else zz
   | _ => zz)
 | _ => zz
open Classical in
theorem zfD (tt : TT) (n : Fr) (dst : Option Nat) (ty r : Nat) (v : Value) (x lo : Operand) : Snd (vwO tt n dst ty r v x lo) (vwH tt n dst ty r v x lo) := by
 refine z8 (ze _) fun tx => z8 (ze _) fun tl => z8 (wx _) fun vl => z8 (ze _) fun e => ?_
 cases vl with
 | atom u =>
  cases u with
  | int k j =>
   refine ym ?_
   cases e.t with
   | own y =>
    cases y with
    | osl sz tg es => exact W6 (fun h1 h2 => ⟨h1, h2.1, h2.2⟩) (ze _)
    | _ => exact zl _
   | _ => exact zl _
  | _ => exact zl _
 | _ => exact zl _
open Classical in
theorem Loc.vwO (tt : TT) (n : Fr) (dst : Option Nat) (ty r : Nat) (v : Value) (x lo : Operand) : Loc (vwO tt n dst ty r v x lo) := by
 unfold Go.Own.vwO
 refine Loc.bind (Loc.opnd _) fun _ => Loc.bind (Loc.opnd _) fun _ => Loc.bind (Loc.val _) fun _ => Loc.bind (Loc.rdE _) fun _ => ?_
 unfold Go.Own.vwK
 split
 ·refine Loc.ite ?_ Loc.fail
  split
  ·exact Loc.ite (Loc.wrT _ _ _) Loc.fail
  ·exact Loc.fail
 ·exact Loc.fail
theorem zcL {P : Program}  (hT : yH P tt) (h : Sim C S Fp [] st a w)  {t r : Nat} {v : Value} {x lo : Operand} (ho : o.op = .slice t x (some lo) none none)    (e0 : vwO tt C.n o.dst t r v x lo st = some (u, R, U)) : xz P C o a w (zb U st) := by
 unfold vwO at e0
 have ⟨tx, _, hx, e1⟩ := bR (zr h) e0
 have ⟨tl, _, hl, e2⟩ := bR (zr h) e1
 have ⟨vl, _, ql, e3⟩ := bR (xe h hl) e2
 have ⟨_, e4⟩ := bD e3
 unfold vwK at e4
 split at e4
 ·rename_i k j
  split at e4
  ·rename_i hc
   have ⟨c1, c2⟩ := hc
   have hs := h.pin r v (xu c2)
   cases ht : (st r).t with
   | own y =>
    cases y with
    | osl sz tg es =>
     simp only [ht] at e4
     split at e4
     ·rename_i hd
      have ⟨d1, d2, d3⟩ := hd
      have ⟨p, c, ev, hlc, _, _⟩ := VB h ht
      have hxv : a.eval x = .slice p es.length c := by
       rcases c1 with rfl | rfl
       ·rw [← ev]; exact z03 hx ht rfl
       ·rw [(zj.1 hx).1, ← hs, ev]
      have ⟨el, he, hsz⟩ := yu hT d1 w
      have ⟨el', _⟩ := zj.1 ql
      have hrun := vp (P := P) (w := w) he hsz (p := p) (len := es.length) (c := c) (m := c) (lo := some (.int k j)) (hi := none) (mx := none) (.inr ⟨k, j, rfl, d2, rfl⟩) (.inl ⟨rfl, rfl⟩) (.inl ⟨rfl, rfl⟩) d3 hlc (Nat.le_refl c) (by simp)
      have hvv : v = .slice p es.length c := by rw [← hs, ev]
      have ⟨Fp', hs'⟩ := yk h e4 (x := .d (.atom (Zg sz v j))) (v := Zg sz v j) (zj.2 ⟨rfl, by rw [hvv]; exact z78 rfl⟩)
      refine zi ?_ hs'
      rw [hvv]
      simp [execOp, ho, hxv, el', hrun, Zg]
     ·cases e4
    | _ => simp only [ht] at e4; cases e4
   | _ => simp only [ht] at e4; cases e4
  ·cases e4
 ·cases e4
open Classical in
def vlO (n : Fr) (dst : Option Nat) (sz r : Nat) (v : Value) (l : Int) (x : Operand) : SM Unit := do
 let tx ← opnd x
 let e ← rdE r
 if tx = .d (.atom (Zg sz v l)) ∧ ZW n.pin r = some v then
  match e.t with
  | .own (.osl _ _ es) => wrT n dst (.d (.atom (.int .i64 ((es.length - l.toNat : Nat) : Int))))
  | _ => zm
 else zm
def vlH (n : Fr) (dst : Option Nat) (sz r : Nat) (v : Value) (l : Int) (x : Operand) : HM Unit := zH (opnd x) >>= fun tx => zH (rdE r) >>= fun e => wy (tx = .d (.atom (Zg sz v l)) ∧ ZW n.pin r = some v)
  (match e.t with
  | .own (.osl _ _ es) => eqA (.atom (.int .i64 ((es.length - l.toNat : Nat) : Int))) >>= fun y => zH (wrT n dst (.d y))
  | _ => zz)
open Classical in
theorem zfE (n : Fr) (dst : Option Nat) (sz r : Nat) (v : Value) (l : Int) (x : Operand) : Snd (vlO n dst sz r v l x) (vlH n dst sz r v l x) := by
 refine z8 (ze _) fun tx => z8 (ze _) fun e => ym ?_
 cases e.t with
 | own y =>
  cases y with
  | osl sz tg es => exact Xe (zL _ fun y => wrT n dst (.d y)).symm (z8 (JJ _) fun _ => ze _)
  | _ => exact zl _
 | _ => exact zl _
open Classical in
theorem Loc.vlO (n : Fr) (dst : Option Nat) (sz r : Nat) (v : Value) (l : Int) (x : Operand) : Loc (vlO n dst sz r v l x) := by
 unfold Go.Own.vlO
 refine Loc.bind (Loc.opnd _) fun _ => Loc.bind (Loc.rdE _) fun _ => Loc.ite ?_ Loc.fail
 split
 ·exact Loc.wrT _ _ _
 ·exact Loc.fail
theorem zcM (hT : yH P tt) (h : Sim C S Fp [] st a w)  {t sz r : Nat}  {l : Int} {x : Operand} (hty : wb tt t = true) (ho : o.op = .call ⟨.builtin .len, ⟨[x]⟩, ⟨[t]⟩⟩)    (e0 : vlO C.n o.dst sz r v l x st = some (u, R, U)) : xz P C o a w (zb U st) := by
 unfold vlO at e0
 have ⟨tx, _, hx, e1⟩ := bR (zr h) e0
 have ⟨_, e4⟩ := bD e1
 split at e4
 ·rename_i hc
  obtain ⟨rfl, c2⟩ := hc
  have hs := h.pin r v (xu c2)
  cases ht : (st r).t with
  | own y =>
   cases y with
   | osl sz' tg es =>
    simp [ht] at e4
    have ⟨p, c, ev, hlc, _, _⟩ := VB h ht
    have hxv := (zj.1 hx).1
    have hvv : v = .slice p es.length c := by rw [← hs, ev]
    have ⟨el, he⟩ := uj hT hty
    have ⟨Fp', hs'⟩ := yk h e4 (x := .d (.atom (.int .i64 ((es.length - l.toNat : Nat) : Int)))) (zj.2 ⟨rfl, rfl⟩)
    refine zi ?_ hs'
    have ex : a.eval x = .slice (if c = l.toNat then p else p.map (·.add (l.toNat * sz))) (es.length - l.toNat) (c - l.toNat) := by rw [hxv, hvv]; rfl
    simp [execOp, ho, resolve, invoke, builtin, Builtin.len_, run_underlying he, ex, goInt]
   | _ => simp [ht] at e4; cases e4
  | _ => simp [ht] at e4; cases e4
 ·cases e4
open Classical in
def viO (tt : TT) (n : Fr) (dst : Option Nat) (ty sz r : Nat) (v : Value) (l : Int) (x i : Operand) : SM Unit := do
 let tx ← opnd x
 let ti ← opnd i
 let vi ← val ti
 let e ← rdE r
 match vi with
 | .atom (.int _ j) =>
  if tx = .d (.atom (Zg sz v l)) ∧ ZW n.pin r = some v then
   match e.t with
   | .own (.osl sz' _ es) => if ya tt ty = some sz ∧ sz' = sz ∧ 0 ≤ l ∧ 0 ≤ j ∧ (l + j).toNat < es.length then wrT n dst (.ptr r [.idx (l + j).toNat] e.er e.ec) else zm
   | _ => zm
  else zm
 | _ => zm
def viH (tt : TT) (n : Fr) (dst : Option Nat) (ty sz r : Nat) (v : Value) (l : Int) (x i : Operand) : HM Unit := zH (opnd x) >>= fun tx => zH (opnd i) >>= fun ti => Yx ti >>= fun vi => zH (rdE r) >>= fun e =>
 match vi with
 | .atom (.int _ j) => wy (tx = .d (.atom (Zg sz v l)) ∧ ZW n.pin r = some v)
   (match e.t with
   | .own (.osl sz' _ es) => if ya tt ty = some sz ∧ sz' = sz then wy (0 ≤ l ∧ 0 ≤ j ∧ (l + j).toNat < es.length) (zH (wrT n dst (.ptr r [.idx (l + j).toNat] e.er e.ec))) else zz
   | _ => zz)
 | _ => zz
open Classical in
theorem zfF (tt : TT) (n : Fr) (dst : Option Nat) (ty sz r : Nat) (v : Value) (l : Int) (x i : Operand) : Snd (viO tt n dst ty sz r v l x i) (viH tt n dst ty sz r v l x i) := by
 refine z8 (ze _) fun tx => z8 (ze _) fun ti => z8 (wx _) fun vi => z8 (ze _) fun e => ?_
 cases vi with
 | atom u =>
  cases u with
  | int k j =>
   refine ym ?_
   cases e.t with
   | own y =>
    cases y with
    | osl sz' tg es => exact W6 (fun h1 h2 => ⟨h1.1, h1.2, h2.1, h2.2.1, h2.2.2⟩) (ze _)
    | _ => exact zl _
   | _ => exact zl _
  | _ => exact zl _
 | _ => exact zl _
open Classical in
theorem Loc.viO (tt : TT) (n : Fr) (dst : Option Nat) (ty sz r : Nat) (v : Value) (l : Int) (x i : Operand) : Loc (viO tt n dst ty sz r v l x i) := by
 unfold Go.Own.viO
 refine Loc.bind (Loc.opnd _) fun _ => Loc.bind (Loc.opnd _) fun _ => Loc.bind (Loc.val _) fun _ => Loc.bind (Loc.rdE _) fun _ => ?_
 split
 ·refine Loc.ite ?_ Loc.fail
  split
  ·exact Loc.ite (Loc.wrT _ _ _) Loc.fail
  ·exact Loc.fail
 ·exact Loc.fail
theorem zcN {P : Program}  (hT : yH P tt) (h : Sim C S Fp [] st a w) {o : Oper} {t sz r : Nat}  {l : Int} {x i : Operand} (ho : o.op = .indexAddr t x i)    (e0 : viO tt C.n o.dst t sz r v l x i st = some (u, R, U)) : xz P C o a w (zb U st) := by
 unfold viO at e0
 have ⟨tx, _, hx, e1⟩ := bR (zr h) e0
 have ⟨ti, _, hi, e2⟩ := bR (zr h) e1
 have ⟨vi, _, qi, e3⟩ := bR (xe h hi) e2
 have ⟨_, e4⟩ := bD e3
 split at e4
 ·rename_i k j
  split at e4
  ·rename_i hc
   obtain ⟨rfl, c2⟩ := hc
   have hs := h.pin r v (xu c2)
   cases ht : (st r).t with
   | own y =>
    cases y with
    | osl sz' tg es =>
     simp only [ht] at e4
     split at e4
     ·rename_i hd
      obtain ⟨d1, rfl, d3, d4, d5⟩ := hd
      have hals : wZ w.heap st (Act.tv a) r [] (st r).er (st r).ec (Act.tv a r) := by
       refine ⟨Nat.le_refl _, Nat.le_refl _, ?_⟩
       simp [ht]
      have ⟨b, c, ev, hp⟩ := z2j h hals ht rfl (.inl rfl) rfl d5
      have ⟨e', he, hsz⟩ := yu hT d1 w
      have hp' : TOk S w.heap st (Act.tv a) (T.ptr r [uT.idx (l + j).toNat] (st r).er (st r).ec) (.pointer (some ⟨b, (l + j).toNat * sz', none⟩)) := hp
      have ⟨Fp', hs'⟩ := yk h e4 hp'
      have ⟨ei, _⟩ := zj.1 qi
      have hvv : v = .slice (some ⟨b, 0, none⟩) es.length c := by rw [← hs, ev]
      have ⟨p2, c2', ev2, hlc, _, _⟩ := VB h ht
      have hcc : es.length ≤ c := by
       rw [ev] at ev2
       simp only [Value.slice.injEq] at ev2
       rw [ev2.2.2]; exact hlc
      have hxv : a.eval x = .slice (some ⟨b, l.toNat * sz', none⟩) (es.length - l.toNat) (c - l.toNat) := by
       rw [(zj.1 hx).1, hvv]
       have : ¬ c = l.toNat := by omega
       simp [Zg, this, Addr.add_lit]
      have hsum : (l + j).toNat = l.toNat + j.toNat := by omega
      refine zi ?_ hs'
      have hrun := qL (P := P) (b := b) (o := l.toNat * sz') (n := es.length - l.toNat) (c := c - l.toNat) (k := k) he hsz d4 (by omega)
      have hoff : l.toNat * sz' + j.toNat * sz' = (l + j).toNat * sz' := by rw [hsum, Nat.add_mul]
      rw [hoff] at hrun
      simp [execOp, ho, ei, hxv, hrun]
     ·cases e4
    | _ => simp only [ht] at e4; cases e4
   | _ => simp only [ht] at e4; cases e4
  ·cases e4
 ·cases e4
end
end Go.Own
end
