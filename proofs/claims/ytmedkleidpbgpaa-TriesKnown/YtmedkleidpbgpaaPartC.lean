/- -/
import Derived.Test.YtmedkleidpbgpaaPartB
import Derived.LoopNIn
import Derived.IntWalk
import Derived.Shelf.SlSortCmp.NoneTotal
noncomputable section
set_option linter.unusedVariables false
set_option linter.unusedSimpArgs false
namespace Go.Own
def z97 (tt : TT) (n : Fr) (dst : Option Nat) (op : BinOp) (xt : Nat) (vx vy : A) : HM Unit :=
 match op with
 | .quo | .rem =>
  match vx, vy with
  | .atom (.int k a), .atom (.int k' b) => if k = k' then kG (b ≠ 0) (ya (wrT n dst (.d (.atom (.int k (match op with | .quo => k.wrap (a.tdiv b) | _ => a.tmod b)))))) else zA
  | _, _ => zA
 | _ => ya (ofO (z7O tt op xt vx vy) >>= fun r => wrT n dst (.d r))
theorem z8G (tt : TT) (n : Fr) (dst : Option Nat) (op : BinOp) (xt : Nat) (vx vy : A) : Snd (ofO (z7O tt op xt vx vy) >>= fun r => wrT n dst (.d r)) (z97 tt n dst op xt vx vy) := by
 have main : ∀ op, op = .quo ∨ op = .rem → Snd (ofO (z7O tt op xt vx vy) >>= fun r => wrT n dst (.d r)) (match vx, vy with
  | .atom (.int k a), .atom (.int k' b) => if k = k' then kG (b ≠ 0) (ya (wrT n dst (.d (.atom (.int k (match op with | .quo => k.wrap (a.tdiv b) | _ => a.tmod b)))))) else zA
  | _, _ => zA) := by
  intro op hop
  cases vx with
  | atom v =>
   cases v with
   | int k a =>
    cases vy with
    | atom u =>
     cases u with
     | int k' b =>
      dsimp only
      by_cases hk : k = k'
      ·rw [if_pos hk]
       refine Jf fun hb => ?_
       refine YI ?_ (zj _)
       rcases hop with rfl | rfl <;> simp [z7O, if_pos hk, z5l, if_neg hb] <;> exact zM _ _
      ·rw [if_neg hk]; exact zl _
     | _ => exact zl _
    | _ => exact zl _
   | _ => exact zl _
  | _ => exact zl _
 cases op with
 | quo => exact main _ (.inl rfl)
 | rem => exact main _ (.inr rfl)
 | _ => exact zj _
def z8K (n : Fr) (dst : Option Nat) (c x y : Operand) : HM Unit := ya (opnd c) >>= fun tc => VF tc >>= fun vc =>
 match vc with
 | .atom (.bool b) => z9c b >>= fun b => match b with | true => ya (opnd x >>= fun t => wrT n dst t) | false => ya (opnd y >>= fun t => wrT n dst t)
 | _ => zA
theorem z8D (n : Fr) (dst : Option Nat) (c x y : Operand) : Snd (z30 n dst c x y) (z8K n dst c x y) := by
 refine zb (zj _) fun tc => zb (k7 _) fun vc => ?_
 cases vc with
 | atom v =>
  cases v with
  | bool b =>
   refine YI (m' := pure b >>= fun b => match b with | true => (opnd x >>= fun t => wrT n dst t) | false => (opnd y >>= fun t => wrT n dst t)) ?_ (zb (z2N _) fun b => ?_)
   ·rw [zM]; cases b <;> rfl
   ·cases b <;> exact zj _
  | _ => exact zl _
 | _ => exact zl _
def KD (n : Fr) (dst : Option Nat) (x : Operand) : HM Unit := ya (opnd x) >>= fun y =>
 match y with
 | .d (.fn f cs) => ya (wrT n dst (.d (.fn f cs)))
 | y => VV y >>= fun q =>
  match q with
  | .inl _ => ya (wrT n dst y)
  | .inr (r, p, er, ec) => Qt r p er ec >>= fun _ => ya (wrT n dst y)
theorem z1W (n : Fr) (dst : Option Nat) (x : Operand) : Snd (nilCheckO n dst x) (KD n dst x) := by
 refine zb (zj _) fun y => ?_
 have main : ∀ y : T, Snd (ptrOf y >>= fun q => match q with
  | .inl _ => wrT n dst y
  | .inr (r, p, er, ec) => lookP r p er ec >>= fun _ => wrT n dst y) (VV y >>= fun q =>
  match q with
  | .inl _ => ya (wrT n dst y)
  | .inr (r, p, er, ec) => Qt r p er ec >>= fun _ => ya (wrT n dst y)) := by
  intro y
  refine zb (VO _) fun q => ?_
  rcases q with z | ⟨r, p, er, ec⟩
  ·exact zj _
  ·exact zb (Jg _ _ _ _) fun _ => zj _
 cases y with
 | d a =>
  cases a with
  | fn f cs => exact zj _
  | _ => exact main _
 | _ => exact main _
def Uy (dflt : Nat) : Option Operand → HM Nat
 | none => pure dflt
 | some x => ya (opnd x) >>= fun t => VF t >>= fun v =>
  match v with
  | .atom (.int _ j) => kG (0 ≤ j) (pure j.toNat)
  | _ => zA
theorem W5 (dflt : Nat) (x : Option Operand) : Snd (bound dflt x) (Uy dflt x) := by
 cases x with
 | none => exact w8 _
 | some x =>
  refine zb (zj _) fun t => zb (k7 _) fun v => ?_
  cases v with
  | atom v =>
   cases v with
   | int k j => exact uO (w8 _)
   | _ => exact zl _
  | _ => exact zl _
def z5Z (tt : TT) (n : Fr) (dst : Option Nat) (t : Nat) (x : Operand) (lo hi mx : Option Operand) : HM Unit := ya (opnd x) >>= fun y =>
 match y with
 | .d (.sl sz tg xs) =>
  if xH tt t = some sz then Uy 0 lo >>= fun l => Uy xs.length hi >>= fun h =>
   match mx with
   | none => kG (l ≤ h ∧ h ≤ xs.length) (eqA (.sl sz (tg && h == xs.length) ((xs.drop l).take (h - l))) >>= fun z => ya (wrT n dst (.d z)))
   | some _ => Uy 0 mx >>= fun m => if hi.isSome = true then kG (l ≤ h ∧ h ≤ m ∧ m ≤ xs.length) (eqA (.sl sz (m == h) ((xs.drop l).take (h - l))) >>= fun z => ya (wrT n dst (.d z))) else zA
  else zA
 | _ => zA
theorem z6W (tt : TT) (n : Fr) (dst : Option Nat) (t : Nat) (x : Operand) (lo hi mx : Option Operand) : Snd (sliceO tt n dst t x lo hi mx) (z5Z tt n dst t x lo hi mx) := by
 refine zb (zj _) fun y => ?_
 cases y with
 | d a =>
  cases a with
  | sl sz tg xs =>
   refine wX (zb (W5 _ _) fun l => zb (W5 _ _) fun h => ?_) (zl _)
   cases mx with
   | none =>
    refine uO ?_
    exact YI (zM _ fun z => wrT n dst (.d z)).symm (zb (Km _) fun _ => zj _)
   | some m =>
    refine zb (W5 _ _) fun m => V2 (fun h1 h2 => ⟨h2.1, h2.2.1, h2.2.2, h1⟩) ?_
    exact YI (zM _ fun z => wrT n dst (.d z)).symm (zb (Km _) fun _ => zj _)
  | _ => exact zl _
 | _ => exact zl _
def Qr (tt : TT) (n : Fr) (dst : Option Nat) (t : Nat) (l c : Operand) : HM Unit := ya (opnd l) >>= fun tl => VF tl >>= fun vl => ya (opnd c) >>= fun tc => VF tc >>= fun vc =>
 match vl, vc with
 | .atom (.int _ x), .atom (.int _ y) =>
  match tt t with
  | some ⟨.slice e, _, _, _, _⟩ =>
   match tt e with
   | some i =>
    match i.zero with
    | some z => if i.bytes ≤ 4096 then kG (0 ≤ x ∧ x ≤ y ∧ y ≤ lim) (eqA (.osl i.size (decide (x = y)) (List.replicate x.toNat z)) >>= fun r => ya (wrT n dst (.own r))) else zA
    | none => zA
   | none => zA
  | _ => zA
 | _, _ => zA
theorem z0o (tt : TT) (n : Fr) (dst : Option Nat) (t : Nat) (l c : Operand) : Snd (kY tt n dst t l c) (Qr tt n dst t l c) := by
 refine zb (zj _) fun tl => zb (k7 _) fun vl => zb (zj _) fun tc => zb (k7 _) fun vc => ?_
 cases vl with
 | atom v =>
  cases v with
  | int k x =>
   cases vc with
   | atom u =>
    cases u with
    | int k' y =>
     dsimp only
     generalize tt t = q
     rcases q with _ | ⟨k, a1, a2, a3, a4⟩
     ·exact zl _
     ·cases k with
      | slice e =>
       dsimp only
       generalize tt e = q
       cases q with
       | none => exact zl _
       | some i =>
        dsimp only
        cases i.zero with
        | none => exact zl _
        | some z =>
         refine V2 (fun h1 h2 => ⟨h2.1, h2.2.1, h2.2.2, h1⟩) ?_
         exact YI (zM _ fun z => wrT n dst (.own z)).symm (zb (Km _) fun _ => zj _)
      | _ => exact zl _
    | _ => exact zl _
   | _ => exact zl _
  | _ => exact zl _
 | _ => exact zl _
def Xa (tt : TT) (n : Fr) (dst : Option Nat) (t len : Nat) (ps : List (Nat × Operand)) : HM Unit :=
 match tt t with
 | some ⟨.slice e, _, _, _, _⟩ =>
  match tt e with
  | some i =>
   match i.zero with
   | some z => z0X (ps.map fun p => (p.2, e)) tt >>= fun xs =>
    if Uc (List.replicate len z) ((ps.map (·.1)).zip xs) = true ∧ len * i.size ≤ 16777216 ∧ len ≤ lim then
     ya (wrT n dst (.own (.osl i.size true (W4 (List.replicate len z) ((ps.map (·.1)).zip xs)))))
    else zA
   | none => zA
  | none => zA
 | _ => zA
theorem Kn (tt : TT) (n : Fr) (dst : Option Nat) (t len : Nat) (ps : List (Nat × Operand)) : Snd (q9 tt n dst t len ps) (Xa tt n dst t len ps) := by
 unfold q9 Xa
 generalize tt t = q
 rcases q with _ | ⟨k, a1, a2, a3, a4⟩
 ·exact zl _
 ·cases k with
  | slice e =>
   dsimp only
   generalize tt e = q
   cases q with
   | none => exact zl _
   | some i =>
    dsimp only
    cases i.zero with
    | none => exact zl _
    | some z => exact zb (z0m _ _) fun xs => wX (zj _) (zl _)
  | _ => exact zl _
def z3R (tt : TT) (n : Fr) (dst : Option Nat) (t : Nat) (ps : List (Nat × Operand)) : HM Unit :=
 match tt t with
 | some i =>
  match i.zero with
  | some (.agg zs) => z0X (ps.map fun p => (p.2, 0)) tt >>= fun xs =>
   if Uc zs ((ps.map (·.1)).zip xs) = true ∧ z1i tt t zs ((ps.map (·.1)).zip xs) = true ∧ i.kind.isAgg = true ∧ ((jL tt t 0).isSome = true ∨ Ul i.kind = true) then
    ya (wrT n dst (mkT (.agg (W4 zs ((ps.map (·.1)).zip xs)))))
   else zA
  | _ => zA
 | none => zA
theorem z7a (tt : TT) (n : Fr) (dst : Option Nat) (t : Nat) (ps : List (Nat × Operand)) : Snd (QD tt n dst t ps) (z3R tt n dst t ps) := by
 unfold QD z3R
 generalize tt t = q
 cases q with
 | none => exact zl _
 | some i =>
  dsimp only
  cases i.zero with
  | none => exact zl _
  | some z =>
   cases z with
   | agg zs => exact zb (z0m _ _) fun xs => wX (zj _) (zl _)
   | _ => exact zl _
def Ke (tt : TT) (ctr : Ctr) (n : Fr) (o : Oper) : HM Unit :=
 match o.op with
 | .assign x => ya (opnd x) >>= fun y =>
  match y with
  | .ptr r p er ec => ya (wrT n o.dst (.ptr r p er ec))
  | y => Xo tt o.type y >>= fun z => ya (wrT n o.dst (mkT z))
 | .binOp op xt x y _ => ya (opnd x) >>= fun tx => VF tx >>= fun vx => ya (opnd y) >>= fun ty => VF ty >>= fun vy => z97 tt n o.dst op xt vx vy
 | .unOp op _ x => ya (opnd x) >>= fun t => VF t >>= fun y => ya (ofO (unA op y) >>= fun r => wrT n o.dst (.d r))
 | .convert s t x => ya (opnd x) >>= fun y => VF y >>= fun v =>
  match v with
  | .atom (.int _ m) =>
   match tt s with
   | some _ =>
    match tt t with
    | some ⟨.int k, _, _, _, _⟩ => ya (wrT n o.dst (.d (.atom (.int k (k.wrap m)))))
    | _ => zA
   | none => zA
  | _ => zA
 | .pick c x y => z8K n o.dst c x y
 | .nilCheck x => KD n o.dst x
 | .slice t x lo hi mx => z5Z tt n o.dst t x lo hi mx
 | .load t x => ya (opnd x) >>= fun y => z6i tt n o.dst t y
 | .store t x v => if o.dst = none then ya (opnd x) >>= fun y => ya (opnd v) >>= fun z => z2D tt t y z else zA
 | .fieldAddr t x i => ya (opnd x) >>= fun y => Ut tt n o.dst t i y
 | .indexAddr t x i => ya (opnd x) >>= fun y => ya (opnd i) >>= fun ti => VF ti >>= fun vi =>
  if (z5P tt t).isSome = true then Qv tt n o.dst t y vi else Uo tt n o.dst t y vi
 | .box t x => ya (opnd x) >>= fun y => Xo tt t y >>= fun z =>
  match z with
  | .tup _ => zA
  | z => if z.isAgg = true ∨ z.size = 1 then ya (wrT n o.dst (.own (.box z))) else zA
 | .makeSlice t l c => Qr tt n o.dst t l c
 | .buildSlice t len ps => Xa tt n o.dst t len ps.toList
 | .build t ps => z3R tt n o.dst t ps.toList
 | .makeFunc (.func f) ⟨[]⟩ caps => vZ tt (caps.toList.map fun x => (x, 0)) >>= fun xs => if xs.all z0y = true then ya (wrT n o.dst (.d (.fn f xs))) else zA
 | .call ⟨.builtin .len, ⟨[x]⟩, ⟨[t]⟩⟩ => ya (opnd x) >>= fun y => z0u y >>= fun z => ya (ofO (lenOf z)) >>= fun m => if qp tt t = true then eqA (.atom (.int .i64 m)) >>= fun r => ya (wrT n o.dst (.d r)) else zA
 | .call ⟨.builtin .cap, ⟨[x]⟩, ⟨[t]⟩⟩ => ya (opnd x) >>= fun y => z0u y >>= fun z => ya (ofO (z5E z)) >>= fun m => if qp tt t = true then eqA (.atom (.int .i64 m)) >>= fun r => ya (wrT n o.dst (.d r)) else zA
 | .call ⟨.builtin .append, ⟨[s, x]⟩, ⟨[t, t']⟩⟩ => if t = t' then ya (opnd s) >>= fun ts => ya (opnd x) >>= fun tx => z0u tx >>= fun y =>
   match y with
   | .osl _ _ ys => z9c (A.areD ys) >>= fun b => match b with | true => Vx tt n o.dst t ts tx | false => Xc tt n o.dst t s x
   | _ => Vx tt n o.dst t ts tx
  else zA
 | .call ⟨.value f, args, tys⟩ => if args.size = tys.size then ya (opnd f) >>= fun tf => VF tf >>= fun vf => z3Q tt ctr n o.dst vf (args.toList.zip tys.toList) else zA
 | _ => ya (stepO tt ctr n o)
theorem z8F (tt : TT) (n : Fr) (dst : Option Nat) (s t : Nat) (v : A) : Snd (match v with
  | .atom (.int _ m) =>
   match tt s with
   | some _ =>
    match tt t with
    | some ⟨.int k, _, _, _, _⟩ => wrT n dst (.d (.atom (.int k (k.wrap m))))
    | _ => zn
   | none => zn
  | _ => zn : SM Unit) (match v with
  | .atom (.int _ m) =>
   match tt s with
   | some _ =>
    match tt t with
    | some ⟨.int k, _, _, _, _⟩ => ya (wrT n dst (.d (.atom (.int k (k.wrap m)))))
    | _ => zA
   | none => zA
  | _ => zA) := by
 cases v with
 | atom u =>
  cases u with
  | int k m =>
   dsimp only
   generalize tt s = q
   cases q with
   | none => exact zl _
   | some _ =>
    dsimp only
    generalize tt t = q
    rcases q with _ | ⟨k, a1, a2, a3, a4⟩
    ·exact zl _
    ·cases k <;> first | exact zj _ | exact zl _
  | _ => exact zl _
 | _ => exact zl _
theorem z0n (tt : TT) (ctr : Ctr) (n : Fr) (o : Oper) : Snd (stepO tt ctr n o) (Ke tt ctr n o) := by
 unfold stepO Ke
 cases ho : o.op with
 | move x => exact sdLift' ho
 | assign x =>
  refine zb (zj _) fun y => ?_
  cases y with
  | ptr r p er ec => exact zj _
  | _ => exact zb (YT _ _ _) fun z => zj _
 | binOp op xt x y yt => exact zb (zj _) fun tx => zb (k7 _) fun vx => zb (zj _) fun ty => zb (k7 _) fun vy => z8G _ _ _ _ _ _ _
 | unOp op xt x => exact zb (zj _) fun t => zb (k7 _) fun y => zj _
 | convert s t x => exact zb (zj _) fun y => zb (k7 _) fun v => z8F _ _ _ _ _ _
 | pick c x y => exact z8D _ _ _ _ _
 | extract x i => exact sdLift' ho
 | nilCheck x => exact z1W _ _ _
 | slice t x lo hi mx => exact z6W _ _ _ _ _ _ _ _
 | load t x => exact zb (zj _) fun y => z74 _ _ _ _ _
 | store t x v => exact wX (zb (zj _) fun y => zb (zj _) fun z => z4N _ _ _ _) (zl _)
 | fieldAddr t x i => exact zb (zj _) fun y => Kl _ _ _ _ _ _
 | indexAddr t x i => exact zb (zj _) fun y => zb (zj _) fun ti => zb (k7 _) fun vi => wX (z0p _ _ _ _ _ _) (Kk _ _ _ _ _ _)
 | alloc t => exact sdLift' ho
 | box t x =>
  refine zb (zj _) fun y => zb (YT _ _ _) fun z => ?_
  cases z <;> first | exact zl _ | exact wX (zj _) (zl _)
 | makeSlice t l c => exact z0o _ _ _ _ _ _
 | buildSlice t len ps => exact Kn _ _ _ _ _ _
 | build t ps => exact z7a _ _ _ _ _
 | makeFunc fn first caps =>
  cases fn with
  | func f =>
   have ⟨l⟩ := first
   cases l with
   | nil => exact zb (uX _ _) fun xs => wX (zj _) (zl _)
   | cons _ _ => exact sdLift' ho
  | _ => exact sdLift' ho
 | call c =>
  have ⟨callee, ⟨args⟩, ⟨tys⟩⟩ := c
  cases callee with
  | value f => exact wX (zb (zj _) fun tf => zb (k7 _) fun vf => z79 _ _ _ _ _ _) (zl _)
  | invoke r m => exact sdLift' ho
  | builtin b =>
   cases b with
   | len =>
    rcases args with _ | ⟨x, _ | ⟨y, l⟩⟩ <;> rcases tys with _ | ⟨t, _ | ⟨t', l'⟩⟩ <;> first | exact sdLift' ho | exact zb (zj _) fun y => zb (Qg _) fun z => zb (zj _) fun m => wX (YI (zM _ fun r => wrT n o.dst (.d r)).symm (zb (Km _) fun r => zj _)) (zl _)
   | cap =>
    rcases args with _ | ⟨x, _ | ⟨y, l⟩⟩ <;> rcases tys with _ | ⟨t, _ | ⟨t', l'⟩⟩ <;> first | exact sdLift' ho | exact zb (zj _) fun y => zb (Qg _) fun z => zb (zj _) fun m => wX (YI (zM _ fun r => wrT n o.dst (.d r)).symm (zb (Km _) fun r => zj _)) (zl _)
   | append =>
    rcases args with _ | ⟨x, _ | ⟨y, _ | ⟨z, l⟩⟩⟩ <;> rcases tys with _ | ⟨t, _ | ⟨t', _ | ⟨t'', l'⟩⟩⟩ <;> first | exact sdLift' ho | skip
    refine wX (zb (zj _) fun ts => zb (zj _) fun tx => zb (Qg _) fun w => ?_) (zl _)
    cases w with
    | osl sz tg ys =>
     dsimp only
     refine YI (m' := pure (A.areD ys) >>= fun b => match b with | true => appendA tt n o.dst t ts tx | false => appendOwnA tt n o.dst t x y) ?_ (zb (z2N _) fun b => ?_)
     ·rw [zM]
      cases A.areD ys <;> rfl
     ·cases b
      ·exact Ko _ _ _ _ _ _
      ·exact Kp _ _ _ _ _ _
    | _ => exact Kp _ _ _ _ _ _
   | _ => exact sdLift' ho
 | _ => exact sdLift' ho
where sdLift' {op : Op} {tt : TT} {ctr : Ctr} {n : Fr} {o : Oper} {m : SM Unit} (ho : o.op = op) (e : stepO tt ctr n o = m := by first | rfl | (unfold stepO; simp [ho])) : Snd m (ya (stepO tt ctr n o)) := e ▸ zj _
def z9Q (mx : Bool) : A → A → Option A
 | .atom (.int k a), .atom (.int k' b) => if k = k' then some (.atom (.int k (if mx = true then (if a < b then b else a) else (if b < a then b else a)))) else none
 | _, _ => none
def minO (n : Fr) (dst : Option Nat) (mx : Bool) (x y : Operand) : SM Unit := do
 let tx ← opnd x
 let vx ← val tx
 let ty ← opnd y
 let vy ← val ty
 let r ← ofO (z9Q mx vx vy)
 wrT n dst (.d r)
def cutO (tt : TT) (n : Fr) (dst : Option Nat) (t : Nat) (x hi : Operand) : SM Unit := do
 let y ← opnd x
 let z ← take y
 match z with
 | .osl sz _ es =>
  if xH tt t = some sz then (bound es.length (some hi) >>= fun h => if h ≤ es.length then wrT n dst (.own (.osl sz false (es.take h))) else zn)
  else zn
 | _ => zn
variable {P : Program}{U : List (Nat × Ent)}{R : List Nat}{tt : TT}{u : Unit}{S : zi}{o : Oper}{t : Nat}{xs : List A}{x y : Operand}{h : Array Obj}
section
variable {C : Ctx} {S : zi} {Fp : Nat → List Nat} {X : List Nat} {st : St} {a : Act} {w : World}
theorem z6f (h : Sim C S Fp [] st a w)  {mx : Bool} {x y : Operand} {t1 t2 : Nat} (ho : o.op = .call ⟨.builtin (if mx = true then .max else .min), ⟨[x, y]⟩, ⟨[t1, t2]⟩⟩)    (e : minO C.n o.dst mx x y st = some (u, R, U)) : ui P C o a w (zf U st) := by
 unfold minO at e
 have ⟨tx, _, hx, e1⟩ := bR (zz h) e
 have ⟨vx, _, qx, e2⟩ := bR (vU h hx) e1
 have ⟨ty, _, hy, e3⟩ := bR (zz h) e2
 have ⟨vy, _, qy, e4⟩ := bR (vU h hy) e3
 have ⟨r, _, hr, e5⟩ := bO e4
 unfold z9Q at hr
 split at hr
 ·split at hr
  ·rename_i hk
   simp [Option.some.injEq] at hr
   subst hr hk
   have ⟨ex, _⟩ := zr.1 qx
   have ⟨ey, _⟩ := zr.1 qy
   have ⟨Fp', hs⟩ := xY h e5 (x := .d _) (zr.2 ⟨rfl, rfl⟩)
   refine zm ?_ hs
   cases mx
   ·simp [execOp, ho, resolve, invoke, builtin, ex, ey, Builtin.min_, Builtin.min2]
   ·simp [execOp, ho, resolve, invoke, builtin, ex, ey, Builtin.max_, Builtin.max2]
  ·cases hr
 ·cases hr
theorem QA {cs : List Value} {F : List Nat} (q : zx S h xs cs F) (k : Nat) : ∃ F', zx S h (xs.take k) (cs.take (A.sizes (xs.take k))) F' ∧ (∀ b ∈ F', b ∈ F) ∧ (F.Nodup → F'.Nodup) := by
 induction xs generalizing cs F k with
 | nil =>
  simp only [zx] at q
  obtain ⟨rfl, rfl⟩ := q
  exact ⟨[], by simp [zx], by simp, by simp⟩
 | cons x xs ih =>
  cases k with
  | zero => exact ⟨[], by simp [zx, A.sizes], by simp, by simp⟩
  | succ k =>
   simp only [zx] at q
   obtain ⟨c1, c2, F1, F2, rfl, rfl, q1, q2⟩ := q
   have ⟨F', g1, g2, g3⟩ := ih q2 k
   refine ⟨F1 ++ F', ?_, ?_, ?_⟩
   ·simp only [List.take_succ_cons, zx, A.sizes]
    refine ⟨c1, c2.take (A.sizes (xs.take k)), F1, F', ?_, rfl, q1, g1⟩
    rw [List.take_append, q1.len, List.take_of_length_le (by rw [q1.len]; omega)]
    simp
   ·intro b hb
    rcases List.mem_append.1 hb with hb | hb
    ·simp [hb]
    ·simp [g2 b hb]
   ·intro hn
    rw [List.nodup_append] at hn ⊢
    refine ⟨hn.1, g3 hn.2.1, ?_⟩
    intro k hk k' hk'
    exact hn.2.2 k hk k' (g2 k' hk')
theorem z93 {P : Program}  (hT : wl P tt) (h : Sim C S Fp [] st a w)   {x hi : Operand} (ho : o.op = .slice t x none (some hi) none)    (e : cutO tt C.n o.dst t x hi st = some (u, R, U)) : ui P C o a w (zf U st) := by
 unfold cutO at e
 have ⟨y, _, hx, e1⟩ := bR (zz h) e
 obtain ⟨z, R3, U3, R4, U4, h3, e2, rfl, rfl⟩ := bind_some e1
 have ⟨Fp', F, g1, g2⟩ := QZ h hx h3
 rw [zw]
 cases z with
 | osl sz tg es =>
  simp only at e2
  split at e2
  ·rename_i hel
   have ⟨hh, _, b2, e3⟩ := bR (YC g1) e2
   split at e3
   ·rename_i hle
    have ⟨el, he, hsz⟩ := wT hT hel w
    obtain ⟨cs, k1, k2, k3⟩ : ∃ cs, zy S w.heap (.osl sz tg es) cs F ∧ F.Nodup ∧ a.eval x = zL (.osl sz tg es) cs := by
     rcases g2 with ⟨q, _⟩ | q
     ·simp only [yY, vw, Rep, false_and, exists_false] at q
     ·exact q
    simp only [zy] at k1
    obtain ⟨p, c, rfl, t1, t2, t3, t4, t5⟩ := k1
    have ev : a.eval x = .slice p es.length c := k3
    have hrun := jJ (P := P) (w := w) he hsz (p := p) (len := es.length) (c := c) (lo := none) (mx := none) (.inl ⟨rfl, rfl⟩) (YD b2) (.inl ⟨rfl, rfl⟩) (Nat.zero_le _) (by omega) (Nat.le_refl c) (by simp)
    have hp : (if c = 0 then p else p.map (·.add (0 * sz))) = p := by
     split
     ·rfl
     ·cases p <;> simp [Addr.add]
    rw [hp] at hrun
    have hlen : (es.take hh).length = hh := by simp; omega
    have ht4 : ∀ x ∈ es.take hh, x.size = sz := fun x hx => t4 x (List.mem_of_mem_take hx)
    obtain ⟨F2, cs2, m1, m2, m3, m4⟩ : ∃ F2 cs2, zy S w.heap (.osl sz false (es.take hh)) cs2 F2 ∧ F2.Nodup ∧ (∀ k ∈ F2, k ∈ F) ∧ zL (.osl sz false (es.take hh)) cs2 = .slice p hh c := by
     rcases t5 with ⟨rfl, rfl, rfl, rfl⟩ | ⟨b, arr, ty, l, F', rfl, e1, e2, e3, e4, rfl, e5⟩
     ·have : hh = 0 := by simp at hle; omega
      subst this
      refine ⟨[], [.slice none 0 0], ?_, by simp, by simp, rfl⟩
      simp only [zy]
      exact ⟨none, 0, by simp, by simp, by simp, Nat.zero_le _, by simp, .inl (by simp)⟩
     ·have ⟨F3, q1, q2, q3⟩ := QA e4 hh
      have hn := List.nodup_cons.1 k2
      refine ⟨b :: F3, [.slice (some ⟨b, 0, none⟩) hh c], ?_, List.nodup_cons.2 ⟨fun q => hn.1 (q2 b q), q3 hn.2⟩, ?_, rfl⟩
      ·simp only [zy]
       refine ⟨some ⟨b, 0, none⟩, c, by rw [hlen], by simp, by rw [hlen]; omega, t3, ht4, .inr ⟨b, arr, ty, _, F3, rfl, e1, e2, ?_, q1, rfl, e5⟩⟩
       rw [← e3, List.take_take, A.sizes_const ht4, hlen]
       congr 1
       have := Nat.mul_le_mul_right sz hle
       omega
      ·intro k hk
       rcases List.mem_cons.1 hk with rfl | hk
       ·simp
       ·simp [q2 k hk]
    have g1' : Sim C S Fp' (F2 ++ []) (zf U3 st) a w := g1.mem g1.below (fun _ _ _ h => h) g1.still.cell g1.sbase (fun t' k hk => ⟨rfl, (g1.free t' k hk).2.1⟩) (by simpa using m2) (fun t' k hk => g1.xd t' k (by simp at hk ⊢; exact m3 k hk)) (fun k hk => g1.xb k (by simp at hk ⊢; exact m3 k hk))
    have ⟨Fp'', hs⟩ := Y7 g1' e3 m1 m2
    rw [m4] at hs
    refine zm ?_ hs
    simp only [Nat.sub_zero] at hrun
    simp only [Option.map_some] at hrun
    simp [execOp, ho, ev, hrun]
   ·cases e3
  ·cases e2
 | _ => cases e2
end
variable {w : World}
theorem z4P (hT : wl P tt)  {y : A} (hf : jP tt t y = true) {w : World} {c1 cs c2 : List Value} (hl : cs.length = y.size) :
  (part t (c1 ++ cs ++ c2).toArray c1.length).run P w = .ok (zL y cs) w := by
 unfold jP at hf
 split at hf
 ·rename_i i hi
  simp only [Bool.and_eq_true, beq_iff_eq, Bool.or_eq_true] at hf
  have ⟨⟨h1, h2⟩, h3⟩ := hf
  have hk := Yg (hT t i hi).kind w
  unfold part
  simp only [Sem.run_bind, hk, Result.andThen_ok, Sem.run_ite]
  by_cases ha : i.kind.isAgg = true
  ·rw [if_pos ha]
   rw [h1] at ha
   cases y <;> simp [A.isAgg] at ha
   simp only [vj hT hi, Result.andThen_ok, h2, ← hl, Sem.run_pure, zL]
   congr 2
   simp [List.extract_eq_take_drop]
  ·rw [if_neg ha]
   have h4 : i.size = 1 := by simpa [ha] using h3
   have hlen : cs.length = 1 := by omega
   obtain ⟨c, rfl⟩ := List.length_eq_one_iff.1 hlen
   rw [h1] at ha
   have : ((c1 ++ [c] ++ c2).toArray)[c1.length]? = some c := by simp
   rw [this]
   cases y <;> simp_all [A.isAgg, zL]
 ·cases hf
def z9o (tt : TT) (t : Nat) : Option (Nat × Nat) :=
 match tt t with
 | some ⟨.array n e, _, _, _, _⟩ => some (n, e)
 | _ => none
def indexO (tt : TT) (n : Fr) (dst : Option Nat) (t : Nat) (x i : Operand) : SM Unit := do
 let tx ← opnd x
 let vx ← val tx
 let ti ← opnd i
 let vi ← val ti
 match vx, vi with
 | .agg fs, .atom (.int _ j) =>
  match z9o tt t with
  | some (m, e) => match fs[j.toNat]? with
   | some y => if 0 ≤ j ∧ j < (m : Int) ∧ jP tt e y = true ∧ y.isD = true ∧ (fs.take j.toNat).all (fun z => z.size == y.size) = true then wrT n dst (.d y) else zn
   | none => zn
  | none => zn
 | _, _ => zn
variable {st : St}{Fp : Nat → List Nat}{a : Act}{C : Ctx}
theorem z5m {P : Program}  (hT : wl P tt)      {w : World} (h : Sim C S Fp [] st a w)   {x i : Operand} (ho : o.op = .index t x i)    (e : indexO tt C.n o.dst t x i st = some (u, R, U)) : ui P C o a w (zf U st) := by
 unfold indexO at e
 have ⟨tx, _, hx, e1⟩ := bR (zz h) e
 have ⟨vx, _, qx, e2⟩ := bR (vU h hx) e1
 have ⟨ty, _, hy, e3⟩ := bR (zz h) e2
 have ⟨vy, _, qy, e4⟩ := bR (vU h hy) e3
 split at e4
 ·rename_i fs k j
  cases ha : z9o tt t with
  | none => simp only [ha] at e4; cases e4
  | some q =>
   have ⟨m, el⟩ := q
   simp only [ha] at e4
   cases hf : fs[j.toNat]? with
   | none => simp only [hf] at e4; cases e4
   | some y =>
    simp only [hf] at e4
    split at e4
    ·rename_i hc
     have ⟨c1, c2, c3, c4, c5⟩ := hc
     have hk : P.underlying t = some (.array m el) := by
      unfold z9o at ha
      split at ha
      ·rename_i ht; cases ha; exact (hT _ _ ht).kind
      ·cases ha
     obtain ⟨i', hi⟩ : ∃ i', tt el = some i' := by
      unfold jP at c3
      split at c3
      ·exact ⟨_, by assumption⟩
      ·cases c3
     have ⟨cs, r1, r2⟩ := (qx : vw S (.agg fs) (a.eval x))
     simp only [Rep] at r1
     obtain ⟨d1, ci, d2, rfl, hl, hr⟩ := Xu r1 hf
     have ei := (zr.1 qy).1
     have hsz : i'.size = y.size := by
      unfold jP at c3
      rw [hi] at c3
      simp only [Bool.and_eq_true, beq_iff_eq] at c3
      exact c3.1.2
     have hoff : d1.length = j.toNat * i'.size := by
      rw [hl, A.sizes_const (sz := y.size) (fun z hz => by simpa using List.all_eq_true.1 c5 z hz), List.length_take, hsz]
      congr 1
      have := (List.getElem?_eq_some_iff.1 hf).1
      omega
     have ⟨Fp', hs⟩ := xY h e4 (x := .d y) (vw.repV ⟨ci, hr, rfl⟩)
     refine zm ?_ hs
     have hp := z4P (P := P) hT c3 (w := w) (c1 := d1) (c2 := d2) hr.len
     rw [hoff] at hp
     have ex : a.eval x = .agg (d1 ++ ci ++ d2).toArray := r2
     simp only [execOp, ho, Instr.index, asIntOf, ei, ex, Sem.run_bind, Sem.run_pure, Result.andThen_ok, run_underlying hk, c1, c2, and_self, if_true, vj hT hi, hp]
    ·cases e4
 ·cases e4
def z86 (tt : TT) (n : Fr) (o : Oper) : Option (SM Unit) :=
 match o.op with
 | .call ⟨.builtin .min, ⟨[x, y]⟩, ⟨[_, _]⟩⟩ => some (minO n o.dst false x y)
 | .call ⟨.builtin .max, ⟨[x, y]⟩, ⟨[_, _]⟩⟩ => some (minO n o.dst true x y)
 | .index t x i => some (indexO tt n o.dst t x i)
 | _ => none
theorem Loc.indexO (tt : TT) (n : Fr) (dst : Option Nat) (t : Nat) (x i : Operand) : Loc (indexO tt n dst t x i) := by
 unfold Go.Own.indexO
 refine Loc.bind (Loc.opnd _) fun _ => Loc.bind (Loc.val _) fun _ => Loc.bind (Loc.opnd _) fun _ => Loc.bind (Loc.val _) fun _ => ?_
 split
 ·split
  ·split
   ·exact Loc.ite (Loc.wrT _ _ _) Loc.fail
   ·exact Loc.fail
  ·exact Loc.fail
 ·exact Loc.fail
theorem Loc.minO (n : Fr) (dst : Option Nat) (mx : Bool) (x y : Operand) : Loc (minO n dst mx x y) := by
 unfold Go.Own.minO
 exact Loc.bind (Loc.opnd _) fun _ => Loc.bind (Loc.val _) fun _ => Loc.bind (Loc.opnd _) fun _ => Loc.bind (Loc.val _) fun _ => Loc.bind (Loc.ofO _) fun _ => Loc.wrT _ _ _
theorem Loc.cutO (tt : TT) (n : Fr) (dst : Option Nat) (t : Nat) (x hi : Operand) : Loc (cutO tt n dst t x hi) := by
 unfold Go.Own.cutO
 refine Loc.bind (Loc.opnd _) fun _ => Loc.bind (Loc.take _) fun z => ?_
 cases z with
 | osl sz tg es => exact Loc.ite (Loc.bind (Loc.bound _ _) fun _ => Loc.ite (Loc.wrT _ _ _) Loc.fail) Loc.fail
 | _ => exact Loc.fail
theorem z7B (hT : wl P tt) : Q8 P (z86 tt) := by
 refine ⟨?_, ?_⟩
 ·intro C S Fp st a w o m u R U e h h2
  unfold z86 at e
  split at e
  ·rename_i ho; cases e; exact z6f (mx := false) h ho h2
  ·rename_i ho; cases e; exact z6f (mx := true) h ho h2
  ·rename_i ho; cases e; exact z5m hT h ho h2
  ·cases e
 ·intro n o m e
  unfold z86 at e
  split at e
  ·cases e; exact fun st st' a R U => Loc.minO _ _ _ _ _ st st' a R U
  ·cases e; exact fun st st' a R U => Loc.minO _ _ _ _ _ st st' a R U
  ·cases e; exact fun st st' a R U => Loc.indexO _ _ _ _ _ _ st st' a R U
  ·cases e
def Qz (tt : TT) (d : Nat) (n : Fr) (o : Oper) : Option (SM Unit) :=
 match o.op with
 | .slice t x none (some hi) none => if o.dst = some d then some (cutO tt n o.dst t x hi) else none
 | _ => none
theorem z3D (hT : wl P tt) (d : Nat) : Q8 P (Qz tt d) := by
 refine ⟨?_, ?_⟩
 ·intro C S Fp st a w o m u R U e h h2
  unfold Qz at e
  split at e
  ·rename_i ho
   split at e
   ·cases e; exact z93 hT h ho h2
   ·cases e
  ·cases e
 ·intro n o m e
  unfold Qz at e
  split at e
  ·split at e
   ·cases e; exact fun st st' a R U => Loc.cutO _ _ _ _ _ _ st st' a R U
   ·cases e
  ·cases e
structure XH (P : Program) where
 e : Fr → Oper → Option (SM Unit)
 h : Fr → Oper → Option (HM Unit)
 ok : Q8 P e
 none : ∀ n o, e n o = none → h n o = none
 some : ∀ n o m, e n o = some m → ∃ q, h n o = some q ∧ Snd m q
def XH.or (x y : XH P) : XH P := {
 e := fun n o => match x.e n o with | .some m => .some m | .none => y.e n o
 h := fun n o => match x.h n o with | .some m => .some m | .none => y.h n o
 ok := by
  refine ⟨?_, ?_⟩
  ·intro C S Fp st a w o m u R U e
   cases hx : x.e C.n o with
   | some m' => simp only [hx] at e; cases e; exact x.ok.1 C S Fp st a w o _ u R U hx
   | none => simp only [hx] at e; exact y.ok.1 C S Fp st a w o _ u R U e
  ·intro n o m e
   cases hx : x.e n o with
   | some m' => simp only [hx] at e; cases e; exact x.ok.2 n o _ hx
   | none => simp only [hx] at e; exact y.ok.2 n o _ e
 none := by
  intro n o e
  cases hx : x.e n o with
  | some m' => simp only [hx] at e; cases e
  | none => simp only [hx] at e; simp only [x.none n o hx]; exact y.none n o e
 some := by
  intro n o m e
  cases hx : x.e n o with
  | some m' =>
   simp only [hx] at e; cases e
   have ⟨q, h1, h2⟩ := x.some n o _ hx
   exact ⟨q, by simp only [h1], h2⟩
  | none =>
   simp only [hx] at e
   have ⟨q, h1, h2⟩ := y.some n o _ e
   exact ⟨q, by simp only [x.none n o hx]; exact h1, h2⟩ }
def z9P (n : Fr) (dst : Option Nat) (mx : Bool) (x y : Operand) : HM Unit := ya (opnd x) >>= fun tx => VF tx >>= fun vx => ya (opnd y) >>= fun ty => VF ty >>= fun vy => ya (ofO (z9Q mx vx vy) >>= fun r => wrT n dst (.d r))
theorem z8E (n : Fr) (dst : Option Nat) (mx : Bool) (x y : Operand) : Snd (minO n dst mx x y) (z9P n dst mx x y) :=
 zb (zj _) fun _ => zb (k7 _) fun _ => zb (zj _) fun _ => zb (k7 _) fun _ => zj _
def zaH (tt : TT) (n : Fr) (dst : Option Nat) (t : Nat) (x hi : Operand) : HM Unit := ya (opnd x) >>= fun y => z2w y >>= fun z =>
 match z with
 | .osl sz _ es => if xH tt t = some sz then Uy es.length (some hi) >>= fun h => kG (h ≤ es.length) (eqL (es.take h) >>= fun xs => ya (wrT n dst (.own (.osl sz false xs)))) else zA
 | _ => zA
theorem z9H (tt : TT) (n : Fr) (dst : Option Nat) (t : Nat) (x hi : Operand) : Snd (cutO tt n dst t x hi) (zaH tt n dst t x hi) := by
 refine zb (zj _) fun y => zb (z1a _) fun z => ?_
 cases z with
 | osl sz tg es =>
  refine wX (zb (W5 _ _) fun h => uO ?_) (zl _)
  exact YI (zM _ fun xs => wrT n dst (.own (.osl sz false xs))).symm (zb (z0r _) fun _ => zj _)
 | _ => exact zl _
def z6j (tt : TT) (n : Fr) (dst : Option Nat) (t : Nat) (x i : Operand) : HM Unit := ya (opnd x) >>= fun tx => VF tx >>= fun vx => ya (opnd i) >>= fun ti => VF ti >>= fun vi =>
 ya (match vx, vi with
 | .agg fs, .atom (.int _ j) =>
  match z9o tt t with
  | some (m, e) => match fs[j.toNat]? with
   | some y => if 0 ≤ j ∧ j < (m : Int) ∧ jP tt e y = true ∧ y.isD = true ∧ (fs.take j.toNat).all (fun z => z.size == y.size) = true then wrT n dst (.d y) else zn
   | none => zn
  | none => zn
 | _, _ => zn)
theorem z75 (tt : TT) (n : Fr) (dst : Option Nat) (t : Nat) (x i : Operand) : Snd (indexO tt n dst t x i) (z6j tt n dst t x i) :=
 zb (zj _) fun _ => zb (k7 _) fun _ => zb (zj _) fun _ => zb (k7 _) fun _ => zj _
def xB (hT : wl P tt) : XH P := {
 e := z86 tt
 h := fun n o => match o.op with
  | .call ⟨.builtin .min, ⟨[x, y]⟩, ⟨[_, _]⟩⟩ => some (z9P n o.dst false x y)
  | .call ⟨.builtin .max, ⟨[x, y]⟩, ⟨[_, _]⟩⟩ => some (z9P n o.dst true x y)
  | .index t x i => some (z6j tt n o.dst t x i)
  | _ => none
 ok := z7B hT
 none := by
  intro n o e
  unfold z86 at e
  split at e
  ·cases e
  ·cases e
  ·cases e
  ·rfl
 some := by
  intro n o m e
  unfold z86 at e
  split at e
  ·rename_i ho; cases e; exact ⟨_, by simp only, z8E _ _ _ _ _⟩
  ·rename_i ho; cases e; exact ⟨_, by simp only, z8E _ _ _ _ _⟩
  ·rename_i ho; cases e; exact ⟨_, by simp only, z75 _ _ _ _ _ _⟩
  ·cases e }
def zaT (hT : wl P tt) (d : Nat) : XH P := {
 e := Qz tt d
 h := fun n o => match o.op with
  | .slice t x none (some hi) none => if o.dst = some d then some (zaH tt n o.dst t x hi) else none
  | _ => none
 ok := z3D hT d
 none := by
  intro n o e
  unfold Qz at e
  split at e
  ·rename_i ho
   split at e
   ·cases e
   ·rename_i hd; simp [if_neg hd]
  ·rfl
 some := by
  intro n o m e
  unfold Qz at e
  split at e
  ·rename_i ho
   split at e
   ·rename_i hd; cases e; exact ⟨_, by simp [if_pos hd], z9H _ _ _ _ _ _⟩
   ·cases e
  ·cases e }
theorem z3y {ks : List Nat} {m : SM Unit} (hm : ∀ S Fp st, Sim C S Fp [] st a w → ∀ u R U, m st = some (u, R, U) → ui P C o a w (zf U st)) (h : Sim C S Fp [] st a w) {u : Unit} {R : List Nat} {U : List (Nat × Ent)}
  (e : (shutArgs (fun _ => none) (ks.map fun k => (.tmp k, 0)) >>= fun _ => m) st = some (u, R, U)) : ui P C o a w (zf U st) := by
 obtain ⟨xs, R1, U1, R2, U2, h1, e1, rfl, rfl⟩ := bind_some e
 have ⟨S1, Fp1, g1, _⟩ := wP h h1
 rw [zw]
 exact hm _ _ _ g1 _ _ _ e1
def zaC (d : Nat ⊕ Nat) (o : Oper) : Bool :=
 match d with
 | .inl d => o.dst == some d
 | .inr p => match o.op with | .store _ (.tmp q) _ => q == p | _ => false
def Uu (tt : TT) (d : Nat ⊕ Nat) (ks : List Nat) (n : Fr) (o : Oper) : Option (SM Unit) :=
 if zaC d o = true then some (shutArgs (fun _ => none) (ks.map fun k => (.tmp k, 0)) >>= fun _ => stepO tt UQ n o) else none
def wL (hT : wl P tt) (d : Nat ⊕ Nat) (ks : List Nat) : XH P := {
 e := Uu tt d ks
 h := fun n o => if zaC d o = true then some (vZ (fun _ => none) (ks.map fun k => (.tmp k, 0)) >>= fun _ => Ke tt UQ n o) else none
 ok := by
  refine ⟨?_, ?_⟩
  ·intro C S Fp st a w o m u R U e h h2
   unfold Uu at e
   split at e
   ·cases e
    exact z3y (fun S Fp st h u R U e => J9 hT (z0L P) h e) h h2
   ·cases e
  ·intro n o m e
   unfold Uu at e
   split at e
   ·cases e
    exact fun st st' a R U => Loc.bind (Loc.shutArgs _ _) (fun _ => Loc.stepO _ _ _ _) st st' a R U
   ·cases e
 none := by
  intro n o e
  unfold Uu at e
  split at e
  ·cases e
  ·rename_i hd; rw [if_neg hd]
 some := by
  intro n o m e
  unfold Uu at e
  split at e
  ·rename_i hd; cases e
   exact ⟨_, by rw [if_pos hd], zb (uX _ _) fun _ => z0n _ _ _ _⟩
  ·cases e }
def z10 (X : XH P) (tt : TT) (ctr : Ctr) (n : Fr) (o : Oper) : HM Unit :=
 match X.h n o with
 | some q => q
 | none => Ke tt (ctr.withE X.e) n o
theorem z2J (X : XH P) (tt : TT) (ctr : Ctr) (n : Fr) (o : Oper) : Snd (stepX tt (ctr.withE X.e) n o) (z10 X tt ctr n o) := by
 unfold stepX z10
 cases he : X.e n o with
 | none =>
  rw [X.none n o he]
  exact YI (by simp [he]) (z0n _ _ _ _)
 | some m =>
  have ⟨q, h1, h2⟩ := X.some n o m he
  rw [h1]
  exact YI (by simp [he]) h2
def z0k (X : XH P) (tt : TT) (ctr : Ctr) (n : Fr) (ops : Array Oper) (o : Oper) : HM Unit :=
 match o.guard with
 | none => z10 X tt ctr n o
 | some (j, want) =>
  match (ops[j]?).bind (·.dst) with
  | some g => ya (rdE g) >>= fun e =>
   match e.t with
   | .d (.atom (.bool b)) => z9c b >>= fun b => if b = want then z10 X tt ctr n o else ya (wrT n o.dst (.d (.tup [])))
   | .d (.tup []) => ya (wrT n o.dst (.d (.tup [])))
   | _ => zA
  | none => zA
def z6c : List H → List H
 | .op 0 :: hs => hs
 | .op (m + 1) :: hs => .op m :: hs
 | hs => hs
def z12 (X : XH P) (tt : TT) (ctr : Ctr) (n : Fr) (ops : Array Oper) (o : Oper) : HM Unit := fun st hs => z0k X tt ctr n ops o st (z6c hs)
theorem z4O (X : XH P) (tt : TT) (ctr : Ctr) (n : Fr) (ops : Array Oper) (o : Oper) : Snd (stepG tt (ctr.withE X.e) n ops o) (z0k X tt ctr n ops o) := by
 unfold stepG z0k
 cases o.guard with
 | none => exact z2J _ _ _ _ _
 | some q =>
  have ⟨j, want⟩ := q
  dsimp only
  cases (ops[j]?).bind (·.dst) with
  | none => exact zl _
  | some g =>
   refine zb (zj _) fun e => ?_
   have ⟨t, a, b⟩ := e
   cases t with
   | d x =>
    cases x with
    | atom v =>
     cases v with
     | bool b =>
      refine YI (m' := pure b >>= fun b => if b = want then stepX tt (ctr.withE X.e) n o else wrT n o.dst (.d (.tup []))) (zM _ _).symm ?_
      exact zb (z2N _) fun b => wX (z2J _ _ _ _ _) (zj _)
     | _ => exact zl _
    | tup l =>
     cases l with
     | nil => exact zj _
     | cons _ _ => exact zl _
    | _ => exact zl _
   | _ => exact zl _
theorem z2K (X : XH P) (tt : TT) (ctr : Ctr) (n : Fr) (ops : Array Oper) (o : Oper) : Snd (stepG tt (ctr.withE X.e) n ops o) (z12 X tt ctr n ops o) :=
 fun st hs a R U hs' ob e ho => z4O X tt ctr n ops o st (z6c hs) a R U hs' ob e ho
abbrev Lg := List (List Nat × List Nat)
def z2I (X : XH P) (tt : TT) (ctr : Ctr) (n : Fr) (ops : Array Oper) : List Oper → St → List H → Option (St × List H × List Prop × Lg)
 | [], st, hs => some (st, hs, [], [])
 | o :: os, st, hs =>
  match z12 X tt ctr n ops o st hs with
  | none => none
  | some (_, R, U, hs', ob) =>
   match z2I X tt ctr n ops os (zf U st) hs' with
   | none => none
   | some (st', hs'', ob', lg) => some (st', hs'', ob ++ ob', (R, U.map (·.1)) :: lg)
variable {ops : Array Oper}
section
variable {P : Program} {X : XH P} {tt : TT} {ctr : Ctr} {n : Fr}
theorem z18 {K : St → Prop} : ∀ (l : List Oper) (st : St) (hs : List H) {st' : St} {hs' : List H} {ob : List Prop} {lg : Lg}, z2I X tt ctr n ops l st hs = some (st', hs', ob, lg) → Q9 ob → K st' → z80 tt (ctr.withE X.e) n ops l st K
 | [], st, hs, st', hs', ob, lg, e, ho, hk => by
  simp only [z2I, Option.some.injEq, Prod.mk.injEq] at e
  obtain ⟨rfl, _⟩ := e
  exact hk
 | o :: os, st, hs, st', hs', ob, lg, e, ho, hk => by
  simp only [z2I] at e
  cases e1 : z12 X tt ctr n ops o st hs with
  | none => simp only [e1] at e; cases e
  | some q =>
   have ⟨u, R, U, hs1, ob1⟩ := q
   simp only [e1] at e
   cases e2 : z2I X tt ctr n ops os (zf U st) hs1 with
   | none => simp only [e2] at e; cases e
   | some q =>
    have ⟨st2, hs2, ob2, lg2⟩ := q
    simp only [e2, Option.some.injEq, Prod.mk.injEq] at e
    obtain ⟨rfl, rfl, rfl, rfl⟩ := e
    have ⟨o1, o2⟩ := yp ho
    simp only [z80, z81]
    rw [z2K X tt ctr n ops o _ _ _ _ _ _ _ e1 o1]
    exact z18 os _ _ e2 o2 hk
theorem Ki {K : St → Prop} : ∀ (l : List Oper) (st : St) (hs : List H) (logs : Lg) {st' : St} {hs' : List H} {ob : List Prop} {lg : Lg}, z2I X tt ctr n ops l st hs = some (st', hs', ob, lg) → Q9 ob → Uv ops.toList (logs ++ lg) = true → K st' → z2c tt (ctr.withE X.e) n ops l st logs K
 | [], st, hs, logs, st', hs', ob, lg, e, ho, hd, hk => by
  simp only [z2I, Option.some.injEq, Prod.mk.injEq] at e
  obtain ⟨rfl, _, _, rfl⟩ := e
  exact ⟨by simpa using hd, hk⟩
 | o :: os, st, hs, logs, st', hs', ob, lg, e, ho, hd, hk => by
  simp only [z2I] at e
  cases e1 : z12 X tt ctr n ops o st hs with
  | none => simp only [e1] at e; cases e
  | some q =>
   have ⟨u, R, U, hs1, ob1⟩ := q
   simp only [e1] at e
   cases e2 : z2I X tt ctr n ops os (zf U st) hs1 with
   | none => simp only [e2] at e; cases e
   | some q =>
    have ⟨st2, hs2, ob2, lg2⟩ := q
    simp only [e2, Option.some.injEq, Prod.mk.injEq] at e
    obtain ⟨rfl, rfl, rfl, rfl⟩ := e
    have ⟨o1, o2⟩ := yp ho
    simp only [z2c, z81]
    rw [z2K X tt ctr n ops o _ _ _ _ _ _ _ e1 o1]
    exact Ki os _ _ _ e2 o2 (by simpa using hd) hk
end
inductive Fm where
 | seq (y : Code)
 | blk (id : Nat)
 | pre (J : St → Prop)
 | rnd (m : Nat) (c : Code)
def z8c (P : Program) (n : Fr) (c : Code) : Nat → St → (Exit → St → Prop) → Prop
 | 0, _, _ => False
 | m + 1, st, Q => AWP P n c st (z0h (fun st' => z8c P n c m st' Q) Q)
variable {Q : Exit → St → Prop}{c : Code}{n : Fr}
theorem z8c.loop : ∀ (m : Nat) (st : St), z8c P n c m st Q → AWP P n (.loop c) st Q := by
 intro m st h rd mm df w0 S0 M S Fp a w hc hs
 refine wpIn_loop_rounds m ?_
 have gen : ∀ (m : Nat) (st : St) (df' : List Nat) (S : zi) (Fp : Nat → List Nat) (a : Act) (w : World), z8c P n c m st Q → Sim ⟨n, df', w0, S0, M⟩ S Fp [] st a w → uQ df M df' Fp w → Code.roundsIn (fen rd) mm P c (z4l n df w0 S0 M Q) m a w := by
  intro m
  induction m with
  | zero => intro st df' S Fp a w h _ _; exact h.elim
  | succ m ih =>
   intro st df' S Fp a w h hs hd
   refine wpIn_mono (AWP.go h hc hs hd) ?_
   intro e a' w' hp
   cases e with
   | normal =>
    have ⟨df2, st2, S2, Fp2, h1, h2, h3⟩ := hp
    exact ih st2 df2 S2 Fp2 a' w' h3 h1 h2
   | _ => exact hp.next fun _ q => q
 exact gen m st df S Fp a w h hs (hc.post hs)
def Qf (P : Program) (n : Fr) : List Fm → (Exit → St → Prop) → Exit → St → Prop
 | [], Q => Q
 | .seq y :: fs, Q => z0h (fun st => AWP P n y st (Qf P n fs Q)) (Qf P n fs Q)
 | .blk id :: fs, Q => QE id (Qf P n fs Q)
 | .pre J :: fs, Q => z0h J (Qf P n fs Q)
 | .rnd m c :: fs, Q => z0h (fun st => z8c P n c m st (Qf P n fs Q)) (Qf P n fs Q)
inductive z2o where
 | fin (e : Exit)
 | back (J : St → Prop)
 | at (c : Code) (fs : List Fm)
def z2o.sem (P : Program) (n : Fr) (Q : Exit → St → Prop) : z2o → St → Prop
 | .fin e, st => Q e st
 | .back J, st => J st
 | .at c fs, st => AWP P n c st (Qf P n fs Q)
inductive Nxt where
 | go (y : Code) (fs : List Fm)
 | stop (s : z2o)
 | none
def unw : List Fm → Nxt
 | [] => .stop (.fin .normal)
 | .seq y :: fs => .go y fs
 | .blk _ :: fs => unw fs
 | .pre J :: _ => .stop (.back J)
 | .rnd (m + 1) c :: fs => .go c (.rnd m c :: fs)
 | .rnd 0 _ :: _ => .none
def z08 (id : Nat) : List Fm → Option (List Fm)
 | [] => none
 | .blk i :: fs => if id = i then some fs else z08 id fs
 | .seq _ :: fs => z08 id fs
 | .pre _ :: fs => z08 id fs
 | .rnd _ _ :: fs => z08 id fs
abbrev z4k := Option (z2o × St × List H × List Prop)
def z87 (ob : List Prop) : z4k → z4k
 | none => none
 | some (s, st, hs, ob') => some (s, st, hs, ob ++ ob')
def goN (rec : Code → List Fm → St → List H → z4k) (x : Nxt) (st : St) (hs : List H) : z4k :=
 match x with
 | .go y fs => rec y fs st hs
 | .stop s => some (s, st, hs, [])
 | .none => none
def z4M (k : Nat) : SM Unit := do
 let y ← opnd (.tmp k)
 let q ← ptrOf y
 match q with
 | .inr (r, p, er, ec) => do
  let _ ← lookP r p er ec
  let _ ← shutT (fun _ => none) 0 (.als r p er ec)
  pure ()
 | .inl _ => zn
def z4K (k : Nat) : SM Unit := do
 let e ← rdE k
 match e.t with
 | .own (.osl sz t es) => if A.lives es = true then wrE k ⟨.own (.osl sz t (A.shuts es)), e.er, e.ec + 1⟩ else zn
 | _ => zn
def z5k : T → Bool
 | .own (.osl _ _ _) => true
 | _ => false
def sealX (k : Nat) : SM Unit := do
 let e ← rdE k
 if z5k e.t = true then z4K k else z4M k
def z19 : List Nat → SM Unit
 | [] => pure ()
 | k :: ks => do
  sealX k
  z19 ks
def z62 (k : Nat) : HM Unit :=
 ya (opnd (.tmp k)) >>= fun y => ya (ptrOf y) >>= fun q =>
 match q with
 | .inr (r, p, er, ec) => ya (lookP r p er ec) >>= fun _ => Qb (fun _ => none) 0 (.als r p er ec) >>= fun _ => pure ()
 | .inl _ => zA
def z61 (k : Nat) : HM Unit :=
 ya (rdE k) >>= fun e =>
 match e.t with
 | .own (.osl sz t es) => z5n >>= fun es' => kG (A.lives es = true ∧ A.shuts es = es') (ya (wrE k ⟨.own (.osl sz t es'), e.er, e.ec + 1⟩))
 | _ => zA
def z60 (k : Nat) : HM Unit := ya (rdE k) >>= fun e => if z5k e.t = true then z61 k else z62 k
def Je : List Nat → HM Unit
 | [] => pure ()
 | k :: ks => z60 k >>= fun _ => Je ks
theorem z72 (k : Nat) : Snd (z4M k) (z62 k) :=
 zb (zj _) fun y => zb (zj _) fun q => by
  cases q with
  | inl _ => exact zl _
  | inr q =>
   have ⟨r, p, er, ec⟩ := q
   exact zb (zj _) fun _ => zb (Yf _ _ _) fun _ => w8 _
theorem z71 (k : Nat) : Snd (z4K k) (z61 k) := by
 refine zb (zj _) fun e => ?_
 have ⟨t, er, ec⟩ := e
 cases t with
 | own x =>
  cases x with
  | osl sz tg es =>
   intro st hs b R U hs' ob e ho
   obtain ⟨es', R1, U1, hs1, ob1, R2, U2, ob2, e1, e2, rfl, rfl, rfl⟩ := Yl e
   unfold z5n at e1
   split at e1
   ·cases e1
    have ⟨⟨q1, q2⟩, ob', e3, o3⟩ := Jp e2 (yp ho).2
    subst q2
    dsimp only
    rw [if_pos q1]
    exact zj _ _ _ _ _ _ _ _ e3 o3
   ·cases e1
  | _ => exact zl _
 | _ => exact zl _
theorem z6Z (k : Nat) : Snd (sealX k) (z60 k) := zb (zj _) fun e => wX (z71 k) (z72 k)
theorem z1b : ∀ ks, Snd (z19 ks) (Je ks)
 | [] => w8 _
 | k :: ks => zb (z6Z k) fun _ => z1b ks
variable {k : Nat}
theorem z4J (h : Sim C S Fp [] st a w)     (e : z4K k st = some (u, R, U)) : ∃ S' Fp', Sim C S' Fp' [] (zf U st) a w := by
 unfold z4K at e
 have ⟨_, e1⟩ := bD e
 have hno : ∀ x, (st k).t = x → z5k x = false → False := by
  intro x hx hn
  rw [hx] at e1
  cases x with
  | own y => cases y <;> first | exact vh e1 | (simp [z5k] at hn)
  | _ => exact vh e1
 have hyes : ∃ sz t es, (st k).t = .own (.osl sz t es) := by
  cases hx : (st k).t with
  | own y => cases y <;> first | exact ⟨_, _, _, rfl⟩ | exact (hno _ hx rfl).elim
  | _ => exact (hno _ hx rfl).elim
 have ⟨sz, t, es, ht⟩ := hyes
 rw [ht] at e1
 dsimp only at e1
 split at e1
 ·rename_i hl
  cases e1
  have hr := h.ent k
  unfold yG at hr
  simp only [ht] at hr
  have ⟨cs, q, q1, q2⟩ := hr
  simp only [zy] at q
  obtain ⟨p, c, rfl, d1, d2, d3, d4, d5⟩ := q
  simp only [zf]
  rcases d5 with ⟨rfl, rfl, rfl, hF0⟩ | ⟨b, arr, ty, l, F1, rfl, e1, e2, e3, e4, hF0, e5⟩
  ·exact ⟨S, Zh Fp k [], h.change k (.own (.osl sz t (A.shuts []))) _ _ [] h.below (fun _ _ _ q => q) h.still.cell h.sbase (fun t' k' hk hk' => ⟨rfl, (h.free t' k' hk').2.1⟩)
    ⟨⟨_, by simp only [zy]; exact ⟨none, 0, rfl, fun _ => rfl, Nat.le_refl _, Nat.zero_le _, by simp [A.shuts], .inl (by simp [A.shuts])⟩, by simp, by rw [q2]; rfl⟩, _, ht⟩ (.inl ⟨_, ht⟩) (Nat.le_refl _) (Nat.lt_succ_self _) (by simp) (by simp) h.xn (fun t k _ hk => h.xd t k hk) (by simp) h.xb⟩
  ·have hF7 : ∀ q ∈ F1, q ∈ Fp k := fun q hq => by rw [hF0]; exact List.mem_cons_of_mem _ hq
   have ⟨m1, m2, m3, m4⟩ := Yi h hF7
   have hrs := zx.shut (S' := zB S w.heap F1) m1 e4 hl (fun k hk o => by unfold zB; rw [if_pos hk])
   have hlen : (A.shuts es).length = es.length := by simp [A.shuts_eq]
   have hb : b ∉ F1 := by rw [hF0] at q1; exact (List.nodup_cons.1 q1).1
   have hbk : b ∈ Fp k := by rw [hF0]; exact List.mem_cons_self
   refine ⟨zB S w.heap F1, Zh Fp k [b], h.change k (.own (.osl sz t (A.shuts es))) _ _ [b] h.below m1 m2 m3 ?_ ⟨⟨_, ?_, by simp, by rw [q2]; rfl⟩, _, ht⟩ (.inl ⟨_, ht⟩) (Nat.le_refl _) (Nat.lt_succ_self _) ?_ ?_ h.xn (fun t k _ hk => h.xd t k hk) (by simp) h.xb⟩
   ·intro t' k' hk hk'
    refine ⟨rfl, fun o => ?_⟩
    rw [m4 k' (fun hF => hk (h.disj t' k k' hk' (hF7 k' hF)))]
    exact (h.free t' k' hk').2.1 o
   ·simp only [zy]
    refine ⟨some ⟨b, 0, none⟩, c, by rw [hlen], fun ht => by rw [hlen]; exact d1 ht, by rw [hlen]; exact d2, d3, ?_, .inr ⟨b, arr, ty, _, [], rfl, e1, e2, by rw [hlen]; exact e3, yc.concs _ hrs, rfl, ?_⟩⟩
    ·intro x hx
     rw [A.shuts_eq] at hx
     obtain ⟨y, hy, rfl⟩ := List.mem_map.1 hx
     rw [A.size_shut]
     exact d4 y hy
    ·intro o
     rw [m4 b hb]
     exact e5 o
   ·intro t' k' hk hk' hk2
    simp only [List.mem_cons, List.not_mem_nil, or_false] at hk'
    subst hk'
    exact hk (h.disj t' k _ hk2 hbk)
   ·intro k' hk'
    simp only [List.mem_cons, List.not_mem_nil, or_false] at hk'
    subst hk'
    exact h.base k _ hbk
 ·cases e1
theorem z4L (h : Sim C S Fp [] st a w)     (e : z4M k st = some (u, R, U)) : ∃ S' Fp', Sim C S' Fp' [] (zf U st) a w := by
 unfold z4M at e
 obtain ⟨y, R1, U1, R2, U2, h1, e1, rfl, rfl⟩ := bind_some e
 obtain ⟨rfl, hx⟩ := zz h h1
 obtain ⟨q, R3, U3, R4, U4, h3, e2, rfl, rfl⟩ := bind_some e1
 obtain ⟨rfl, hq⟩ := Yx h hx h3
 simp only [zf, List.nil_append] at e2 ⊢
 split at e2
 ·rename_i r p er ec
  obtain ⟨z, R7, U7, R8, U8, h7, e4, rfl, rfl⟩ := bind_some e2
  obtain ⟨rfl, x0, k1, k2, k3, k4⟩ := Yz h7
  simp only [zf, List.nil_append] at e4 ⊢
  obtain ⟨z2, R9, U9, R10, U10, h9, e5, rfl, rfl⟩ := bind_some e4
  obtain ⟨_, _, rfl⟩ := vF e5
  have ⟨b, o', arr, ty, csy, Fy, cs, ev, o1, f2, f3, f4, f5, f6, f7, f8, f9, f10, f11, _⟩ := Xv h hq k1 k2 k3 k4
  have hals : TOk S w.heap st (Act.tv a) (.als r p er ec) (zL z csy) := ⟨by omega, by omega, by
   simp only [k1]
   exact fun _ _ => .inr ⟨o1, z, b, o', csy, k4, f11, f4.len, Jd f2 f3, rfl⟩⟩
  have ⟨S', Fp', g1, _⟩ := Xp h hals h9
  exact ⟨S', Fp', by simpa using g1⟩
 ·cases e2
theorem z4I (h : Sim C S Fp [] st a w)     (e : sealX k st = some (u, R, U)) : ∃ S' Fp', Sim C S' Fp' [] (zf U st) a w := by
 unfold sealX at e
 have ⟨_, e1⟩ := bD e
 split at e1
 ·exact z4J h e1
 ·exact z4L h e1
theorem Kj : ∀ {ks : List Nat} {S : zi} {Fp : Nat → List Nat} {st : St}, Sim C S Fp [] st a w → ∀ {u : Unit} {R : List Nat} {U : List (Nat × Ent)}, z19 ks st = some (u, R, U) → ∃ S' Fp', Sim C S' Fp' [] (zf U st) a w
 | [], S, Fp, st, h, u, R, U, e => by
  obtain ⟨_, rfl, rfl⟩ := vF e
  exact ⟨S, Fp, h⟩
 | k :: ks, S, Fp, st, h, u, R, U, e => by
  simp [z19] at e
  obtain ⟨_, R1, U1, R2, U2, h1, e1, rfl, rfl⟩ := bind_some e
  have ⟨S1, Fp1, g1⟩ := z4I h h1
  rw [zw]
  exact Kj g1 e1
def zaV : List H → List H
 | .n (m + 1) ks :: hs => .n m ks :: hs
 | .v (m + 1) ks :: hs => .v m ks :: hs
 | .stp (m + 1) :: hs => .stp m :: hs
 | hs => hs
def Ja (rec : Code → List Fm → St → List H → z4k) (X : XH P) (tt : TT) (ctr : Ctr) (n : Fr) (c : Code) (fs : List Fm) (st : St) (hs : List H) : z4k :=
  match c with
  | .skip => goN rec (unw fs) st hs
  | .label _ => goN rec (unw fs) st hs
  | .ret => some (.fin .ret, st, hs, [])
   | .exit id => match z08 id fs with | some fs' => goN rec (unw fs') st hs | none => some (.fin (.exit id), st, hs, [])
  | .region _ ops d =>
   match z2I X tt ctr n ops ops.toList st hs with
   | some (st', hs', ob, lg) => if d = false ∨ Uv ops.toList lg = true then z87 ob (goN rec (unw fs) st' hs') else none
   | none => none
  | .seq x y =>
   match hs with
   | .cut 0 :: hs' => some (.at (.seq x y) fs, st, hs', [])
   | .cut (m + 1) :: hs' => rec x (.seq y :: fs) st (.cut m :: hs')
   | hs => rec x (.seq y :: fs) st hs
  | .cond o x y =>
   match z0M st o with
   | some b =>
    match hs with
    | .b b' :: hs' => z87 [b = b'] (rec (match b' with | true => x | false => y) fs st hs')
    | _ => none
   | none => none
  | .block id c => rec c (.blk id :: fs) st hs
  | .loop c =>
   match hs with
   | .u m :: hs' => rec c (.rnd m c :: fs) st hs'
   | hs => some (.at (.loop c) fs, st, hs, [])
  | c => some (.at c fs, st, hs, [])
def z4e (X : XH P) (tt : TT) (ctr : Ctr) (n : Fr) : Nat → Code → List Fm → St → List H → z4k
 | 0, _, _, _, _ => none
 | k + 1, c, fs, st, hs =>
  match hs with
  | .n 0 ks :: hs =>
   match vZ (fun _ => none) (ks.map fun i => (.tmp i, 0)) st hs with
   | some (_, _, U, hs', ob) => z87 ob (z4e X tt ctr n k c fs (zf U st) hs')
   | none => none
  | .v 0 ks :: hs =>
   match Je ks st hs with
   | some (_, _, U, hs', ob) => z87 ob (z4e X tt ctr n k c fs (zf U st) hs')
   | none => none
  | .stp 0 :: hs => some (.at c fs, st, hs, [])
  | hs => Ja (z4e X tt ctr n k) X tt ctr n c fs st (zaV hs)
variable {fs : List Fm}{rec : Code → List Fm → St → List H → z4k}{hs : List H}
section
variable {P : Program} {tt : TT} {ctr : Ctr} {n : Fr} {Q : Exit → St → Prop}
theorem K9 {k : Nat}  (hrec : ∀ c fs st hs s st' hs' ob, rec c fs st hs = some (s, st', hs', ob) → Q9 ob → s.sem P n Q st' → AWP P n c st (Qf P n fs Q)) :
  ∀ (fs : List Fm) {st : St} {hs : List H} {s : z2o} {st' : St} {hs' : List H} {ob : List Prop}, goN rec (unw fs) st hs = some (s, st', hs', ob) → Q9 ob → s.sem P n Q st' → Qf P n fs Q .normal st
 | [], st, hs, s, st', hs', ob, e, ho, h => by
  simp only [unw, goN, Option.some.injEq, Prod.mk.injEq] at e
  obtain ⟨rfl, rfl, _⟩ := e
  exact h
 | .seq y :: fs, st, hs, s, st', hs', ob, e, ho, h => by
  simp only [unw, goN] at e
  exact hrec _ _ _ _ _ _ _ _ e ho h
 | .blk id :: fs, st, hs, s, st', hs', ob, e, ho, h => by
  simp only [unw] at e
  exact K9 (k := k) hrec fs e ho h
 | .pre J :: fs, st, hs, s, st', hs', ob, e, ho, h => by
  simp only [unw, goN, Option.some.injEq, Prod.mk.injEq] at e
  obtain ⟨rfl, rfl, _⟩ := e
  exact h
 | .rnd (m + 1) c :: fs, st, hs, s, st', hs', ob, e, ho, h => by
  simp only [unw, goN] at e
  exact hrec _ _ _ _ _ _ _ _ e ho h
 | .rnd 0 c :: fs, st, hs, s, st', hs', ob, e, ho, h => by
  simp only [unw, goN] at e
  cases e
theorem VH {id : Nat}  : ∀ (fs : List Fm) {fs' : List Fm}, z08 id fs = some fs' → Qf P n fs' Q .normal st → Qf P n fs Q (.exit id) st
 | [], fs', e, h => by cases e
 | .blk i :: fs, fs', e, h => by
  simp [z08] at e
  simp [Qf, QE]
  split at e
  ·rename_i hi
   cases e
   rw [if_pos hi]
   exact h
  ·rename_i hi
   rw [if_neg hi]
   exact VH fs e h
 | .seq y :: fs, fs', e, h => VH fs (by simpa only [z08] using e) h
 | .pre J :: fs, fs', e, h => VH fs (by simpa only [z08] using e) h
 | .rnd _ _ :: fs, fs', e, h => VH fs (by simpa only [z08] using e) h
theorem Ku : ∀ (fs : List Fm), Q .ret st → Qf P n fs Q .ret st
 | [], h => h
 | .seq _ :: fs, h => Ku fs h
 | .blk _ :: fs, h => Ku fs h
 | .pre _ :: fs, h => Ku fs h
 | .rnd _ _ :: fs, h => Ku fs h
theorem VU {id : Nat}  : ∀ (fs : List Fm), z08 id fs = none → Q (.exit id) st → Qf P n fs Q (.exit id) st
 | [], _, h => h
 | .blk i :: fs, e, h => by
  simp [z08] at e
  simp [Qf, QE]
  split at e
  ·cases e
  ·rename_i hi
   rw [if_neg hi]
   exact VU fs e h
 | .seq y :: fs, e, h => VU fs (by simpa only [z08] using e) h
 | .pre J :: fs, e, h => VU fs (by simpa only [z08] using e) h
 | .rnd _ _ :: fs, e, h => VU fs (by simpa only [z08] using e) h
theorem XL {ob : List Prop} {x : z4k} {s : z2o}   {ob' : List Prop} (e : z87 ob x = some (s, st, hs, ob')) : ∃ ob2, x = some (s, st, hs, ob2) ∧ ob' = ob ++ ob2 := by
 cases x with
 | none => cases e
 | some q =>
  have ⟨s1, st1, hs1, ob1⟩ := q
  simp [z87, Option.some.injEq, Prod.mk.injEq] at e
  obtain ⟨rfl, rfl, rfl, rfl⟩ := e
  exact ⟨ob1, rfl, rfl⟩
theorem AWP.label {l : Nat}   (h : Q .normal st) : AWP P n (.label l) st Q := fun _ _ _ _ _ _ _ _ _ _ hc hs => wpIn_label (hc.fin hs h)
theorem z4C (X : XH P) (hT : wl P tt) (hC : zJ P ctr) (hm : P.follows .mixedOrders = true)  (ih : ∀ c fs st hs s st' hs' ob, rec c fs st hs = some (s, st', hs', ob) → Q9 ob → s.sem P n Q st' → AWP P n c st (Qf P n fs Q)) (c : Code) (fs : List Fm) (st : St) (hs : List H) (s : z2o) (st' : St) (hs' : List H) (ob : List Prop)
  (e : Ja rec X tt ctr n c fs st hs = some (s, st', hs', ob)) (ho : Q9 ob) (h : s.sem P n Q st') : AWP P n c st (Qf P n fs Q) := by
 cases c with
 | skip => exact AWP.skip (K9 (k := 0) ih fs e ho h)
 | label l => exact AWP.label (K9 (k := 0) ih fs e ho h)
 | ret =>
  simp only [Ja, Option.some.injEq, Prod.mk.injEq] at e
  obtain ⟨rfl, rfl, _⟩ := e
  exact AWP.ret (Ku fs h)
 | exit id =>
  simp only [Ja] at e
  cases hx : z08 id fs with
  | none =>
   simp only [hx, Option.some.injEq, Prod.mk.injEq] at e
   obtain ⟨rfl, rfl, _⟩ := e
   exact AWP.exit (VU fs hx h)
  | some fs' =>
   simp only [hx] at e
   exact AWP.exit (VH fs hx (K9 (k := 0) ih fs' e ho h))
 | region id ops d =>
  simp only [Ja] at e
  cases hx : z2I X tt ctr n ops ops.toList st hs with
  | none => simp only [hx] at e; cases e
  | some q =>
   have ⟨st1, hs1, ob1, lg⟩ := q
   simp only [hx] at e
   by_cases hd : d = false ∨ Uv ops.toList lg = true
   ·rw [if_pos hd] at e
    obtain ⟨ob2, e2, rfl⟩ := XL e
    have ⟨o1, o2⟩ := yp ho
    have hq := K9 (k := 0) ih fs e2 o2 h
    cases d with
    | false => exact AWP.region hT (hC.withE X.ok) (z18 _ _ _ hx o1 hq)
    | true => exact AWP.drawn hT (hC.withE X.ok) hm (Ki _ _ _ [] hx o1 (by simpa using hd) hq)
   ·rw [if_neg hd] at e; cases e
 | seq x y =>
  have gen : ∀ hs, rec x (.seq y :: fs) st hs = some (s, st', hs', ob) → AWP P n (.seq x y) st (Qf P n fs Q) := fun hs e => AWP.seq (ih _ _ _ _ _ _ _ _ e ho h)
  rcases hs with _ | ⟨q, hs⟩
  ·exact gen _ e
  ·cases q with
   | cut m =>
    cases m with
    | zero =>
     simp only [Ja, Option.some.injEq, Prod.mk.injEq] at e
     obtain ⟨rfl, rfl, _⟩ := e
     exact h
    | succ m => exact gen _ e
   | _ => exact gen _ e
 | cond o x y =>
  simp only [Ja] at e
  cases hb : z0M st o with
  | none => simp only [hb] at e; cases e
  | some b =>
   simp only [hb] at e
   rcases hs with _ | ⟨q, hs⟩
   ·cases e
   ·cases q with
    | b b' =>
     obtain ⟨ob2, e2, rfl⟩ := XL e
     have h1 : b = b' := ho.1
     subst h1
     cases b with
     | true => exact AWP.condT hb (ih _ _ _ _ _ _ _ _ e2 ho.2 h)
     | false => exact AWP.condF hb (ih _ _ _ _ _ _ _ _ e2 ho.2 h)
    | _ => cases e
 | block id c => exact AWP.block (ih _ _ _ _ _ _ _ _ e ho h)
 | loop c =>
  have gen : some (z2o.at (.loop c) fs, st, hs, ([] : List Prop)) = some (s, st', hs', ob) → AWP P n (.loop c) st (Qf P n fs Q) := by
   intro e
   cases e
   exact h
  rcases hs with _ | ⟨q, hs⟩
  ·exact gen e
  ·cases q with
   | u m => exact z8c.loop (m + 1) st (ih _ _ _ _ _ _ _ _ e ho h)
   | _ => exact gen e
 | _ =>
  simp only [Ja, Option.some.injEq, Prod.mk.injEq] at e
  obtain ⟨rfl, rfl, _⟩ := e
  exact h
theorem z0t (X : XH P) (hT : wl P tt) (hC : zJ P ctr) (hm : P.follows .mixedOrders = true) : ∀ (k : Nat) (c : Code) (fs : List Fm) (st : St) (hs : List H) (s : z2o) (st' : St) (hs' : List H) (ob : List Prop),
  z4e X tt ctr n k c fs st hs = some (s, st', hs', ob) → Q9 ob → s.sem P n Q st' → AWP P n c st (Qf P n fs Q) := by
 intro k
 induction k with
 | zero => intro c fs st hs s st' hs' ob e; cases e
 | succ k ih =>
  intro c fs st hs s st' hs' ob e ho h
  have gen : ∀ hs, Ja (z4e X tt ctr n k) X tt ctr n c fs st hs = some (s, st', hs', ob) → AWP P n c st (Qf P n fs Q) := fun hs e => z4C X hT hC hm ih c fs st hs s st' hs' ob e ho h
  rcases hs with _ | ⟨q, hs⟩
  ·exact gen _ e
  ·cases q with
   | v m ks =>
    cases m with
    | zero =>
     simp only [z4e] at e
     cases hx : Je ks st hs with
     | none => simp only [hx] at e; cases e
     | some q =>
      have ⟨xs, R, U, hs1, ob1⟩ := q
      simp only [hx] at e
      obtain ⟨ob2, e2, rfl⟩ := XL e
      have ⟨o1, o2⟩ := yp ho
      have h1 := z1b _ _ _ _ _ _ _ _ hx o1
      have h2 := ih c fs _ _ _ _ _ _ e2 o2 h
      intro rd m df w0 S0 M S Fp a w hc hs
      have ⟨S', Fp', g1⟩ := Kj hs h1
      exact h2 rd m df w0 S0 M S' Fp' a w hc g1
    | succ m => exact gen _ e
   | n m ks =>
    cases m with
    | zero =>
     simp only [z4e] at e
     cases hx : vZ (fun _ => none) (ks.map fun i => (.tmp i, 0)) st hs with
     | none => simp only [hx] at e; cases e
     | some q =>
      have ⟨xs, R, U, hs1, ob1⟩ := q
      simp only [hx] at e
      obtain ⟨ob2, e2, rfl⟩ := XL e
      have ⟨o1, o2⟩ := yp ho
      have h1 := uX (fun _ => none) _ _ _ _ _ _ _ _ hx o1
      have h2 := ih c fs _ _ _ _ _ _ e2 o2 h
      intro rd m df w0 S0 M S Fp a w hc hs
      have ⟨S', Fp', g1, _⟩ := wP hs h1
      exact h2 rd m df w0 S0 M S' Fp' a w hc g1
    | succ m => exact gen _ e
   | stp m =>
    cases m with
    | zero =>
     simp only [z4e, Option.some.injEq, Prod.mk.injEq] at e
     obtain ⟨rfl, rfl, _⟩ := e
     exact h
    | succ m => exact gen _ e
   | _ => exact gen _ e
structure Ob where
 p : Prop
 h : p
def ob {p : Prop} (h : p) : Ob := ⟨p, h⟩
theorem z36 : ∀ (l : List Ob), Q9 (l.map Ob.p)
 | [] => trivial
 | o :: l => ⟨o.h, z36 l⟩
def Qj (X : XH P) (tt : TT) (ctr : Ctr) (n : Fr) (live : List Nat) (k : Nat) (c : Code) (fs : List Fm) (st : St) (hs : List H) : Option (z2o × St × List Prop) :=
 match z4e X tt ctr n k c fs st hs with
 | some (s, st', [], ob) => some (s, canon live st', ob)
 | _ => none
theorem z0S (X : XH P) (hT : wl P tt) (hC : zJ P ctr) (hm : P.follows .mixedOrders = true) (live : List Nat) (k : Nat) {c : Code} {fs : List Fm} {st : St} {hs : List H} {s : z2o} {st' : St} (obs : List Ob)
  (e : Qj X tt ctr n live k c fs st hs = some (s, st', obs.map Ob.p)) (h : ∀ st0, canon live st0 = st' → s.sem P n Q st0) : AWP P n c st (Qf P n fs Q) := by
 unfold Qj at e
 split at e
 ·rename_i s1 st1 ob1 e1
  simp [Option.some.injEq, Prod.mk.injEq] at e
  obtain ⟨rfl, h1, rfl⟩ := e
  exact z0t X hT hC hm k c fs st hs _ _ _ _ e1 (z36 obs) (h _ h1)
 ·cases e
def sub : List Nat → Code → Code
 | [], c => c
 | 0 :: p, .seq x _ => sub p x
 | 1 :: p, .seq _ y => sub p y
 | 2 :: p, .seq x _ => sub p x
 | 0 :: p, .cond _ x _ => sub p x
 | 1 :: p, .cond _ _ y => sub p y
 | _ :: p, .block _ c => sub p c
 | _ :: p, .loop c => sub p c
 | _ :: p, .scope c => sub p c
 | 0 :: p, .rangeFunc _ _ c _ => sub p c
 | 1 :: p, .rangeFunc _ _ _ c => sub p c
 | _ :: _, c => c
def frs : List Nat → List (St → Prop) → Code → List Fm → List Fm
 | [], _, _, fs => fs
 | 0 :: p, Js, .seq x y, fs => frs p Js x (.seq y :: fs)
 | 1 :: p, Js, .seq _ y, fs => frs p Js y fs
 | 2 :: p, J :: Js, .seq x _, fs => frs p Js x (.pre J :: fs)
 | 0 :: p, Js, .cond _ x _, fs => frs p Js x fs
 | 1 :: p, Js, .cond _ _ y, fs => frs p Js y fs
 | _ :: p, Js, .block id c, fs => frs p Js c (.blk id :: fs)
 | (m + 3) :: p, Js, .loop c, fs => frs p Js c (.rnd m c :: fs)
 | _ :: p, J :: Js, .loop c, fs => frs p Js c (.pre J :: fs)
 | _ :: p, Js, .scope c, fs => frs p Js c fs
 | 0 :: p, Js, .rangeFunc _ _ c _, _ => frs p Js c []
 | 1 :: p, Js, .rangeFunc _ _ _ c, _ => frs p Js c []
 | _ :: _, _, _, fs => fs
end
class LeA (x y : A) : Prop where
 rep : ∀ S cs, Rep S x cs → Rep S y cs
 conc : ∀ S h cs F, zy S h x cs F → zy S h y cs F
 val : ∀ cs, zL x cs = zL y cs
 tup : ∀ fs, x = .tup fs → y = x
class z0c (xs ys : List A) : Prop where
 rep : ∀ S cs, yc S xs cs → yc S ys cs
 conc : ∀ S h cs F, zx S h xs cs F → zx S h ys cs F
 len : xs.length = ys.length
 size : ∀ sz, (∀ x ∈ xs, x.size = sz) → ∀ y ∈ ys, y.size = sz
instance (priority := 2000) LeA.refl (x : A) : LeA x x := ⟨fun _ _ h => h, fun _ _ _ _ h => h, fun _ => rfl, fun _ _ => rfl⟩
instance (priority := 2000) z0c.refl (x : List A) : z0c x x := ⟨fun _ _ h => h, fun _ _ _ _ h => h, rfl, fun _ h => h⟩
theorem W7 {S : zi} {xs ys : List A} (hl : xs.length = ys.length) (h : xs = []) : ys = [] := by
 subst h; exact List.length_eq_zero_iff.1 hl.symm
instance LeA.osl (sz : Nat) (t : Bool) (xs ys : List A) [h : z0c xs ys] : LeA (.osl sz t xs) (.osl sz false ys) := {
 rep := fun S cs q => by simp only [Rep] at q
 conc := fun S hp cs F q => by
  simp only [zy] at q ⊢
  have ⟨p, c, e, h1, h2, h3, h4, h5⟩ := q
  refine ⟨p, c, by rw [← h.len]; exact e, by simp, by rw [← h.len]; exact h2, h3, h.size _ h4, ?_⟩
  rcases h5 with ⟨q1, q2, q3, q4⟩ | ⟨b, arr, ty, l, F', e1, e2, e3, e4, e5, e6, e7⟩
  ·exact .inl ⟨W7 (S := S) h.len q1, q2, q3, q4⟩
  ·exact .inr ⟨b, arr, ty, l, F', e1, e2, e3, by rw [← h.len]; exact e4, h.conc _ _ _ _ e5, e6, e7⟩
 val := fun _ => rfl
 tup := fun _ e => by cases e }
instance LeA.sl (sz : Nat) (t : Bool) (xs ys : List A) [h : z0c xs ys] : LeA (.sl sz t xs) (.sl sz false ys) := {
 rep := fun S cs q => by
  simp only [Rep] at q ⊢
  have ⟨p, c, e, h1, h2, h3, h4⟩ := q
  refine ⟨p, c, by rw [← h.len]; exact e, by simp, by rw [← h.len]; exact h2, h.size _ h3, ?_⟩
  rcases h4 with q | ⟨b, o, l, q1, q2, q3⟩
  ·exact .inl (W7 (S := S) h.len q)
  ·exact .inr ⟨b, o, l, q1, h.rep _ _ q2, q3⟩
 conc := fun S hp cs F q => by
  simp only [zy] at q ⊢
  refine ⟨?_, q.2⟩
  have q := q.1
  simp only [Rep] at q ⊢
  have ⟨p, c, e, h1, h2, h3, h4⟩ := q
  refine ⟨p, c, by rw [← h.len]; exact e, by simp, by rw [← h.len]; exact h2, h.size _ h3, ?_⟩
  rcases h4 with q | ⟨b, o, l, q1, q2, q3⟩
  ·exact .inl (W7 (S := S) h.len q)
  ·exact .inr ⟨b, o, l, q1, h.rep _ _ q2, q3⟩
 val := fun _ => rfl
 tup := fun _ e => by cases e }
instance LeA.agg (xs ys : List A) [h : z0c xs ys] : LeA (.agg xs) (.agg ys) := {
 rep := fun S cs q => by simp [Rep] at q ⊢; exact h.rep _ _ q
 conc := fun S hp cs F q => by simp [zy] at q ⊢; exact h.conc _ _ _ _ q
 val := fun _ => rfl
 tup := fun _ e => by cases e }
instance LeA.box (x y : A) [h : LeA x y] : LeA (.box x) (.box y) := {
 rep := fun S cs q => by simp [Rep] at q
 conc := fun S hp cs F q => by
  simp [zy] at q ⊢
  have ⟨b, ty, l, F', e1, e2, e3, e4, e5⟩ := q
  exact ⟨b, ty, l, F', e1, e2, h.conc _ _ _ _ e3, e4, e5⟩
 val := fun _ => rfl
 tup := fun _ e => by cases e }
class SzA (x y : A) : Prop where
 eq : x.size = y.size
instance (priority := 2000) SzA.refl (x : A) : SzA x x := ⟨rfl⟩
class z88 (x y : List A) : Prop where
 eq : A.sizes x = A.sizes y
instance z88.nil : z88 [] [] := ⟨rfl⟩
instance z88.cons (x y : A) (xs ys : List A) [h : SzA x y] [k : z88 xs ys] : z88 (x :: xs) (y :: ys) := ⟨by simp [A.sizes, h.eq, k.eq]⟩
instance SzA.agg (xs ys : List A) [h : z88 xs ys] : SzA (.agg xs) (.agg ys) := ⟨by simp [A.size, h.eq]⟩
instance z0c.nil : z0c [] [] := z0c.refl []
instance z0c.cons (x y : A) (xs ys : List A) [h : LeA x y] [z : SzA x y] [k : z0c xs ys] : z0c (x :: xs) (y :: ys) := {
 rep := fun S cs q => by
  simp [yc] at q ⊢
  have ⟨c1, c2, e, q1, q2⟩ := q
  exact ⟨c1, c2, e, h.rep _ _ q1, k.rep _ _ q2⟩
 conc := fun S hp cs F q => by
  simp [zx] at q ⊢
  have ⟨c1, c2, F1, F2, e, e2, q1, q2⟩ := q
  exact ⟨c1, c2, F1, F2, e, e2, h.conc _ _ _ _ q1, k.conc _ _ _ _ q2⟩
 len := by simp [k.len]
 size := fun sz q => by
  intro y' hy
  rcases List.mem_cons.1 hy with rfl | hy
  ·rw [← z.eq]; exact q x (by simp)
  ·exact k.size sz (fun x hx => q x (by simp [hx])) y' hy }
variable {α : Type}
theorem z8T {f g : α → A} (h : ∀ x, LeA (f x) (g x)) (z : ∀ x, SzA (f x) (g x)) : ∀ l : List α, z0c (l.map f) (l.map g)
 | [] => z0c.nil
 | x :: l => @z0c.cons _ _ _ _ (h x) (z x) (z8T h z l)
instance z0c.map {α : Type} (f g : α → A) [h : ∀ x, LeA (f x) (g x)] [z : ∀ x, SzA (f x) (g x)] (l : List α) : z0c (l.map f) (l.map g) := z8T h z l
variable {v : Value}
theorem LeA.repV {x y : A} (h : LeA x y)   (q : yY S x v) : yY S y v := by
 by_cases ht : ∃ fs, x = .tup fs
 ·obtain ⟨fs, rfl⟩ := ht
  rw [h.tup fs rfl]; exact q
 ·have q1 : vw S x v := by cases x <;> simp [yY] at q <;> first | exact q | exact absurd ⟨_, rfl⟩ ht
  have ⟨cs, c1, c2⟩ := q1
  exact vw.repV ⟨cs, h.rep _ _ c1, by rw [← h.val]; exact c2⟩
class LeV (x y : A) : Prop where
 has : ∀ S h v F, Has S h x v F → Has S h y v F
instance (priority := 2000) LeV.refl (x : A) : LeV x x := ⟨fun _ _ _ _ h => h⟩
instance LeV.one (x y : A) [h : LeA x y] : LeV x y := ⟨fun S hp v F q => by
 rcases q with ⟨q, e⟩ | ⟨cs, q1, q2, q3⟩
 ·exact .inl ⟨h.repV q, e⟩
 ·exact .inr ⟨cs, h.conc _ _ _ _ q1, q2, by rw [← h.val]; exact q3⟩⟩
class US (xs ys : List A) : Prop where
 all : ∀ S vs, ke (vw S) xs vs → ke (vw S) ys vs
instance US.nil : US [] [] := ⟨fun _ _ h => h⟩
instance US.cons (x y : A) (xs ys : List A) [h : LeA x y] [k : US xs ys] : US (x :: xs) (y :: ys) := ⟨fun S vs q => by
 cases vs with
 | nil => exact q.elim
 | cons v vs =>
  refine ⟨?_, k.all S vs q.2⟩
  have ⟨cs, c1, c2⟩ := q.1
  exact ⟨cs, h.rep _ _ c1, by rw [← h.val]; exact c2⟩⟩
instance LeV.tup (xs ys : List A) [k : US xs ys] : LeV (.tup xs) (.tup ys) := ⟨fun S hp v F q => by
 rcases q with ⟨q, e⟩ | ⟨cs, q1, q2, q3⟩
 ·simp [yY] at q
  have ⟨vs, e2, q⟩ := q
  exact .inl ⟨by simp [yY]; exact ⟨vs, e2, k.all _ _ q⟩, e⟩
 ·simp [zy] at q1⟩
def LeT : T → T → Prop
 | .own x, y => ∃ z, y = .own z ∧ LeA x z
 | .d x, y => ∃ z, y = .d z ∧ LeA x z
 | .als r p er ec, y => p = [] ∧ y = .als r [] er ec
 | .gone, y => y = .gone
 | _, _ => False
class JS (l m : List (Nat × T)) : Prop where
 ent : ∀ t, (ofL l t).er = (ofL m t).er ∧ (ofL l t).ec = (ofL m t).ec ∧ LeT (ofL l t).t (ofL m t).t
instance JS.nil : JS [] [] := ⟨fun t => ⟨rfl, rfl, rfl⟩⟩
theorem JS.cons' {x y : T} {l m : List (Nat × T)} (h : LeT x y) (hl : JS l m) : JS ((k, x) :: l) ((k, y) :: m) := ⟨fun t => by
 simp [ofL]
 split
 ·exact ⟨rfl, rfl, h⟩
 ·exact hl.ent t⟩
instance JS.own (k : Nat) (x y : A) (l m : List (Nat × T)) [h : LeA x y] [hl : JS l m] : JS ((k, .own x) :: l) ((k, .own y) :: m) := JS.cons' ⟨y, rfl, h⟩ hl
instance JS.d (k : Nat) (x y : A) (l m : List (Nat × T)) [h : LeA x y] [hl : JS l m] : JS ((k, .d x) :: l) ((k, .d y) :: m) := JS.cons' ⟨y, rfl, h⟩ hl
instance JS.als (k r er ec : Nat) (l m : List (Nat × T)) [hl : JS l m] : JS ((k, .als r [] er ec) :: l) ((k, .als r [] er ec) :: m) := JS.cons' ⟨rfl, rfl⟩ hl
class LeL (l m : List (Nat × T)) : Prop where
 or : l = m ∨ JS l m
instance (priority := 2000) LeL.refl (l : List (Nat × T)) : LeL l l := ⟨.inl rfl⟩
instance LeL.of0 (l m : List (Nat × T)) [h : JS l m] : LeL l m := ⟨.inr h⟩
variable {X : List Nat}
theorem Sim.le {st st' : St}   (h : Sim C S Fp X st a w) (hl : ∀ t, (st t).er = (st' t).er ∧ (st t).ec = (st' t).ec ∧ LeT (st t).t (st' t).t) : Sim C S Fp X st' a w := {
 size := h.size
 pin := h.pin
 defers := h.defers
 below := h.below
 mine := h.mine
 still := h.still
 sinc := h.sinc
 sbase := h.sbase
 disj := h.disj
 base := h.base
 xn := h.xn
 xd := h.xd
 xb := h.xb
 ent := fun t => by
  have q := h.ent t
  have ⟨_, _, l3⟩ := hl t
  unfold yG at q ⊢
  cases ht : (st t).t with
  | gone =>
   simp only [ht, LeT] at l3 q
   simp only [l3]; exact q
  | d x =>
   simp only [ht, LeT] at l3 q
   have ⟨z, e, l3⟩ := l3
   simp only [e]; exact ⟨l3.repV q.1, q.2⟩
  | own x =>
   simp only [ht, LeT] at l3 q
   have ⟨z, e, l3⟩ := l3
   simp only [e]
   have ⟨cs, q1, q2, q3⟩ := q
   exact ⟨cs, l3.conc _ _ _ _ q1, q2, by rw [← l3.val]; exact q3⟩
  | als r p er ec =>
   simp only [ht, LeT] at l3 q
   obtain ⟨rfl, e⟩ := l3
   simp only [e]
   refine ⟨q.1, ?_⟩
   have ⟨q1, q2, q3⟩ := q.2
   have ⟨r1, r2, r3⟩ := hl r
   unfold jm
   refine ⟨by rw [← r1]; exact q1, by rw [← r2]; exact q2, ?_⟩
   cases hr : (st r).t with
   | own x =>
    simp only [hr, LeT] at q3 r3
    have ⟨z, e2, _⟩ := r3
    simp only [e2]
    intro g1 g2
    rcases q3 (by rw [r1]; exact g1) (.inl trivial) with g | g
    ·exact .inl g
    ·simp [YK] at g
   | d x =>
    simp only [hr, LeT] at q3 r3
    have ⟨z, e2, _⟩ := r3
    simp only [e2]
    intro g1 _
    exact q3 (by rw [r1]; exact g1) trivial
   | gone => simp only [hr, LeT] at r3; simp only [r3]
   | als u p e1 e2 => simp only [hr, LeT] at r3; simp only [r3.2]
   | ptr u p e1 e2 => simp only [hr, LeT] at r3
  | ptr r p er ec => simp only [ht, LeT] at l3 }
variable {rs : List (Nat × Option Nat)}{st0 : St}{fn : Func}{r : A}{keep : Bool}
section
variable {P : Program} {tt : TT} {ctr : Ctr} {n : Fr} {Q : Exit → St → Prop}
theorem z7Q {l m : List (Nat × T)} (h : LeL l m) (k : AWP P n c (ofL m) Q) : AWP P n c (ofL l) Q :=
 h.or.elim (fun e => e ▸ k) fun h => fun rd mm df w0 S0 M S Fp a w hc hs => k rd mm df w0 S0 M S Fp a w hc (hs.le h.ent)
theorem z5L {X : Type} {c c' : Code} {fs : List Fm}  (e : c = .loop c') (live : List Nat) (Inv : X → Prop) (mu : X → Nat) (stOf : X → List (Nat × T)) (x0 : X) (l0 : List (Nat × T)) (hs : canon live st0 = ofL l0) (hl : LeL l0 (stOf x0)) (h0 : Inv x0)
  (round : ∀ x, Inv x → ∀ J : St → Prop, (∀ st' l' x', Inv x' → mu x' < mu x → canon live st' = ofL l' → LeL l' (stOf x') → J st') → AWP P n c' (ofL (stOf x)) (Qf P n (.pre J :: fs) Q)) : AWP P n c st0 (Qf P n fs Q) := by
 subst e
 refine AWP.loop live (fun k st => ∃ x l, Inv x ∧ mu x = k ∧ st = ofL l ∧ LeL l (stOf x)) (mu x0) ⟨x0, l0, h0, rfl, hs, hl⟩ ?_
 rintro k st ⟨x, l, hx, rfl, rfl, hl⟩
 refine z7Q hl ?_
 exact round x hx _ fun st' l' x' h1 h2 h3 h4 => ⟨_, h2, x', l', h1, rfl, h3, h4⟩
theorem z5M {X : Type} {c x y : Code}   (e : c = .seq x y) (live live0 : List Nat) (l0 : List (Nat × T)) (hs : canon live0 st0 = ofL l0) (Inv : X → Prop) (stJ : X → List (Nat × T)) (h1 : ∀ z, Inv z → AWP P n y (ofL (stJ z)) (Qf P n fs Q))
  (h2 : ∀ J : St → Prop, (∀ st' l' z, Inv z → canon live st' = ofL l' → LeL l' (stJ z) → J st') → AWP P n x (ofL l0) (Qf P n (.pre J :: fs) Q)) : AWP P n c st0 (Qf P n fs Q) := by
 subst e
 refine AWP.canon live0 ?_
 rw [hs]
 refine AWP.nextC live fun K hK => h2 K fun st' l' z hz he hl => hK st' ?_
 rw [he]
 exact z7Q hl (h1 z hz)
def z2T (tt : TT) (keep : Bool) (rs : List (Nat × Option Nat)) : SM A :=
 match keep, rs with
 | true, [(t, none)] => z8I tt true [t]
 | _, rs => z8H tt rs
def z4T (tt : TT) (keep : Bool) (rs : List (Nat × Option Nat)) : HM A :=
 match keep, rs with
 | true, [(t, none)] => ya (z8I tt true [t])
 | _, rs => vZ tt (rs.map fun r => (.tmp r.1, 0)) >>= fun xs =>
  match uw tt rs xs with
  | some [y] => pure y
  | some ys => pure (.tup ys)
  | none => zA
theorem z64 (tt : TT) (rs : List (Nat × Option Nat)) : Snd (z8H tt rs) (vZ tt (rs.map fun r => (.tmp r.1, 0)) >>= fun xs =>
  match uw tt rs xs with
  | some [y] => pure y
  | some ys => pure (.tup ys)
  | none => zA) := by
 refine zb (uX _ _) fun xs => ?_
 cases uw tt rs xs with
 | none => exact zl _
 | some ys => rcases ys with _ | ⟨y, _ | ⟨z, l⟩⟩ <;> exact w8 _
theorem z8B (tt : TT) (keep : Bool) (rs : List (Nat × Option Nat)) : Snd (z2T tt keep rs) (z4T tt keep rs) := by
 cases keep with
 | false => rcases rs with _ | ⟨⟨t, _ | ty⟩, _ | ⟨q, l⟩⟩ <;> exact z64 _ _
 | true => rcases rs with _ | ⟨⟨t, _ | ty⟩, _ | ⟨q, l⟩⟩ <;> first | exact zj _ | exact z64 _ _
theorem z5G {n : Fr}  {body : Code} {keep : Bool} {rs : List (Nat × Option Nat)} {ls : List A} {r : A} (hT : wl P tt) (hf : P.funcs[k]? = some fn) (hnm : (fn.name == "runtime.NumGoroutine") = false) (hb : fn.body = some body)
  (hn : n = ⟨fn.ntmps, []⟩) (hr : fn.results = (rs.map z4r).toArray) (ha : ls.length ≤ fn.ntmps)
  (h : ∀ E : St → Prop, (∀ st x R U, z2T tt keep rs st = some (x, R, U) → LeV x r → E st) → AWP P n body (ofL (z2m 0 ls)) (Qf P n [] (z67 E))) : Yv P k ls r := by
 have h' := h (fun st => ∃ x R U, z2T tt keep rs st = some (x, R, U) ∧ LeV x r) fun st x R U h1 h2 => ⟨x, R, U, h1, h2⟩
 refine ⟨⟨fn, hf, hnm, by rw [hb]; rfl⟩, ?_⟩
 intro S w vs F hS hq hF
 have h2 : AWP P n body (ini ls) (fun ex st => (ex = .normal ∨ ex = .ret) ∧ ∃ x R U, z2T tt keep rs st = some (x, R, U) ∧ LeV x r) := by
  rw [z1y]
  refine AWP.mono h' ?_
  intro e st q
  cases e with
  | normal => exact ⟨.inl rfl, q⟩
  | ret => exact ⟨.inr rfl, q⟩
  | _ => exact q.elim
 refine QB (R := fun w e w' => ∃ v' S' F', e = .returned v' ∧ ZW (fun k => w.heap.size ≤ k ∨ k ∈ F) w w' ∧ (∀ b o u, S b o = some u → S' b o = some u) ∧ (∀ b o, b < w.heap.size → b ∉ F → S' b o = S b o) ∧ wm S' w' ∧ Has S' w'.heap r v' F' ∧ F'.Nodup ∧
   ∀ k ∈ F', w.heap.size ≤ k ∨ k ∈ F) hf hb (by rw [hn]) (by rw [hn]; simp) ha hS hq hF h2 ?_
 rintro ex st' ⟨hx, x, R, U, h3, h4⟩
 refine ⟨hx, ?_⟩
 intro df S' Fp' a' w' h1
 have gcase : z8H tt rs st' = some (x, R, U) → ∃ v, (results fn a'.tmps).run P w' = .ok v w' ∧ ∃ v' S' F', Ending.returned v = .returned v' ∧ ZW (fun k => w.heap.size ≤ k ∨ k ∈ F) w w' ∧ (∀ b o u, S b o = some u → S' b o = some u) ∧ (∀ b o, b < w.heap.size → b ∉ F → S' b o = S b o) ∧ wm S' w' ∧ Has S' w'.heap r v' F' ∧ F'.Nodup ∧
   ∀ k ∈ F', w.heap.size ≤ k ∨ k ∈ F := by
  intro he
  have ⟨v, S2, hres, g1, g2, g3, g4⟩ := z7e (P := P) hT hr h1 he
  refine ⟨_, hres, _, S2, [], rfl, h1.below, fun b o u hu => g1 _ _ _ (h1.sinc _ _ _ hu), ?_, g3, h4.has _ _ _ _ (.inl ⟨g4, rfl⟩), by simp, by simp⟩
  intro b o hb' hbF
  exact g2 b o (by rintro (hq | hq) <;> first | omega | exact hbF hq)
 cases keep with
 | false => exact gcase (by rcases rs with _ | ⟨⟨t, _ | ty⟩, _ | ⟨q, l⟩⟩ <;> exact h3)
 | true =>
  rcases rs with _ | ⟨⟨t, _ | ty⟩, _ | ⟨q, l⟩⟩
  ·exact gcase h3
  ·have h3' : z8I tt true [t] st' = some (x, R, U) := h3
   have ⟨hl, S2, F', g1, g2, g3, g4, g5, g6⟩ := z7f h1 h3'
   refine ⟨_, z0s (P := P) (ts := [t]) hr hl a' w', _, S2, F', rfl, h1.below, fun b o u hu => g1 _ _ _ (h1.sinc _ _ _ hu), ?_, g3, h4.has _ _ _ _ g4, g5, g6⟩
   intro b o hb' hbF
   exact g2 b o (by rintro (hq | hq) <;> first | omega | exact hbF hq)
  ·exact gcase h3
  ·exact gcase h3
  ·exact gcase h3
def z83 (X : XH P) (tt : TT) (ctr : Ctr) (n : Fr) (keep : Bool) (rs : List (Nat × Option Nat)) (k : Nat) (c : Code) (fs : List Fm) (st : St) (hs : List H) : Option (A × List Prop) :=
 match z4e X tt ctr n k c fs st hs with
 | some (.fin .normal, st', hs', ob) => match z4T tt keep rs st' hs' with | some (x, _, _, [], ob') => some (x, ob ++ ob') | _ => none
 | some (.fin .ret, st', hs', ob) => match z4T tt keep rs st' hs' with | some (x, _, _, [], ob') => some (x, ob ++ ob') | _ => none
 | _ => none
theorem z6o (X : XH P) (hT : wl P tt) (hC : zJ P ctr) (hm : P.follows .mixedOrders = true) {E : St → Prop}    (hE : ∀ st x R U, z2T tt keep rs st = some (x, R, U) → LeV x r → E st) (k : Nat) {c : Code} {fs : List Fm} {st : St} {hs : List H} {x : A} (obs : List Ob)
  (e : z83 X tt ctr n keep rs k c fs st hs = some (x, obs.map Ob.p)) (hle : LeV x r) : AWP P n c st (Qf P n fs (z67 E)) := by
 unfold z83 at e
 have fin : ∀ {st' hs' ob}, (match z4T tt keep rs st' hs' with | some (x, _, _, [], ob') => some (x, ob ++ ob') | _ => none) = some (x, obs.map Ob.p) → Q9 ob ∧ E st' := by
  intro st' hs' ob e
  split at e
  ·rename_i x1 R U ob' he
   simp [Option.some.injEq, Prod.mk.injEq] at e
   obtain ⟨rfl, e2⟩ := e
   have ha := z36 obs
   rw [← e2] at ha
   have ⟨o1, o2⟩ := yp ha
   exact ⟨o1, hE _ _ _ _ (z8B tt keep rs _ _ _ _ _ _ _ he o2) hle⟩
  ·cases e
 split at e
 ·rename_i st' hs' ob' he
  have ⟨h1, h2⟩ := fin e
  exact z0t X hT hC hm k c fs st hs _ _ _ _ he h1 h2
 ·rename_i st' hs' ob' he
  have ⟨h1, h2⟩ := fin e
  exact z0t X hT hC hm k c fs st hs _ _ _ _ he h1 h2
 ·cases e
end
abbrev w64 (x : Int) : Int := IntKind.i64.wrap x
def idx (l : List α) : Int → Option α
 | .ofNat n => l[n]?
 | .negSucc _ => none
inductive LR (σ τ : Type) where
 | next (s : σ)
 | done (t : τ)
variable {σ τ : Type}
def ZY (step : σ → Option (LR σ τ)) (n : Nat) : σ → Option τ :=
 Nat.rec (fun _ => none) (fun _ ih s => match step s with | none => none | some (.next s') => ih s' | some (.done t) => some t) n
def KU : Nat := 18446744073709551616
def loop (step : σ → Option (LR σ τ)) (s : σ) : Option τ := ZY step KU s
def z9q (step : σ → Option (LR σ τ)) (m : Nat) (t : τ) : LR σ τ → Prop
 | .next s' => ZY step m s' = some t
 | .done t' => t' = t
theorem z9R {step : σ → Option (LR σ τ)} {n : Nat} {s : σ} {t : τ} (h : ZY step n s = some t) : ∃ m lr, n = m + 1 ∧ step s = some lr ∧ z9q step m t lr := by
 cases n with
 | zero => cases h
 | succ m =>
  have h' : (match step s with | none => none | some (.next s') => ZY step m s' | some (.done t) => some t) = some t := h
  cases hs : step s with
  | none => simp [hs] at h'
  | some lr =>
   refine ⟨m, lr, rfl, rfl, ?_⟩
   cases lr with
   | next s' => simp [hs] at h'; exact h'
   | done t' => simp [hs, Option.some.injEq] at h'; exact h'
theorem zg {α β : Type} {x : Option α} {f : α → Option β} {r : β} (h : Option.bind x f = some r) : ∃ u, x = some u ∧ f u = some r := by
 cases x with
 | none => cases h
 | some u => exact ⟨u, rfl, h⟩
theorem zD {c : Bool} {x y : Option α} {r : α} (h : (bif c then x else y) = some r) : (c = true ∧ x = some r) ∨ (c = false ∧ y = some r) := by
 cases c
 ·exact .inr ⟨rfl, h⟩
 ·exact .inl ⟨rfl, h⟩
def gd (p : Prop) [Decidable p] (x : Option α) : Option α := if p then x else none
theorem gdE {p : Prop} [Decidable p] {x : Option α} {r : α} (h : gd p x = some r) : p ∧ x = some r := by
 unfold gd at h
 by_cases hp : p
 ·rw [if_pos hp] at h; exact ⟨hp, h⟩
 ·rw [if_neg hp] at h; cases h
theorem z8 {a b : α} (h : some a = some b) : a = b := by cases h; rfl
variable {gives : List Bool}{β : Type}{i : Int}{as_ : List A}
section
variable {α : Type}
def eI (k : IntKind) (x : Int) : A := .atom (.int k x)
def eB (b : Bool) : A := .atom (.bool b)
def eSl (sz : Nat) (t : Bool) (f : α → A) (l : List α) : A := .sl sz t (l.map f)
def eOs (sz : Nat) (t : Bool) (f : α → A) (l : List α) : A := .osl sz t (l.map f)
def eBx (f : α → A) (x : α) : A := .box (f x)
def eSp (f : α → A) (x : α) : A := .sptr (f x)
def JU (k : Nat) (_ : Unit) : A := .fn k []
def z2n (k : Nat) (f : α → A) (x : α) : A := .fn k [f x]
class z4m (f : α → A) : Prop where
 isD : ∀ x, (f x).isD = true
class z9i (f : α → A) : Prop where
 no : ∀ x, (f x).isD = false
class UO (f : α → A) (g : outParam (α → A)) : Prop where
 lo : ∀ x, (f x).loose = g x
class z07 (f : α → A) (g : outParam (α → A)) : Prop where
 live : ∀ x, (f x).live = true
 sh : ∀ x, (f x).shut = g x
class kP (f : α → A) : Prop where
 inj : ∀ x y, f x = f y → x = y
instance (k : IntKind) : z4m (eI k) := ⟨fun _ => rfl⟩
instance (sz : Nat) (t : Bool) (f : α → A) : z4m (eSl sz t f) := ⟨fun _ => rfl⟩
instance (k : Nat) : UO (JU k) (JU k) := ⟨fun _ => rfl⟩
instance (k : Nat) (f f' : α → A) [h : UO f f'] : UO (z2n k f) (z2n k f') := ⟨fun x => by simp [z2n, A.loose, A.looses, h.lo]⟩
instance (k : Nat) : kP (JU k) := ⟨fun _ _ _ => rfl⟩
instance (k : Nat) (f : α → A) [h : kP f] : kP (z2n k f) := ⟨fun a b e => by simp [z2n, A.fn.injEq, List.cons.injEq, true_and, and_true] at e; exact h.inj _ _ e⟩
instance (sz : Nat) (t : Bool) (f : α → A) : z9i (eOs sz t f) := ⟨fun _ => rfl⟩
instance (k : IntKind) : UO (eI k) (eI k) := ⟨fun _ => rfl⟩
instance : UO eB eB := ⟨fun _ => rfl⟩
instance (sz : Nat) (t : Bool) (f g : α → A) [h : UO f g] : UO (eSl sz t f) (eSl sz false g) := ⟨fun l => by simp [eSl, A.loose, Qs, h.lo]⟩
instance (sz : Nat) (t : Bool) (f g : α → A) [h : UO f g] : UO (eOs sz t f) (eOs sz false g) := ⟨fun l => by simp [eOs, A.loose, Qs, h.lo]⟩
instance (f g : α → A) [h : UO f g] : UO (eBx f) (eBx g) := ⟨fun l => by simp [eBx, A.loose, h.lo]⟩
instance (f g : α → A) [h : UO f g] : UO (eSp f) (eSp g) := ⟨fun l => by simp [eSp, A.loose, h.lo]⟩
instance (k : IntKind) : z07 (eI k) (eI k) := ⟨fun _ => rfl, fun _ => rfl⟩
instance : z07 eB eB := ⟨fun _ => rfl, fun _ => rfl⟩
instance (sz : Nat) (t : Bool) (f : α → A) : z07 (eSl sz t f) (eSl sz t f) := ⟨fun _ => rfl, fun _ => rfl⟩
instance (sz : Nat) (t : Bool) (f g : α → A) [h : z07 f g] : z07 (eOs sz t f) (eSl sz t g) := ⟨fun l => by simp [eOs, A.live]; exact Ug f l h.live, fun l => by simp [eOs, eSl, A.shut, VL, h.sh]⟩
instance (f g : α → A) [h : z07 f g] : z07 (eBx f) (eSp g) := ⟨fun x => by simp [eBx, A.live]; exact h.live x, fun x => by simp [eBx, eSp, A.shut, h.sh]⟩
instance (k : IntKind) : kP (eI k) := ⟨fun a b h => by simpa [eI] using h⟩
instance : kP eB := ⟨fun a b h => by simpa [eB] using h⟩
theorem z3f {f : α → β} (hf : ∀ a b, f a = f b → a = b) : ∀ {l l' : List α}, l.map f = l'.map f → l = l'
 | [], [], _ => rfl
 | [], _ :: _, h => by simp at h
 | _ :: _, [], h => by simp at h
 | a :: l, b :: l', h => by
  simp [List.map_cons, List.cons.injEq] at h
  rw [hf _ _ h.1, z3f hf h.2]
instance (sz : Nat) (t : Bool) (f : α → A) [h : kP f] : kP (eSl sz t f) := ⟨fun a b e => by simp [eSl, A.sl.injEq, true_and] at e; exact z3f h.inj e⟩
instance (sz : Nat) (t : Bool) (f : α → A) [h : kP f] : kP (eOs sz t f) := ⟨fun a b e => by simp [eOs, A.osl.injEq, true_and] at e; exact z3f h.inj e⟩
instance (f : α → A) [h : kP f] : kP (eSp f) := ⟨fun a b e => by simp [eSp, A.sptr.injEq] at e; exact h.inj _ _ e⟩
instance (f : α → A) [h : kP f] : kP (eBx f) := ⟨fun a b e => by simp [eBx, A.box.injEq] at e; exact h.inj _ _ e⟩
instance (sz sz' : Nat) (t t' : Bool) (f g : α → A) (l l' : List α) : SzA (eSl sz t f l) (eSl sz' t' g l') := ⟨rfl⟩
instance (sz : Nat) (t : Bool) (f g : α → A) [h : ∀ x, LeA (f x) (g x)] [z : ∀ x, SzA (f x) (g x)] (l : List α) : LeA (eSl sz t f l) (eSl sz false g l) := LeA.sl sz t (l.map f) (l.map g)
instance (sz : Nat) (t : Bool) (f g : α → A) [h : ∀ x, LeA (f x) (g x)] [z : ∀ x, SzA (f x) (g x)] (l : List α) : LeA (eOs sz t f l) (eOs sz false g l) := LeA.osl sz t (l.map f) (l.map g)
theorem i0 {l : List α}  {u : α} (h : idx l i = some u) : 0 ≤ i := by
 cases i with
 | ofNat n => exact Int.natCast_nonneg n
 | negSucc n => cases h
theorem iE {l : List α}  {u : α} (h : idx l i = some u) : l[i.toNat]? = some u := by
 cases i with
 | ofNat n => exact h
 | negSucc n => cases h
theorem iM (f : α → A) {l : List α}  {u : α} (h : idx l i = some u) : (l.map f)[i.toNat]? = some (f u) := by rw [List.getElem?_map, iE h]; rfl
theorem iL (f : α → A) {l : List α}  {u : α} (h : idx l i = some u) : 0 ≤ i ∧ i.toNat < (l.map f).length := ⟨i0 h, by rw [List.length_map]; exact (List.getElem?_eq_some_iff.1 (iE h)).1⟩
theorem sM (f : α → A) (l : List α) (i : Int) (v : α) : (l.map f).set i.toNat (f v) = (l.set i.toNat v).map f := by rw [List.map_set]
theorem dM (f : α → A) [h : z4m f] (l : List α) : A.areD (l.map f) = true := z1M f l h.isD
theorem d1 (f : α → A) [h : z4m f] (x : α) : A.areD [f x] = true := by simp [A.areD, h.isD]
theorem o1 (f : α → A) [h : z9i f] (x : α) : A.areD [f x] = false := by simp [A.areD, h.no]
theorem shM (f g : α → A) [h : z07 f g] (l : List α) : A.lives (l.map f) = true ∧ A.shuts (l.map f) = l.map g := ⟨Ug f l h.live, by rw [VL]; simp [h.sh]⟩
theorem aM (f : α → A) (l m : List α) : l.map f ++ m.map f = (l ++ m).map f := by rw [List.map_append]
theorem aL (f g : α → A) {l m : List α} (h : l.length + m.length ≤ 4294967296) : (l.map f).length + (m.map g).length ≤ lim := by simpa [lim] using h
theorem aN (f g : α → A) [z4m g] {l m : List α} (h : l.length + m.length ≤ 4294967296) (hm : m ≠ []) : (l.map g).length + (m.map f).length ≤ lim ∧ m.map f ≠ [] ∧ A.areD (l.map g) = true := ⟨by simpa [lim] using h, by simpa using hm, dM g l⟩
theorem rM (sz : Nat) (f : α → A) (n : Int) (z : α) : A.osl sz (decide (n = n)) (List.replicate n.toNat (f z)) = eOs sz true f (List.replicate n.toNat z) := by simp [eOs]
theorem rL {n : Int} (h : 0 ≤ n ∧ n ≤ 4294967296) : 0 ≤ n ∧ n ≤ n ∧ n ≤ ((lim : Nat) : Int) := ⟨h.1, Int.le_refl _, h.2⟩
theorem lnM (f : α → A) (l : List α) : A.atom (.int .i64 (((l.map f).length : Nat) : Int)) = .atom (.int .i64 ((l.length : Nat) : Int)) := by rw [List.length_map]
theorem oC (f : α → A) [h : z9i f] (x : α) (l : List α) : A.areD ((x :: l).map f) = false := by simp [A.areD, h.no]
theorem aM0 (f : α → A) (m : List α) : ([] : List A) ++ m.map f = m.map f := rfl
theorem slB {a b : Int} {r : Prop} (h : 0 ≤ a ∧ a ≤ b ∧ r) : 0 ≤ b := Int.le_trans h.1 h.2.1
theorem slC {a b m : Int} {r : Prop} (h : 0 ≤ a ∧ a ≤ b ∧ r ∧ b ≤ m) : 0 ≤ m := by omega
theorem z6V (f : α → A) {l : List α} {b m : Int} (h : (0 : Int) ≤ 0 ∧ 0 ≤ b ∧ m ≤ ((l.length : Nat) : Int) ∧ b ≤ m) : 0 ≤ b.toNat ∧ b.toNat ≤ m.toNat ∧ m.toNat ≤ (l.map f).length := by simp; omega
theorem z9D (sz : Nat) (f : α → A) (l : List α) (a b : Nat) : A.sl sz (b == b) (((l.map f).drop a).take (b - a)) = eSl sz true f ((l.drop a).take (b - a)) := by simp [eSl]
def mn (a b : Int) : Int := if b < a then b else a
def mx (a b : Int) : Int := if a < b then b else a
theorem cuB (f : α → A) {l : List α} {b : Int} (h : 0 ≤ b ∧ b ≤ ((l.length : Nat) : Int)) : b.toNat ≤ (l.map f).length := by simp; omega
theorem cuM (f : α → A) (l : List α) (b : Int) : (l.map f).take b.toNat = (l.take b.toNat).map f := by rw [List.map_take]
def spF (k : Nat) {α ρ : Type} (enc : α → List A) (encR : ρ → A) (F : α → Option ρ) (gives : List Bool) (inj : ∀ x y, enc x = enc y → x = y) : wD := {
 α := α
 k := k
 raw := false
 gives := gives
 enc := enc
 pre := fun x => ∃ r, F x = some r
 f := fun x => match F x with | some r => encR r | none => .dead 0
 inj := by
  intro x y h _ _
  rw [inj x y h] }
theorem ZU {c : Ctr}  {α ρ : Type} {enc : α → List A} {encR : ρ → A} {F : α → Option ρ}  {inj : ∀ x y, enc x = enc y → x = y} (h : c.Has (spF k enc encR F gives inj)) {x : α} {r : ρ} (hr : F x = some r)  (ha : as_.map A.loose = enc x) :
  c.run k (c.norm k as_) = some (encR r) := by
 have h1 := h.run x ⟨r, hr⟩
 have h2 : c.raw k = false := h.raw
 unfold Ctr.norm
 rw [h2]
 simp [Bool.false_eq_true]
 rw [ha]
 refine Eq.trans h1 ?_
 simp [spF, hr]
theorem ZT {c : Ctr}  {α ρ : Type} {enc : α → List A} {encR : ρ → A} {F : α → Option ρ}  {inj : ∀ x y, enc x = enc y → x = y} (h : c.Has (spF k enc encR F gives inj)) : c.gives k = gives := h.gives
theorem zX {α ρ : Type} {enc : α → List A} {encR : ρ → A} {F : α → Option ρ}  {inj : ∀ x y, enc x = enc y → x = y} (h : ∀ x r, F x = some r → Yv P k (enc x) (encR r)) : (spF k enc encR F gives inj).Ok P := by
 rintro x ⟨r, hr⟩
 have := h x r hr
 simpa only [spF, hr] using this
theorem loN : ([] : List A).map A.loose = [] := rfl
theorem loC (f : α → A) {g : α → A} [h : UO f g] (x : α) {as_ bs : List A} (k : as_.map A.loose = bs) : (f x :: as_).map A.loose = g x :: bs := by simp [List.map_cons, h.lo, k]
end
section
variable {P : Program} {tt : TT} {ctr : Ctr} {n : Fr} {Q : Exit → St → Prop}
theorem z5O (X : XH P) (hT : wl P tt) (hC : zJ P ctr) (hm : P.follows .mixedOrders = true) (live : List Nat) (k : Nat) {c : Code} {fs : List Fm} {st : St} (hs : List H) (c' : Code) (fs' : List Fm) (l' : List (Nat × T)) (obs : List Ob)
  (e : Qj X tt ctr n live k c fs st hs = some (.at c' fs', ofL l', obs.map Ob.p)) (h : ∀ st0, canon live st0 = ofL l' → AWP P n c' st0 (Qf P n fs' Q)) : AWP P n c st (Qf P n fs Q) := z0S X hT hC hm live k obs e h
theorem z40 (X : XH P) (hT : wl P tt) (hC : zJ P ctr) (hm : P.follows .mixedOrders = true) (live : List Nat) (k : Nat) {c : Code} {fs : List Fm} {st : St} (hs : List H) (J : St → Prop) (l' : List (Nat × T)) (obs : List Ob)
  (e : Qj X tt ctr n live k c fs st hs = some (.back J, ofL l', obs.map Ob.p)) (h : ∀ st0, canon live st0 = ofL l' → J st0) : AWP P n c st (Qf P n fs Q) := z0S X hT hC hm live k obs e h
end
open Classical
def z1x : A → Option (List Value)
 | .atom (.int k x) => some [.int k x]
 | .atom (.string s) => some [.string s]
 | .agg fs => keyLs fs
 | _ => none
where keyLs : List A → Option (List Value)
 | [] => some []
 | a :: as_ => match z1x a, keyLs as_ with | some x, some y => some (x ++ y) | _, _ => none
def Uj (a : A) : Option Value := (z1x a).map (zL a)
mutual
theorem z1w : ∀ {a : A} {cs l : List Value}, Rep S a cs → z1x a = some l → cs = l
 | .atom v, cs, l, h, e => by
  cases v <;> simp only [z1x] at e <;> first | (cases e; done) | skip
  all_goals
   simp only [Rep] at h
   cases e
   exact h.1
 | .agg fs, cs, l, h, e => by
  simp only [Rep] at h
  simp only [z1x] at e
  exact KL h e
 | .fn _ _, _, _, _, e => by cases e
 | .tup _, _, _, _, e => by cases e
 | .sl _ _ _, _, _, _, e => by cases e
 | .sptr _, _, _, _, e => by cases e
 | .dop _, _, _, _, e => by cases e
 | .osl _ _ _, _, _, _, e => by cases e
 | .box _, _, _, _, e => by cases e
 | .dead _, _, _, _, e => by cases e
 | .opq _, _, _, _, e => by cases e
theorem KL : ∀ {as_ : List A} {cs l : List Value}, yc S as_ cs → z1x.keyLs as_ = some l → cs = l
 | [], cs, l, h, e => by
  simp only [yc] at h
  simp only [z1x.keyLs] at e
  cases e
  exact h
 | a :: as_, cs, l, h, e => by
  simp only [yc] at h
  obtain ⟨c1, c2, rfl, h1, h2⟩ := h
  simp only [z1x.keyLs] at e
  cases e1 : z1x a with
  | none => simp only [e1] at e; cases e
  | some x =>
   cases e2 : z1x.keyLs as_ with
   | none => simp only [e1, e2] at e; cases e
   | some y =>
    simp only [e1, e2] at e
    cases e
    rw [z1w h1 e1, KL h2 e2]
end
theorem z1v {a : A} {v kv : Value} (h : vw S a v) (e : Uj a = some kv) : v = kv := by
 obtain ⟨cs, h1, rfl⟩ := h
 unfold Uj at e
 obtain ⟨l, e1, rfl⟩ := Option.map_eq_some_iff.1 e
 rw [z1w h1 e1]
def WZ (S : zi) (es : List (A × A)) (ents : List MapEntry) : Prop := ke (fun p (e : MapEntry) => Uj p.1 = some e.key ∧ vw S p.2 e.val) es ents
def Vs (es : List (A × A)) : Opq := {
 holds := fun S h u F => ∃ b ents cl, u = .map (some b) ∧ F = [b] ∧ h[b]? = some (.map ents cl) ∧ (∀ o, S b o = none) ∧ WZ S es ents.toList
 one := fun ⟨_, _, _, e, _⟩ => .inl (by rw [e]; rfl)
 frame := fun hS hF ⟨b, ents, cl, e1, e2, e3, e4, e5⟩ => by
  subst e2
  have ⟨g1, g2⟩ := hF b (by simp)
  exact ⟨b, ents, cl, e1, rfl, g1.trans e3, g2, ke.mono (fun _ _ q => ⟨q.1, q.2.mono hS⟩) e5⟩
 own := fun ⟨b, ents, cl, e1, e2, e3, e4, e5⟩ k hk => by
  subst e2
  simp [List.mem_cons, List.not_mem_nil, or_false] at hk
  subst hk
  exact ⟨(Array.getElem?_eq_some_iff.1 e3).1, e4⟩
 idx := 0 }
def Ym (k : A) : List (A × A) → Nat → Option (Nat × A)
 | [], _ => none
 | p :: es, i => if Uj p.1 = Uj k then some (i, p.2) else Ym k es (i + 1)
def Us (k : Value) : List MapEntry → Nat → Option (Nat × Value)
 | [], _ => none
 | e :: es, i => if e.key = k then some (i, e.val) else Us k es (i + 1)
variable {kv : Value}
theorem JA {k : A}  (hk : Uj k = some kv) : ∀ {es : List (A × A)} {ents : List MapEntry} {i : Nat}, WZ S es ents →
  (Ym k es i = none ∧ Us kv ents i = none) ∨ ∃ j y v, Ym k es i = some (j, y) ∧ Us kv ents i = some (j, v) ∧ vw S y v ∧ i ≤ j ∧ j < i + es.length ∧ (ents[j - i]?).map (·.key) = some kv
 | [], [], i, _ => .inl ⟨rfl, rfl⟩
 | p :: es, e :: ents, i, h => by
  simp only [Ym, Us]
  by_cases hp : Uj p.1 = Uj k
  ·have he : e.key = kv := by
    have := h.1.1.symm.trans (hp.trans hk)
    simpa using this
   rw [if_pos hp, if_pos he]
   exact .inr ⟨i, p.2, e.val, rfl, rfl, h.1.2, Nat.le_refl _, by simp, by simp [he]⟩
  ·have he : ¬ e.key = kv := fun q => hp (by rw [h.1.1, hk, q])
   rw [if_neg hp, if_neg he]
   rcases JA hk (i := i + 1) h.2 with q | ⟨j, y, v, q1, q2, q3, q4, q5, q6⟩
   ·exact .inl q
   ·refine .inr ⟨j, y, v, q1, q2, q3, by omega, by simp only [List.length_cons]; omega, ?_⟩
    rw [show j - i = (j - (i + 1)) + 1 by omega, List.getElem?_cons_succ]
    exact q6
 | [], _ :: _, _, h => h.elim
 | _ :: _, [], _, h => h.elim
structure z7U (P : Program) (t kt et : Nat) (ok : A → Bool) (z : A) : Prop where
 und : P.underlying t = some (.map kt et)
 zero : ∃ zv, (∀ w, (zeroValue et).run P w = .ok zv w) ∧ ∀ S, vw S z zv
 check : ∀ a kv e w, ok a = true → Uj a = some kv → (Instr.checkKey e 10000 kt kv).run P w = .ok () w
 find : ∀ a kv, ok a = true → Uj a = some kv → ∀ (ents : List MapEntry) (es : List (A × A)), (∀ p ∈ es, ok p.1 = true) → ke (fun p (e : MapEntry) => Uj p.1 = some e.key) es ents → ∀ w, (Instr.findKey kt kv ents).run P w = .ok (Us kv ents 0) w
 bits : ∀ a kv, ok a = true → Uj a = some kv → Instr.sameBits 10000 kv kv = true
 key : ∀ a, ok a = true → ∃ kv, Uj a = some kv
 zd : z.isD = true
variable {es : List (A × A)}
section
variable {P : Program} {C : Ctx} {S : zi} {Fp : Nat → List Nat} {X : List Nat} {st : St} {a : Act} {w : World} {t kt et : Nat} {ok : A → Bool} {z : A}
def z5a (n : Fr) (dst : Option Nat) (es : List (A × A)) (ok : A → Bool) (z : A) (x k : Operand) (two : Bool) : SM Unit := do
 let tx ← opnd x
 let y ← peek tx
 let tk ← opnd k
 let vk ← val tk
 if y = .opq (Vs es) ∧ ok vk = true ∧ ∀ p ∈ es, ok p.1 = true then
  wrT n dst (.d (match Ym vk es 0 with
   | some (_, v) => if two = true then .tup [v, .atom (.bool true)] else v
   | none => if two = true then .tup [z, .atom (.bool false)] else z))
 else zn
theorem z58 {q : Opq}  (h : yY S (.opq q) v ∨ ∃ cs F, zy S w.heap (.opq q) cs F ∧ v = zL (.opq q) cs) : ∃ F, q.holds S w.heap v F := by
 rcases h with h | ⟨cs, F, h1, h2⟩
 ·simp [yY, vw, Rep, false_and] at h
 ·simp [zy] at h1
  obtain ⟨u, rfl, h1⟩ := h1
  exact ⟨F, by rw [h2]; exact h1⟩
theorem z57 (mt : z7U P t kt et ok z)  {ents : Array MapEntry} {cl b : Nat} (hb : w.heap[b]? = some (.map ents cl)) (he : WZ S es ents.toList) (hok : ∀ p ∈ es, ok p.1 = true) {vk : A}  (hv : ok vk = true) (hk : Uj vk = some kv) (two : Bool) :
    ∃ v, (Instr.lookup t (.map (some b)) kv two).run P w = .ok v w ∧ yY S (match Ym vk es 0 with
      | some (_, v) => if two = true then .tup [v, .atom (.bool true)] else v
      | none => if two = true then .tup [z, .atom (.bool false)] else z) v := by
  have ⟨zv, z1, z2⟩ := mt.zero
  have hf := mt.find vk kv hv hk ents.toList es hok (ke.mono (fun _ _ q => q.1) he) w
  have hc := mt.check vk kv ents.isEmpty w hv hk
  have run : (Instr.lookup t (.map (some b)) kv two).run P w = (do
        let (v, b) ← match Us kv ents.toList 0 with
          | some (_, v) => pure (v, true)
          | none => pure (← zeroValue et, false)
        pure (if two then .tuple #[v, .bool b] else v) : Sem Value).run P w := by
    unfold Instr.lookup
    rw [Sem.run_bind, run_underlying mt.und, Result.andThen_ok]
    have hg : (getObj b).run P w = .ok (.map ents cl) w := by simp [getObj, Sem.run, hb]
    simp only [Sem.run_bind, hg, Result.andThen_ok, Sem.run_pure, hc, hf]
    cases Us kv ents.toList 0 <;> rfl
  rcases JA hk (i := 0) he with ⟨q1, q2⟩ | ⟨j, y, v, q1, q2, q3, _⟩
  · rw [q1]
    refine ⟨if two = true then .tuple #[zv, .bool false] else zv, ?_, ?_⟩
    · rw [run, q2]; simp [z1]
    · cases two
      · exact (z2 S).repV
      · simp only [if_true, yY]
        exact ⟨[zv, .bool false], rfl, z2 S, wY.2 ⟨rfl, rfl⟩, trivial⟩
  · rw [q1]
    refine ⟨if two = true then .tuple #[v, .bool true] else v, ?_, ?_⟩
    · rw [run, q2]; simp
    · cases two
      · exact q3.repV
      · simp only [if_true, yY]
        exact ⟨[v, .bool true], rfl, q3, wY.2 ⟨rfl, rfl⟩, trivial⟩
theorem z59 (mt : z7U P t kt et ok z) (h : Sim C S Fp [] st a w)   {x k : Operand} {two : Bool} (ho : o.op = .lookup t x k two)    (e : z5a C.n o.dst es ok z x k two st = some (u, R, U)) : ui P C o a w (zf U st) := by
 unfold z5a at e
 have ⟨tx, _, hx, e1⟩ := bR (zz h) e
 have ⟨y, _, qx, e2⟩ := bR (Wa h hx) e1
 have ⟨tk, _, hk, e3⟩ := bR (zz h) e2
 have ⟨vk, _, qk, e4⟩ := bR (vU h hk) e3
 split at e4
 ·rename_i hc
  obtain ⟨rfl, c2, c3⟩ := hc
  have ⟨F, b, ents, cl, ev, _, g1, _, g3⟩ := z58 qx
  have ⟨kv, hkv⟩ := mt.key vk c2
  have hkd : a.eval k = kv := by
   refine z1v (S := S) ?_ hkv
   cases vk <;> first | exact qk | (simp only [Uj, z1x, Option.map_none] at hkv; cases hkv)
  have ⟨v, r1, r2⟩ := z57 mt g1 g3 c3 c2 hkv two
  have ⟨Fp', hs⟩ := xY h e4 (x := .d _) r2
  exact zm (by simp [execOp, ho, ev, hkd, r1]) hs
 ·cases e4
def z6a (es : List (A × A)) (k v : A) : List (A × A) :=
 match Ym k es 0 with
 | some (j, _) => es.set j (k, v)
 | none => es ++ [(k, v)]
def z7Z (es : List (A × A)) (ok : A → Bool) (x k v : Operand) : SM Unit := do
 let tx ← opnd x
 match tx with
 | .als r [] er ec => do
  let e ← rdE r
  let tk ← opnd k
  let vk ← val tk
  let tv ← opnd v
  let vv ← val tv
  if e.t = .own (.opq (Vs es)) ∧ e.er = er ∧ ok vk = true ∧ vv.isD = true ∧ ∀ p ∈ es, ok p.1 = true then
   wrE r ⟨.own (.opq (Vs (z6a es vk vv))), e.er, e.ec + 1⟩
  else zn
 | _ => zn
theorem z16 : ∀ {es : List (A × A)} {ents : List MapEntry} {j : Nat} {p : A × A} {f : MapEntry → MapEntry}, WZ S es ents → (∀ e, ents[j]? = some e → Uj p.1 = some (f e).key ∧ vw S p.2 (f e).val) → WZ S (es.set j p) (ents.modify j f)
 | [], [], j, p, f, _, _ => by simp [List.set_nil, List.modify_nil]; exact trivial
 | q :: es, e :: ents, 0, p, f, h, hf => by
  have := hf e (by simp)
  simp [List.set_cons_zero, List.modify_zero_cons]
  exact ⟨this, h.2⟩
 | q :: es, e :: ents, j + 1, p, f, h, hf => by
  simp [List.set_cons_succ, List.modify_succ_cons]
  exact ⟨h.1, z16 h.2 (fun e' he' => hf e' (by simpa using he'))⟩
 | [], _ :: _, _, _, _, h, _ => h.elim
 | _ :: _, [], _, _, _, h, _ => h.elim
theorem z2t (mt : z7U P t kt et ok z) (h : Sim C S Fp [] st a w)   {x k v : Operand} (ho : o.op = .mapUpdate t x k v ∨ o.op = .insert t x k v) (hd : o.dst = none)    (e : z7Z es ok x k v st = some (u, R, U)) : ui P C o a w (zf U st) := by
 unfold z7Z at e
 have ⟨tx, _, hx, e1⟩ := bR (zz h) e
 split at e1
 ·rename_i r er ec
  have ⟨_, e2⟩ := bD e1
  have ⟨tk, _, hk, e3⟩ := bR (zz h) e2
  have ⟨vk, _, qk, e4⟩ := bR (vU h hk) e3
  have ⟨tv, _, hv, e5⟩ := bR (zz h) e4
  have ⟨vv, _, qv, e6⟩ := bR (vU h hv) e5
  split at e6
  ·rename_i hc
   have ⟨c1, c2, c3, c4, c5⟩ := hc
   cases e6
   have hr := h.ent r
   unfold yG at hr
   simp only [c1] at hr
   have ⟨cs, k1, k2, k3⟩ := hr
   simp only [zy] at k1
   obtain ⟨v0, rfl, b, ents, cl, rfl, hF, g1, g2, g3⟩ := k1
   have hev : a.eval x = .map (some b) := by
    have := hx.2.2
    simp only [c1] at this
    rcases this c2 (.inl trivial) with ⟨_, q⟩ | ⟨q, _⟩
    ·rw [q, k3]; rfl
    ·simp [YK] at q
   have ⟨kv, hkv⟩ := mt.key vk c3
   have hkd : a.eval k = kv := by
    refine z1v (S := S) ?_ hkv
    cases vk <;> first | exact qk | (simp only [Uj, z1x, Option.map_none] at hkv; cases hkv)
   have hvd : vw S vv (a.eval v) := qv.rep1 c4
   have hf := mt.find vk kv c3 hkv ents.toList es c5 (ke.mono (fun _ _ q => q.1) g3) w
   have hck := mt.check vk kv false w c3 hkv
   have hget : (getObj b).run P w = .ok (.map ents cl) w := by simp [getObj, Sem.run, g1]
   have hset : ∀ o', (setObj b o').run P w = .ok () (w.putObj b o') := by intro o'; simp [setObj, Sem.run, g1, World.putObj]
   have hbM : C.M b := h.base r b (by rw [hF]; simp)
   have hoth : ∀ k o', k ≠ b → (w.putObj b o').heap[k]? = w.heap[k]? := fun k o' hk => World.putObj_heap_other hk
   have hlt : b < w.heap.size := (Array.getElem?_eq_some_iff.1 g1).1
   have fin : ∀ ents' cl' es', WZ S es' ents'.toList → ∃ Fp', Sim C S Fp' [] (upd st r ⟨.own (.opq (Vs es')), (st r).er, (st r).ec + 1⟩) a (w.putObj b (.map ents' cl')) := by
    intro ents' cl' es' he'
    refine ⟨_, h.change r (.own (.opq (Vs es'))) _ _ [b] ?_ (fun _ _ _ q => q) ?_ h.sbase ?_ ⟨⟨[.map (some b)], ?_, by simp, k3⟩, _, c1⟩ (.inl ⟨_, c1⟩) (Nat.le_refl _) (Nat.lt_succ_self _) ?_ ?_ (by simp) (by simp) (by simp) (by simp)⟩
    ·exact h.below.trans ⟨rfl, rfl, rfl, Nat.le_refl _, by simp [World.putObj], fun k hk => hoth k _ (by rintro rfl; exact hk hbM)⟩
    ·intro b' o' v' hs
     have := h.still b' o' v' hs
     unfold zY at this ⊢
     rw [hoth b' _ (by rintro rfl; rw [g2] at hs; cases hs)]
     exact this
    ·intro t' k' ht' hk'
     exact ⟨hoth k' _ (by rintro rfl; exact ht' (h.disj t' r _ hk' (by rw [hF]; simp))), (h.free t' k' hk').2.1⟩
    ·simp only [zy]
     exact ⟨_, rfl, b, ents', cl', rfl, rfl, World.putObj_heap_same hlt, g2, he'⟩
    ·intro t' k' ht' hk' hk2
     simp only [List.mem_cons, List.not_mem_nil, or_false] at hk'
     subst hk'
     exact ht' (h.disj t' r _ hk2 (by rw [hF]; simp))
    ·intro k' hk'
     simp only [List.mem_cons, List.not_mem_nil, or_false] at hk'
     subst hk'
     exact hbM
   have run : (Instr.mapUpdate t (.map (some b)) kv (a.eval v)).run P w = (do
     match Us kv ents.toList 0 with
     | some (i, _) => do
      let key ← Instr.keyThatStays (((ents[i]?).map (·.key)).getD kv) kv
      setObj b (.map (ents.modify i fun e => { e with key, val := a.eval v }) cl)
     | none => setObj b (.map (ents.push { key := kv, val := a.eval v, born := cl }) (cl + 1)) : Sem Unit).run P w := by
    unfold Instr.mapUpdate
    rw [Sem.run_bind, run_underlying mt.und, Result.andThen_ok]
    simp only [Sem.run_bind, hget, Result.andThen_ok, hck, hf]
    cases Us kv ents.toList 0 <;> rfl
   simp only [zf]
   have good : ∀ w', (Instr.mapUpdate t (.map (some b)) kv (a.eval v)).run P w = .ok () w' → ∀ es' Fp', Sim C S Fp' [] (upd st r ⟨.own (.opq (Vs es')), (st r).er, (st r).ec + 1⟩) a w' → ui P C o a w (upd st r ⟨.own (.opq (Vs es')), (st r).er, (st r).ec + 1⟩) := by
    intro w' hw es' Fp' hs
    refine Uq (w' := w') ?_ hd hs
    rcases ho with ho | ho <;> simp [execOp, ho, hev, hkd, hw]
   rcases JA hkv (i := 0) g3 with ⟨q1, q2⟩ | ⟨j, y, v', q1, q2, q3, q4, q5, q6⟩
   ·have he' : WZ S (z6a es vk vv) (ents.push { key := kv, val := a.eval v, born := cl }).toList := by
     simp only [z6a, q1, Array.toList_push]
     exact JR g3 ⟨⟨hkv, hvd⟩, trivial⟩
    have ⟨Fp', hs⟩ := fin _ (cl + 1) _ he'
    exact good _ (by rw [run, q2]; exact hset _) _ _ hs
   ·have hkey : (ents[j]?).map (·.key) = some kv := by
     simp only [Nat.sub_zero] at q6
     rw [← Array.getElem?_toList]; exact q6
    have he' : WZ S (z6a es vk vv) (ents.modify j fun e => { e with key := kv, val := a.eval v }).toList := by
     simp only [z6a, q1]
     rw [Array.toList_modify]
     exact z16 g3 fun _ _ => ⟨hkv, hvd⟩
    have ⟨Fp', hs⟩ := fin _ cl _ he'
    refine good _ ?_ _ _ hs
    rw [run, q2]
    simp only [hkey, Option.getD_some, Instr.keyThatStays, mt.bits vk kv c3 hkv, if_true, Sem.run_bind, Sem.run_pure, Result.andThen_ok, hset]
  ·cases e6
 ·cases e1
end
section
variable {P : Program} {C : Ctx} {S : zi} {Fp : Nat → List Nat} {X : List Nat} {st : St} {a : Act} {w : World} {t kt et : Nat} {ok : A → Bool} {z : A}
def z3c (n : Fr) (dst : Option Nat) : SM Unit := wrT n dst (.own (.opq (Vs [])))
theorem z3b (h : Sim C S Fp [] st a w)  (ho : o.op = .makeMap t none)    (e : z3c C.n o.dst st = some (u, R, U)) : ui P C o a w (zf U st) := by
 have h2 := h.alloc (by simp) (.map #[] 0)
 have hc : zy S (w.alloc (.map #[] 0)).heap (.opq (Vs [])) [.map (some w.heap.size)] [w.heap.size] := by
  simp only [zy]
  exact ⟨_, rfl, w.heap.size, #[], 0, rfl, rfl, heap_alloc_new w _, fun o => h.free_new (Nat.le_refl _) o, trivial⟩
 have ⟨Fp'', hs⟩ := Y7 (F := [w.heap.size]) (X := []) h2 e hc (by simp)
 refine zm (v := .map (some w.heap.size)) ?_ hs
 simp [execOp, ho, Instr.makeMap]
end
def z6g (n : Fr) (dst : Option Nat) (es : List (A × A)) (ok : A → Bool) (z : A) (x k : Operand) (two : Bool) : HM Unit :=
 ya (opnd x) >>= fun tx => z0u tx >>= fun y => ya (opnd k) >>= fun tk => VF tk >>= fun vk =>
 kG (y = .opq (Vs es) ∧ ok vk = true ∧ ∀ p ∈ es, ok p.1 = true) (eqA (match Ym vk es 0 with
   | some (_, v) => if two = true then .tup [v, .atom (.bool true)] else v
   | none => if two = true then .tup [z, .atom (.bool false)] else z) >>= fun r => ya (wrT n dst (.d r)))
theorem z73 (n : Fr) (dst : Option Nat) (es : List (A × A)) (ok : A → Bool) (z : A) (x k : Operand) (two : Bool) : Snd (z5a n dst es ok z x k two) (z6g n dst es ok z x k two) :=
 zb (zj _) fun _ => zb (Qg _) fun _ => zb (zj _) fun _ => zb (k7 _) fun _ => uO (YI (zM _ fun r => wrT n dst (.d r)).symm (zb (Km _) fun _ => zj _))
def z9y (es es' : List (A × A)) (ok : A → Bool) (x k v : Operand) : HM Unit := ya (opnd x) >>= fun tx =>
 match tx with
 | .als r [] er ec => ya (rdE r) >>= fun e => ya (opnd k) >>= fun tk => VF tk >>= fun vk => ya (opnd v) >>= fun tv => VF tv >>= fun vv =>
  kG (e.t = .own (.opq (Vs es)) ∧ e.er = er ∧ ok vk = true ∧ vv.isD = true ∧ ∀ p ∈ es, ok p.1 = true) (kG (z6a es vk vv = es') (ya (wrE r ⟨.own (.opq (Vs es')), e.er, e.ec + 1⟩)))
 | _ => zA
theorem z63 (es es' : List (A × A)) (ok : A → Bool) (x k v : Operand) : Snd (z7Z es ok x k v) (z9y es es' ok x k v) := by
 refine zb (zj _) fun tx => ?_
 cases tx with
 | als r p er ec =>
  cases p with
  | nil =>
   refine zb (zj _) fun e => zb (zj _) fun tk => zb (k7 _) fun vk => zb (zj _) fun tv => zb (k7 _) fun vv => uO ?_
   exact Jf fun hq => by rw [hq]; exact zj _
  | cons _ _ => exact zl _
 | _ => exact zl _
def z9t (P : Program) (d : Nat) : XH P := {
 e := fun n o => match o.op with | .makeMap _ none => if o.dst = some d then some (z3c n o.dst) else none | _ => none
 h := fun n o => match o.op with | .makeMap _ none => if o.dst = some d then some (ya (z3c n o.dst)) else none | _ => none
 ok := by
  refine ⟨?_, ?_⟩
  ·intro C S Fp st a w o m u R U e h h2
   dsimp only at e
   split at e
   ·rename_i ho
    split at e
    ·cases e; exact z3b h ho h2
    ·cases e
   ·cases e
  ·intro n o m e
   dsimp only at e
   split at e
   ·split at e
    ·cases e; exact fun st st' a R U => Loc.wrT _ _ _ st st' a R U
    ·cases e
   ·cases e
 none := by
  intro n o e
  skip
  split at e
  ·split at e
   ·cases e
   ·rename_i hd; rw [if_neg hd]
  ·rfl
 some := by
  intro n o m e
  skip
  split at e
  ·split at e
   ·rename_i hd; cases e; exact ⟨_, by rw [if_pos hd], zj _⟩
   ·cases e
  ·cases e }
variable {z : A}
def z8e {t kt et : Nat} {ok : A → Bool}  (mt : z7U P t kt et ok z) (d : Nat) (es : List (A × A)) : XH P := {
 e := fun n o => match o.op with | .lookup t' x k two => if o.dst = some d ∧ t' = t then some (z5a n o.dst es ok z x k two) else none | _ => none
 h := fun n o => match o.op with | .lookup t' x k two => if o.dst = some d ∧ t' = t then some (z6g n o.dst es ok z x k two) else none | _ => none
 ok := by
  refine ⟨?_, ?_⟩
  ·intro C S Fp st a w o m u R U e h h2
   dsimp only at e
   split at e
   ·rename_i t' x k two ho
    split at e
    ·rename_i hd
     obtain ⟨_, rfl⟩ := hd
     cases e; exact z59 mt h ho h2
    ·cases e
   ·cases e
  ·intro n o m e
   dsimp only at e
   split at e
   ·split at e
    ·cases e
     refine Loc.bind (Loc.opnd _) fun _ => Loc.bind (Loc.peek _) fun _ => Loc.bind (Loc.opnd _) fun _ => Loc.bind (Loc.val _) fun _ => Loc.ite (Loc.wrT _ _ _) Loc.fail
    ·cases e
   ·cases e
 none := by
  intro n o e
  skip
  split at e
  ·split at e
   ·cases e
   ·rename_i hd; rw [if_neg hd]
  ·rfl
 some := by
  intro n o m e
  skip
  split at e
  ·split at e
   ·rename_i hd; cases e; exact ⟨_, by rw [if_pos hd], z73 _ _ _ _ _ _ _ _⟩
   ·cases e
  ·cases e }
def zaQ {t kt et : Nat} {ok : A → Bool}  (mt : z7U P t kt et ok z) (q : Nat) (es es' : List (A × A)) : XH P := {
 e := fun n o => match o.op with
  | .mapUpdate t' (.tmp x) k v => if x = q ∧ t' = t ∧ o.dst = none then some (z7Z es ok (.tmp x) k v) else none
  | .insert t' (.tmp x) k v => if x = q ∧ t' = t ∧ o.dst = none then some (z7Z es ok (.tmp x) k v) else none
  | _ => none
 h := fun n o => match o.op with
  | .mapUpdate t' (.tmp x) k v => if x = q ∧ t' = t ∧ o.dst = none then some (z9y es es' ok (.tmp x) k v) else none
  | .insert t' (.tmp x) k v => if x = q ∧ t' = t ∧ o.dst = none then some (z9y es es' ok (.tmp x) k v) else none
  | _ => none
 ok := by
  have loc : ∀ x k v, Loc (z7Z es ok x k v) := by
   intro x k v
   refine Loc.bind (Loc.opnd _) fun tx => ?_
   split
   ·exact Loc.bind (Loc.rdE _) fun _ => Loc.bind (Loc.opnd _) fun _ => Loc.bind (Loc.val _) fun _ => Loc.bind (Loc.opnd _) fun _ => Loc.bind (Loc.val _) fun _ => Loc.ite (Loc.wrE _ _) Loc.fail
   ·exact Loc.fail
  refine ⟨?_, ?_⟩
  ·intro C S Fp st a w o m u R U e h h2
   dsimp only at e
   split at e
   ·rename_i t' x k v ho
    split at e
    ·rename_i hd
     obtain ⟨_, rfl, hd⟩ := hd
     cases e; exact z2t mt h (.inl ho) hd h2
    ·cases e
   ·rename_i t' x k v ho
    split at e
    ·rename_i hd
     obtain ⟨_, rfl, hd⟩ := hd
     cases e; exact z2t mt h (.inr ho) hd h2
    ·cases e
   ·cases e
  ·intro n o m e
   dsimp only at e
   split at e
   ·split at e
    ·cases e; exact loc _ _ _
    ·cases e
   ·split at e
    ·cases e; exact loc _ _ _
    ·cases e
   ·cases e
 none := by
  intro n o e
  skip
  split at e
  ·split at e
   ·cases e
   ·rename_i hd; rw [if_neg hd]
  ·split at e
   ·cases e
   ·rename_i hd; rw [if_neg hd]
  ·rfl
 some := by
  intro n o m e
  skip
  split at e
  ·split at e
   ·rename_i hd; cases e; exact ⟨_, by rw [if_pos hd], z63 _ _ _ _ _ _⟩
   ·cases e
  ·split at e
   ·rename_i hd; cases e; exact ⟨_, by rw [if_pos hd], z63 _ _ _ _ _ _⟩
   ·cases e
  ·cases e }
variable {K V : Type}
def Qq [BEq K] : List (K × V) → K → Option V
 | [], _ => none
 | p :: l, x => if p.1 == x then some p.2 else Qq l x
def z1o [BEq K] : List (K × V) → K → V → List (K × V)
 | [], x, v => [(x, v)]
 | p :: l, x, v => if p.1 == x then (x, v) :: l else p :: z1o l x v
class zaL {K : Type} [BEq K] (f : K → A) : Prop where
 eq : ∀ x y, (Uj (f x) = Uj (f y)) ↔ (x == y) = true
def YH (f : K → A) (g : V → A) (l : List (K × V)) : List (A × A) := l.map fun p => (f p.1, g p.2)
theorem z1C {f : K → A} {g : V → A} (x : K) : ∀ (l : List (K × V)) (i j : Nat) (y : A), Ym (f x) (YH f g l) i = some (j, y) → i ≤ j
 | [], _, _, _, e => by cases e
 | p :: l, i, j, y, e => by
  simp [YH, List.map_cons, Ym] at e
  split at e
  ·cases e; exact Nat.le_refl _
  ·exact Nat.le_of_succ_le (z1C x l (i + 1) j y e)
section
variable {K V : Type} [BEq K] {f : K → A} {g : V → A} [hk : zaL f]
theorem z1D (x : K) : ∀ (l : List (K × V)) (i : Nat), (Ym (f x) (YH f g l) i).map (·.2) = (Qq l x).map g
 | [], _ => rfl
 | p :: l, i => by
  simp [YH, List.map_cons, Ym, Qq]
  by_cases h : (p.1 == x) = true
  ·rw [if_pos ((hk.eq _ _).2 h), if_pos h]; rfl
  ·rw [if_neg (fun q => h ((hk.eq _ _).1 q)), if_neg h]; exact z1D x l (i + 1)
theorem z2U (x : K) (v : V) : ∀ (l : List (K × V)) (i : Nat), (match Ym (f x) (YH f g l) i with | some (j, _) => (YH f g l).set (j - i) (f x, g v) | none => YH f g l ++ [(f x, g v)]) = YH f g (z1o l x v)
 | [], _ => rfl
 | p :: l, i => by
  simp [YH, List.map_cons, Ym, z1o]
  by_cases h : (p.1 == x) = true
  ·rw [if_pos ((hk.eq _ _).2 h), if_pos h]
   simp
  ·rw [if_neg (fun q => h ((hk.eq _ _).1 q)), if_neg h]
   have ih := z2U x v l (i + 1)
   simp [List.map_cons]
   simp [YH] at ih
   cases hf : Ym (f x) (l.map fun p => (f p.1, g p.2)) (i + 1) with
   | none =>
    simp [hf] at ih ⊢
    simp [ih]
   | some q =>
    have ⟨j, y⟩ := q
    have hle := z1C (f := f) (g := g) x l (i + 1) j y hf
    simp [hf] at ih ⊢
    rw [show j - i = (j - (i + 1)) + 1 by omega, List.set_cons_succ, ih]
theorem z7h (x : K) (v : V) (l : List (K × V)) : z6a (YH f g l) (f x) (g v) = YH f g (z1o l x v) := by
 have := z2U (f := f) (g := g) x v l 0
 simpa only [Nat.sub_zero, z6a] using this
theorem zba {z0 : V}  (hz : g z0 = z) (x : K) (l : List (K × V)) : (match Ym (f x) (YH f g l) 0 with
      | some (_, v) => if false = true then A.tup [v, .atom (.bool true)] else v
      | none => if false = true then A.tup [z, .atom (.bool false)] else z) = g ((Qq l x).getD z0) := by
  have := z1D (f := f) (g := g) x l 0
  cases hf : Ym (f x) (YH f g l) 0 with
  | none => rw [hf] at this; cases hm : Qq l x with | none => simp [hz] | some y => simp [hm] at this
  | some q => have ⟨j, y⟩ := q; rw [hf] at this; cases hm : Qq l x with | none => simp [hm] at this | some y' => simp [hm] at this; simp [this]
end
theorem z6l {f : K → A} {g : V → A} {ok : A → Bool} (h : ∀ x, ok (f x) = true) (l : List (K × V)) : ∀ p ∈ YH f g l, ok p.1 = true := by
 intro p hp
 obtain ⟨q, _, rfl⟩ := List.mem_map.1 hp
 exact h _
theorem z4n {f : TypeInfo}  (h : P.info? t = some f) (hz : f.zero = some v) (w : World) : (zeroValue t).run P w = .ok v w := by simp [zeroValue, typeInfo, h, hz]
def z7Y (P : Program) (f : A)  (enc : β → Bool → Value → List A) (F : ∀ {σ : Type}, (σ → β → Option (σ × Bool)) → σ → Option σ) : Prop :=
 ∀ (σ : Type) (yv : Value) (Y : σ → JV) (y : σ → β → Option (σ × Bool)), (∀ s x s' b, y s x = some (s', b) → ∀ v, u4 P (.atom yv) (enc x b v) [(yv, .opq (Y s).q)] (.atom (.bool b)) [.opq (Y s').q]) →
  ∀ s s', F y s = some s' → u4 P f [.atom yv] [(yv, .opq (Y s).q)] (.tup []) [.opq (Y s').q]
def YOk (P : Program) (yv : Value) {σ β : Type} (Y : σ → JV) (enc : β → Bool → Value → List A) (y : σ → β → Option (σ × Bool)) : Prop :=
 ∀ s x s' b, y s x = some (s', b) → ∀ v, u4 P (.atom yv) (enc x b v) [(yv, .opq (Y s).q)] (.atom (.bool b)) [.opq (Y s').q]
def yOf {σ τ β : Type} (step : σ → β → Option (LR σ τ)) : LR σ τ → β → Option (LR σ τ × Bool)
 | .next s, x => match step s x with | some (.next s') => some (.next s', true) | some (.done t) => some (.done t, false) | none => none
 | .done _, _ => none
def z85 : LR σ τ → Bool
 | .next _ => true
 | .done _ => false
variable {b : Bool}
theorem z4o {σ τ β : Type} {step : σ → β → Option (LR σ τ)} {l l' : LR σ τ} {x : β}  (h : yOf step l x = some (l', b)) : ∃ s, l = .next s ∧ step s x = some l' ∧ b = z85 l' := by
 cases l with
 | done t => cases h
 | next s =>
  simp [yOf] at h
  cases hs : step s x with
  | none => simp [hs] at h
  | some r =>
   cases r with
   | _ => simp [hs, Option.some.injEq, Prod.mk.injEq] at h; obtain ⟨rfl, rfl⟩ := h; exact ⟨s, rfl, hs, rfl⟩
variable {caps : List A}{assign body : Code}{ps : List Nat}{g : Operand}
section
variable {σ τ β : Type}
def Kf (stF : σ → St) (stD : τ → St) : LR σ τ → St
 | .next s => stF s
 | .done t => stD t
def z29 (jc : τ → Code) : LR σ τ → Option Code
 | .next _ => none
 | .done t => some (jc t)
def YG (rec : Loop) (jc : τ → Code) (l : LR σ τ) : Loop := { rec with state := if (z29 jc l).isNone then .ready else .done, pending := z29 jc l }
theorem AWP.iterG {P : Program} {n : Fr} {st : St} {Q : Exit → St → Prop} {g : Operand} {ps : List Nat} {assign body : Code} {K : Nat} {caps : List A} (live : List Nat) (stF : σ → St) (stD : τ → St) (jc : τ → Code) (enc : β → Bool → Value → List A)
  (step : σ → β → Option (LR σ τ)) (s0 : σ) (lr : LR σ τ)
  (hg : z9m st g = some (.fn K caps)) (hnd : live.Nodup) (h0 : Own.canon live st = stF s0)
  (hcan : ∀ l, (∀ t, (Kf stF stD l t).t.plain = true) ∧ ∀ t, t ∉ live → (Kf stF stD l t).t = .gone)
  (hps : ∀ p ∈ ps, p < n.size ∧ p ∉ live ∧ pinned n.pin p = false) (hlen : ∀ x b v, ps.length = (enc x b v).length)
  (hit : ∀ (L : Nat) (rec : Loop) (tv : Nat → Value), YOk P (.func (.yield L) #[] #[]) (fun l => (Uf L (YG rec jc l) tv (Kf stF stD l) (hcan l).1 0).single rfl) enc (yOf step) →
   u4 P (.fn K caps) [.atom (.func (.yield L) #[] #[])] [(.func (.yield L) #[] #[], .opq (Uf L (YG rec jc (LR.next s0 : LR σ τ)) tv (Kf stF stD (.next s0)) (hcan (.next s0)).1 0))] (.tup []) [.opq (Uf L (YG rec jc lr) tv (Kf stF stD lr) (hcan lr).1 0)])
  (hround : ∀ (tv : Nat → Value) (s : σ) (x : β) (v : Value) (r : LR σ τ), step s x = some r → AWP P ⟨n.size, live.map (fun t => (t, tv t)) ++ n.pin⟩ assign (Ky (stF s) ps (enc x (z85 r) v)) (fun e st1 => e = .normal ∧ AWP P ⟨n.size, live.map (fun t => (t, tv t)) ++ n.pin⟩ body st1 (fun ex st2 => z3u ex = some (z29 jc r) ∧ Own.canon live st2 = Kf stF stD r)))
  (hend : z9W P n (Kf stF stD lr) Q (z29 jc lr)) : AWP P n (.rangeFunc g ps.toArray assign body) st Q := by
 intro rd mm df w0 S0 M S Fp a w hc hs
 obtain ⟨us, hev, hreps⟩ : ∃ us : List Value, a.eval g = .func (.func K) #[] us.toArray ∧ vw S (.fn K caps) (a.eval g) := by
  unfold z9m at hg
  split at hg
  ·rename_i t
   split at hg
   ·rename_i x ht
    cases hg
    have q := hs.ent t
    unfold yG at q
    simp [ht] at q
    have q1 : vw S (.fn K caps) (Act.tv a t) := q.1
    have ⟨cs, c1, c2⟩ := q1
    have c1' := c1
    simp [Rep] at c1
    obtain ⟨us, _, _, rfl⟩ := c1
    exact ⟨us, c2, ⟨_, c1', c2⟩⟩
   ·cases hg
  ·cases hg
 have ⟨Fp0, hs0, hd0⟩ := hs.canonD (hc.post hs) live
 rw [h0] at hs0
 refine wpIn_rangeFunc ?_
 intro fn hfn
 have ⟨df', wA, dq, en1, en2, en3⟩ := z91 (P := P) hc hs0 hd0 fn ps.toArray assign body
 generalize (df'.map z84).take (df'.length - df.length) = mk at en1 en2
 obtain ⟨rec, hrec⟩ : ∃ q : Loop, q = { state := .ready, pending := none, fn, tmps := a.tmps, params := ps.toArray, assign, body, defers := dq } := ⟨_, rfl⟩
 rw [← hrec] at en1
 have hs1 := en2.newObj (.loop rec)
 have hl : (wA.alloc (.loop rec)).heap[wA.heap.size]? = some (.loop rec) := World.alloc_heap_new wA _
 have hfr : ∀ t k, k ∈ Fp0 t → k < wA.heap.size := fun t k hk => (en2.free t k hk).1
 have hlF : ∀ t, wA.heap.size ∉ Fp0 t := fun t hk => by have := hfr t _ hk; omega
 have hSl : ∀ o, S wA.heap.size o = none := by
  intro o
  cases hq : S wA.heap.size o with
  | none => rfl
  | some v => have := en2.still_lt hq; omega
 have hrec0 : ∀ s, YG rec jc (LR.next s : LR σ τ) = rec := by intro s; rw [hrec]; rfl
 have hY : ∀ (l : LR σ τ) (x : β) (l' : LR σ τ) (b : Bool), yOf step l x = some (l', b) → ∀ v, u4 P (.atom (.func (.yield wA.heap.size) #[] #[])) (enc x b v) [(.func (.yield wA.heap.size) #[] #[], .opq (Uf wA.heap.size (YG rec jc l) (kc a.tmps) (Kf stF stD l) (hcan l).1 0))] (.atom (.bool b))
   [.opq (Uf wA.heap.size (YG rec jc l') (kc a.tmps) (Kf stF stD l') (hcan l').1 0)] := by
  intro l x l' b hy v
  obtain ⟨s, rfl, hst, rfl⟩ := z4o hy
  have htm : (YG rec jc (LR.next s : LR σ τ)).tmps = a.tmps := by rw [hrec0, hrec]
  have hb : z85 l' = (z29 jc l').isNone := by cases l' <;> rfl
  have r := z4Q (P := P) (n := ⟨n.size, live.map (fun t => (t, kc a.tmps t)) ++ n.pin⟩) (l := wA.heap.size) (rec := YG rec jc (LR.next s : LR σ τ)) (ps := ps) (ys := enc x (z85 l') v) (st0 := stF s) (st1 := Kf stF stD l') (i := 0) (i2 := 0) (live := live) (jc := z29 jc l') (hcan (.next s)).1 (hcan l').1
   (by rw [hrec0, hrec]) (by rw [hrec0, hrec]) (by rw [htm]; exact hs.size)
   (by
    intro j u hj
    rw [htm]
    rcases List.mem_append.1 hj with hj | hj
    ·have ⟨t, ht, he⟩ := List.mem_map.1 hj
     cases he
     rfl
    ·exact hs.pin j u hj)
   (fun t ht => by rw [htm]; exact List.mem_append.2 (.inl (List.mem_map.2 ⟨t, ht, rfl⟩))) hnd
   (fun p hp => by
    have ⟨p1, p2, p3⟩ := hps p hp
    refine ⟨p1, (hcan (.next s)).2 p p2, ?_⟩
    have gen : ∀ l : List Nat, p ∉ l → pinned (l.map (fun t => (t, kc a.tmps t)) ++ n.pin) p = false := by
     intro l
     induction l with
     | nil => intro _; exact p3
     | cons t l ih =>
      intro hl
      simp [List.mem_cons, not_or] at hl
      simp [List.map_cons, List.cons_append, pinned, ih hl.2, Bool.or_false]
      simpa using Ne.symm hl.1
    exact gen live p2) (hlen x _ v)
   (by
    have := hround (kc a.tmps) s x v l' hst
    rw [hrec0, hrec]
    exact this)
  have e : ({ YG rec jc (LR.next s : LR σ τ) with state := if (z29 jc l').isNone then .ready else .done, pending := z29 jc l' } : Loop) = YG rec jc l' := rfl
  rw [e] at r
  simp [htm] at r
  rw [← hb] at r
  exact r
 have hL := hit wA.heap.size rec (kc a.tmps) hY S (wA.alloc (.loop rec)) (a.eval g) [.func (.yield wA.heap.size) #[] #[]] (wA.heap.size :: live.flatMap Fp0) hs1.still hreps ⟨wY.2 ⟨rfl, rfl⟩, trivial⟩
  ⟨_, [], rfl, z33 ⟨rfl, by rw [hrec0]; exact hl, hSl, Fp0, (fun t => hs1.ent t), en2.disj, hlF, (fun k => by
   simp [List.mem_cons, List.mem_flatMap]
   constructor
   ·rintro (rfl | ⟨t, _, ht⟩)
    ·exact .inl rfl
    ·exact .inr ⟨t, ht⟩
   ·rintro (rfl | ⟨t, ht⟩)
    ·exact .inl rfl
    ·refine .inr ⟨t, ?_, ht⟩
     apply Classical.byContradiction
     intro hn
     have q := en2.ent t
     unfold yG at q
     have hg := (hcan (.next s0)).2 t hn
     simp [Kf] at hg
     simp [hg] at q
     rw [q] at ht
     simp at ht)⟩ (z1n en2 hnd hlF), rfl⟩ (z1n en2 hnd hlF)
 rcases hL with ⟨k, cs, fn', a1, a2, a3, a4, a5⟩ | ⟨L, q, a1, _⟩
 rotate_left
 ·rw [hev] at a1; cases a1
 refine ⟨wA.heap.size, mk, wA.alloc (.loop rec), { target := .fn (.func k) cs, args := #[.func (.yield wA.heap.size) #[] #[]] }, wA.alloc (.loop rec), k, #[.func (.yield wA.heap.size) #[] #[]] ++ cs, wA.alloc (.loop rec), en1, ?_, fun _ _ => trivial, ?_, fun h => (by cases h), ?_⟩
 ·simp [resolve, a1]
  simp [go_sem]
 ·simp [invoke]
  exact W6 a2 a3 a4 _ _
 ·refine (XG a5 rd (mm - 1)).mono ?_
  rintro e w' ⟨v', rfl, S', F', G, b1, b2, b3, b4, _, b6, _, b8⟩
  have ⟨G1, G2, hGe, b6, hnil⟩ := b6
  have hG2 : G2 = [] := hnil
  subst hG2
  simp [List.nil_append] at hGe
  subst hGe
  have ⟨_, c2, c3, Fp', c4, c5, c6, c7⟩ := z3x b6
  have hnb : (YG rec jc lr).state ≠ .busy := by
   simp [YG]
   cases lr <;> simp [z29]
  have hpend : (YG rec jc lr).pending = z29 jc lr := rfl
  refine ⟨_, _, run_endLoop c2 hnb, ?_⟩
  rw [hpend]
  have hMl : M wA.heap.size := en2.mine _ en2.below.size
  have hMn : ∀ k, ((wA.alloc (.loop rec)).heap.size ≤ k ∨ k ∈ wA.heap.size :: live.flatMap Fp0) → M k := by
   rintro k (hk | hk)
   ·exact hs1.mine k (Nat.le_trans hs1.below.size hk)
   ·rcases List.mem_cons.1 hk with rfl | hk
    ·exact hMl
    ·have ⟨t, _, ht⟩ := List.mem_flatMap.1 hk
     exact en2.base t k ht
  have hout : ∀ t k, k ∈ Fp' t → ((wA.alloc (.loop rec)).heap.size ≤ k ∨ k ∈ wA.heap.size :: live.flatMap Fp0) := fun t k hk => b8 k (List.mem_append.2 (.inl ((c7 k).2 (.inr ⟨t, hk⟩))))
  have hpf : ∀ o, Sim ⟨n, df', w0, S0, M⟩ S' Fp' [] (Kf stF stD lr) { a with defers := mk ++ a.defers } (w'.putObj wA.heap.size o) := by
   intro o
   refine { size := hs.size, pin := hs.pin, defers := en2.defers, below := ?_, mine := hs.mine, still := ?_, sinc := fun b o v q => b2 _ _ _ (en2.sinc _ _ _ q), sbase := ?_, ent := ?_, disj := c5, base := fun t k hk => hMn k (hout t k hk), xn := by simp, xd := by simp, xb := by simp }
   ·exact (hs1.below.trans (b1.mono hMn)).trans ⟨rfl, rfl, rfl, Nat.le_refl _, by simp [World.putObj], fun k hk => World.putObj_heap_other (by rintro rfl; exact hk hMl)⟩
   ·refine ⟨?_, b4.gok, b4.blk.of (fun _ _ _ q => q) fun g x e => World.putObj_heap_other (by rintro rfl; exact b4.blk.ne (c3 0) x e)⟩
    intro b i v q
    have hne : b ≠ wA.heap.size := by rintro rfl; rw [c3] at q; cases q
    have := b4 b i v q
    unfold zY at this ⊢
    rw [World.putObj_heap_other hne]
    exact this
   ·intro b i hb
    rcases Nat.lt_or_ge b (wA.alloc (.loop rec)).heap.size with hlt | hge
    ·rw [b3 b i hlt (fun hF => hb (hMn b (.inr hF)))]
     exact en2.sbase b i hb
    ·exact absurd (hMn b (.inl hge)) hb
   ·intro t
    exact (c4 t).frame ((hcan lr).1 t) (fun _ _ _ q => q) (fun k hk => ⟨World.putObj_heap_other (by rintro rfl; exact c6 t hk), ((c4 t).owns ((hcan lr).1 t) k hk).2⟩)
  have hdp : ∀ o, uQ df M df' Fp' (w'.putObj wA.heap.size o) := by
   intro o
   have hlt : ∀ D ∈ df', D < wA.heap.size := fun D hD => (Array.getElem?_eq_some_iff.1 (en3.ent D hD)).1
   have hno : ∀ D ∈ df', ¬ ((wA.alloc (.loop rec)).heap.size ≤ D ∨ D ∈ wA.heap.size :: live.flatMap Fp0) := by
    rintro D hD (q | q)
    ·have := hlt D hD
     have h3 : (wA.alloc (.loop rec)).heap.size = wA.heap.size + 1 := by simp
     omega
    ·rcases List.mem_cons.1 q with rfl | q
     ·have := hlt _ hD; omega
     ·have ⟨t, _, ht⟩ := List.mem_flatMap.1 q
      exact en3.off D hD t ht
   refine ⟨en3.nodup, fun D hD => ?_, fun D hD t ht => hno D hD (hout t D ht), en3.old⟩
   rw [World.putObj_heap_other (by have := hlt D hD; omega), b1.block D (hno D hD), World.alloc_old _ (hlt D hD)]
   exact en3.ent D hD
  cases lr with
  | next s => exact ⟨df', stF s, S', Fp', hpf _, hdp _, hend⟩
  | done t => exact AWP.go hend hc (hpf _) (hdp _)
end
def Xw (live : List Nat) (l : List (Nat × T)) : Bool := l.all fun q => live.contains q.1 && q.2.plain
theorem z35 : ∀ (l : List (Nat × T)) (t : Nat), ofL l t = ⟨(ofL l t).t, 0, 0⟩
 | [], t => rfl
 | p :: l, t => by
  simp [ofL]
  split
  ·rfl
  ·exact z35 l t
theorem VW {live : List Nat} : ∀ {l : List (Nat × T)}, Xw live l = true → (∀ t, (ofL l t).t.plain = true) ∧ ∀ t, t ∉ live → (ofL l t).t = .gone
 | [], _ => ⟨fun _ => rfl, fun _ _ => rfl⟩
 | p :: l, h => by
  simp only [Xw, List.all_cons, Bool.and_eq_true] at h
  obtain ⟨h1, h2⟩ := VW (l := l) (by simpa only [Xw] using h.2)
  constructor
  ·intro t
   simp only [ofL]
   split
   ·exact h.1.2
   ·exact h1 t
  ·intro t ht
   simp only [ofL]
   split
   ·rename_i e
    subst e
    exact absurd (List.contains_iff_mem.1 h.1.1) ht
   ·exact h2 t ht
variable {l : List (Nat × T)}
theorem Uw {live : List Nat}  (h : Xw live l = true) : Own.canon live (ofL l) = ofL l := by
 have ⟨h1, h2⟩ := VW h
 funext t
 rw [j6]
 by_cases ht : t ∈ live
 ·rw [if_pos ht]
  have h3 := h1 t
  rw [z35 l t]
  unfold z4i
  cases hx : (ofL l t).t with
  | als r p er ec => rw [hx] at h3; cases h3
  | ptr r p er ec => rw [hx] at h3; cases h3
  | _ => rfl
 ·rw [if_neg ht, z35 l t, h2 t ht]
  rfl
theorem AWP.weak {Q Q' : Exit → St → Prop} (h : AWP P n c st Q') (hq : ∀ e st, Q' e st → ∃ live l m, Own.canon live st = ofL l ∧ LeL l m ∧ Q e (ofL m)) : AWP P n c st Q := by
 intro rd mm df w0 S0 M S Fp a w hc hs
 refine wpIn_mono (h rd mm df w0 S0 M S Fp a w hc hs) ?_
 rintro e a' w' ⟨df', st1, S1, Fp1, h1, h2, h3⟩
 have ⟨live, l, m, e1, e2, e3⟩ := hq _ _ h3
 have ⟨Fp2, g1, g2⟩ := Sim.canonD h1 h2 live
 rw [e1] at g1
 exact ⟨df', ofL m, S1, Fp2, e2.or.elim (fun e => e ▸ g1) fun h => g1.le h.ent, g2, e3⟩
def z9k : List (Nat × T) → List Nat → List A → List (Nat × T)
 | l, p :: ps, y :: ys => z9k ((p, .d y) :: l) ps ys
 | l, _, _ => l
theorem z1j : ∀ (ps : List Nat) (ys : List A) (l : List (Nat × T)), Ky (ofL l) ps ys = ofL (z9k l ps ys)
 | [], _, l => by cases l <;> rfl
 | _ :: _, [], l => by cases l <;> rfl
 | p :: ps, y :: ys, l => z1j ps ys ((p, .d y) :: l)
def zar (n : Fr) (ps live : List Nat) : Bool := ps.all fun p => decide (p < n.size) && (!live.contains p && !pinned n.pin p)
section
variable {σ τ β : Type}
def z8y (stF : σ → List (Nat × T)) (stD : τ → List (Nat × T)) : LR σ τ → List (Nat × T)
 | .next s => stF s
 | .done t => stD t
def itQ (live : List Nat) (stF : σ → List (Nat × T)) (stD : τ → List (Nat × T)) (jc : τ → Code) (r : LR σ τ) (ex : Exit) (st : St) : Prop :=
 z3u ex = some (z29 jc r) ∧ ∃ l', Own.canon live st = ofL l' ∧ LeL l' (z8y stF stD r)
theorem z5N {P : Program} {n : Fr} {Q : Exit → St → Prop}  {fs : List Fm} {st0 : St}    {K : Nat} {caps : List A} (e : c = .rangeFunc g ps.toArray assign body) (live : List Nat) (stF : σ → List (Nat × T)) (stD : τ → List (Nat × T)) (jc : τ → Code) (enc : β → Bool → Value → List A)
  (step : σ → β → Option (LR σ τ)) (s0 : σ) (lr : LR σ τ) (l0 : List (Nat × T)) (hs : Own.canon live st0 = ofL l0) (hl : LeL l0 (stF s0)) (hg : z9m (ofL (stF s0)) g = some (.fn K caps)) (hnd : live.Nodup) (hp : ∀ s, Xw live (stF s) = true) (hp2 : ∀ t, Xw live (stD t) = true)
  (hps : zar n ps live = true) (hlen : ∀ x b v, ps.length = (enc x b v).length) (hit : ∀ (L : Nat) (rec : Loop) (tv : Nat → Value) (hp : ∀ l t, (Kf (fun s => ofL (stF s)) (fun t => ofL (stD t)) l t).t.plain = true), YOk P (.func (.yield L) #[] #[]) (fun l => (Uf L (YG rec jc l) tv (Kf (fun s => ofL (stF s)) (fun t => ofL (stD t)) l) (hp l) 0).single rfl) enc (yOf step) →
   u4 P (.fn K caps) [.atom (.func (.yield L) #[] #[])] [(.func (.yield L) #[] #[], .opq (Uf L (YG rec jc (LR.next s0 : LR σ τ)) tv (Kf (fun s => ofL (stF s)) (fun t => ofL (stD t)) (.next s0)) (hp (.next s0)) 0))] (.tup []) [.opq (Uf L (YG rec jc lr) tv (Kf (fun s => ofL (stF s)) (fun t => ofL (stD t)) lr) (hp lr) 0)])
  (hround : ∀ (tv : Nat → Value) (s : σ) (x : β) (v : Value) (r : LR σ τ), step s x = some r → AWP P ⟨n.size, live.map (fun t => (t, tv t)) ++ n.pin⟩ assign (ofL (z9k (stF s) ps (enc x (z85 r) v)))
   (Qf P ⟨n.size, live.map (fun t => (t, tv t)) ++ n.pin⟩ [] (fun e st1 => e = .normal ∧ AWP P ⟨n.size, live.map (fun t => (t, tv t)) ++ n.pin⟩ body st1 (Qf P ⟨n.size, live.map (fun t => (t, tv t)) ++ n.pin⟩ [] (itQ live stF stD jc r)))))
  (hend : z9W P n (ofL (z8y stF stD lr)) (Qf P n fs Q) (z29 jc lr)) : AWP P n c st0 (Qf P n fs Q) := by
 subst e
 refine AWP.canon live ?_
 rw [hs]
 refine z7Q hl ?_
 have hst : ∀ l : LR σ τ, Kf (fun s => ofL (stF s)) (fun t => ofL (stD t)) l = ofL (z8y stF stD l) := by intro l; cases l <;> rfl
 have hpl : ∀ l : LR σ τ, Xw live (z8y stF stD l) = true := by
  intro l
  cases l with
  | next s => exact hp s
  | done t => exact hp2 t
 refine AWP.iterG live (fun s => ofL (stF s)) (fun t => ofL (stD t)) jc enc step s0 lr hg hnd (Uw (hp s0)) (fun l => by rw [hst]; exact VW (hpl l)) ?_ hlen (fun L rec tv hY => hit L rec tv _ hY) ?_ (by rw [hst]; exact hend)
 ·intro p hp
  have := List.all_eq_true.1 hps p hp
  simp only [Bool.and_eq_true, decide_eq_true_eq, Bool.not_eq_true'] at this
  exact ⟨this.1, fun h => by rw [List.contains_iff_mem.2 h] at this; simp at this, this.2.2⟩
 ·intro tv s x v r hr
  rw [z1j]
  refine AWP.mono (hround tv s x v r hr) ?_
  rintro e st1 ⟨h1, h2⟩
  refine ⟨h1, AWP.weak h2 ?_⟩
  rintro ex st2 ⟨hj, l', q1, q2⟩
  refine ⟨live, l', _, q1, q2, hj, ?_⟩
  rw [Uw (hpl r), hst]
theorem JM {P : Program} {n : Fr} {Q : Exit → St → Prop}  {fs : List Fm} {st0 : St}    {K : Nat} {caps : List A} (e : c = .rangeFunc g ps.toArray assign body) (live : List Nat) (stF : σ → List (Nat × T)) (stD : τ → List (Nat × T)) (jc : τ → Code) (enc : β → Bool → Value → List A) {F : ∀ {σ : Type}, (σ → β → Option (σ × Bool)) → σ → Option σ}
  (step : σ → β → Option (LR σ τ)) (s0 : σ) (lr : LR σ τ) (l0 : List (Nat × T)) (hs : Own.canon live st0 = ofL l0) (hl : LeL l0 (stF s0)) (hg : z9m (ofL (stF s0)) g = some (.fn K caps)) (hnd : live.Nodup) (hp : ∀ s, Xw live (stF s) = true) (hp2 : ∀ t, Xw live (stD t) = true)
  (hps : zar n ps live = true) (hlen : ∀ x b v, ps.length = (enc x b v).length) (hit : z7Y P (.fn K caps) enc F) (hF : F (yOf step) (.next s0) = some lr)
  (hround : ∀ (tv : Nat → Value) (s : σ) (x : β) (v : Value) (r : LR σ τ), step s x = some r → AWP P ⟨n.size, live.map (fun t => (t, tv t)) ++ n.pin⟩ assign (ofL (z9k (stF s) ps (enc x (z85 r) v)))
   (Qf P ⟨n.size, live.map (fun t => (t, tv t)) ++ n.pin⟩ [] (fun e st1 => e = .normal ∧ AWP P ⟨n.size, live.map (fun t => (t, tv t)) ++ n.pin⟩ body st1 (Qf P ⟨n.size, live.map (fun t => (t, tv t)) ++ n.pin⟩ [] (itQ live stF stD jc r)))))
  (hend : z9W P n (ofL (z8y stF stD lr)) (Qf P n fs Q) (z29 jc lr)) : AWP P n c st0 (Qf P n fs Q) :=
 z5N e live stF stD jc enc step s0 lr l0 hs hl hg hnd hp hp2 hps hlen (fun L rec tv hp hY => hit _ _ _ _ hY _ _ hF) hround hend
end
section
variable {P : Program} {tt : TT} {ctr : Ctr} {n : Fr} {Q : Exit → St → Prop}
theorem z9b (X : XH P) (hT : wl P tt) (hC : zJ P ctr) (hm : P.follows .mixedOrders = true) (live : List Nat) (k : Nat) {c : Code} {fs : List Fm} {st : St} (hs : List H) (ex : Exit) (l' : List (Nat × T)) (obs : List Ob)
  (e : Qj X tt ctr n live k c fs st hs = some (.fin ex, ofL l', obs.map Ob.p)) (h : ∀ st0, canon live st0 = ofL l' → Q ex st0) : AWP P n c st (Qf P n fs Q) := z0S X hT hC hm live k obs e h
theorem XJ {J : St → Prop} : ∀ {fs : List Fm} {st : St}, unw fs = .stop (.back J) → J st → Qf P n fs Q .normal st
 | [], _, e, _ => by cases e
 | .seq z :: fs, _, e, h => by cases e
 | .blk id :: fs, _, e, h => XJ (fs := fs) (by simpa only [unw] using e) h
 | .pre J :: fs, _, e, h => by
  simp [unw, Nxt.stop.injEq, z2o.back.injEq] at e
  subst e
  exact h
 | .rnd (m + 1) c :: fs, _, e, h => by cases e
 | .rnd 0 _ :: _, _, e, _ => by cases e
theorem z0T {live : List Nat}   (h0 : canon live st0 = ofL l) (h : AWP P n c (ofL l) Q) : AWP P n c st0 Q := by
 refine AWP.canon live ?_
 rw [h0]
 exact h
end
variable {yv : Value}{nt : Nat}
theorem z3v {tt : TT}   {body : Code} {nt : Nat} {caps : List A} {yv : Value} {o o' : JV} (hT : wl P tt) (hf : P.funcs[k]? = some fn) (hnm : (fn.name == "runtime.NumGoroutine") = false) (hb : fn.body = some body)
  (hn : nt = fn.ntmps) (hr : fn.results = #[]) (ha : caps.length + 1 ≤ fn.ntmps)
  (h : ∀ E : Exit → St → Prop, (∀ ex st, (ex = .normal ∨ ex = .ret) → canon [0] st = ofL [(0, .own (.opq o'.q))] → E ex st) →
   AWP P ⟨nt, [(0, yv)]⟩ body (ofL (z2m 0 (.opq o.q :: caps))) (Qf P ⟨nt, [(0, yv)]⟩ [] E)) : u4 P (.fn k caps) [.atom yv] [(yv, .opq o.q)] (.tup []) [.opq o'.q] := by
 subst hn
 refine Uh (tt := tt) (rs := []) [0] (args := [.atom yv]) (caps := caps) (xs := [.opq o.q]) (vals := [yv]) hT hf hnm hb hr (by simpa using ha) (by simp) (by simp) rfl ?_
 rw [z1y]
 refine h _ ?_
 intro ex st hx hc
 refine ⟨hx, ?_⟩
 have h0 := congrFun hc 0
 rw [j6] at h0
 simp only [List.mem_singleton, if_true, ofL, Ent.mk.injEq, and_true] at h0
 have h1 : (st 0).t = .own (.opq o'.q) := by
  unfold z4i at h0
  cases hx : (st 0).t with
  | own a => simpa only [hx] using h0
  | d a => simp only [hx] at h0; cases h0
  | gone => simp only [hx] at h0; cases h0
  | _ => simp only [hx] at h0; split at h0 <;> cases h0
 have h2 : WO [0] st = some ([.opq o'.q], [0], []) := by
  simp only [WO]
  show SM.bind (rdE 0) _ st = _
  unfold SM.bind
  simp only [rdE, zf, h1]
  rfl
 refine ⟨[0], [], ?_⟩
 simp only [z92, List.map_nil]
 show SM.bind (shutArgs tt []) _ st = _
 unfold SM.bind
 simp only [shutArgs]
 simp only [pure, SM.pure, bind, SM.bind, zf, h2]
 rfl
theorem z7x {body : Code} {nt : Nat} {caps : List A}  {enc : β → Bool → Value → List A} {F : ∀ {σ : Type}, (σ → β → Option (σ × Bool)) → σ → Option σ} (hT : wl P tt) (hf : P.funcs[k]? = some fn) (hnm : (fn.name == "runtime.NumGoroutine") = false) (hb : fn.body = some body)
  (hn : nt = fn.ntmps) (hr : fn.results = #[]) (ha : caps.length + 1 ≤ fn.ntmps)
  (h : ∀ (σ : Type) (yv : Value) (Y : σ → JV) (y : σ → β → Option (σ × Bool)), YOk P yv Y enc y → ∀ s s', F y s = some s' → ∀ E : Exit → St → Prop, (∀ ex st, (ex = .normal ∨ ex = .ret) → canon [0] st = ofL [(0, .own (.opq (Y s').q))] → E ex st) →
   AWP P ⟨nt, [(0, yv)]⟩ body (ofL (z2m 0 (.opq (Y s).q :: caps))) (Qf P ⟨nt, [(0, yv)]⟩ [] E)) : z7Y P (.fn k caps) enc F := fun σ yv Y y hy s s' hs => z3v hT hf hnm hb hn hr ha (h σ yv Y y hy s s' hs)
def z4V (tt : TT) (n : Fr) (ty : Nat) (x : T) : HM A :=
 match x with
 | .als r p er ec =>
  match WN n.pin r with
  | some _ => ya (refT tt n ty (.als r p er ec))
  | none => Qb tt ty (.als r p er ec)
 | x => Qb tt ty x
theorem z8C (tt : TT) (n : Fr) (ty : Nat) (x : T) : Snd (refT tt n ty x) (z4V tt n ty x) := by
 cases x with
 | als r p er ec =>
  cases hp : WN n.pin r with
  | some v => simp [z4V, hp]; exact zj _
  | none => simp [z4V, refT, hp]; exact Yf tt ty (.als r p er ec)
 | d a => exact Yf tt ty (.d a)
 | own a => exact Yf tt ty (.own a)
 | ptr r p er ec => exact Yf tt ty (.ptr r p er ec)
 | gone => exact Yf tt ty .gone
def Vp (tt : TT) (n : Fr) : List (Operand × Nat) → HM (List A)
 | [] => pure []
 | (x, t) :: as_ => ya (opnd x) >>= fun y => z4V tt n t y >>= fun a => Vp tt n as_ >>= fun bs => pure (a :: bs)
theorem VN (tt : TT) (n : Fr) : ∀ as_, Snd (refArgs tt n as_) (Vp tt n as_)
 | [] => w8 _
 | (x, t) :: as_ => zb (zj _) fun y => zb (z8C _ _ _ _) fun a => zb (VN tt n as_) fun bs => w8 _
open Classical in
def z6P (yv : Value) {σ β : Type} (Y : σ → JV) (enc : β → Bool → Value → List A) (s : σ) (x : β) (s' : σ) (b : Bool) (v : Value) (f : A) (xs : List A) (ls : List (Value × A)) : Option (A × List A) :=
 if f = .atom yv ∧ ls = [(yv, .opq (Y s).q)] ∧ (∀ S vs, ke (vw S) xs vs → ke (vw S) (enc x b v) vs) then some (.atom (.bool b), [.opq (Y s').q]) else none
theorem z6N {σ β : Type} {Y : σ → JV} {enc : β → Bool → Value → List A} {y : σ → β → Option (σ × Bool)} (hy : YOk P yv Y enc y) {s : σ} {x : β} {s' : σ}  (v : Value) (h : y s x = some (s', b)) :
  ∀ f xs ls r ys, z6P yv Y enc s x s' b v f xs ls = some (r, ys) → u4 P f xs ls r ys := by
 intro f xs ls r ys e
 unfold z6P at e
 split at e
 ·rename_i hc
  obtain ⟨rfl, rfl, h3⟩ := hc
  cases e
  intro S w fv vs F hS hfv hvs
  exact hy s x s' b h v S w fv vs F hS hfv (h3 S vs hvs)
 ·cases e
theorem z6O {σ β : Type} {Y : σ → JV} {enc : β → Bool → Value → List A} {s : σ} {x : β} {s' : σ}   (xs : List A) (h : US xs (enc x b v)) : z6P yv Y enc s x s' b v (.atom yv) xs [(yv, .opq (Y s).q)] = some (.atom (.bool b), [.opq (Y s').q]) := by
 unfold z6P
 rw [if_pos ⟨rfl, rfl, h.all⟩]
def z1s (tt : TT) (tab : A → List A → List (Value × A) → Option (A × List A)) (r : A) (ys : List A) (n : Fr) (dst : Option Nat) (f : Operand) (as_ : List (Operand × Nat)) (L : List Nat) : HM Unit :=
 Vp tt n [(f, 0)] >>= fun fs => Vp tt n as_ >>= fun xs => ya (lentsA n L) >>= fun ls =>
  match fs with
  | [fa] => z7m (tab fa xs ls = some (r, ys)) >>= fun _ => ya (backsA L ys >>= fun _ => wrT n dst (mkT r))
  | _ => zA
theorem z2L (tt : TT) (tab : A → List A → List (Value × A) → Option (A × List A)) (r : A) (ys : List A) (n : Fr) (dst : Option Nat) (f : Operand) (as_ : List (Operand × Nat)) (L : List Nat) : Snd (lentQ tt tab n dst f as_ L) (z1s tt tab r ys n dst f as_ L) := by
 unfold lentQ z1s
 refine zb (VN _ _ _) fun fs => zb (VN _ _ _) fun xs => zb (zj _) fun ls => ?_
 rcases fs with _ | ⟨fa, _ | ⟨z, l⟩⟩
 ·exact zl _
 ·refine Jf fun h => ?_
  simp [h]
  exact zj _
 ·exact zl _
def z5W (tt : TT)  {σ β : Type} {Y : σ → JV} {enc : β → Bool → Value → List A} {y : σ → β → Option (σ × Bool)} (hy : YOk P yv Y enc y) (d : Nat) {s : σ} {x : β} {s' : σ}  (v : Value) (h : y s x = some (s', b)) : XH P := {
 e := ZD tt (z6P yv Y enc s x s' b v) d [0]
 h := fun n o => match o.op with
  | .call ⟨.value f, args, tys⟩ => if o.dst = some d ∧ args.size = tys.size then some (z1s tt (z6P yv Y enc s x s' b v) (.atom (.bool b)) [.opq (Y s').q] n o.dst f (args.toList.zip tys.toList) [0]) else none
  | _ => none
 ok := Qy (z6N hy v h) d [0]
 none := by
  intro n o e
  unfold ZD at e
  split at e
  ·rename_i ho
   split at e
   ·cases e
   ·rename_i hd; simp [ho, if_neg hd]
  ·rename_i hne
   split
   ·rename_i ho2; exact absurd ho2 (by intro h; exact hne _ _ _ h)
   ·rfl
 some := by
  intro n o m e
  unfold ZD at e
  split at e
  ·rename_i ho
   split at e
   ·rename_i hd; cases e
    refine ⟨_, ?_, z2L tt (z6P yv Y enc s x s' b v) (.atom (.bool b)) [.opq (Y s').q] n o.dst _ _ [0]⟩
    rw [ho]
    exact if_pos hd
   ·cases e
  ·cases e }
variable {M : Nat → Prop}{df : List Nat}{w0 : World}
theorem Sim.pinned {S0 : zi}        (h : Sim ⟨n, df, w0, S0, M⟩ S Fp X st a w) (k : Nat) : Sim ⟨⟨n.size, (k, Act.tv a k) :: n.pin⟩, df, w0, S0, M⟩ S Fp X st a w := {
 size := h.size
 pin := fun j u hj => by
  rcases List.mem_cons.1 hj with e | hj
  ·cases e; rfl
  ·exact h.pin j u hj
 defers := h.defers
 below := h.below
 mine := h.mine
 still := h.still
 sinc := h.sinc
 sbase := h.sbase
 ent := h.ent
 disj := h.disj
 base := h.base
 xn := h.xn
 xd := h.xd
 xb := h.xb }
theorem Sim.unpinned {S0 : zi}        (h : Sim ⟨⟨n.size, (k, v) :: n.pin⟩, df, w0, S0, M⟩ S Fp X st a w) : Sim ⟨n, df, w0, S0, M⟩ S Fp X st a w := {
 size := h.size
 pin := fun j u hj => h.pin j u (List.mem_cons_of_mem _ hj)
 defers := h.defers
 below := h.below
 mine := h.mine
 still := h.still
 sinc := h.sinc
 sbase := h.sbase
 ent := h.ent
 disj := h.disj
 base := h.base
 xn := h.xn
 xd := h.xd
 xb := h.xb }
theorem AWP.pin (k : Nat) (h : ∀ v, AWP P ⟨n.size, (k, v) :: n.pin⟩ c st Q) : AWP P n c st Q := by
 intro rd m df w0 S0 M S Fp a w hc hs
 refine wpIn_mono (h (Act.tv a k) rd m df w0 S0 M S Fp a w ⟨hc.nodup, hc.df, hc.rd⟩ (hs.pinned k)) ?_
 rintro e a' w' ⟨df', st1, S1, Fp1, h1, h2, h3⟩
 exact ⟨df', st1, S1, Fp1, h1.unpinned, h2, h3⟩
theorem z99 (e : fs = []) (k : Nat) (h : ∀ v, AWP P ⟨n.size, (k, v) :: n.pin⟩ c st (Qf P ⟨n.size, (k, v) :: n.pin⟩ [] Q)) : AWP P n c st (Qf P n fs Q) := by
 subst e
 exact AWP.pin k h
open Classical in
def z6R (f : A) (xs : List A) (ls : List (Value × A)) (r : A) (ys : List A) (f' : A) (xs' : List A) (ls' : List (Value × A)) : Option (A × List A) :=
 if f' = f ∧ ls' = ls ∧ (∀ S vs, ke (vw S) xs' vs → ke (vw S) xs vs) then some (r, ys) else none
variable {ls : List (Value × A)}{ys : List A}
theorem z6Q {f : A}     (h : u4 P f xs ls r ys) : ∀ f' xs' ls' r' ys', z6R f xs ls r ys f' xs' ls' = some (r', ys') → u4 P f' xs' ls' r' ys' := by
 intro f' xs' ls' r' ys' e
 unfold z6R at e
 split at e
 ·rename_i hc
  obtain ⟨rfl, rfl, h3⟩ := hc
  cases e
  intro S w fv vs F hS hfv hvs
  exact h S w fv vs F hS hfv (h3 S vs hvs)
 ·cases e
theorem uV {f : A}     (xs' : List A) (h : US xs' xs) : z6R f xs ls r ys f xs' ls = some (r, ys) := by
 unfold z6R
 rw [if_pos ⟨rfl, rfl, h.all⟩]
def zW {P : Program} (tt : TT) (L : List Nat) {f : A} {xs : List A} {ls : List (Value × A)} {r : A} {ys : List A} (h : u4 P f xs ls r ys) (dd : Nat) : XH P := {
 e := ZD tt (z6R f xs ls r ys) dd L
 h := fun n o => match o.op with
  | .call ⟨.value g, args, tys⟩ => if o.dst = some dd ∧ args.size = tys.size then some (z1s tt (z6R f xs ls r ys) r ys n o.dst g (args.toList.zip tys.toList) L) else none
  | _ => none
 ok := Qy (z6Q h) dd L
 none := by
  intro n o e
  unfold ZD at e
  split at e
  ·rename_i ho
   split at e
   ·cases e
   ·rename_i hd; simp [ho, if_neg hd]
  ·rename_i hne
   split
   ·rename_i ho2; exact absurd ho2 (by intro h; exact hne _ _ _ h)
   ·rfl
 some := by
  intro n o m e
  unfold ZD at e
  split at e
  ·rename_i ho
   split at e
   ·rename_i hd; cases e
    refine ⟨_, ?_, z2L tt (z6R f xs ls r ys) r ys n o.dst _ _ L⟩
    rw [ho]
    exact if_pos hd
   ·cases e
  ·cases e }
theorem U0 {st : St} : ∀ {is : List Nat} {ys : List A}, is.length = ys.length → (∀ p ∈ is.zip ys, (st p.1).t = .own p.2) → WO is st = some (ys, is, [])
 | [], [], _, _ => rfl
 | i :: is, y :: ys, hl, h => by
  have h1 : (st i).t = .own y := h (i, y) (by simp)
  have h2 := U0 (st := st) (is := is) (ys := ys) (by simpa using hl) (fun p hp => h p (by simp [hp]))
  simp only [WO]
  show SM.bind (rdE i) _ st = _
  unfold SM.bind
  simp only [rdE, zf, h1, bind, SM.bind, h2, pure, SM.pure]
  simp
 | [], _ :: _, hl, _ => by simp at hl
 | _ :: _, [], hl, _ => by simp at hl
theorem z5F {live : List Nat}   {y : A} (h : z4i live st k = .own y) : (st k).t = .own y := by
 unfold z4i at h
 cases hx : (st k).t with
 | own a => simpa only [hx] using h
 | d a => simp only [hx] at h; cases h
 | gone => simp only [hx] at h; cases h
 | _ => simp only [hx] at h; split at h <;> cases h
theorem z5f {tt : TT}   {body : Code} {nt : Nat} (is : List Nat) {args caps xs : List A} {vals : List Value} {ys : List A} (hT : wl P tt) (hf : P.funcs[k]? = some fn) (hnm : (fn.name == "runtime.NumGoroutine") = false) (hb : fn.body = some body)
  (hn : nt = fn.ntmps) (hr : fn.results = #[]) (ha : (args ++ caps).length ≤ fn.ntmps) (hnd : is.Nodup) (hbase : is.map (fun i => (args ++ caps)[i]?) = vals.map (fun v => some (.atom v))) (hl : xs.length = vals.length)
  (h : ∀ E : Exit → St → Prop, (∀ ex st, (ex = .normal ∨ ex = .ret) → (∀ p ∈ is.zip ys, (st p.1).t = .own p.2) → E ex st) →
   AWP P ⟨nt, is.zip vals⟩ body (ofL (z2m 0 (Xr (args ++ caps) is xs))) (Qf P ⟨nt, is.zip vals⟩ [] E)) (hy : is.length = ys.length) : u4 P (.fn k caps) args (vals.zip xs) (.tup []) ys := by
 subst hn
 refine Uh (tt := tt) (rs := []) is hT hf hnm hb hr ha hnd hbase hl ?_
 rw [z1y]
 refine h _ ?_
 intro ex st hx hc
 refine ⟨hx, is, [], ?_⟩
 have h2 := U0 hy hc
 simp [z92, List.map_nil]
 show SM.bind (shutArgs tt []) _ st = _
 unfold SM.bind
 simp [shutArgs]
 simp [pure, SM.pure, bind, SM.bind, zf, h2]
 show (match (match (SM.pure (A.tup [], ys) : SM (A × List A)) st with | none => none | some (b, R', U') => some (b, is ++ R', [] ++ U')) with | none => none | some (b, R', U') => some (b, [] ++ R', [] ++ U')) = _
 simp [SM.pure]
theorem z8L {live : List Nat}   (hc : canon live st = ofL l)  {y : A} (hk : live.contains k = true) (hy : (ofL l k).t = .own y) : (st k).t = .own y := by
 have := congrFun hc k
 rw [j6, if_pos (List.contains_iff_mem.1 hk)] at this
 rw [← this] at hy
 exact z5F hy
def z6t (live : List Nat) (l : List (Nat × T)) : List Nat → List A → Prop
 | i :: is, y :: ys => (live.contains i = true ∧ (ofL l i).t = .own y) ∧ z6t live l is ys
 | _, _ => True
theorem z0v {live : List Nat}   (hc : canon live st = ofL l) : ∀ {is : List Nat} {ys : List A}, z6t live l is ys → ∀ p ∈ is.zip ys, (st p.1).t = .own p.2
 | [], _, _, p, hp => by simp at hp
 | _ :: _, [], _, p, hp => by simp at hp
 | i :: is, y :: ys, h, p, hp => by
  rcases List.mem_cons.1 hp with rfl | hp
  ·exact z8L hc h.1.1 h.1.2
  ·exact z0v hc h.2 p hp
theorem z7P {c x y : Code}    (e : c = .seq x y) (E : St → Prop) (h : AWP P n x st (Qf P n [] (fun e st1 => e = .normal ∧ E st1))) (h2 : ∀ st1, E st1 → AWP P n y st1 (Qf P n fs Q)) : AWP P n c st (Qf P n fs Q) := by
 subst e
 refine AWP.seq (AWP.mono h ?_)
 rintro e st1 ⟨rfl, q⟩
 exact h2 st1 q
theorem z3X {c x y : Code}    (e : c = .seq x y) (k : Nat) (E : St → Prop) (h : ∀ v, AWP P ⟨n.size, (k, v) :: n.pin⟩ x st (Qf P ⟨n.size, (k, v) :: n.pin⟩ [] (fun e st1 => e = .normal ∧ E st1))) (h2 : ∀ st1, E st1 → AWP P n y st1 (Qf P n fs Q)) : AWP P n c st (Qf P n fs Q) :=
 z7P e E (AWP.pin k fun v => h v) h2
section
variable {C : Ctx} {S : zi} {Fp : Nat → List Nat} {st : St} {a : Act} {w : World}
open Classical in
def mvQ (n : Fr) (dst : Option Nat) (s : Nat) (v : Value) : SM Unit := if WN n.pin s = some v then wrT n dst (.d (.atom v)) else zn
open Classical in
theorem Loc.mvQ (n : Fr) (dst : Option Nat) (s : Nat) (v : Value) : Loc (mvQ n dst s v) := by
 unfold Go.Own.mvQ
 exact Loc.ite (Loc.wrT _ _ _) Loc.fail
def zat (n : Fr) (dst : Option Nat) (s : Nat) (v : Value) : HM Unit := kG (WN n.pin s = some v) (ya (wrT n dst (.d (.atom v))))
open Classical in
theorem zb4 (n : Fr) (dst : Option Nat) (s : Nat) (v : Value) : Snd (mvQ n dst s v) (zat n dst s v) := uO (zj _)
theorem z8Q (h : Sim C S Fp [] st a w)  {s : Nat} {v : Value} (hv : v.oneCell' = true) (ho : o.op = .move (.tmp s))    (e : mvQ C.n o.dst s v st = some (u, R, U)) : ui P C o a w (zf U st) := by
 unfold mvQ at e
 split at e
 ·rename_i hp
  have hs := h.pin s v (vQ hp)
  have ⟨Fp', hs'⟩ := xY h e (x := .d (.atom v)) (v := v) (zr.2 ⟨rfl, hv⟩)
  refine zm ?_ hs'
  have ev : a.eval (.tmp s) = v := hs
  simp [execOp, ho, ev]
 ·cases e
def xMv (P : Program) (d s : Nat) (v : Value) (hv : v.oneCell' = true) : XH P := {
 e := fun n o => match o.op with | .move (.tmp t) => if o.dst = some d ∧ t = s then some (mvQ n o.dst s v) else none | _ => none
 h := fun n o => match o.op with | .move (.tmp t) => if o.dst = some d ∧ t = s then some (zat n o.dst s v) else none | _ => none
 ok := by
  refine ⟨?_, ?_⟩
  ·intro C S Fp st a w o m u R U e h h2
   dsimp only at e
   split at e
   ·rename_i t ho
    split at e
    ·rename_i hd
     obtain ⟨_, rfl⟩ := hd
     cases e; exact z8Q h hv ho h2
    ·cases e
   ·cases e
  ·intro n o m e
   dsimp only at e
   split at e
   ·split at e
    ·cases e
     exact fun st st' a R U => Loc.mvQ _ _ _ _ st st' a R U
    ·cases e
   ·cases e
 none := by
  intro n o e
  skip
  split at e
  ·split at e
   ·cases e
   ·rename_i hd; rw [if_neg hd]
  ·rfl
 some := by
  intro n o m e
  skip
  split at e
  ·split at e
   ·rename_i hd; cases e; exact ⟨_, by rw [if_pos hd], zb4 _ _ _ _⟩
   ·cases e
  ·cases e }
end
theorem z0R (e : fs = []) (k : Nat) {y : A} (hk : (st k).t = .own y) (ho : z4f y = true) (h : ∀ v, v.oneCell' = true → AWP P ⟨n.size, (k, v) :: n.pin⟩ c st (Qf P ⟨n.size, (k, v) :: n.pin⟩ [] Q)) : AWP P n c st (Qf P n fs Q) := by
 subst e
 intro rd m df w0 S0 M S Fp a w hc hs
 have hone : (Act.tv a k).oneCell' = true := by
  have q := hs.ent k
  unfold yG at q
  simp [hk] at q
  have ⟨cs, c1, _, hv⟩ := q
  have hcs := Vr ho c1
  rw [hv]
  exact c1.one1 (Yy ho) _ (by have q := List.mem_singleton_self (zL y cs); rwa [← hcs] at q)
 refine wpIn_mono (h (Act.tv a k) hone rd m df w0 S0 M S Fp a w ⟨hc.nodup, hc.df, hc.rd⟩ (hs.pinned k)) ?_
 rintro e a' w' ⟨df', st1, S1, Fp1, h1, h2, h3⟩
 exact ⟨df', st1, S1, Fp1, h1.unpinned, h2, h3⟩
def shrO (n : Fr) (dst : Option Nat) (x y : Operand) : SM Unit := do
 let tx ← opnd x
 let vx ← val tx
 let ty ← opnd y
 let vy ← val ty
 match vx, vy with
 | .atom (.int k p), .atom (.int _ q) => if 0 ≤ q then wrT n dst (.d (.atom (.int k (p.fdiv (2 ^ (min q.toNat k.bits)))))) else zn
 | _, _ => zn
theorem Loc.shrO (n : Fr) (dst : Option Nat) (x y : Operand) : Loc (shrO n dst x y) := by
 unfold Go.Own.shrO
 refine Loc.bind (Loc.opnd _) fun _ => Loc.bind (Loc.val _) fun _ => Loc.bind (Loc.opnd _) fun _ => Loc.bind (Loc.val _) fun _ => ?_
 split
 ·exact Loc.ite (Loc.wrT _ _ _) Loc.fail
 ·exact Loc.fail
section
variable {C : Ctx} {S : zi} {Fp : Nat → List Nat} {st : St} {a : Act} {w : World}
theorem z8z (h : Sim C S Fp [] st a w)  {xt yt : Nat} {x y : Operand} (ho : o.op = .binOp .shr xt x y yt)    (e0 : shrO C.n o.dst x y st = some (u, R, U)) : ui P C o a w (zf U st) := by
 unfold shrO at e0
 have ⟨tx, _, hx, e1⟩ := bR (zz h) e0
 have ⟨vx, _, qx, e2⟩ := bR (vU h hx) e1
 have ⟨ty, _, hy, e3⟩ := bR (zz h) e2
 have ⟨vy, _, qy, e4⟩ := bR (vU h hy) e3
 split at e4
 ·rename_i k p k' q
  split at e4
  ·rename_i hq
   have ⟨ex, _⟩ := zr.1 qx
   have ⟨ey, _⟩ := zr.1 qy
   have ⟨Fp', hs⟩ := xY h e4 (x := .d _) (zr.2 ⟨rfl, rfl⟩)
   refine zm ?_ hs
   have hn : ¬ q < 0 := by omega
   simp [execOp, ho, ex, ey, eqGuard, Go.binOp, Op.shift, hn]
  ·cases e4
 ·cases e4
end
theorem lentCall (h : Yv P k as_ r) : u4 P (.fn k []) as_ [] r [] := by
 intro S w fv vs F hS hfv hvs hH hF
 have hF0 : F = [] := hH
 subst hF0
 obtain ⟨cs, c1, c2⟩ := hfv
 simp only [Rep] at c1
 obtain ⟨us, u1, _, rfl⟩ := c1
 have hu : us = [] := by
  cases us with
  | nil => rfl
  | cons _ _ => simp [yc] at u1
 subst hu
 obtain ⟨⟨fn, f1, f2, f3⟩, hc⟩ := h
 refine .inl ⟨k, #[], fn, c2, f1, f2, f3, ?_⟩
 rw [Array.append_empty]
 have hass : ∀ {as_ : List A} {vs : List Value}, ke (vw S) as_ vs → ZQ S w.heap as_ vs [] := by
  intro as_
  induction as_ with
  | nil => intro vs q; cases vs with | nil => rfl | cons _ _ => exact q.elim
  | cons a as_ ih =>
   intro vs q
   cases vs with
   | nil => exact q.elim
   | cons v vs => exact ⟨[], [], rfl, .inl ⟨q.1.repV, rfl⟩, ih q.2⟩
 refine (hc S w vs [] hS (hass hvs) List.nodup_nil).mono ?_
 rintro e w' ⟨v', S', F', he, b1, b2, b3, b4, b5, b6, b7⟩
 exact ⟨v', he, S', F', [], b1, b2, b3, b4, b5, rfl, by simpa using b6, by simpa using b7⟩
theorem zt {c : Ctr} (hC : zJ P c)  {α ρ : Type} {enc : α → List A} {encR : ρ → A} {F : α → Option ρ}  {inj : ∀ x y, enc x = enc y → x = y} (h : c.Has (spF k enc encR F gives inj)) {x : α} {r : ρ} (hr : F x = some r) : Yv P k (enc x) (encR r) := by
 have h1 := h.run x ⟨r, hr⟩
 have := hC.1 _ _ _ h1
 simpa only [spF, hr] using this
open Go.Proofs Go.Shelf
section
variable {α : Type}
def z2l (c : α → α → Int) (x : α) : List α → List α
 | [] => [x]
 | y :: l => if c y x < 0 then y :: z2l c x l else x :: y :: l
def X5 (c : α → α → Int) : List α → List α
 | [] => []
 | x :: l => z2l c x (X5 c l)
def SOk (c : α → α → Int) (l : List α) : Prop :=
 (∀ x ∈ l, ¬ c x x < 0) ∧ (∀ x ∈ l, ∀ y ∈ l, ∀ z ∈ l, c x y < 0 → c y z < 0 → c x z < 0) ∧ (∀ x ∈ l, ∀ y ∈ l, ¬ c x y < 0 → ¬ c y x < 0 → x = y)
instance [DecidableEq α] (c : α → α → Int) (l : List α) : Decidable (SOk c l) := by unfold SOk; infer_instance
def z2H [DecidableEq α] (cmp : α → α → Option Int) (l : List α) : Option (List α) :=
 gd (l.length ≤ 4294967296 ∧ ∀ x ∈ l, ∀ y ∈ l, (cmp x y).isSome = true) <| gd (SOk (fun x y => (cmp x y).getD 0) l) <| some (X5 (fun x y => (cmp x y).getD 0) l)
theorem SOk.ntr {c : α → α → Int} {l : List α} (h : SOk c l) : ∀ x ∈ l, ∀ y ∈ l, ∀ z ∈ l, ¬ c x y < 0 → ¬ c y z < 0 → ¬ c x z < 0 := by
 intro x hx y hy z hz h1 h2 h3
 by_cases h4 : c y x < 0
 ·exact h2 (h.2.1 y hy x hx z hz h4 h3)
 ·have := h.2.2 x hx y hy h1 h4
  subst this
  exact h2 h3
theorem Un (c : α → α → Int) (x : α) : ∀ l, (z2l c x l).Perm (x :: l)
 | [] => .refl _
 | y :: l => by
  simp [z2l]
  split
  ·exact ((Un c x l).cons y).trans (.swap x y l)
  ·exact .refl _
theorem uZ (c : α → α → Int) : ∀ l, (X5 c l).Perm l
 | [] => .refl _
 | x :: l => (Un c x _).trans ((uZ c l).cons x)
theorem Um {c : α → α → Int} {L : List α} (h : SOk c L) {x : α} (hx : x ∈ L) : ∀ {l : List α}, (∀ y ∈ l, y ∈ L) → l.Pairwise (fun a b => ¬ c b a < 0) → (z2l c x l).Pairwise (fun a b => ¬ c b a < 0)
 | [], _, _ => by simp [z2l]
 | y :: l, hl, hp => by
  have hy := hl y (by simp)
  have ⟨p1, p2⟩ := List.pairwise_cons.1 hp
  simp only [z2l]
  split
  ·rename_i hc
   refine List.pairwise_cons.2 ⟨?_, Um h hx (fun z hz => hl z (by simp [hz])) p2⟩
   intro z hz
   rcases List.mem_cons.1 ((Un c x l).mem_iff.1 hz) with rfl | hz
   ·exact fun q => h.1 _ hx (h.2.1 _ hx _ hy _ hx q hc)
   ·exact p1 z hz
  ·rename_i hc
   refine List.pairwise_cons.2 ⟨?_, hp⟩
   intro z hz
   rcases List.mem_cons.1 hz with rfl | hz
   ·exact hc
   ·exact h.ntr z (hl z (by simp [hz])) y hy x hx (p1 z hz) hc
theorem Yk {c : α → α → Int} {L : List α} (h : SOk c L) : ∀ {l : List α}, (∀ y ∈ l, y ∈ L) → (X5 c l).Pairwise (fun a b => ¬ c b a < 0)
 | [], _ => .nil
 | x :: l, hl => Um h (hl x (by simp)) (fun y hy => hl y (by simp [(uZ c l).mem_iff.1 hy])) (Yk h fun y hy => hl y (by simp [hy]))
theorem KM {c : α → α → Int} {l l' : List α} (h : SOk c l) (hp : l'.Perm l) (hs : l'.Pairwise (fun a b => ¬ c b a < 0)) : l' = X5 c l := by
 refine List.Perm.eq_of_pairwise (le := fun a b => ¬ c b a < 0) ?_ hs (Yk h fun _ q => q) (hp.trans (uZ c l).symm)
 intro a b ha hb h1 h2
 exact h.2.2 a (hp.mem_iff.1 ha) b ((uZ c l).mem_iff.1 hb) h2 h1
theorem z1V [DecidableEq α] {cmp : α → α → Option Int} {l l' : List α} (h : z2H cmp l = some l') : l.length ≤ 4294967296 ∧ (∀ x ∈ l, ∀ y ∈ l, cmp x y = some ((cmp x y).getD 0)) ∧ SOk (fun x y => (cmp x y).getD 0) l ∧ l' = X5 (fun x y => (cmp x y).getD 0) l := by
 have ⟨h1, h⟩ := gdE h
 have ⟨h2, h⟩ := gdE h
 refine ⟨h1.1, fun x hx y hy => ?_, h2, (z8 h).symm⟩
 have := h1.2 x hx y hy
 cases hc : cmp x y with
 | none => rw [hc] at this; cases this
 | some _ => rfl
end
theorem z8Z [Inhabited α] (enc : α → List Value) (k : Nat) (hk : ∀ x, (enc x).length = k) : ∀ l : List α, ((List.range (l.length * k)).map fun t => (enc l[t / k]!)[t % k]!) = l.flatMap enc
 | [] => by simp
 | x :: l => by
  rcases Nat.eq_zero_or_pos k with rfl | h0
  ·simp only [Nat.mul_zero, List.range_zero, List.map_nil]
   symm
   rw [List.flatMap_eq_nil_iff]
   intro y _
   exact List.eq_nil_of_length_eq_zero (hk y)
  rw [List.length_cons, Nat.add_mul, Nat.one_mul, Nat.add_comm, List.range_add, List.map_append, List.map_map, List.flatMap_cons]
  congr 1
  ·apply List.ext_getElem?
   intro i
   rw [List.getElem?_map]
   by_cases hi : i < k
   ·rw [List.getElem?_range hi, Option.map_some, Nat.div_eq_of_lt hi, Nat.mod_eq_of_lt hi]
    have : i < (enc x).length := by rw [hk]; exact hi
    simp [this]
   ·rw [List.getElem?_eq_none (by simpa using hi), List.getElem?_eq_none (by rw [hk]; omega)]; rfl
  ·rw [← z8Z enc k hk l]
   apply List.map_congr_left
   intro t _
   simp only [Function.comp]
   rw [Nat.add_div_left _ h0, Nat.add_mod_left]
   simp
theorem WT [Inhabited α] (enc : α → List Value) (k : Nat) (hk : ∀ x, (enc x).length = k) (d : Array α) : (Sort.flatK enc k d).toList = d.toList.flatMap enc := by
 rw [← z8Z enc k hk d.toList]
 simp only [Sort.flatK, Array.toList_map, Array.toList_range, Array.length_toList]
 apply List.map_congr_left
 intro a _
 have : d.toList[a / k]! = d[a / k]! := by
  by_cases hlt : a / k < d.size
  ·rw [getElem!_pos d _ hlt, getElem!_pos d.toList _ (by simpa using hlt)]; simp
  ·rw [getElem!_neg d _ hlt, getElem!_neg d.toList _ (by simpa using hlt)]
 rw [this]
def z7T (P : Program) (kf k : Nat) (ag : Bool) : Prop := ∃ ρ, SlLaysF0.n6 P ρ ∧ ρ.f 6 = kf ∧ (∀ w, (isAgg (ρ.t 24)).run P w = .ok ag w) ∧ (∀ w, (Go.sizeOf (ρ.t 24)).run P w = .ok k w) ∧ (ag = false → k = 1)
theorem Qk {enc : α → A}  (hsz : ∀ x, (enc x).size = k) (L : List α) : ∀ {l : List α} {cs : List Value}, (∀ x ∈ l, x ∈ L) → yc S (l.map enc) cs →
  ∃ d : List {p : List Value × α // Rep S (enc p.2) p.1 ∧ p.2 ∈ L}, d.map (fun p => p.1.2) = l ∧ d.flatMap (fun p => p.1.1) = cs
 | [], cs, _, h => by
  simp [List.map_nil, yc] at h
  exact ⟨[], rfl, by simp [h]⟩
 | x :: l, cs, hl, h => by
  simp [List.map_cons, yc] at h
  obtain ⟨c1, c2, rfl, h1, h2⟩ := h
  have ⟨d, e1, e2⟩ := Qk hsz L (fun y hy => hl y (by simp [hy])) h2
  exact ⟨⟨(c1, x), h1, hl x (by simp)⟩ :: d, by simp [e1], by simp [e2]⟩
theorem Xt {enc : α → A} {L : List α} : ∀ (d : List {p : List Value × α // Rep S (enc p.2) p.1 ∧ p.2 ∈ L}), yc S ((d.map fun p => p.1.2).map enc) (d.flatMap fun p => p.1.1)
 | [] => by simp [yc]
 | p :: d => by
  simp only [List.map_cons, List.flatMap_cons, yc]
  exact ⟨_, _, rfl, p.2.1, Xt d⟩
variable {ag : Bool}
theorem z4G {ρ : Ren} {kf k t : Nat}  (hT : wl P tt) (L : SlLaysF0.n6 P ρ) (h6 : ρ.f 6 = kf) (h24 : ρ.t 24 = t) (hs : (tt t).map (fun i => (i.kind.isAgg, i.size)) = some (ag, k)) (h1 : ag = false → k = 1) : z7T P kf k ag := by
 have ⟨i, hi, he⟩ := Option.map_eq_some_iff.1 hs
 simp [Prod.mk.injEq] at he
 refine ⟨ρ, L, h6, fun w => ?_, fun w => ?_, h1⟩
 ·rw [h24, Yg (hT t i hi).kind w, he.1]
 ·rw [h24, vj hT hi w, he.2]
variable {arr : Array Value}
section
variable {α : Type} [Inhabited α] (enc : α → List Value) (k : Nat) (w : World) (b n : Nat) (d : Array α) (os : Array Obj)
theorem J0 {j : Nat} (hj : j < w.heap.size) (hb : j ≠ b) : (sortWorldK enc k w b 0 n d os).heap[j]? = w.heap[j]? := by
 show ((w.heap.modify b _) ++ os)[j]? = _
 rw [Array.getElem?_append_left (by simpa using hj), Array.getElem?_modify, if_neg (Ne.symm hb)]
theorem z9B {ty : TypeId} {fr : Nat × Nat} (hb : w.heap[b]? = some (.cells arr ty fr)) : (sortWorldK enc k w b 0 n d os).heap[b]? = some (.cells (Sort.putCells id 0 (Sort.flatK enc k d) arr) ty fr) := by
 have hlt := (Array.getElem?_eq_some_iff.1 hb).1
 show ((w.heap.modify b _) ++ os)[b]? = _
 rw [Array.getElem?_append_left (by simpa using hlt), Array.getElem?_modify, if_pos rfl, hb]
 rfl
theorem z6S : (sortWorldK enc k w b 0 n d os).heap.size = w.heap.size + os.size := by
 show ((w.heap.modify b _) ++ os).size = _
 simp
end
theorem Ji {D arr : Array Value} (h : D.size ≤ arr.size) : (Sort.putCells id 0 D arr).toList.take D.size = D.toList := by
 apply List.ext_getElem?
 intro i
 rw [List.getElem?_take]
 by_cases hi : i < D.size
 ·rw [if_pos hi]
  have : i < arr.size := by omega
  simp [Sort.putCells, hi, this]
 ·rw [if_neg hi, List.getElem?_eq_none (by simpa using hi)]
theorem Jj (D arr : Array Value) : (Sort.putCells id 0 D arr).size = arr.size := by simp [Sort.putCells]
theorem Ks : ∀ {caps : List A} {vs : List Value}, yc S caps vs → (∀ c ∈ caps, c.size = 1 ∧ ∀ fs, c ≠ .agg fs) → ke (vw S) caps vs
 | [], vs, h, _ => by simp [yc] at h; subst h; trivial
 | c :: caps, vs, h, hc => by
  simp [yc] at h
  obtain ⟨c1, c2, rfl, h1, h2⟩ := h
  have ⟨s1, s2⟩ := hc c (by simp)
  have hl := h1.len
  rw [s1] at hl
  obtain ⟨u, rfl⟩ := List.length_eq_one_iff.1 hl
  refine ⟨⟨[u], h1, ?_⟩, Ks h2 fun x hx => hc x (by simp [hx])⟩
  cases c <;> first | rfl | exact absurd rfl (s2 _)
theorem WR : ∀ {bs : List A} {vs : List Value}, ke (vw S) bs vs → ZQ S h bs vs []
 | [], [], _ => rfl
 | _ :: _, _ :: _, q => ⟨[], [], rfl, .inl ⟨q.1.repV, rfl⟩, WR q.2⟩
 | [], _ :: _, q => q.elim
 | _ :: _, [], q => q.elim
theorem z3t {w w' : World} (h : ZW (fun k => w.heap.size ≤ k) w w') : ∃ q os', w' = Sort.grow (w.drewN q) os' := by
 refine ⟨w'.drawn - w.drawn, w'.heap.extract w.heap.size w'.heap.size, ?_⟩
 have h1 : w'.heap = w.heap ++ w'.heap.extract w.heap.size w'.heap.size := by
  apply Array.ext_getElem?
  intro i
  by_cases hi : i < w.heap.size
  ·rw [Array.getElem?_append_left hi]
   exact h.block i (by omega)
  ·rw [Array.getElem?_append_right (by omega), Array.getElem?_extract]
   by_cases h2 : i < w'.heap.size
   ·rw [if_pos (by omega)]
    congr 1; omega
   ·rw [if_neg (by omega), Array.getElem?_eq_none (by omega)]
 have h2 := h.drawn
 have h3 := h.os
 have h4 := h.tape
 have h5 := h.output
 cases w' with
 | mk heap tape drawn os output =>
  cases w with
  | mk heap0 tape0 drawn0 os0 output0 =>
   simp only at h1 h2 h3 h4 h5
   subst h3 h4 h5
   simp [Sort.grow, World.drewN, World.mk.injEq, true_and, and_true]
   exact ⟨h1, by omega⟩
theorem z5X [Inhabited α] (enc : α → List Value) (e1 : α → Value) (he : ∀ x, enc x = [e1 x]) (w : World) (b m : Nat) (d : Array α) (os : Array Obj) : sortWorld e1 w b 0 m d os = sortWorldK enc 1 w b 0 m d os := by
 have hflat : Sort.flatK enc 1 d = d.map e1 := by
  apply Array.ext
  ·simp [Sort.flatK]
  ·intro i h1 h2
   have hi : i < d.size := by simpa using h2
   have := Sort.get_flatK enc 1 d i (by omega)
   rw [getElem!_pos _ i h1] at this
   rw [this, he]
   simp [Nat.mod_one, hi]
 unfold sortWorld sortWorldK
 congr 1
 unfold Sort.putRowK Sort.putRow
 congr 1
 rw [hflat]
 funext c
 unfold Sort.putCells
 congr 1
 funext k x
 simp [Nat.zero_le, true_and, Nat.zero_add, Nat.sub_zero, Array.size_map, id]
 by_cases hk : k < d.size
 ·rw [if_pos hk, if_pos hk, getElem!_pos d k hk, getElem!_pos _ k (by simpa using hk)]; simp
 ·rw [if_neg hk, if_neg hk]
theorem z3w [Inhabited α] {enc : α → List Value} {e1 : α → Value} (he : ∀ x, enc x = [e1 x])  {b : Nat} {d : Array α} (h : Sort.HoldsK enc 1 w b 0 d) : Sort.Holds e1 w b 0 d := by
 intro j hj
 have := h j (by simpa using hj)
 rw [Sort.get_flatK enc 1 d j (by omega), he] at this
 simpa [Nat.mod_one] using this
theorem z2G {P : Program} {kf k g : Nat}   [DecidableEq α] {f : α → A} [hD : z4m f] {t : Bool} {v : Value} {caps : List A} {cmp : α → α → Option Int} {l l' : List α} (hT : z7T P kf k ag) (hsz : ∀ x, (f x).size = k) (hag : ∀ x, (f x).isAgg = ag)
  (hc : ∀ x y c, cmp x y = some c → Yv P g (f x :: f y :: caps) (.atom (.int .i64 c))) (h : z2H cmp l = some l') : u4 P (.fn kf []) [.atom v, .fn g caps] [(v, .osl k t (l.map f))] (.tup []) [.osl k t (l'.map f)] := by
 obtain ⟨hlen0, hcmp, hO, rfl⟩ := z1V h
 obtain ⟨ρ, L, rfl, aE, zE, hk1⟩ := hT
 intro S w fv vs F hS hfv hvs hH hF
 have ⟨cs, c1, c2⟩ := hfv
 simp only [Rep] at c1
 obtain ⟨us, u1, _, rfl⟩ := c1
 have hu : us = [] := by
  cases us with
  | nil => rfl
  | cons _ _ => simp [yc] at u1
 subst hu
 rcases vs with _ | ⟨v1, _ | ⟨v2, _ | ⟨v3, vs⟩⟩⟩
 ·exact hvs.elim
 ·exact hvs.2.elim
 case cons.cons.cons => exact hvs.2.2.elim
 have ⟨hv1, hv2, _⟩ := hvs
 obtain ⟨rfl, _⟩ := wY.1 hv1
 have ⟨cs2, d1, d2⟩ := hv2
 simp only [Rep] at d1
 obtain ⟨cv, d3, d4, rfl⟩ := d1
 have hcv := Ks d3 d4
 obtain ⟨F1, F2, rfl, q1, q2⟩ := hH
 have hF2 : F2 = [] := q2
 subst hF2
 rw [List.nil_append] at hF ⊢
 have act : ∀ R : Ending → World → Prop, Calls P (ρ.f 6) #[v1, .func (.func g) #[] cv.toArray] w R → Calls P (ρ.f 6) ([v1, v2].toArray ++ #[]) w R := by
  intro R q
  rw [d2, Array.append_empty]
  exact q
 have fnOk : ∃ fn, P.funcs[ρ.f 6]? = some fn ∧ (fn.name == "runtime.NumGoroutine") = false ∧ fn.body.isNone = false := by
  have ⟨nm, hne, FG⟩ := L.f6
  exact ⟨_, FG, by simpa using hne, rfl⟩
 have ⟨fn, f1, f2, f3⟩ := fnOk
 refine .inl ⟨ρ.f 6, #[], fn, c2, f1, f2, f3, act _ ?_⟩
 rcases q1 with ⟨q1, _⟩ | ⟨cs, q1, q3, q4⟩
 ·simp only [yY, vw, Rep, false_and, exists_false] at q1
 simp only [zy] at q1
 obtain ⟨p, c, rfl, t1, t2, t3, t4, t5⟩ := q1
 have ev : v1 = .slice p l.length c := by
  have q5 : v1 = zL (.osl k t (l.map f)) [.slice p (l.map f).length c] := q4
  rw [q5]; simp [zL]
 subst ev
 simp only [List.length_map] at t1 t2 t5
 by_cases hl : l = []
 ·subst hl
  refine (AnyF.slices_SortFunc_none { L with } p c _ w).mono ?_
  rintro e w' ⟨rfl, rfl⟩
  refine ⟨.tuple #[], rfl, S, [], F1, ZW.refl _ _, fun _ _ _ q => q, fun _ _ _ _ => rfl, hS, .inl ⟨?_, rfl⟩, ⟨F1, [], by simp, .inr ⟨[.slice p 0 c], ?_, q3, rfl⟩, rfl⟩, by simpa using hF, fun k hk => .inr (by simpa using hk)⟩
  ·simp only [yY]; exact ⟨[], rfl, trivial⟩
  ·simp only [X5, List.map_nil, zy]
   exact ⟨p, c, rfl, t1, t2, t3, by simp, by simpa using t5⟩
 have hpos : 0 < l.length := List.length_pos_iff.2 hl
 rcases t5 with ⟨e, _⟩ | ⟨b, arr, ty, cl, F', rfl, e1, e2, e3, e4, rfl, e5⟩
 ·exact absurd (by simpa using e) hl
 obtain ⟨hr, rfl⟩ := e4.areD (dM f l)
 have ⟨d, g1, g2⟩ := Qk (S := S) hsz l (fun _ q => q) hr
 have hblk := (Array.getElem?_eq_some_iff.1 e1).1
 obtain ⟨x0, hx0⟩ : ∃ x, x ∈ d := by
  cases d with
  | nil => exact absurd g1.symm hl
  | cons x _ => exact ⟨x, by simp⟩
 letI : Inhabited {p : List Value × α // Rep S (f p.2) p.1 ∧ p.2 ∈ l} := ⟨x0⟩
 let enc : {p : List Value × α // Rep S (f p.2) p.1 ∧ p.2 ∈ l} → List Value := fun p => p.1.1
 let c0 : α → α → Int := fun x y => (cmp x y).getD 0
 have hk : ∀ x, (enc x).length = k := fun x => (x.2.1.len).trans (hsz _)
 have h1 : ∀ x, ∀ v ∈ enc x, v.oneCell' = true := fun x => x.2.1.one
 have hswo : Sort.SWO (ltOf fun x y : {p : List Value × α // Rep S (f p.2) p.1 ∧ p.2 ∈ l} => c0 x.1.2 y.1.2) := by
  refine ⟨fun x => ?_, fun x y z q1 q2 => ?_, fun x y z q1 q2 => ?_⟩
  ·simpa [ltOf] using hO.1 _ x.2.2
  ·simp only [ltOf, decide_eq_true_eq] at q1 q2 ⊢
   exact hO.2.1 _ x.2.2 _ y.2.2 _ z.2.2 q1 q2
  ·simp only [ltOf, decide_eq_false_iff_not] at q1 q2 ⊢
   exact hO.ntr _ x.2.2 _ y.2.2 _ z.2.2 q1 q2
 have hdl : d.length = l.length := by have := congrArg List.length g1; simpa using this
 have hD0 : (Sort.flatK enc k d.toArray).toList = cl := by rw [WT enc k hk]; exact g2
 have hszF : ∀ d' : Array {p : List Value × α // Rep S (f p.2) p.1 ∧ p.2 ∈ l}, d'.size = d.length → (Sort.flatK enc k d').size = l.length * k := fun d' q => by rw [Sort.size_flatK, q, hdl]
 have hle : l.length * k ≤ arr.size := Nat.le_trans (Nat.mul_le_mul_right _ t2) e2
 have hH2 : Sort.HoldsK enc k w b 0 d.toArray := by
  intro j hj
  have hj' : j < cl.length := by rw [← hD0]; simpa using hj
  have hget : (Sort.flatK enc k d.toArray)[j]! = cl[j] := by
   rw [getElem!_pos _ j hj]
   have : (Sort.flatK enc k d.toArray).toList[j]'(by simpa using hj) = cl[j] := by simp only [hD0]
   simpa using this
  have hcell : arr[j]? = some cl[j] := by
   obtain ⟨u, hu⟩ : ∃ u, u = cl[j] := ⟨_, rfl⟩
   have q : cl[j]? = some u := by rw [hu]; exact List.getElem?_eq_getElem hj'
   rw [← hu]
   clear hget hu
   subst e3
   rw [List.getElem?_take] at q
   split at q
   ·simpa using q
   ·cases q
  constructor
  ·simp only [World.cell?, e1, Option.isSome_none, Bool.false_eq_true, if_false, Nat.zero_add, id, hget]
   exact hcell
  ·simp [World.frozen?, e1]
 have hst : ∀ n (d' : Array {p : List Value × α // Rep S (f p.2) p.1 ∧ p.2 ∈ l}) os, wm S (sortWorldK enc k w b 0 n d' os) := by
  refine fun n d' os => ⟨?_, hS.gok, hS.blk.of (fun _ _ _ q => q) fun g x e => J0 enc k w b n d' os (hS.blk.lt e) (by rintro rfl; exact hS.blk.ne (e5 0) x e)⟩
  intro b' o' u hu
  have hne : b' ≠ b := by rintro rfl; rw [e5] at hu; cases hu
  have := hS b' o' u hu
  have hlt : b' < w.heap.size := by
   unfold zY at this
   cases hq : w.heap[b']? with
   | none => simp [hq] at this
   | some _ => exact (Array.getElem?_eq_some_iff.1 hq).1
  unfold zY at this ⊢
  rw [J0 enc k w b n d' os hlt hne]
  exact this
 have heg : Enters P g := by
  have ⟨⟨fn', p1, p2, p3⟩, _⟩ := hc x0.1.2 x0.1.2 _ (hcmp _ x0.2.2 _ x0.2.2)
  cases hb : fn'.body with
  | none => simp [hb] at p3
  | some body => exact enters_of p1 p2 hb
 have hcall0 : ∀ (m : Nat) (os : Array Obj) (dk : Array {p : List Value × α // Rep S (f p.2) p.1 ∧ p.2 ∈ l}) (x y : {p : List Value × α // Rep S (f p.2) p.1 ∧ p.2 ∈ l}),
   Calls P g (#[zL (f x.1.2) (enc x), zL (f y.1.2) (enc y)] ++ cv.toArray) (sortWorldK enc k w b 0 m dk os) fun e w' => e = .returned (.int .i64 (c0 x.1.2 y.1.2)) ∧ ∃ q os', w' = Sort.grow ((sortWorldK enc k w b 0 m dk os).drewN q) os' := by
  intro m os dk x y
  have hcall := (hc x.1.2 y.1.2 _ (hcmp _ x.2.2 _ y.2.2)).2 S (sortWorldK enc k w b 0 m dk os) (zL (f x.1.2) (enc x) :: zL (f y.1.2) (enc y) :: cv) [] (hst _ _ _)
   (WR ⟨⟨enc x, x.2.1, rfl⟩, ⟨enc y, y.2.1, rfl⟩, hcv⟩) List.nodup_nil
  have ea : (#[zL (f x.1.2) (enc x), zL (f y.1.2) (enc y)] ++ cv.toArray : Array Value) = (zL (f x.1.2) (enc x) :: zL (f y.1.2) (enc y) :: cv : List Value).toArray := by simp
  rw [ea]
  refine hcall.mono ?_
  rintro e w' ⟨v', S', F', rfl, b1, b2, b3, b4, b5, b6, b7⟩
  have hv : v' = .int .i64 (c0 x.1.2 y.1.2) := by
   rcases b5 with ⟨r, _⟩ | ⟨cs, r, _, r2⟩
   ·exact (zr.1 r).1
   ·simp only [zy, Rep] at r
    rw [r2, r.1.1]; rfl
  refine ⟨by rw [hv], z3t (b1.mono fun k hk => ?_)⟩
  simpa using hk
 have hsz62 : d.toArray.size < 4611686018427387904 := by
  simp only [List.size_toArray, hdl]
  omega
 have hcon : Calls P (ρ.f 6) #[.slice (some ⟨b, 0, none⟩) d.toArray.size c, .func (.func g) #[] cv.toArray] w fun e w' =>
   e = .returned (.tuple #[]) ∧ ∃ d' n os, Sort.PermIn 0 d.toArray.size d.toArray d' ∧ Sort.SortedIn (ltOf fun x y : {p : List Value × α // Rep S (f p.2) p.1 ∧ p.2 ∈ l} => c0 x.1.2 y.1.2) 0 d.toArray.size d' ∧ w' = sortWorldK enc k w b 0 n d' os := by
  cases ag with
  | true =>
   refine AnyQ.slices_SortFunc (P := P) (ρ := ρ) L k aE zE enc hk h1 (fun x y => c0 x.1.2 y.1.2) hswo g cv.toArray b 0 c d.toArray w heg ?_ hH2 hblk hsz62
   intro m os dk hs x y
   have q := hcall0 m os dk x y
   have hx : ∀ z : {p : List Value × α // Rep S (f p.2) p.1 ∧ p.2 ∈ l}, zL (f z.1.2) (enc z) = .agg (enc z).toArray := by
    intro z
    have := hag z.1.2
    cases hz : f z.1.2 <;> simp [hz, A.isAgg] at this
    rfl
   rw [hx, hx] at q
   exact q
  | false =>
   have hk1' := hk1 rfl
   subst hk1'
   let e1 : {p : List Value × α // Rep S (f p.2) p.1 ∧ p.2 ∈ l} → Value := fun x => (enc x).headD undef
   have he : ∀ x, enc x = [e1 x] := by
    intro x
    have ⟨u, hu⟩ := List.length_eq_one_iff.1 (hk x)
    show enc x = [(enc x).headD undef]
    rw [hu]; rfl
   have hx : ∀ z : {p : List Value × α // Rep S (f p.2) p.1 ∧ p.2 ∈ l}, zL (f z.1.2) (enc z) = e1 z := by
    intro z
    have := hag z.1.2
    cases hz : f z.1.2 <;> simp [hz, A.isAgg] at this <;> rfl
   refine (Any.slices_SortFunc (P := P) (ρ := ρ) { L with a24 := aE, z24 := zE } e1 (fun x => h1 x _ (by rw [he x]; simp)) (fun x y => c0 x.1.2 y.1.2) hswo g cv.toArray b 0 c d.toArray w heg ?_ (z3w he hH2) hblk hsz62).mono ?_
   ·intro m os dk hs x y
    have q := hcall0 m os dk x y
    rw [hx, hx] at q
    rw [z5X enc e1 he]
    exact q
   ·rintro e w' ⟨q1, d', n, os, q2, q3, q4⟩
    exact ⟨q1, d', n, os, q2, q3, by rw [q4, z5X enc e1 he]⟩
 have ea2 : (#[.slice (some ⟨b, 0, none⟩) l.length c, .func (.func g) #[] cv.toArray] : Array Value) = #[.slice (some ⟨b, 0, none⟩) d.toArray.size c, .func (.func g) #[] cv.toArray] := by simp only [List.size_toArray, hdl]
 rw [ea2]
 refine hcon.mono ?_
 rintro e w' ⟨rfl, d', n, os, hp, hs, rfl⟩
 have hds : d'.size = d.length := by simpa using hp.1
 have hperm : d'.toList.Perm d := by
  have := hp.2.2
  have e1 : d'.extract 0 d.toArray.size = d' := by rw [show d.toArray.size = d'.size by simp [hds]]; exact Array.extract_size
  rw [e1, Array.extract_size] at this
  simpa using this
 have hl' : d'.toList.map (fun p => p.1.2) = X5 c0 l := by
  refine KM hO ?_ ?_
  ·exact (hperm.map _).trans (List.Perm.of_eq g1)
  ·rw [List.pairwise_map, List.pairwise_iff_getElem]
   intro i j hi hj hij
   have hi' : i < d'.size := by simpa using hi
   have hj' : j < d'.size := by simpa using hj
   have := hs i j (Nat.zero_le _) hij (by simpa [hds] using hj')
   rw [getElem!_pos d' j hj', getElem!_pos d' i hi'] at this
   simpa [ltOf] using this
 have hat := z9B enc k w b n d' os e1
 have hFs : (Sort.flatK enc k d').size = l.length * k := hszF d' hds
 have hlen : (X5 c0 l).length = l.length := (uZ c0 l).length_eq
 refine ⟨.tuple #[], rfl, S, [], [b], ⟨rfl, rfl, rfl, Nat.le_add_right _ _, by rw [z6S]; omega, ?_⟩, fun _ _ _ q => q, fun _ _ _ _ => rfl, hst _ _ _, .inl ⟨?_, rfl⟩, ⟨[b], [], rfl, .inr ⟨[.slice (some ⟨b, 0, none⟩) l.length c], ?_, by simp, rfl⟩, rfl⟩, by simp, by simp⟩
 ·intro j hj
  simp only [not_or, Nat.not_le, List.mem_cons, List.not_mem_nil, or_false] at hj
  exact J0 enc k w b n d' os hj.1 hj.2
 ·simp only [yY]; exact ⟨[], rfl, trivial⟩
 ·simp only [zy, List.length_map]
  refine ⟨some ⟨b, 0, none⟩, c, by rw [hlen], by rw [hlen]; exact t1, by rw [hlen]; exact t2, t3, ?_, .inr ⟨b, _, ty, (Sort.flatK enc k d').toList, [], rfl, hat, by rw [Jj]; exact e2, ?_, ?_, rfl, e5⟩⟩
  ·intro x hx
   obtain ⟨y, _, rfl⟩ := List.mem_map.1 hx
   exact hsz y
  ·rw [hlen, ← hFs]
   exact Ji (by rw [hFs]; exact hle)
  ·have := (Xt d'.toList).concs (sortWorldK enc k w b 0 n d' os).heap
   rw [hl'] at this
   rw [WT enc k hk]
   exact this
def kJ (sz : Nat) (v : Value) (l : Int) : Value :=
 match v with
 | .slice a n c => .slice (if c = l.toNat then a else a.map (·.add (l.toNat * sz))) (n - l.toNat) (c - l.toNat)
 | v => v
theorem z5v {sz : Nat}  {l : Int} (h : v.oneCell' = true) : (kJ sz v l).oneCell' = true := by
 unfold kJ
 split
 ·rfl
 ·exact h
section
variable {C : Ctx} {S : zi} {Fp : Nat → List Nat} {st : St} {a : Act} {w : World}
theorem z7k {r : Nat} {er ec : Nat} {u : Value} (ha : jm w.heap st (Act.tv a) r [] er ec u) {x0 : A} (hr : (st r).t = .own x0) (e1 : (st r).er = er) : u = Act.tv a r := by
 have a3 := ha.2.2
 simp [hr] at a3
 simp [YK] at a3
 exact a3 e1
theorem Jm (h : Sim C S Fp [] st a w) {r sz : Nat} {tg : Bool} {es : List A} (hr : (st r).t = .own (.osl sz tg es)) :
  ∃ p c, Act.tv a r = .slice p es.length c ∧ es.length ≤ c ∧ (∀ x ∈ es, x.size = sz) ∧ (0 < es.length → ∃ b, p = some ⟨b, 0, none⟩) := by
 have hq := h.ent r
 unfold yG at hq
 simp only [hr] at hq
 have ⟨cs, c1, c2, c3⟩ := hq
 simp only [zy] at c1
 obtain ⟨p, c, rfl, t1, t2, t3, t4, t5⟩ := c1
 refine ⟨p, c, by rw [c3]; rfl, t2, t4, fun hp => ?_⟩
 rcases t5 with ⟨rfl, _⟩ | ⟨b, arr, ty, l, F', rfl, _⟩
 ·simp at hp
 ·exact ⟨b, rfl⟩
open Classical in
def vwK (tt : TT) (n : Fr) (dst : Option Nat) (ty r : Nat) (v : Value) (tx : T) (vl : A) (e : Ent) : SM Unit :=
 match vl with
 | .atom (.int _ j) =>
  if (tx = .als r [] e.er e.ec ∨ tx = .d (.atom v)) ∧ WN n.pin r = some v then
   match e.t with
   | .own (.osl sz _ es) => if xH tt ty = some sz ∧ 0 ≤ j ∧ j.toNat ≤ es.length then wrT n dst (.d (.atom (kJ sz v j))) else zn
   | _ => zn
  else zn
 | _ => zn
def vwO (tt : TT) (n : Fr) (dst : Option Nat) (ty r : Nat) (v : Value) (x lo : Operand) : SM Unit := do
 let tx ← opnd x
 let tl ← opnd lo
 let vl ← val tl
 let e ← rdE r
 vwK tt n dst ty r v tx vl e
def vwH (tt : TT) (n : Fr) (dst : Option Nat) (ty r : Nat) (v : Value) (x lo : Operand) : HM Unit := ya (opnd x) >>= fun tx => ya (opnd lo) >>= fun tl => VF tl >>= fun vl => ya (rdE r) >>= fun e =>
 match vl with
 | .atom (.int _ j) => kG ((tx = .als r [] e.er e.ec ∨ tx = .d (.atom v)) ∧ WN n.pin r = some v)
   (match e.t with
   | .own (.osl sz _ es) => if xH tt ty = some sz then kG (0 ≤ j ∧ j.toNat ≤ es.length) (ya (wrT n dst (.d (.atom (kJ sz v j))))) else zA
   | _ => zA)
 | _ => zA
open Classical in
theorem zaW (tt : TT) (n : Fr) (dst : Option Nat) (ty r : Nat) (v : Value) (x lo : Operand) : Snd (vwO tt n dst ty r v x lo) (vwH tt n dst ty r v x lo) := by
 refine zb (zj _) fun tx => zb (zj _) fun tl => zb (k7 _) fun vl => zb (zj _) fun e => ?_
 cases vl with
 | atom u =>
  cases u with
  | int k j =>
   refine uO ?_
   cases e.t with
   | own y =>
    cases y with
    | osl sz tg es => exact V2 (fun h1 h2 => ⟨h1, h2.1, h2.2⟩) (zj _)
    | _ => exact zl _
   | _ => exact zl _
  | _ => exact zl _
 | _ => exact zl _
open Classical in
theorem Loc.vwO (tt : TT) (n : Fr) (dst : Option Nat) (ty r : Nat) (v : Value) (x lo : Operand) : Loc (vwO tt n dst ty r v x lo) := by
 unfold Go.Own.vwO
 refine Loc.bind (Loc.opnd _) fun _ => Loc.bind (Loc.opnd _) fun _ => Loc.bind (Loc.val _) fun _ => Loc.bind (Loc.rdE _) fun _ => ?_
 unfold Go.Own.vwK
 split
 ·refine Loc.ite ?_ Loc.fail
  split
  ·exact Loc.ite (Loc.wrT _ _ _) Loc.fail
  ·exact Loc.fail
 ·exact Loc.fail
theorem z9u {P : Program}  (hT : wl P tt) (h : Sim C S Fp [] st a w)  {t r : Nat} {v : Value} {x lo : Operand} (ho : o.op = .slice t x (some lo) none none)    (e0 : vwO tt C.n o.dst t r v x lo st = some (u, R, U)) : ui P C o a w (zf U st) := by
 unfold vwO at e0
 have ⟨tx, _, hx, e1⟩ := bR (zz h) e0
 have ⟨tl, _, hl, e2⟩ := bR (zz h) e1
 have ⟨vl, _, ql, e3⟩ := bR (vU h hl) e2
 have ⟨_, e4⟩ := bD e3
 unfold vwK at e4
 split at e4
 ·rename_i k j
  split at e4
  ·rename_i hc
   have ⟨c1, c2⟩ := hc
   have hs := h.pin r v (vQ c2)
   cases ht : (st r).t with
   | own y =>
    cases y with
    | osl sz tg es =>
     simp only [ht] at e4
     split at e4
     ·rename_i hd
      have ⟨d1, d2, d3⟩ := hd
      have ⟨p, c, ev, hlc, _, _⟩ := Jm h ht
      have hxv : a.eval x = .slice p es.length c := by
       rcases c1 with rfl | rfl
       ·rw [← ev]; exact z7k hx ht rfl
       ·rw [(zr.1 hx).1, ← hs, ev]
      have ⟨el, he, hsz⟩ := wT hT d1 w
      have ⟨el', _⟩ := zr.1 ql
      have hrun := jJ (P := P) (w := w) he hsz (p := p) (len := es.length) (c := c) (m := c) (lo := some (.int k j)) (hi := none) (mx := none) (.inr ⟨k, j, rfl, d2, rfl⟩) (.inl ⟨rfl, rfl⟩) (.inl ⟨rfl, rfl⟩) d3 hlc (Nat.le_refl c) (by simp)
      have hvv : v = .slice p es.length c := by rw [← hs, ev]
      have ⟨Fp', hs'⟩ := xY h e4 (x := .d (.atom (kJ sz v j))) (v := kJ sz v j) (zr.2 ⟨rfl, by rw [hvv]; exact z5v rfl⟩)
      refine zm ?_ hs'
      rw [hvv]
      simp [execOp, ho, hxv, el', hrun, kJ]
     ·cases e4
    | _ => simp only [ht] at e4; cases e4
   | _ => simp only [ht] at e4; cases e4
  ·cases e4
 ·cases e4
open Classical in
def vlO (n : Fr) (dst : Option Nat) (sz r : Nat) (v : Value) (l : Int) (x : Operand) : SM Unit := do
 let tx ← opnd x
 let e ← rdE r
 if tx = .d (.atom (kJ sz v l)) ∧ WN n.pin r = some v then
  match e.t with
  | .own (.osl _ _ es) => wrT n dst (.d (.atom (.int .i64 ((es.length - l.toNat : Nat) : Int))))
  | _ => zn
 else zn
def vlH (n : Fr) (dst : Option Nat) (sz r : Nat) (v : Value) (l : Int) (x : Operand) : HM Unit := ya (opnd x) >>= fun tx => ya (rdE r) >>= fun e => kG (tx = .d (.atom (kJ sz v l)) ∧ WN n.pin r = some v)
  (match e.t with
  | .own (.osl _ _ es) => eqA (.atom (.int .i64 ((es.length - l.toNat : Nat) : Int))) >>= fun y => ya (wrT n dst (.d y))
  | _ => zA)
open Classical in
theorem zaX (n : Fr) (dst : Option Nat) (sz r : Nat) (v : Value) (l : Int) (x : Operand) : Snd (vlO n dst sz r v l x) (vlH n dst sz r v l x) := by
 refine zb (zj _) fun tx => zb (zj _) fun e => uO ?_
 cases e.t with
 | own y =>
  cases y with
  | osl sz tg es => exact YI (zM _ fun y => wrT n dst (.d y)).symm (zb (Km _) fun _ => zj _)
  | _ => exact zl _
 | _ => exact zl _
open Classical in
theorem Loc.vlO (n : Fr) (dst : Option Nat) (sz r : Nat) (v : Value) (l : Int) (x : Operand) : Loc (vlO n dst sz r v l x) := by
 unfold Go.Own.vlO
 refine Loc.bind (Loc.opnd _) fun _ => Loc.bind (Loc.rdE _) fun _ => Loc.ite ?_ Loc.fail
 split
 ·exact Loc.wrT _ _ _
 ·exact Loc.fail
theorem z9v (hT : wl P tt) (h : Sim C S Fp [] st a w)  {t sz r : Nat}  {l : Int} {x : Operand} (hty : qp tt t = true) (ho : o.op = .call ⟨.builtin .len, ⟨[x]⟩, ⟨[t]⟩⟩)    (e0 : vlO C.n o.dst sz r v l x st = some (u, R, U)) : ui P C o a w (zf U st) := by
 unfold vlO at e0
 have ⟨tx, _, hx, e1⟩ := bR (zz h) e0
 have ⟨_, e4⟩ := bD e1
 split at e4
 ·rename_i hc
  obtain ⟨rfl, c2⟩ := hc
  have hs := h.pin r v (vQ c2)
  cases ht : (st r).t with
  | own y =>
   cases y with
   | osl sz' tg es =>
    simp [ht] at e4
    have ⟨p, c, ev, hlc, _, _⟩ := Jm h ht
    have hxv := (zr.1 hx).1
    have hvv : v = .slice p es.length c := by rw [← hs, ev]
    have ⟨el, he⟩ := ZB hT hty
    have ⟨Fp', hs'⟩ := xY h e4 (x := .d (.atom (.int .i64 ((es.length - l.toNat : Nat) : Int)))) (zr.2 ⟨rfl, rfl⟩)
    refine zm ?_ hs'
    have ex : a.eval x = .slice (if c = l.toNat then p else p.map (·.add (l.toNat * sz))) (es.length - l.toNat) (c - l.toNat) := by rw [hxv, hvv]; rfl
    simp [execOp, ho, resolve, invoke, builtin, Builtin.len_, run_underlying he, ex, goInt]
   | _ => simp [ht] at e4; cases e4
  | _ => simp [ht] at e4; cases e4
 ·cases e4
open Classical in
def viO (tt : TT) (n : Fr) (dst : Option Nat) (ty sz r : Nat) (v : Value) (l : Int) (x i : Operand) : SM Unit := do
 let tx ← opnd x
 let ti ← opnd i
 let vi ← val ti
 let e ← rdE r
 match vi with
 | .atom (.int _ j) =>
  if tx = .d (.atom (kJ sz v l)) ∧ WN n.pin r = some v then
   match e.t with
   | .own (.osl sz' _ es) => if xH tt ty = some sz ∧ sz' = sz ∧ 0 ≤ l ∧ 0 ≤ j ∧ (l + j).toNat < es.length then wrT n dst (.ptr r [.idx (l + j).toNat] e.er e.ec) else zn
   | _ => zn
  else zn
 | _ => zn
def viH (tt : TT) (n : Fr) (dst : Option Nat) (ty sz r : Nat) (v : Value) (l : Int) (x i : Operand) : HM Unit := ya (opnd x) >>= fun tx => ya (opnd i) >>= fun ti => VF ti >>= fun vi => ya (rdE r) >>= fun e =>
 match vi with
 | .atom (.int _ j) => kG (tx = .d (.atom (kJ sz v l)) ∧ WN n.pin r = some v)
   (match e.t with
   | .own (.osl sz' _ es) => if xH tt ty = some sz ∧ sz' = sz then kG (0 ≤ l ∧ 0 ≤ j ∧ (l + j).toNat < es.length) (ya (wrT n dst (.ptr r [.idx (l + j).toNat] e.er e.ec))) else zA
   | _ => zA)
 | _ => zA
open Classical in
theorem zaY (tt : TT) (n : Fr) (dst : Option Nat) (ty sz r : Nat) (v : Value) (l : Int) (x i : Operand) : Snd (viO tt n dst ty sz r v l x i) (viH tt n dst ty sz r v l x i) := by
 refine zb (zj _) fun tx => zb (zj _) fun ti => zb (k7 _) fun vi => zb (zj _) fun e => ?_
 cases vi with
 | atom u =>
  cases u with
  | int k j =>
   refine uO ?_
   cases e.t with
   | own y =>
    cases y with
    | osl sz' tg es => exact V2 (fun h1 h2 => ⟨h1.1, h1.2, h2.1, h2.2.1, h2.2.2⟩) (zj _)
    | _ => exact zl _
   | _ => exact zl _
  | _ => exact zl _
 | _ => exact zl _
open Classical in
theorem Loc.viO (tt : TT) (n : Fr) (dst : Option Nat) (ty sz r : Nat) (v : Value) (l : Int) (x i : Operand) : Loc (viO tt n dst ty sz r v l x i) := by
 unfold Go.Own.viO
 refine Loc.bind (Loc.opnd _) fun _ => Loc.bind (Loc.opnd _) fun _ => Loc.bind (Loc.val _) fun _ => Loc.bind (Loc.rdE _) fun _ => ?_
 split
 ·refine Loc.ite ?_ Loc.fail
  split
  ·exact Loc.ite (Loc.wrT _ _ _) Loc.fail
  ·exact Loc.fail
 ·exact Loc.fail
theorem z9w {P : Program}  (hT : wl P tt) (h : Sim C S Fp [] st a w) {o : Oper} {t sz r : Nat}  {l : Int} {x i : Operand} (ho : o.op = .indexAddr t x i)    (e0 : viO tt C.n o.dst t sz r v l x i st = some (u, R, U)) : ui P C o a w (zf U st) := by
 unfold viO at e0
 have ⟨tx, _, hx, e1⟩ := bR (zz h) e0
 have ⟨ti, _, hi, e2⟩ := bR (zz h) e1
 have ⟨vi, _, qi, e3⟩ := bR (vU h hi) e2
 have ⟨_, e4⟩ := bD e3
 split at e4
 ·rename_i k j
  split at e4
  ·rename_i hc
   obtain ⟨rfl, c2⟩ := hc
   have hs := h.pin r v (vQ c2)
   cases ht : (st r).t with
   | own y =>
    cases y with
    | osl sz' tg es =>
     simp only [ht] at e4
     split at e4
     ·rename_i hd
      obtain ⟨d1, rfl, d3, d4, d5⟩ := hd
      have hals : jm w.heap st (Act.tv a) r [] (st r).er (st r).ec (Act.tv a r) := by
       refine ⟨Nat.le_refl _, Nat.le_refl _, ?_⟩
       simp [ht]
      have ⟨b, c, ev, hp⟩ := z48 h hals ht rfl (.inl rfl) rfl d5
      have ⟨e', he, hsz⟩ := wT hT d1 w
      have hp' : TOk S w.heap st (Act.tv a) (T.ptr r [qO.idx (l + j).toNat] (st r).er (st r).ec) (.pointer (some ⟨b, (l + j).toNat * sz', none⟩)) := hp
      have ⟨Fp', hs'⟩ := xY h e4 hp'
      have ⟨ei, _⟩ := zr.1 qi
      have hvv : v = .slice (some ⟨b, 0, none⟩) es.length c := by rw [← hs, ev]
      have ⟨p2, c2', ev2, hlc, _, _⟩ := Jm h ht
      have hcc : es.length ≤ c := by
       rw [ev] at ev2
       simp only [Value.slice.injEq] at ev2
       rw [ev2.2.2]; exact hlc
      have hxv : a.eval x = .slice (some ⟨b, l.toNat * sz', none⟩) (es.length - l.toNat) (c - l.toNat) := by
       rw [(zr.1 hx).1, hvv]
       have : ¬ c = l.toNat := by omega
       simp [kJ, this, Addr.add_lit]
      have hsum : (l + j).toNat = l.toNat + j.toNat := by omega
      refine zm ?_ hs'
      have hrun := YV (P := P) (b := b) (o := l.toNat * sz') (n := es.length - l.toNat) (c := c - l.toNat) (k := k) he hsz d4 (by omega)
      have hoff : l.toNat * sz' + j.toNat * sz' = (l + j).toNat * sz' := by rw [hsum, Nat.add_mul]
      rw [hoff] at hrun
      simp [execOp, ho, ei, hxv, hrun]
     ·cases e4
    | _ => simp only [ht] at e4; cases e4
   | _ => simp only [ht] at e4; cases e4
  ·cases e4
 ·cases e4
end
def z0d (i : TI) : Option A :=
 match i.zero with
 | some z => if z.live = true then some z.shut.loose else none
 | none => none
theorem z1P {i : TI} {z' : A} (h : z0d i = some z') : ∃ z, i.zero = some z ∧ z.live = true ∧ z' = z.shut.loose := by
 unfold z0d at h
 split at h
 ·rename_i z hz
  split at h
  ·rename_i hl; cases h; exact ⟨z, hz, hl, rfl⟩
  ·cases h
 ·cases h
theorem UT (z : Array Value) (n : Nat) : (Builtin.zeroCells z n).toList = (List.replicate n z.toList).flatten := by
 apply List.ext_getElem?
 intro k
 rw [Jz, Array.length_toList]
 simp only [Builtin.zeroCells, Array.toList_map, Array.toList_range, List.getElem?_map]
 by_cases hk : k < n * z.size
 ·rw [if_pos hk, List.getElem?_range hk, Option.map_some]
  have hz : 0 < z.size := by
   rcases Nat.eq_zero_or_pos z.size with h0 | h0
   ·rw [h0] at hk; simp at hk
   ·exact h0
  have hmod : k % z.size < z.size := Nat.mod_lt _ hz
  rw [Array.getElem?_toList, Array.getElem?_eq_getElem hmod, getElem!_pos z _ hmod]
 ·rw [if_neg hk, List.getElem?_eq_none (by simpa using hk), Option.map_none]
theorem z68 {sz : Nat} : ∀ {xs : List A} {cs : List Value} (_ : yc S xs cs) (_ : ∀ x ∈ xs, x.size = sz) (l : Nat), yc S (xs.take l) (cs.take (l * sz))
 | [], cs, h, _, l => by simp [yc] at h; subst h; simp [yc]
 | x :: xs, cs, h, hs, 0 => by simp [yc]
 | x :: xs, cs, h, hs, l + 1 => by
  simp [yc] at h
  obtain ⟨c1, c2, rfl, h1, h2⟩ := h
  have hl : c1.length = sz := by rw [h1.len]; exact hs x (by simp)
  rw [List.take_succ_cons, Nat.succ_mul, Nat.add_comm, ← hl, List.take_length_add_append]
  simp [yc]
  rw [hl]
  exact ⟨c1, _, rfl, h1, z68 h2 (fun y hy => hs y (by simp [hy])) l⟩
theorem z31 {o : Nat} {zs : List Value} (h : o + zs.length ≤ arr.size) : (ZS arr o zs).toList.take (o + zs.length) = arr.toList.take o ++ zs := by
 rw [← ua h]
 have h1 : (arr.toList.take o).length = o := by simp; omega
 simp only []
 rw [show o + zs.length = (arr.toList.take o ++ zs).length by simp; omega, List.take_left]
section
variable {C : Ctx} {S : zi} {Fp : Nat → List Nat} {st : St} {a : Act} {w : World}
def vcK (tt : TT) (n : Fr) (dst : Option Nat) (ty sz r : Nat) (l : Int) (e : Ent) : SM Unit :=
 match e.t with
 | .own (.osl sz' tg es) =>
  match tt ty with
  | some ⟨.slice el, _, _, _, _⟩ =>
   match tt el with
   | some i =>
    match z0d i with
    | some z => if sz' = sz ∧ i.size = sz ∧ 0 ≤ l ∧ l.toNat ≤ es.length ∧ A.areD es = true then
      wrE r ⟨.own (.osl sz tg (es.take l.toNat ++ List.replicate (es.length - l.toNat) z)), e.er, e.ec + 1⟩ >>= fun _ => wrT n dst (.d (.tup []))
     else zn
    | none => zn
   | none => zn
  | _ => zn
 | _ => zn
open Classical in
def vcO (tt : TT) (n : Fr) (dst : Option Nat) (ty sz r : Nat) (v : Value) (l : Int) (x : Operand) : SM Unit := do
 let tx ← opnd x
 let e ← rdE r
 if tx = .d (.atom (kJ sz v l)) ∧ WN n.pin r = some v then vcK tt n dst ty sz r l e else zn
def vcH (tt : TT) (n : Fr) (dst : Option Nat) (ty sz r : Nat) (v : Value) (l : Int) (x : Operand) : HM Unit := ya (opnd x) >>= fun tx => ya (rdE r) >>= fun e => kG (tx = .d (.atom (kJ sz v l)) ∧ WN n.pin r = some v)
  (match e.t with
  | .own (.osl sz' tg es) =>
   match tt ty with
   | some ⟨.slice el, _, _, _, _⟩ =>
    match tt el with
    | some i =>
     match z0d i with
     | some z => if sz' = sz ∧ i.size = sz then kG (0 ≤ l ∧ l.toNat ≤ es.length ∧ A.areD es = true)
       (eqL (es.take l.toNat ++ List.replicate (es.length - l.toNat) z) >>= fun zs => ya (wrE r ⟨.own (.osl sz tg zs), e.er, e.ec + 1⟩ >>= fun _ => wrT n dst (.d (.tup []))))
      else zA
     | none => zA
    | none => zA
   | _ => zA
  | _ => zA)
open Classical in
theorem zaZ (tt : TT) (n : Fr) (dst : Option Nat) (ty sz r : Nat) (v : Value) (l : Int) (x : Operand) : Snd (vcO tt n dst ty sz r v l x) (vcH tt n dst ty sz r v l x) := by
 refine zb (zj _) fun tx => zb (zj _) fun e => uO ?_
 unfold vcK
 cases e.t with
 | own y =>
  cases y with
  | osl sz' tg es =>
   dsimp only
   generalize tt ty = q
   rcases q with _ | ⟨k, a1, a2, a3, a4⟩
   ·exact zl _
   ·cases k with
    | slice el =>
     dsimp only
     generalize tt el = q
     cases q with
     | none => exact zl _
     | some i =>
      dsimp only
      cases z0d i with
      | none => exact zl _
      | some z =>
       refine V2 (fun h1 h2 => ⟨h1.1, h1.2, h2.1, h2.2.1, h2.2.2⟩) ?_
       exact YI (zM _ fun zs => wrE r ⟨.own (.osl sz tg zs), e.er, e.ec + 1⟩ >>= fun _ => wrT n dst (.d (.tup []))).symm (zb (z0r _) fun _ => zj _)
    | _ => exact zl _
  | _ => exact zl _
 | _ => exact zl _
open Classical in
theorem Loc.vcO (tt : TT) (n : Fr) (dst : Option Nat) (ty sz r : Nat) (v : Value) (l : Int) (x : Operand) : Loc (vcO tt n dst ty sz r v l x) := by
 unfold Go.Own.vcO
 refine Loc.bind (Loc.opnd _) fun _ => Loc.bind (Loc.rdE _) fun _ => Loc.ite ?_ Loc.fail
 unfold Go.Own.vcK
 split
 ·split
  ·split
   ·split
    ·exact Loc.ite (Loc.bind (Loc.wrE _ _) fun _ => Loc.wrT _ _ _) Loc.fail
    ·exact Loc.fail
   ·exact Loc.fail
  ·exact Loc.fail
 ·exact Loc.fail
theorem z9x (hT : wl P tt) (h : Sim C S Fp [] st a w)  {t sz r : Nat} {v : Value} {l : Int} {x : Operand} (ho : o.op = .call ⟨.builtin .clear, ⟨[x]⟩, ⟨[t]⟩⟩)    (e0 : vcO tt C.n o.dst t sz r v l x st = some (u, R, U)) : ui P C o a w (zf U st) := by
  unfold vcO at e0
  have ⟨tx, _, hx, e1⟩ := bR (zz h) e0
  have ⟨_, e4⟩ := bD e1
  split at e4
  · rename_i hc
    obtain ⟨rfl, c2⟩ := hc
    have hs := h.pin r v (vQ c2)
    unfold vcK at e4
    cases ht : (st r).t with
    | own y =>
     cases y with
     | osl sz' tg es =>
      simp only [ht] at e4
      obtain ⟨el, a1, a2, a3, a4, hty⟩ : ∃ el a1 a2 a3 a4, tt t = some ⟨.slice el, a1, a2, a3, a4⟩ := by
        cases hq : tt t with
        | none => simp only [hq] at e4; cases e4
        | some it =>
          have ⟨k, a1, a2, a3, a4⟩ := it
          cases k with
          | slice el => exact ⟨el, a1, a2, a3, a4, rfl⟩
          | _ => simp only [hq] at e4; cases e4
      simp only [hty] at e4
      obtain ⟨i, hi⟩ : ∃ i, tt el = some i := by
        cases hq : tt el with
        | none => simp only [hq] at e4; cases e4
        | some i => exact ⟨i, rfl⟩
      simp only [hi] at e4
      obtain ⟨z', hz'⟩ : ∃ z', z0d i = some z' := by
        cases hq : z0d i with
        | none => simp only [hq] at e4; cases e4
        | some i => exact ⟨i, rfl⟩
      simp only [hz'] at e4
      have hel : P.underlying t = some (.slice el) := (hT _ _ hty).kind
      · · split at e4
          · rename_i hd
            obtain ⟨rfl, d2, d3, d4, d5⟩ := hd
            obtain ⟨z, hz, hlv, rfl⟩ := z1P hz'
            have ⟨f, f1, f2, f3, f4⟩ := (hT _ _ hi).info
            have ⟨zv, v1, v2, v3⟩ := f4 z hz
            have hzr : Rep S z.shut.loose zv.cells.toList := ((v3 S w.heap).shut (fun _ _ _ q => q) hlv (by simp)).loose
            have hzl : zv.cells.toList.length = sz' := by rw [((v3 S w.heap).shut (S' := S) (fun _ _ _ q => q) hlv (by simp)).len, A.size_shut, v2, d2]
            have hq := h.ent r
            unfold yG at hq
            simp only [ht] at hq
            have ⟨cs, c1, c3, c4⟩ := hq
            simp only [zy] at c1
            obtain ⟨p, c, rfl, t1, t2, t3, t4, t5⟩ := c1
            have ev : Act.tv a r = .slice p es.length c := c4
            have hvv : v = .slice p es.length c := by rw [← hs, ev]
            have hxv := (zr.1 hx).1
            rw [hvv] at hxv
            obtain ⟨y1, R9, U9, R10, U10, h9, e5, rfl, rfl⟩ := bind_some e4
            cases h9
            have hlen : (es.take l.toNat ++ List.replicate (es.length - l.toNat) z.shut.loose).length = es.length := by simp; omega
            have hsz : ∀ y ∈ es.take l.toNat ++ List.replicate (es.length - l.toNat) z.shut.loose, y.size = sz' := by
              intro y hy
              rcases List.mem_append.1 hy with q | q
              · exact t4 y (List.mem_of_mem_take q)
              · rw [List.eq_of_mem_replicate q, ← hzr.len, hzl]
            have hreps : ∀ n, yc S (List.replicate n z.shut.loose) (List.replicate n zv.cells.toList).flatten := by
              intro n
              induction n with
              | zero => simp [yc]
              | succ n ih => simp only [List.replicate_succ, List.flatten_cons, yc]; exact ⟨_, _, rfl, hzr, ih⟩
            obtain ⟨w', F', hrun, hkept, hst, hfr, hconc, hF'⟩ : ∃ w' F', (Builtin.clear_ #[t] o.type #[a.eval x]).run P w = .ok (.tuple #[]) w' ∧ ZW C.M w w' ∧ (∀ b o u, S b o = some u → zY w'.heap b o = some u) ∧ (∀ k, k ∉ Fp r → w'.heap[k]? = w.heap[k]?) ∧
                zy S w'.heap (.osl sz' tg (es.take l.toNat ++ List.replicate (es.length - l.toNat) z.shut.loose)) [.slice p es.length c] F' ∧ F' = Fp r := by
              by_cases hn : es.length - l.toNat = 0
              · refine ⟨w, Fp r, ?_, ZW.refl _ _, h.still.cell, fun _ _ => rfl, ?_, rfl⟩
                · rw [hxv]
                  simp only [kJ]
                  rw [hn]
                  cases hp : (if c = l.toNat then p else p.map (·.add (l.toNat * sz'))) with
                  | _ => simp [Builtin.clear_, run_underlying hel]
                · have : es.take l.toNat ++ List.replicate (es.length - l.toNat) z.shut.loose = es := by rw [hn, List.replicate_zero, List.append_nil, List.take_of_length_le (by omega)]
                  rw [this]
                  simp only [zy]
                  exact ⟨p, c, rfl, t1, t2, t3, t4, t5⟩
              · rcases t5 with ⟨rfl, _⟩ | ⟨b, arr, ty, cl, F1, rfl, k1, k2, k3, k4, k5, k6⟩
                · simp at hn
                obtain ⟨hr, rfl⟩ := k4.areD d5
                let zs := (List.replicate (es.length - l.toNat) zv.cells.toList).flatten
                have hzs : zs.length = (es.length - l.toNat) * sz' := by
                  show (List.replicate _ _).flatten.length = _
                  rw [List.length_flatten]
                  simp [hzl]
                have hfit : l.toNat * sz' + zs.length ≤ arr.size := by
                  rw [hzs, ← Nat.add_mul]
                  refine Nat.le_trans (Nat.mul_le_mul_right _ ?_) k2
                  omega
                let w' := w.setRow b (ZS arr (l.toNat * sz') zs)
                have hheap : ∀ k, k ≠ b → w'.heap[k]? = w.heap[k]? := fun k hk => setRow_other w b k _ hk
                have hheapb : w'.heap[b]? = some (.cells (ZS arr (l.toNat * sz') zs) ty (0, 0)) := setRow_heap w b arr _ ty (0, 0) k1
                have hb : b ∈ Fp r := by rw [k5]; simp
                have h1c : ∀ u ∈ zs, u.oneCell' = true := by
                  intro u hu
                  have ⟨m, hm, hu⟩ := List.mem_flatten.1 hu
                  rw [List.eq_of_mem_replicate hm] at hu
                  exact hzr.one u hu
                refine ⟨w', Fp r, ?_, ⟨rfl, rfl, rfl, Nat.le_refl _, by simp [w'], fun k hk => hheap k (fun e => hk (e ▸ h.base r b hb))⟩, ?_, fun k hk => hheap k (fun e => hk (e ▸ hb)), ?_, rfl⟩
                · have hst := run_storeCells_at P b (l.toNat * sz') ty zs 0 arr w k1 (by simpa using hfit) h1c
                  simp only [Nat.add_zero] at hst
                  rw [ua hfit] at hst
                  have hz0 : (zeroValue el).run P w = .ok zv w := by simp [zeroValue, typeInfo, f1, v1]
                  rw [hxv]
                  have hcl : ¬ c = l.toNat := by omega
                  simp only [kJ, if_neg hcl, Option.map_some, Addr.add_lit, Nat.zero_add]
                  obtain ⟨m, hm⟩ : ∃ m, es.length - l.toNat = m + 1 := ⟨es.length - l.toNat - 1, by omega⟩
                  have hzc : (Builtin.zeroCells zv.cells (m + 1)).toList = zs := by rw [UT, ← hm]
                  rw [hm]
                  simp [Builtin.clear_, run_underlying hel, hz0, hzc, hst, w']
                · intro b' o'' u hu
                  have hne : b' ≠ b := by rintro rfl; rw [k6] at hu; cases hu
                  rw [yU (h := w.heap) (h' := w'.heap) (hheap b' hne)]
                  exact h.still b' o'' u hu
                · simp only [zy, hlen]
                  refine ⟨_, c, rfl, t1, t2, t3, hsz, .inr ⟨b, _, ty, _, [], rfl, hheapb, by simpa using k2, rfl, ?_, k5, k6⟩⟩
                  have e1 : es.length * sz' = l.toNat * sz' + zs.length := by rw [hzs, ← Nat.add_mul]; congr 1; omega
                  rw [e1, z31 hfit]
                  have e2 : arr.toList.take (l.toNat * sz') = cl.take (l.toNat * sz') := by
                    rw [← k3, List.take_take, Nat.min_eq_left (Nat.mul_le_mul_right _ d4)]
                  rw [e2]
                  exact ((z68 hr t4 _).append (hreps _)).concs _
            subst hF'
            have hs1 : Sim C S (Zh Fp r (Fp r)) [] (upd st r ⟨.own (.osl sz' tg (es.take l.toNat ++ List.replicate (es.length - l.toNat) z.shut.loose)), (st r).er, (st r).ec + 1⟩) a w' := by
              refine h.change r (.own _) _ _ (Fp r) (h.below.trans hkept) (fun _ _ _ q => q) hst h.sbase ?_ ⟨⟨_, hconc, c3, by rw [ev]; simp [zL]⟩, _, ht⟩ (.inl ⟨_, ht⟩) (Nat.le_refl _) (Nat.lt_succ_self _) ?_ ?_ (by simp) (by simp) (by simp) (by simp)
              · intro t' k htr hk
                exact ⟨hfr k (fun q => htr (h.disj t' r k hk q)), (h.free t' k hk).2.1⟩
              · intro t' k htr hk hk'
                exact htr (h.disj t' r k hk' hk)
              · intro k hk
                exact h.base r k hk
            rw [zw]
            simp only [zf] at e5 ⊢
            have ⟨Fp', hs'⟩ := xY hs1 e5 (x := .d (.tup [])) (v := .tuple #[]) (by simp only [TOk, yY]; exact ⟨[], rfl, trivial⟩)
            refine zm ?_ hs'
            simp [execOp, ho, resolve, invoke, builtin, hrun]
          · cases e4
     | _ => simp only [ht] at e4; cases e4
    | _ => simp only [ht] at e4; cases e4
  · cases e4
end
def xAt (P : Program)  (p : Oper → Option β) (e : Fr → Oper → β → SM Unit) (h : Fr → Oper → β → HM Unit)
  (ok : ∀ (C : Ctx) (S : zi) (Fp : Nat → List Nat) (st : St) (a : Act) (w : World) (o : Oper) (b : β), p o = some b → Sim C S Fp [] st a w → ∀ u R U, e C.n o b st = some (u, R, U) → ui P C o a w (zf U st))
  (loc : ∀ n o b, Loc (e n o b)) (sd : ∀ n o b, Snd (e n o b) (h n o b)) : XH P := {
 e := fun n o => (p o).map (e n o)
 h := fun n o => (p o).map (h n o)
 ok := by
  refine ⟨?_, ?_⟩
  ·intro C S Fp st a w o m u R U e0 h h2
   obtain ⟨b, hp, rfl⟩ := Option.map_eq_some_iff.1 e0
   exact ok C S Fp st a w o b hp h _ _ _ h2
  ·intro n o m e0
   obtain ⟨b, hp, rfl⟩ := Option.map_eq_some_iff.1 e0
   exact fun st st' a R U => loc n o b st st' a R U
 none := by
  intro n o e0
  rw [Option.map_eq_none_iff] at e0 ⊢
  exact e0
 some := by
  intro n o m e0
  obtain ⟨b, hp, rfl⟩ := Option.map_eq_some_iff.1 e0
  exact ⟨_, by rw [hp]; rfl, sd n o b⟩ }
theorem z5u {d : Nat}  {x : Option β} {b : β} (h : (if o.dst = some d then x else none) = some b) : x = some b := by
 split at h
 ·exact h
 ·cases h
def zau (d : Nat) (o : Oper) : Option (Nat × Operand × Operand) := match o.op with | .slice t x (some lo) none none => if o.dst = some d then some (t, x, lo) else none | _ => none
def xVw (hT : wl P tt) (d r : Nat) (v : Value) : XH P :=
 xAt P (zau d) (fun n o b => vwO tt n o.dst b.1 r v b.2.1 b.2.2) (fun n o b => vwH tt n o.dst b.1 r v b.2.1 b.2.2)
  (by
   intro C S Fp st a w o b hp h u R U e
   unfold zau at hp
   split at hp
   ·rename_i ho; cases z5u hp; exact z9u hT h ho e
   ·cases hp)
  (fun n o b => Loc.vwO _ _ _ _ _ _ _ _) (fun n o b => zaW _ _ _ _ _ _ _ _)
def zav (d t : Nat) (o : Oper) : Option Operand := match o.op with | .call ⟨.builtin .len, ⟨[x]⟩, ⟨[t']⟩⟩ => if o.dst = some d then (if t' = t then some x else none) else none | _ => none
def xVl (hT : wl P tt) (d t sz r : Nat) (v : Value) (l : Int) (hty : qp tt t = true) : XH P :=
 xAt P (zav d t) (fun n o x => vlO n o.dst sz r v l x) (fun n o x => vlH n o.dst sz r v l x)
  (by
   intro C S Fp st a w o x hp h u R U e
   unfold zav at hp
   split at hp
   ·rename_i ho
    replace hp := z5u hp
    split at hp
    ·rename_i ht; subst ht; cases hp; exact z9v hT h hty ho e
    ·cases hp
   ·cases hp)
  (fun n o x => Loc.vlO _ _ _ _ _ _ _) (fun n o x => zaX _ _ _ _ _ _ _)
def zaw (d : Nat) (o : Oper) : Option (Nat × Operand × Operand) := match o.op with | .indexAddr t x i => if o.dst = some d then some (t, x, i) else none | _ => none
def xVi (hT : wl P tt) (d sz r : Nat) (v : Value) (l : Int) : XH P :=
 xAt P (zaw d) (fun n o b => viO tt n o.dst b.1 sz r v l b.2.1 b.2.2) (fun n o b => viH tt n o.dst b.1 sz r v l b.2.1 b.2.2)
  (by
   intro C S Fp st a w o b hp h u R U e
   unfold zaw at hp
   split at hp
   ·rename_i ho; cases z5u hp; exact z9w hT h ho e
   ·cases hp)
  (fun n o b => Loc.viO _ _ _ _ _ _ _ _ _ _) (fun n o b => zaY _ _ _ _ _ _ _ _ _ _)
def zax (s : Nat) (o : Oper) : Option Nat := match o.op with | .call ⟨.builtin .clear, ⟨[.tmp s']⟩, ⟨[t]⟩⟩ => if s' = s then some t else none | _ => none
def xVc (hT : wl P tt) (s sz r : Nat) (v : Value) (l : Int) : XH P :=
 xAt P (zax s) (fun n o t => vcO tt n o.dst t sz r v l (.tmp s)) (fun n o t => vcH tt n o.dst t sz r v l (.tmp s))
  (by
   intro C S Fp st a w o b hp h u R U e
   unfold zax at hp
   split at hp
   ·rename_i ho
    split at hp
    ·rename_i hs; subst hs; cases hp; exact z9x hT h ho e
    ·cases hp
   ·cases hp)
  (fun n o b => Loc.vcO _ _ _ _ _ _ _ _ _) (fun n o b => zaZ _ _ _ _ _ _ _ _ _)
def clO (tt : TT) (n : Fr) (dst : Option Nat) (t : Nat) (x hi mx : Operand) : SM Unit := do
 let y ← opnd x
 let z ← take y
 match z with
 | .osl sz _ es => if xH tt t = some sz then bound es.length (some hi) >>= fun h => bound 0 (some mx) >>= fun m => if h ≤ m ∧ m ≤ es.length then wrT n dst (.own (.osl sz (m == h) (es.take h))) else zn else zn
 | _ => zn
def clH (tt : TT) (n : Fr) (dst : Option Nat) (t : Nat) (x hi mx : Operand) : HM Unit := ya (opnd x) >>= fun y => z2w y >>= fun z =>
 match z with
 | .osl sz _ es => if xH tt t = some sz then Uy es.length (some hi) >>= fun h => Uy 0 (some mx) >>= fun m => kG (h ≤ m ∧ m ≤ es.length) (eqA (.osl sz (m == h) (es.take h)) >>= fun z => ya (wrT n dst (.own z))) else zA
 | _ => zA
theorem zb5 (tt : TT) (n : Fr) (dst : Option Nat) (t : Nat) (x hi mx : Operand) : Snd (clO tt n dst t x hi mx) (clH tt n dst t x hi mx) := by
 refine zb (zj _) fun y => zb (z1a _) fun z => ?_
 cases z with
 | osl sz tg es =>
  refine wX (zb (W5 _ _) fun h => zb (W5 _ _) fun m => uO ?_) (zl _)
  exact YI (zM _ fun z => wrT n dst (.own z)).symm (zb (Km _) fun _ => zj _)
 | _ => exact zl _
theorem Loc.clO (tt : TT) (n : Fr) (dst : Option Nat) (t : Nat) (x hi mx : Operand) : Loc (clO tt n dst t x hi mx) := by
 unfold Go.Own.clO
 refine Loc.bind (Loc.opnd _) fun _ => Loc.bind (Loc.take _) fun z => ?_
 cases z with
 | osl sz tg es => exact Loc.ite (Loc.bind (Loc.bound _ _) fun _ => Loc.bind (Loc.bound _ _) fun _ => Loc.ite (Loc.wrT _ _ _) Loc.fail) Loc.fail
 | _ => exact Loc.fail
section
variable {C : Ctx} {S : zi} {Fp : Nat → List Nat} {st : St} {a : Act} {w : World}
theorem z9X {P : Program}  (hT : wl P tt) (h : Sim C S Fp [] st a w)   {x hi mx : Operand} (ho : o.op = .slice t x none (some hi) (some mx))    (e : clO tt C.n o.dst t x hi mx st = some (u, R, U)) : ui P C o a w (zf U st) := by
 unfold clO at e
 have ⟨y, _, hx, e1⟩ := bR (zz h) e
 obtain ⟨z, R3, U3, R4, U4, h3, e2, rfl, rfl⟩ := bind_some e1
 have ⟨Fp', F, g1, g2⟩ := QZ h hx h3
 rw [zw]
 cases z with
 | osl sz tg es =>
  simp only at e2
  split at e2
  ·rename_i hel
   have ⟨hh, _, b2, e3⟩ := bR (YC g1) e2
   have ⟨m, _, b3, e4⟩ := bR (YC g1) e3
   split at e4
   ·rename_i hle
    have ⟨hle1, hle2⟩ := hle
    have ⟨el, he, hsz⟩ := wT hT hel w
    obtain ⟨cs, k1, k2, k3⟩ : ∃ cs, zy S w.heap (.osl sz tg es) cs F ∧ F.Nodup ∧ a.eval x = zL (.osl sz tg es) cs := by
     rcases g2 with ⟨q, _⟩ | q
     ·simp only [yY, vw, Rep, false_and, exists_false] at q
     ·exact q
    simp only [zy] at k1
    obtain ⟨p, c, rfl, t1, t2, t3, t4, t5⟩ := k1
    have ev : a.eval x = .slice p es.length c := k3
    have b3' : WI ((some mx).map a.eval) c m := by
     rcases b3 with ⟨q, _⟩ | ⟨o, k, j, q, q2, q3, q4⟩
     ·cases q
     ·cases q; exact .inr ⟨k, j, by simp [q2], q3, q4⟩
    have b2' : (Option.isSome ((some hi).map a.eval)) = true := rfl
    have hrun := jJ (P := P) (w := w) he hsz (p := p) (len := es.length) (c := c) (lo := none) (.inl ⟨rfl, rfl⟩) (YD b2) b3' (Nat.zero_le _) hle1 (by omega) (fun _ => b2')
    have hp : (if m = 0 then p else p.map (·.add (0 * sz))) = p := by
     split
     ·rfl
     ·cases p <;> simp [Addr.add]
    rw [hp] at hrun
    have hlen : (es.take hh).length = hh := by simp; omega
    have ht4 : ∀ x ∈ es.take hh, x.size = sz := fun x hx => t4 x (List.mem_of_mem_take hx)
    obtain ⟨F2, cs2, m1, m2, m3, m4⟩ : ∃ F2 cs2, zy S w.heap (.osl sz (m == hh) (es.take hh)) cs2 F2 ∧ F2.Nodup ∧ (∀ k ∈ F2, k ∈ F) ∧ zL (.osl sz (m == hh) (es.take hh)) cs2 = .slice p hh m := by
     rcases t5 with ⟨rfl, rfl, rfl, rfl⟩ | ⟨b, arr, ty, l, F', rfl, e1, e2, e3, e4, rfl, e5⟩
     ·have hm0 : m = 0 := by simpa using hle2
      subst hm0
      have : hh = 0 := by omega
      subst this
      refine ⟨[], [.slice none 0 0], ?_, by simp, by simp, rfl⟩
      simp only [zy]
      exact ⟨none, 0, by simp, by simp, by simp, Nat.zero_le _, by simp, .inl (by simp)⟩
     ·have ⟨F3, q1, q2, q3⟩ := QA e4 hh
      have hn := List.nodup_cons.1 k2
      refine ⟨b :: F3, [.slice (some ⟨b, 0, none⟩) hh m], ?_, List.nodup_cons.2 ⟨fun q => hn.1 (q2 b q), q3 hn.2⟩, ?_, rfl⟩
      ·simp only [zy]
       refine ⟨some ⟨b, 0, none⟩, m, by rw [hlen], by intro q; rw [hlen]; simpa using q, by rw [hlen]; omega, by omega, ht4, .inr ⟨b, arr, ty, _, F3, rfl, e1, Nat.le_trans (Nat.mul_le_mul_right _ (by omega)) e2, ?_, q1, rfl, e5⟩⟩
       rw [← e3, List.take_take, A.sizes_const ht4, hlen]
       congr 1
       have := Nat.mul_le_mul_right sz (show hh ≤ es.length by omega)
       omega
      ·intro k hk
       rcases List.mem_cons.1 hk with rfl | hk
       ·simp
       ·simp [q2 k hk]
    have g1' : Sim C S Fp' (F2 ++ []) (zf U3 st) a w := g1.mem g1.below (fun _ _ _ h => h) g1.still.cell g1.sbase (fun t' k hk => ⟨rfl, (g1.free t' k hk).2.1⟩) (by simpa using m2) (fun t' k hk => g1.xd t' k (by simp at hk ⊢; exact m3 k hk)) (fun k hk => g1.xb k (by simp at hk ⊢; exact m3 k hk))
    have ⟨Fp'', hs⟩ := Y7 g1' e4 m1 m2
    rw [m4] at hs
    refine zm ?_ hs
    simp only [Nat.sub_zero] at hrun
    simp only [Option.map_some] at hrun
    simp [execOp, ho, ev, hrun]
   ·cases e4
  ·cases e2
 | _ => cases e2
end
def zaB (d : Nat) (o : Oper) : Option (Nat × Operand × Operand × Operand) := match o.op with | .slice t x none (some hi) (some mx) => if o.dst = some d then some (t, x, hi, mx) else none | _ => none
def xCl (hT : wl P tt) (d : Nat) : XH P :=
 xAt P (zaB d) (fun n o b => clO tt n o.dst b.1 b.2.1 b.2.2.1 b.2.2.2) (fun n o b => clH tt n o.dst b.1 b.2.1 b.2.2.1 b.2.2.2)
  (by
   intro C S Fp st a w o b hp h u R U e
   unfold zaB at hp
   split at hp
   ·rename_i ho; cases z5u hp; exact z9X hT h ho e
   ·cases hp)
  (fun n o b => Loc.clO _ _ _ _ _ _ _) (fun n o b => zb5 _ _ _ _ _ _ _)
def zb9 (d : Nat) (o : Oper) : Option Unit := match o.op with | .call ⟨.value _, _, _⟩ => if o.dst = some d then some () else none | _ => none
def QH (hT : wl P tt) {s : wD} (h : s.Ok P) (d : Nat) : XH P :=
 xAt P (zb9 d) (fun n o _ => stepO tt (UQ.add s) n o) (fun n o _ => Ke tt (UQ.add s) n o)
  (fun C S Fp st a w o b hp hS u R U e => J9 hT (Ctr.add_ok (z0L P) h) hS e)
  (fun n o b => Loc.stepO _ _ _ _) (fun n o b => z0n _ _ _ _)
theorem vlM (f : α → A) (l : List α) (k : Nat) : A.atom (.int .i64 (((l.map f).length - k : Nat) : Int)) = .atom (.int .i64 ((l.length - k : Nat) : Int)) := by rw [List.length_map]
theorem vcM (f : α → A) (l : List α) (k : Nat) (z : α) : (l.map f).take k ++ List.replicate ((l.map f).length - k) (f z) = (l.take k ++ List.replicate (l.length - k) z).map f := by simp
theorem clB (f : α → A) (l : List α) : ((l.length : Nat) : Int).toNat ≤ ((l.length : Nat) : Int).toNat ∧ ((l.length : Nat) : Int).toNat ≤ (l.map f).length := by simp
theorem clE (sz : Nat) (f : α → A) (l : List α) : A.osl sz (((l.length : Nat) : Int).toNat == ((l.length : Nat) : Int).toNat) ((l.map f).take ((l.length : Nat) : Int).toNat) = eOs sz true f l := by
 simp [Int.toNat_natCast, eOs]
 rw [List.take_of_length_le (by simp)]
end Go.Own
end
