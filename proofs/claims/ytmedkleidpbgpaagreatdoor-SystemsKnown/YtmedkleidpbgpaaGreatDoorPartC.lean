/- -/
import Derived.Test.YtmedkleidpbgpaaGreatDoorPartB
import Derived.LoopNIn
import Derived.IntWalk
import Derived.Shelf.SlSortCmp.NoneTotal
noncomputable section
set_option linter.unusedVariables false
set_option linter.unusedSimpArgs false
namespace Go.Own
def zc3 (tt : TT) (n : Fr) (dst : Option Nat) (op : BinOp) (xt : Nat) (vx vy : A) : HM Unit :=
 match op with
 | .quo | .rem =>
  match vx, vy with
  | .atom (.int k a), .atom (.int k' b) => if k = k' then Zq (b ≠ 0) (yk (wrT n dst (.d (.atom (.int k (match op with | .quo => k.wrap (a.tdiv b) | _ => a.tmod b)))))) else zF
  | _, _ => zF
 | _ => yk (ofO (z92 tt op xt vx vy) >>= fun r => wrT n dst (.d r))
theorem zbq (tt : TT) (n : Fr) (dst : Option Nat) (op : BinOp) (xt : Nat) (vx vy : A) : Snd (ofO (z92 tt op xt vx vy) >>= fun r => wrT n dst (.d r)) (zc3 tt n dst op xt vx vy) := by
 have main : ∀ op, op = .quo ∨ op = .rem → Snd (ofO (z92 tt op xt vx vy) >>= fun r => wrT n dst (.d r)) (match vx, vy with
  | .atom (.int k a), .atom (.int k' b) => if k = k' then Zq (b ≠ 0) (yk (wrT n dst (.d (.atom (.int k (match op with | .quo => k.wrap (a.tdiv b) | _ => a.tmod b)))))) else zF
  | _, _ => zF) := by
  intro op hop
  cases vx with
  | atom v =>
   cases v with
   | int k a =>
    cases vy with
    | atom u =>
     cases u with
     | int k' b =>
      dsimp only
      by_cases hk : k = k'
      ·rw [if_pos hk]
       refine Qg fun hb => ?_
       refine Vx ?_ (zo _)
       rcases hop with rfl | rfl <;> simp [z92, if_pos hk, z7V, if_neg hb] <;> exact yd _ _
      ·rw [if_neg hk]; exact zp _
     | _ => exact zp _
    | _ => exact zp _
   | _ => exact zp _
  | _ => exact zp _
 cases op with
 | quo => exact main _ (.inl rfl)
 | rem => exact main _ (.inr rfl)
 | _ => exact zo _
def zbA (n : Fr) (dst : Option Nat) (c x y : Operand) : HM Unit := yk (opnd c) >>= fun tc => Q0 tc >>= fun vc =>
 match vc with
 | .atom (.bool b) => zc7 b >>= fun b => match b with | true => yk (opnd x >>= fun t => wrT n dst t) | false => yk (opnd y >>= fun t => wrT n dst t)
 | _ => zF
theorem zbm (n : Fr) (dst : Option Nat) (c x y : Operand) : Snd (z5z n dst c x y) (zbA n dst c x y) := by
 refine zk (zo _) fun tc => zk (Za _) fun vc => ?_
 cases vc with
 | atom v =>
  cases v with
  | bool b =>
   refine Vx (m' := pure b >>= fun b => match b with | true => (opnd x >>= fun t => wrT n dst t) | false => (opnd y >>= fun t => wrT n dst t)) ?_ (zk (z5b _) fun b => ?_)
   ·rw [yd]; cases b <;> rfl
   ·cases b <;> exact zo _
  | _ => exact zp _
 | _ => exact zp _
def z2h (n : Fr) (dst : Option Nat) (x : Operand) : HM Unit := yk (opnd x) >>= fun y =>
 match y with
 | .d (.fn f cs) => yk (wrT n dst (.d (.fn f cs)))
 | y => K6 y >>= fun q =>
  match q with
  | .inl _ => yk (wrT n dst y)
  | .inr (r, p, er, ec) => z0p r p er ec >>= fun _ => yk (wrT n dst y)
theorem z4x (n : Fr) (dst : Option Nat) (x : Operand) : Snd (nilCheckO n dst x) (z2h n dst x) := by
 refine zk (zo _) fun y => ?_
 have main : ∀ y : T, Snd (ptrOf y >>= fun q => match q with
  | .inl _ => wrT n dst y
  | .inr (r, p, er, ec) => lookP r p er ec >>= fun _ => wrT n dst y) (K6 y >>= fun q =>
  match q with
  | .inl _ => yk (wrT n dst y)
  | .inr (r, p, er, ec) => z0p r p er ec >>= fun _ => yk (wrT n dst y)) := by
  intro y
  refine zk (JU _) fun q => ?_
  rcases q with z | ⟨r, p, er, ec⟩
  ·exact zo _
  ·exact zk (z0V _ _ _ _) fun _ => zo _
 cases y with
 | d a =>
  cases a with
  | fn f cs => exact zo _
  | _ => exact main _
 | _ => exact main _
def Jb (dflt : Nat) : Option Operand → HM Nat
 | none => pure dflt
 | some x => yk (opnd x) >>= fun t => Q0 t >>= fun v =>
  match v with
  | .atom (.int _ j) => Zq (0 ≤ j) (pure j.toNat)
  | _ => zF
theorem VH (dflt : Nat) (x : Option Operand) : Snd (bound dflt x) (Jb dflt x) := by
 cases x with
 | none => exact wB _
 | some x =>
  refine zk (zo _) fun t => zk (Za _) fun v => ?_
  cases v with
  | atom v =>
   cases v with
   | int k j => exact ue (wB _)
   | _ => exact zp _
  | _ => exact zp _
def z8H (tt : TT) (n : Fr) (dst : Option Nat) (t : Nat) (x : Operand) (lo hi mx : Option Operand) : HM Unit := yk (opnd x) >>= fun y =>
 match y with
 | .d (.sl sz tg xs) =>
  if w9 tt t = some sz then Jb 0 lo >>= fun l => Jb xs.length hi >>= fun h =>
   match mx with
   | none => Zq (l ≤ h ∧ h ≤ xs.length) (eqA (.sl sz (tg && h == xs.length) ((xs.drop l).take (h - l))) >>= fun z => yk (wrT n dst (.d z)))
   | some _ => Jb 0 mx >>= fun m => if hi.isSome = true then Zq (l ≤ h ∧ h ≤ m ∧ m ≤ xs.length) (eqA (.sl sz (m == h) ((xs.drop l).take (h - l))) >>= fun z => yk (wrT n dst (.d z))) else zF
  else zF
 | _ => zF
theorem z9M (tt : TT) (n : Fr) (dst : Option Nat) (t : Nat) (x : Operand) (lo hi mx : Option Operand) : Snd (sliceO tt n dst t x lo hi mx) (z8H tt n dst t x lo hi mx) := by
 refine zk (zo _) fun y => ?_
 cases y with
 | d a =>
  cases a with
  | sl sz tg xs =>
   refine vE (zk (VH _ _) fun l => zk (VH _ _) fun h => ?_) (zp _)
   cases mx with
   | none =>
    refine ue ?_
    exact Vx (yd _ fun z => wrT n dst (.d z)).symm (zk (z1Q _) fun _ => zo _)
   | some m =>
    refine zk (VH _ _) fun m => Jf (fun h1 h2 => ⟨h2.1, h2.2.1, h2.2.2, h1⟩) ?_
    exact Vx (yd _ fun z => wrT n dst (.d z)).symm (zk (z1Q _) fun _ => zo _)
  | _ => exact zp _
 | _ => exact zp _
def z0n (tt : TT) (n : Fr) (dst : Option Nat) (t : Nat) (l c : Operand) : HM Unit := yk (opnd l) >>= fun tl => Q0 tl >>= fun vl => yk (opnd c) >>= fun tc => Q0 tc >>= fun vc =>
 match vl, vc with
 | .atom (.int _ x), .atom (.int _ y) =>
  match tt t with
  | some ⟨.slice e, _, _, _, _⟩ =>
   match tt e with
   | some i =>
    match i.zero with
    | some z => if i.bytes ≤ 4096 then Zq (0 ≤ x ∧ x ≤ y ∧ y ≤ lim) (eqA (.osl i.size (decide (x = y)) (List.replicate x.toNat z)) >>= fun r => yk (wrT n dst (.own r))) else zF
    | none => zF
   | none => zF
  | _ => zF
 | _, _ => zF
theorem z31 (tt : TT) (n : Fr) (dst : Option Nat) (t : Nat) (l c : Operand) : Snd (XC tt n dst t l c) (z0n tt n dst t l c) := by
 refine zk (zo _) fun tl => zk (Za _) fun vl => zk (zo _) fun tc => zk (Za _) fun vc => ?_
 cases vl with
 | atom v =>
  cases v with
  | int k x =>
   cases vc with
   | atom u =>
    cases u with
    | int k' y =>
     dsimp only
     generalize tt t = q
     rcases q with _ | ⟨k, a1, a2, a3, a4⟩
     ·exact zp _
     ·cases k with
      | slice e =>
       dsimp only
       generalize tt e = q
       cases q with
       | none => exact zp _
       | some i =>
        dsimp only
        cases i.zero with
        | none => exact zp _
        | some z =>
         refine Jf (fun h1 h2 => ⟨h2.1, h2.2.1, h2.2.2, h1⟩) ?_
         exact Vx (yd _ fun z => wrT n dst (.own z)).symm (zk (z1Q _) fun _ => zo _)
      | _ => exact zp _
    | _ => exact zp _
   | _ => exact zp _
  | _ => exact zp _
 | _ => exact zp _
def VX (tt : TT) (n : Fr) (dst : Option Nat) (t len : Nat) (ps : List (Nat × Operand)) : HM Unit :=
 match tt t with
 | some ⟨.slice e, _, _, _, _⟩ =>
  match tt e with
  | some i =>
   match i.zero with
   | some z => z3x (ps.map fun p => (p.2, e)) tt >>= fun xs =>
    if Kd (List.replicate len z) ((ps.map (·.1)).zip xs) = true ∧ len * i.size ≤ 16777216 ∧ len ≤ lim then
     yk (wrT n dst (.own (.osl i.size true (Qe (List.replicate len z) ((ps.map (·.1)).zip xs)))))
    else zF
   | none => zF
  | none => zF
 | _ => zF
theorem z1R (tt : TT) (n : Fr) (dst : Option Nat) (t len : Nat) (ps : List (Nat × Operand)) : Snd (Zd tt n dst t len ps) (VX tt n dst t len ps) := by
 unfold Zd VX
 generalize tt t = q
 rcases q with _ | ⟨k, a1, a2, a3, a4⟩
 ·exact zp _
 ·cases k with
  | slice e =>
   dsimp only
   generalize tt e = q
   cases q with
   | none => exact zp _
   | some i =>
    dsimp only
    cases i.zero with
    | none => exact zp _
    | some z => exact zk (z2Z _ _) fun xs => vE (zo _) (zp _)
  | _ => exact zp _
def z6t (tt : TT) (n : Fr) (dst : Option Nat) (t : Nat) (ps : List (Nat × Operand)) : HM Unit :=
 match tt t with
 | some i =>
  match i.zero with
  | some (.agg zs) => z3x (ps.map fun p => (p.2, 0)) tt >>= fun xs =>
   if Kd zs ((ps.map (·.1)).zip xs) = true ∧ z3R tt t zs ((ps.map (·.1)).zip xs) = true ∧ i.kind.isAgg = true ∧ ((Yi tt t 0).isSome = true ∨ Kk i.kind = true) then
    yk (wrT n dst (mkT (.agg (Qe zs ((ps.map (·.1)).zip xs)))))
   else zF
  | _ => zF
 | none => zF
theorem z9W (tt : TT) (n : Fr) (dst : Option Nat) (t : Nat) (ps : List (Nat × Operand)) : Snd (z0y tt n dst t ps) (z6t tt n dst t ps) := by
 unfold z0y z6t
 generalize tt t = q
 cases q with
 | none => exact zp _
 | some i =>
  dsimp only
  cases i.zero with
  | none => exact zp _
  | some z =>
   cases z with
   | agg zs => exact zk (z2Z _ _) fun xs => vE (zo _) (zp _)
   | _ => exact zp _
def z1I (tt : TT) (ctr : Ctr) (n : Fr) (o : Oper) : HM Unit :=
 match o.op with
 | .assign x => yk (opnd x) >>= fun y =>
  match y with
  | .ptr r p er ec => yk (wrT n o.dst (.ptr r p er ec))
  | y => Us tt o.type y >>= fun z => yk (wrT n o.dst (mkT z))
 | .binOp op xt x y _ => yk (opnd x) >>= fun tx => Q0 tx >>= fun vx => yk (opnd y) >>= fun ty => Q0 ty >>= fun vy => zc3 tt n o.dst op xt vx vy
 | .unOp op _ x => yk (opnd x) >>= fun t => Q0 t >>= fun y => yk (ofO (unA op y) >>= fun r => wrT n o.dst (.d r))
 | .convert s t x => yk (opnd x) >>= fun y => Q0 y >>= fun v =>
  match v with
  | .atom (.int _ m) =>
   match tt s with
   | some _ =>
    match tt t with
    | some ⟨.int k, _, _, _, _⟩ => yk (wrT n o.dst (.d (.atom (.int k (k.wrap m)))))
    | _ => zF
   | none => zF
  | _ => zF
 | .pick c x y => zbA n o.dst c x y
 | .nilCheck x => z2h n o.dst x
 | .slice t x lo hi mx => z8H tt n o.dst t x lo hi mx
 | .load t x => yk (opnd x) >>= fun y => z8X tt n o.dst t y
 | .store t x v => if o.dst = none then yk (opnd x) >>= fun y => yk (opnd v) >>= fun z => z4V tt t y z else zF
 | .fieldAddr t x i => yk (opnd x) >>= fun y => KA tt n o.dst t i y
 | .indexAddr t x i => yk (opnd x) >>= fun y => yk (opnd i) >>= fun ti => Q0 ti >>= fun vi =>
  if (z8u tt t).isSome = true then Qp tt n o.dst t y vi else VQ tt n o.dst t y vi
 | .box t x => yk (opnd x) >>= fun y => Us tt t y >>= fun z =>
  match z with
  | .tup _ => zF
  | z => if z.isAgg = true ∨ z.size = 1 then yk (wrT n o.dst (.own (.box z))) else zF
 | .makeSlice t l c => z0n tt n o.dst t l c
 | .buildSlice t len ps => VX tt n o.dst t len ps.toList
 | .build t ps => z6t tt n o.dst t ps.toList
 | .makeFunc (.func f) ⟨[]⟩ caps => uD tt (caps.toList.map fun x => (x, 0)) >>= fun xs => if xs.all z3a = true then yk (wrT n o.dst (.d (.fn f xs))) else zF
 | .call ⟨.builtin .len, ⟨[x]⟩, ⟨[t]⟩⟩ => yk (opnd x) >>= fun y => z4z y >>= fun z => yk (ofO (lenOf z)) >>= fun m => if Zh tt t = true then eqA (.atom (.int .i64 m)) >>= fun r => yk (wrT n o.dst (.d r)) else zF
 | .call ⟨.builtin .cap, ⟨[x]⟩, ⟨[t]⟩⟩ => yk (opnd x) >>= fun y => z4z y >>= fun z => yk (ofO (z8i z)) >>= fun m => if Zh tt t = true then eqA (.atom (.int .i64 m)) >>= fun r => yk (wrT n o.dst (.d r)) else zF
 | .call ⟨.builtin .append, ⟨[s, x]⟩, ⟨[t, t']⟩⟩ => if t = t' then yk (opnd s) >>= fun ts => yk (opnd x) >>= fun tx => z4z tx >>= fun y =>
   match y with
   | .osl _ _ ys => zc7 (A.areD ys) >>= fun b => match b with | true => JE tt n o.dst t ts tx | false => U0 tt n o.dst t s x
   | _ => JE tt n o.dst t ts tx
  else zF
 | .call ⟨.value f, args, tys⟩ => if args.size = tys.size then yk (opnd f) >>= fun tf => Q0 tf >>= fun vf => z6s tt ctr n o.dst vf (args.toList.zip tys.toList) else zF
 | _ => yk (stepO tt ctr n o)
theorem zbp (tt : TT) (n : Fr) (dst : Option Nat) (s t : Nat) (v : A) : Snd (match v with
  | .atom (.int _ m) =>
   match tt s with
   | some _ =>
    match tt t with
    | some ⟨.int k, _, _, _, _⟩ => wrT n dst (.d (.atom (.int k (k.wrap m))))
    | _ => zt
   | none => zt
  | _ => zt : SM Unit) (match v with
  | .atom (.int _ m) =>
   match tt s with
   | some _ =>
    match tt t with
    | some ⟨.int k, _, _, _, _⟩ => yk (wrT n dst (.d (.atom (.int k (k.wrap m)))))
    | _ => zF
   | none => zF
  | _ => zF) := by
 cases v with
 | atom u =>
  cases u with
  | int k m =>
   dsimp only
   generalize tt s = q
   cases q with
   | none => exact zp _
   | some _ =>
    dsimp only
    generalize tt t = q
    rcases q with _ | ⟨k, a1, a2, a3, a4⟩
    ·exact zp _
    ·cases k <;> first | exact zo _ | exact zp _
  | _ => exact zp _
 | _ => exact zp _
theorem z30 (tt : TT) (ctr : Ctr) (n : Fr) (o : Oper) : Snd (stepO tt ctr n o) (z1I tt ctr n o) := by
 unfold stepO z1I
 cases ho : o.op with
 | move x => exact sdLift' ho
 | assign x =>
  refine zk (zo _) fun y => ?_
  cases y with
  | ptr r p er ec => exact zo _
  | _ => exact zk (VG _ _ _) fun z => zo _
 | binOp op xt x y yt => exact zk (zo _) fun tx => zk (Za _) fun vx => zk (zo _) fun ty => zk (Za _) fun vy => zbq _ _ _ _ _ _ _
 | unOp op xt x => exact zk (zo _) fun t => zk (Za _) fun y => zo _
 | convert s t x => exact zk (zo _) fun y => zk (Za _) fun v => zbp _ _ _ _ _ _
 | pick c x y => exact zbm _ _ _ _ _
 | extract x i => exact sdLift' ho
 | nilCheck x => exact z4x _ _ _
 | slice t x lo hi mx => exact z9M _ _ _ _ _ _ _ _
 | load t x => exact zk (zo _) fun y => z9T _ _ _ _ _
 | store t x v => exact vE (zk (zo _) fun y => zk (zo _) fun z => z7t _ _ _ _) (zp _)
 | fieldAddr t x i => exact zk (zo _) fun y => z1P _ _ _ _ _ _
 | indexAddr t x i => exact zk (zo _) fun y => zk (zo _) fun ti => zk (Za _) fun vi => vE (JV _ _ _ _ _ _) (QR _ _ _ _ _ _)
 | alloc t => exact sdLift' ho
 | box t x =>
  refine zk (zo _) fun y => zk (VG _ _ _) fun z => ?_
  cases z <;> first | exact zp _ | exact vE (zo _) (zp _)
 | makeSlice t l c => exact z31 _ _ _ _ _ _
 | buildSlice t len ps => exact z1R _ _ _ _ _ _
 | build t ps => exact z9W _ _ _ _ _
 | makeFunc fn first caps =>
  cases fn with
  | func f =>
   have ⟨l⟩ := first
   cases l with
   | nil => exact zk (qI _ _) fun xs => vE (zo _) (zp _)
   | cons _ _ => exact sdLift' ho
  | _ => exact sdLift' ho
 | call c =>
  have ⟨callee, ⟨args⟩, ⟨tys⟩⟩ := c
  cases callee with
  | value f => exact vE (zk (zo _) fun tf => zk (Za _) fun vf => z9V _ _ _ _ _ _) (zp _)
  | invoke r m => exact sdLift' ho
  | builtin b =>
   cases b with
   | len =>
    rcases args with _ | ⟨x, _ | ⟨y, l⟩⟩ <;> rcases tys with _ | ⟨t, _ | ⟨t', l'⟩⟩ <;> first | exact sdLift' ho | exact zk (zo _) fun y => zk (z1O _) fun z => zk (zo _) fun m => vE (Vx (yd _ fun r => wrT n o.dst (.d r)).symm (zk (z1Q _) fun r => zo _)) (zp _)
   | cap =>
    rcases args with _ | ⟨x, _ | ⟨y, l⟩⟩ <;> rcases tys with _ | ⟨t, _ | ⟨t', l'⟩⟩ <;> first | exact sdLift' ho | exact zk (zo _) fun y => zk (z1O _) fun z => zk (zo _) fun m => vE (Vx (yd _ fun r => wrT n o.dst (.d r)).symm (zk (z1Q _) fun r => zo _)) (zp _)
   | append =>
    rcases args with _ | ⟨x, _ | ⟨y, _ | ⟨z, l⟩⟩⟩ <;> rcases tys with _ | ⟨t, _ | ⟨t', _ | ⟨t'', l'⟩⟩⟩ <;> first | exact sdLift' ho | skip
    refine vE (zk (zo _) fun ts => zk (zo _) fun tx => zk (z1O _) fun w => ?_) (zp _)
    cases w with
    | osl sz tg ys =>
     dsimp only
     refine Vx (m' := pure (A.areD ys) >>= fun b => match b with | true => appendA tt n o.dst t ts tx | false => appendOwnA tt n o.dst t x y) ?_ (zk (z5b _) fun b => ?_)
     ·rw [yd]
      cases A.areD ys <;> rfl
     ·cases b
      ·exact z1S _ _ _ _ _ _
      ·exact z1T _ _ _ _ _ _
    | _ => exact z1T _ _ _ _ _ _
   | _ => exact sdLift' ho
 | _ => exact sdLift' ho
where sdLift' {op : Op} {tt : TT} {ctr : Ctr} {n : Fr} {o : Oper} {m : SM Unit} (ho : o.op = op) (e : stepO tt ctr n o = m := by first | rfl | (unfold stepO; simp [ho])) : Snd m (yk (stepO tt ctr n o)) := e ▸ zo _
def zcP (mx : Bool) : A → A → Option A
 | .atom (.int k a), .atom (.int k' b) => if k = k' then some (.atom (.int k (if mx = true then (if a < b then b else a) else (if b < a then b else a)))) else none
 | _, _ => none
def minO (n : Fr) (dst : Option Nat) (mx : Bool) (x y : Operand) : SM Unit := do
 let tx ← opnd x
 let vx ← val tx
 let ty ← opnd y
 let vy ← val ty
 let r ← ofO (zcP mx vx vy)
 wrT n dst (.d r)
def cutO (tt : TT) (n : Fr) (dst : Option Nat) (t : Nat) (x hi : Operand) : SM Unit := do
 let y ← opnd x
 let z ← take y
 match z with
 | .osl sz _ es =>
  if w9 tt t = some sz then (bound es.length (some hi) >>= fun h => if h ≤ es.length then wrT n dst (.own (.osl sz false (es.take h))) else zt)
  else zt
 | _ => zt
variable {P : Program}{U : List (Nat × Ent)}{R : List Nat}{S : zn}{tt : TT}{u : Unit}{o : Oper}{h : Array Obj}{t : Nat}{xs : List A}
section
variable {C : Ctx} {S : zn} {Fp : Nat → List Nat} {X : List Nat} {st : St} {a : Act} {w : World}
theorem z8U (h : Sim C S Fp [] st a w)  {mx : Bool} {x y : Operand} {t1 t2 : Nat} (ho : o.op = .call ⟨.builtin (if mx = true then .max else .min), ⟨[x, y]⟩, ⟨[t1, t2]⟩⟩)    (e : minO C.n o.dst mx x y st = some (u, R, U)) : qE P C o a w (zl U st) := by
 unfold minO at e
 have ⟨tx, _, hx, e1⟩ := bR (zD h) e
 have ⟨vx, _, qx, e2⟩ := bR (vO h hx) e1
 have ⟨ty, _, hy, e3⟩ := bR (zD h) e2
 have ⟨vy, _, qy, e4⟩ := bR (vO h hy) e3
 have ⟨r, _, hr, e5⟩ := bO e4
 unfold zcP at hr
 split at hr
 ·split at hr
  ·rename_i hk
   simp [Option.some.injEq] at hr
   subst hr hk
   have ⟨ex, _⟩ := zw.1 qx
   have ⟨ey, _⟩ := zw.1 qy
   have ⟨Fp', hs⟩ := wJ h e5 (x := .d _) (zw.2 ⟨rfl, rfl⟩)
   refine zr ?_ hs
   cases mx
   ·simp [execOp, ho, resolve, invoke, builtin, ex, ey, Builtin.min_, Builtin.min2]
   ·simp [execOp, ho, resolve, invoke, builtin, ex, ey, Builtin.max_, Builtin.max2]
  ·cases hr
 ·cases hr
theorem z0x {cs : List Value} {F : List Nat} (q : zL S h xs cs F) (k : Nat) : ∃ F', zL S h (xs.take k) (cs.take (A.sizes (xs.take k))) F' ∧ (∀ b ∈ F', b ∈ F) ∧ (F.Nodup → F'.Nodup) := by
 induction xs generalizing cs F k with
 | nil =>
  simp only [zL] at q
  obtain ⟨rfl, rfl⟩ := q
  exact ⟨[], by simp [zL], by simp, by simp⟩
 | cons x xs ih =>
  cases k with
  | zero => exact ⟨[], by simp [zL, A.sizes], by simp, by simp⟩
  | succ k =>
   simp only [zL] at q
   obtain ⟨c1, c2, F1, F2, rfl, rfl, q1, q2⟩ := q
   have ⟨F', g1, g2, g3⟩ := ih q2 k
   refine ⟨F1 ++ F', ?_, ?_, ?_⟩
   ·simp only [List.take_succ_cons, zL, A.sizes]
    refine ⟨c1, c2.take (A.sizes (xs.take k)), F1, F', ?_, rfl, q1, g1⟩
    rw [List.take_append, q1.len, List.take_of_length_le (by rw [q1.len]; omega)]
    simp
   ·intro b hb
    rcases List.mem_append.1 hb with hb | hb
    ·simp [hb]
    ·simp [g2 b hb]
   ·intro hn
    rw [List.nodup_append] at hn ⊢
    refine ⟨hn.1, g3 hn.2.1, ?_⟩
    intro k hk k' hk'
    exact hn.2.2 k hk k' (g2 k' hk')
theorem zbV {P : Program}  (hT : wG P tt) (h : Sim C S Fp [] st a w)   {x hi : Operand} (ho : o.op = .slice t x none (some hi) none)    (e : cutO tt C.n o.dst t x hi st = some (u, R, U)) : qE P C o a w (zl U st) := by
 unfold cutO at e
 have ⟨y, _, hx, e1⟩ := bR (zD h) e
 obtain ⟨z, R3, U3, R4, U4, h3, e2, rfl, rfl⟩ := bind_some e1
 have ⟨Fp', F, g1, g2⟩ := z0N h hx h3
 rw [zz]
 cases z with
 | osl sz tg es =>
  simp only at e2
  split at e2
  ·rename_i hel
   have ⟨hh, _, b2, e3⟩ := bR (We g1) e2
   split at e3
   ·rename_i hle
    have ⟨el, he, hsz⟩ := vq hT hel w
    obtain ⟨cs, k1, k2, k3⟩ : ∃ cs, zH S w.heap (.osl sz tg es) cs F ∧ F.Nodup ∧ a.eval x = yc (.osl sz tg es) cs := by
     rcases g2 with ⟨q, _⟩ | q
     ·simp only [we, u6, Rep, false_and, exists_false] at q
     ·exact q
    simp only [zH] at k1
    obtain ⟨p, c, rfl, t1, t2, t3, t4, t5⟩ := k1
    have ev : a.eval x = .slice p es.length c := k3
    have hrun := Y5 (P := P) (w := w) he hsz (p := p) (len := es.length) (c := c) (lo := none) (mx := none) (.inl ⟨rfl, rfl⟩) (Vh b2) (.inl ⟨rfl, rfl⟩) (Nat.zero_le _) (by omega) (Nat.le_refl c) (by simp)
    have hp : (if c = 0 then p else p.map (·.add (0 * sz))) = p := by
     split
     ·rfl
     ·cases p <;> simp [Addr.add]
    rw [hp] at hrun
    have hlen : (es.take hh).length = hh := by simp; omega
    have ht4 : ∀ x ∈ es.take hh, x.size = sz := fun x hx => t4 x (List.mem_of_mem_take hx)
    obtain ⟨F2, cs2, m1, m2, m3, m4⟩ : ∃ F2 cs2, zH S w.heap (.osl sz false (es.take hh)) cs2 F2 ∧ F2.Nodup ∧ (∀ k ∈ F2, k ∈ F) ∧ yc (.osl sz false (es.take hh)) cs2 = .slice p hh c := by
     rcases t5 with ⟨rfl, rfl, rfl, rfl⟩ | ⟨b, arr, ty, l, F', rfl, e1, e2, e3, e4, rfl, e5⟩
     ·have : hh = 0 := by simp at hle; omega
      subst this
      refine ⟨[], [.slice none 0 0], ?_, by simp, by simp, rfl⟩
      simp only [zH]
      exact ⟨none, 0, by simp, by simp, by simp, Nat.zero_le _, by simp, .inl (by simp)⟩
     ·have ⟨F3, q1, q2, q3⟩ := z0x e4 hh
      have hn := List.nodup_cons.1 k2
      refine ⟨b :: F3, [.slice (some ⟨b, 0, none⟩) hh c], ?_, List.nodup_cons.2 ⟨fun q => hn.1 (q2 b q), q3 hn.2⟩, ?_, rfl⟩
      ·simp only [zH]
       refine ⟨some ⟨b, 0, none⟩, c, by rw [hlen], by simp, by rw [hlen]; omega, t3, ht4, .inr ⟨b, arr, ty, _, F3, rfl, e1, e2, ?_, q1, rfl, e5⟩⟩
       rw [← e3, List.take_take, A.sizes_const ht4, hlen]
       congr 1
       have := Nat.mul_le_mul_right sz hle
       omega
      ·intro k hk
       rcases List.mem_cons.1 hk with rfl | hk
       ·simp
       ·simp [q2 k hk]
    have g1' : Sim C S Fp' (F2 ++ []) (zl U3 st) a w := g1.mem g1.below (fun _ _ _ h => h) g1.still.cell g1.sbase (fun t' k hk => ⟨rfl, (g1.free t' k hk).2.1⟩) (by simpa using m2) (fun t' k hk => g1.xd t' k (by simp at hk ⊢; exact m3 k hk)) (fun k hk => g1.xb k (by simp at hk ⊢; exact m3 k hk))
    have ⟨Fp'', hs⟩ := Xv g1' e3 m1 m2
    rw [m4] at hs
    refine zr ?_ hs
    simp only [Nat.sub_zero] at hrun
    simp only [Option.map_some] at hrun
    simp [execOp, ho, ev, hrun]
   ·cases e3
  ·cases e2
 | _ => cases e2
end
variable {w : World}{y : A}
theorem z7v (hT : wG P tt)   (hf : Zn tt t y = true) {w : World} {c1 cs c2 : List Value} (hl : cs.length = y.size) :
  (part t (c1 ++ cs ++ c2).toArray c1.length).run P w = .ok (yc y cs) w := by
 unfold Zn at hf
 split at hf
 ·rename_i i hi
  simp only [Bool.and_eq_true, beq_iff_eq, Bool.or_eq_true] at hf
  have ⟨⟨h1, h2⟩, h3⟩ := hf
  have hk := WM (hT t i hi).kind w
  unfold part
  simp only [Sem.run_bind, hk, Result.andThen_ok, Sem.run_ite]
  by_cases ha : i.kind.isAgg = true
  ·rw [if_pos ha]
   rw [h1] at ha
   cases y <;> simp [A.isAgg] at ha
   simp only [vV hT hi, Result.andThen_ok, h2, ← hl, Sem.run_pure, yc]
   congr 2
   simp [List.extract_eq_take_drop]
  ·rw [if_neg ha]
   have h4 : i.size = 1 := by simpa [ha] using h3
   have hlen : cs.length = 1 := by omega
   obtain ⟨c, rfl⟩ := List.length_eq_one_iff.1 hlen
   rw [h1] at ha
   have : ((c1 ++ [c] ++ c2).toArray)[c1.length]? = some c := by simp
   rw [this]
   cases y <;> simp_all [A.isAgg, yc]
 ·cases hf
def z4k (tt : TT) (t : Nat) : Option (Nat × Nat) :=
 match tt t with
 | some ⟨.array n e, _, _, _, _⟩ => some (n, e)
 | _ => none
def indexO (tt : TT) (n : Fr) (dst : Option Nat) (t : Nat) (x i : Operand) : SM Unit := do
 let tx ← opnd x
 let vx ← val tx
 let ti ← opnd i
 let vi ← val ti
 match vx, vi with
 | .agg fs, .atom (.int _ j) =>
  match z4k tt t with
  | some (m, e) => match fs[j.toNat]? with
   | some y => if 0 ≤ j ∧ j < (m : Int) ∧ Zn tt e y = true ∧ y.isD = true ∧ (fs.take j.toNat).all (fun z => z.size == y.size) = true then wrT n dst (.d y) else zt
   | none => zt
  | none => zt
 | _, _ => zt
variable {st : St}{Fp : Nat → List Nat}{a : Act}{C : Ctx}{x i : Operand}
theorem z7W {P : Program}  (hT : wG P tt)      {w : World} (h : Sim C S Fp [] st a w)   {x i : Operand} (ho : o.op = .index t x i)    (e : indexO tt C.n o.dst t x i st = some (u, R, U)) : qE P C o a w (zl U st) := by
 unfold indexO at e
 have ⟨tx, _, hx, e1⟩ := bR (zD h) e
 have ⟨vx, _, qx, e2⟩ := bR (vO h hx) e1
 have ⟨ty, _, hy, e3⟩ := bR (zD h) e2
 have ⟨vy, _, qy, e4⟩ := bR (vO h hy) e3
 split at e4
 ·rename_i fs k j
  cases ha : z4k tt t with
  | none => simp only [ha] at e4; cases e4
  | some q =>
   have ⟨m, el⟩ := q
   simp only [ha] at e4
   cases hf : fs[j.toNat]? with
   | none => simp only [hf] at e4; cases e4
   | some y =>
    simp only [hf] at e4
    split at e4
    ·rename_i hc
     have ⟨c1, c2, c3, c4, c5⟩ := hc
     have hk : P.underlying t = some (.array m el) := by
      unfold z4k at ha
      split at ha
      ·rename_i ht; cases ha; exact (hT _ _ ht).kind
      ·cases ha
     obtain ⟨i', hi⟩ : ∃ i', tt el = some i' := by
      unfold Zn at c3
      split at c3
      ·exact ⟨_, by assumption⟩
      ·cases c3
     have ⟨cs, r1, r2⟩ := (qx : u6 S (.agg fs) (a.eval x))
     simp only [Rep] at r1
     obtain ⟨d1, ci, d2, rfl, hl, hr⟩ := XX r1 hf
     have ei := (zw.1 qy).1
     have hsz : i'.size = y.size := by
      unfold Zn at c3
      rw [hi] at c3
      simp only [Bool.and_eq_true, beq_iff_eq] at c3
      exact c3.1.2
     have hoff : d1.length = j.toNat * i'.size := by
      rw [hl, A.sizes_const (sz := y.size) (fun z hz => by simpa using List.all_eq_true.1 c5 z hz), List.length_take, hsz]
      congr 1
      have := (List.getElem?_eq_some_iff.1 hf).1
      omega
     have ⟨Fp', hs⟩ := wJ h e4 (x := .d y) (u6.repV ⟨ci, hr, rfl⟩)
     refine zr ?_ hs
     have hp := z7v (P := P) hT c3 (w := w) (c1 := d1) (c2 := d2) hr.len
     rw [hoff] at hp
     have ex : a.eval x = .agg (d1 ++ ci ++ d2).toArray := r2
     simp only [execOp, ho, Instr.index, asIntOf, ei, ex, Sem.run_bind, Sem.run_pure, Result.andThen_ok, run_underlying hk, c1, c2, and_self, if_true, vV hT hi, hp]
    ·cases e4
 ·cases e4
def zaN (tt : TT) (n : Fr) (o : Oper) : Option (SM Unit) :=
 match o.op with
 | .call ⟨.builtin .min, ⟨[x, y]⟩, ⟨[_, _]⟩⟩ => some (minO n o.dst false x y)
 | .call ⟨.builtin .max, ⟨[x, y]⟩, ⟨[_, _]⟩⟩ => some (minO n o.dst true x y)
 | .index t x i => some (indexO tt n o.dst t x i)
 | _ => none
theorem Loc.indexO (tt : TT) (n : Fr) (dst : Option Nat) (t : Nat) (x i : Operand) : Loc (indexO tt n dst t x i) := by
 unfold Go.Own.indexO
 refine Loc.bind (Loc.opnd _) fun _ => Loc.bind (Loc.val _) fun _ => Loc.bind (Loc.opnd _) fun _ => Loc.bind (Loc.val _) fun _ => ?_
 split
 ·split
  ·split
   ·exact Loc.ite (Loc.wrT _ _ _) Loc.fail
   ·exact Loc.fail
  ·exact Loc.fail
 ·exact Loc.fail
theorem Loc.minO (n : Fr) (dst : Option Nat) (mx : Bool) (x y : Operand) : Loc (minO n dst mx x y) := by
 unfold Go.Own.minO
 exact Loc.bind (Loc.opnd _) fun _ => Loc.bind (Loc.val _) fun _ => Loc.bind (Loc.opnd _) fun _ => Loc.bind (Loc.val _) fun _ => Loc.bind (Loc.ofO _) fun _ => Loc.wrT _ _ _
theorem Loc.cutO (tt : TT) (n : Fr) (dst : Option Nat) (t : Nat) (x hi : Operand) : Loc (cutO tt n dst t x hi) := by
 unfold Go.Own.cutO
 refine Loc.bind (Loc.opnd _) fun _ => Loc.bind (Loc.take _) fun z => ?_
 cases z with
 | osl sz tg es => exact Loc.ite (Loc.bind (Loc.bound _ _) fun _ => Loc.ite (Loc.wrT _ _ _) Loc.fail) Loc.fail
 | _ => exact Loc.fail
theorem zam (hT : wG P tt) : KQ P (zaN tt) := by
 refine ⟨?_, ?_⟩
 ·intro C S Fp st a w o m u R U e h h2
  unfold zaN at e
  split at e
  ·rename_i ho; cases e; exact z8U (mx := false) h ho h2
  ·rename_i ho; cases e; exact z8U (mx := true) h ho h2
  ·rename_i ho; cases e; exact z7W hT h ho h2
  ·cases e
 ·intro n o m e
  unfold zaN at e
  split at e
  ·cases e; exact fun st st' a R U => Loc.minO _ _ _ _ _ st st' a R U
  ·cases e; exact fun st st' a R U => Loc.minO _ _ _ _ _ st st' a R U
  ·cases e; exact fun st st' a R U => Loc.indexO _ _ _ _ _ _ st st' a R U
  ·cases e
def z0v (tt : TT) (d : Nat) (n : Fr) (o : Oper) : Option (SM Unit) :=
 match o.op with
 | .slice t x none (some hi) none => if o.dst = some d then some (cutO tt n o.dst t x hi) else none
 | _ => none
theorem z6f (hT : wG P tt) (d : Nat) : KQ P (z0v tt d) := by
 refine ⟨?_, ?_⟩
 ·intro C S Fp st a w o m u R U e h h2
  unfold z0v at e
  split at e
  ·rename_i ho
   split at e
   ·cases e; exact zbV hT h ho h2
   ·cases e
  ·cases e
 ·intro n o m e
  unfold z0v at e
  split at e
  ·split at e
   ·cases e; exact fun st st' a R U => Loc.cutO _ _ _ _ _ _ st st' a R U
   ·cases e
  ·cases e
structure XH (P : Program) where
 e : Fr → Oper → Option (SM Unit)
 h : Fr → Oper → Option (HM Unit)
 ok : KQ P e
 none : ∀ n o, e n o = none → h n o = none
 some : ∀ n o m, e n o = some m → ∃ q, h n o = some q ∧ Snd m q
def XH.or (x y : XH P) : XH P := {
 e := fun n o => match x.e n o with | .some m => .some m | .none => y.e n o
 h := fun n o => match x.h n o with | .some m => .some m | .none => y.h n o
 ok := by
  refine ⟨?_, ?_⟩
  ·intro C S Fp st a w o m u R U e
   cases hx : x.e C.n o with
   | some m' => simp only [hx] at e; cases e; exact x.ok.1 C S Fp st a w o _ u R U hx
   | none => simp only [hx] at e; exact y.ok.1 C S Fp st a w o _ u R U e
  ·intro n o m e
   cases hx : x.e n o with
   | some m' => simp only [hx] at e; cases e; exact x.ok.2 n o _ hx
   | none => simp only [hx] at e; exact y.ok.2 n o _ e
 none := by
  intro n o e
  cases hx : x.e n o with
  | some m' => simp only [hx] at e; cases e
  | none => simp only [hx] at e; simp only [x.none n o hx]; exact y.none n o e
 some := by
  intro n o m e
  cases hx : x.e n o with
  | some m' =>
   simp only [hx] at e; cases e
   have ⟨q, h1, h2⟩ := x.some n o _ hx
   exact ⟨q, by simp only [h1], h2⟩
  | none =>
   simp only [hx] at e
   have ⟨q, h1, h2⟩ := y.some n o _ e
   exact ⟨q, by simp only [x.none n o hx]; exact h1, h2⟩ }
def zcO (n : Fr) (dst : Option Nat) (mx : Bool) (x y : Operand) : HM Unit := yk (opnd x) >>= fun tx => Q0 tx >>= fun vx => yk (opnd y) >>= fun ty => Q0 ty >>= fun vy => yk (ofO (zcP mx vx vy) >>= fun r => wrT n dst (.d r))
theorem zbn (n : Fr) (dst : Option Nat) (mx : Bool) (x y : Operand) : Snd (minO n dst mx x y) (zcO n dst mx x y) :=
 zk (zo _) fun _ => zk (Za _) fun _ => zk (zo _) fun _ => zk (Za _) fun _ => zo _
def zeg (tt : TT) (n : Fr) (dst : Option Nat) (t : Nat) (x hi : Operand) : HM Unit := yk (opnd x) >>= fun y => z4S y >>= fun z =>
 match z with
 | .osl sz _ es => if w9 tt t = some sz then Jb es.length (some hi) >>= fun h => Zq (h ≤ es.length) (eqL (es.take h) >>= fun xs => yk (wrT n dst (.own (.osl sz false xs)))) else zF
 | _ => zF
theorem zcJ (tt : TT) (n : Fr) (dst : Option Nat) (t : Nat) (x hi : Operand) : Snd (cutO tt n dst t x hi) (zeg tt n dst t x hi) := by
 refine zk (zo _) fun y => zk (z3G _) fun z => ?_
 cases z with
 | osl sz tg es =>
  refine vE (zk (VH _ _) fun h => ue ?_) (zp _)
  exact Vx (yd _ fun xs => wrT n dst (.own (.osl sz false xs))).symm (zk (z33 _) fun _ => zo _)
 | _ => exact zp _
def z8Y (tt : TT) (n : Fr) (dst : Option Nat) (t : Nat) (x i : Operand) : HM Unit := yk (opnd x) >>= fun tx => Q0 tx >>= fun vx => yk (opnd i) >>= fun ti => Q0 ti >>= fun vi =>
 yk (match vx, vi with
 | .agg fs, .atom (.int _ j) =>
  match z4k tt t with
  | some (m, e) => match fs[j.toNat]? with
   | some y => if 0 ≤ j ∧ j < (m : Int) ∧ Zn tt e y = true ∧ y.isD = true ∧ (fs.take j.toNat).all (fun z => z.size == y.size) = true then wrT n dst (.d y) else zt
   | none => zt
  | none => zt
 | _, _ => zt)
theorem z9U (tt : TT) (n : Fr) (dst : Option Nat) (t : Nat) (x i : Operand) : Snd (indexO tt n dst t x i) (z8Y tt n dst t x i) :=
 zk (zo _) fun _ => zk (Za _) fun _ => zk (zo _) fun _ => zk (Za _) fun _ => zo _
def xB (hT : wG P tt) : XH P := {
 e := zaN tt
 h := fun n o => match o.op with
  | .call ⟨.builtin .min, ⟨[x, y]⟩, ⟨[_, _]⟩⟩ => some (zcO n o.dst false x y)
  | .call ⟨.builtin .max, ⟨[x, y]⟩, ⟨[_, _]⟩⟩ => some (zcO n o.dst true x y)
  | .index t x i => some (z8Y tt n o.dst t x i)
  | _ => none
 ok := zam hT
 none := by
  intro n o e
  unfold zaN at e
  split at e
  ·cases e
  ·cases e
  ·cases e
  ·rfl
 some := by
  intro n o m e
  unfold zaN at e
  split at e
  ·rename_i ho; cases e; exact ⟨_, by simp only, zbn _ _ _ _ _⟩
  ·rename_i ho; cases e; exact ⟨_, by simp only, zbn _ _ _ _ _⟩
  ·rename_i ho; cases e; exact ⟨_, by simp only, z9U _ _ _ _ _ _⟩
  ·cases e }
def zew (hT : wG P tt) (d : Nat) : XH P := {
 e := z0v tt d
 h := fun n o => match o.op with
  | .slice t x none (some hi) none => if o.dst = some d then some (zeg tt n o.dst t x hi) else none
  | _ => none
 ok := z6f hT d
 none := by
  intro n o e
  unfold z0v at e
  split at e
  ·rename_i ho
   split at e
   ·cases e
   ·rename_i hd; simp [if_neg hd]
  ·rfl
 some := by
  intro n o m e
  unfold z0v at e
  split at e
  ·rename_i ho
   split at e
   ·rename_i hd; cases e; exact ⟨_, by simp [if_pos hd], zcJ _ _ _ _ _ _⟩
   ·cases e
  ·cases e }
theorem z67 {ks : List Nat} {m : SM Unit} (hm : ∀ S Fp st, Sim C S Fp [] st a w → ∀ u R U, m st = some (u, R, U) → qE P C o a w (zl U st)) (h : Sim C S Fp [] st a w) {u : Unit} {R : List Nat} {U : List (Nat × Ent)}
  (e : (shutArgs (fun _ => none) (ks.map fun k => (.tmp k, 0)) >>= fun _ => m) st = some (u, R, U)) : qE P C o a w (zl U st) := by
 obtain ⟨xs, R1, U1, R2, U2, h1, e1, rfl, rfl⟩ := bind_some e
 have ⟨S1, Fp1, g1, _⟩ := wS h h1
 rw [zz]
 exact hm _ _ _ g1 _ _ _ e1
def zea (d : Nat ⊕ Nat) (o : Oper) : Bool :=
 match d with
 | .inl d => o.dst == some d
 | .inr p => match o.op with | .store _ (.tmp q) _ => q == p | _ => false
def KB (tt : TT) (d : Nat ⊕ Nat) (ks : List Nat) (n : Fr) (o : Oper) : Option (SM Unit) :=
 if zea d o = true then some (shutArgs (fun _ => none) (ks.map fun k => (.tmp k, 0)) >>= fun _ => stepO tt Qt n o) else none
def zcv (hT : wG P tt) (d : Nat ⊕ Nat) (ks : List Nat) : XH P := {
 e := KB tt d ks
 h := fun n o => if zea d o = true then some (uD (fun _ => none) (ks.map fun k => (.tmp k, 0)) >>= fun _ => z1I tt Qt n o) else none
 ok := by
  refine ⟨?_, ?_⟩
  ·intro C S Fp st a w o m u R U e h h2
   unfold KB at e
   split at e
   ·cases e
    exact z67 (fun S Fp st h u R U e => z0P hT (z3o P) h e) h h2
   ·cases e
  ·intro n o m e
   unfold KB at e
   split at e
   ·cases e
    exact fun st st' a R U => Loc.bind (Loc.shutArgs _ _) (fun _ => Loc.stepO _ _ _ _) st st' a R U
   ·cases e
 none := by
  intro n o e
  unfold KB at e
  split at e
  ·cases e
  ·rename_i hd; rw [if_neg hd]
 some := by
  intro n o m e
  unfold KB at e
  split at e
  ·rename_i hd; cases e
   exact ⟨_, by rw [if_pos hd], zk (qI _ _) fun _ => z30 _ _ _ _⟩
  ·cases e }
def z3z (X : XH P) (tt : TT) (ctr : Ctr) (n : Fr) (o : Oper) : HM Unit :=
 match X.h n o with
 | some q => q
 | none => z1I tt (ctr.withE X.e) n o
theorem z54 (X : XH P) (tt : TT) (ctr : Ctr) (n : Fr) (o : Oper) : Snd (stepX tt (ctr.withE X.e) n o) (z3z X tt ctr n o) := by
 unfold stepX z3z
 cases he : X.e n o with
 | none =>
  rw [X.none n o he]
  exact Vx (by simp [he]) (z30 _ _ _ _)
 | some m =>
  have ⟨q, h1, h2⟩ := X.some n o m he
  rw [h1]
  exact Vx (by simp [he]) h2
def z2Y (X : XH P) (tt : TT) (ctr : Ctr) (n : Fr) (ops : Array Oper) (o : Oper) : HM Unit :=
 match o.guard with
 | none => z3z X tt ctr n o
 | some (j, want) =>
  match (ops[j]?).bind (·.dst) with
  | some g => yk (rdE g) >>= fun e =>
   match e.t with
   | .d (.atom (.bool b)) => zc7 b >>= fun b => if b = want then z3z X tt ctr n o else yk (wrT n o.dst (.d (.tup [])))
   | .d (.tup []) => yk (wrT n o.dst (.d (.tup [])))
   | _ => zF
  | none => zF
def z8Q : List H → List H
 | .op 0 :: hs => hs
 | .op (m + 1) :: hs => .op m :: hs
 | hs => hs
def z3B (X : XH P) (tt : TT) (ctr : Ctr) (n : Fr) (ops : Array Oper) (o : Oper) : HM Unit := fun st hs => z2Y X tt ctr n ops o st (z8Q hs)
theorem z7u (X : XH P) (tt : TT) (ctr : Ctr) (n : Fr) (ops : Array Oper) (o : Oper) : Snd (stepG tt (ctr.withE X.e) n ops o) (z2Y X tt ctr n ops o) := by
 unfold stepG z2Y
 cases o.guard with
 | none => exact z54 _ _ _ _ _
 | some q =>
  have ⟨j, want⟩ := q
  dsimp only
  cases (ops[j]?).bind (·.dst) with
  | none => exact zp _
  | some g =>
   refine zk (zo _) fun e => ?_
   have ⟨t, a, b⟩ := e
   cases t with
   | d x =>
    cases x with
    | atom v =>
     cases v with
     | bool b =>
      refine Vx (m' := pure b >>= fun b => if b = want then stepX tt (ctr.withE X.e) n o else wrT n o.dst (.d (.tup []))) (yd _ _).symm ?_
      exact zk (z5b _) fun b => vE (z54 _ _ _ _ _) (zo _)
     | _ => exact zp _
    | tup l =>
     cases l with
     | nil => exact zo _
     | cons _ _ => exact zp _
    | _ => exact zp _
   | _ => exact zp _
theorem z56 (X : XH P) (tt : TT) (ctr : Ctr) (n : Fr) (ops : Array Oper) (o : Oper) : Snd (stepG tt (ctr.withE X.e) n ops o) (z3B X tt ctr n ops o) :=
 fun st hs a R U hs' ob e ho => z7u X tt ctr n ops o st (z8Q hs) a R U hs' ob e ho
abbrev Lg := List (List Nat × List Nat)
def z52 (X : XH P) (tt : TT) (ctr : Ctr) (n : Fr) (ops : Array Oper) : List Oper → St → List H → Option (St × List H × List Prop × Lg)
 | [], st, hs => some (st, hs, [], [])
 | o :: os, st, hs =>
  match z3B X tt ctr n ops o st hs with
  | none => none
  | some (_, R, U, hs', ob) =>
   match z52 X tt ctr n ops os (zl U st) hs' with
   | none => none
   | some (st', hs'', ob', lg) => some (st', hs'', ob ++ ob', (R, U.map (·.1)) :: lg)
variable {ops : Array Oper}
section
variable {P : Program} {X : XH P} {tt : TT} {ctr : Ctr} {n : Fr}
theorem z3E {K : St → Prop} : ∀ (l : List Oper) (st : St) (hs : List H) {st' : St} {hs' : List H} {ob : List Prop} {lg : Lg}, z52 X tt ctr n ops l st hs = some (st', hs', ob, lg) → KV ob → K st' → zaG tt (ctr.withE X.e) n ops l st K
 | [], st, hs, st', hs', ob, lg, e, ho, hk => by
  simp only [z52, Option.some.injEq, Prod.mk.injEq] at e
  obtain ⟨rfl, _⟩ := e
  exact hk
 | o :: os, st, hs, st', hs', ob, lg, e, ho, hk => by
  simp only [z52] at e
  cases e1 : z3B X tt ctr n ops o st hs with
  | none => simp only [e1] at e; cases e
  | some q =>
   have ⟨u, R, U, hs1, ob1⟩ := q
   simp only [e1] at e
   cases e2 : z52 X tt ctr n ops os (zl U st) hs1 with
   | none => simp only [e2] at e; cases e
   | some q =>
    have ⟨st2, hs2, ob2, lg2⟩ := q
    simp only [e2, Option.some.injEq, Prod.mk.injEq] at e
    obtain ⟨rfl, rfl, rfl, rfl⟩ := e
    have ⟨o1, o2⟩ := xy ho
    simp only [zaG, zaH]
    rw [z56 X tt ctr n ops o _ _ _ _ _ _ _ e1 o1]
    exact z3E os _ _ e2 o2 hk
theorem z1M {K : St → Prop} : ∀ (l : List Oper) (st : St) (hs : List H) (logs : Lg) {st' : St} {hs' : List H} {ob : List Prop} {lg : Lg}, z52 X tt ctr n ops l st hs = some (st', hs', ob, lg) → KV ob → KD ops.toList (logs ++ lg) = true → K st' → z4F tt (ctr.withE X.e) n ops l st logs K
 | [], st, hs, logs, st', hs', ob, lg, e, ho, hd, hk => by
  simp only [z52, Option.some.injEq, Prod.mk.injEq] at e
  obtain ⟨rfl, _, _, rfl⟩ := e
  exact ⟨by simpa using hd, hk⟩
 | o :: os, st, hs, logs, st', hs', ob, lg, e, ho, hd, hk => by
  simp only [z52] at e
  cases e1 : z3B X tt ctr n ops o st hs with
  | none => simp only [e1] at e; cases e
  | some q =>
   have ⟨u, R, U, hs1, ob1⟩ := q
   simp only [e1] at e
   cases e2 : z52 X tt ctr n ops os (zl U st) hs1 with
   | none => simp only [e2] at e; cases e
   | some q =>
    have ⟨st2, hs2, ob2, lg2⟩ := q
    simp only [e2, Option.some.injEq, Prod.mk.injEq] at e
    obtain ⟨rfl, rfl, rfl, rfl⟩ := e
    have ⟨o1, o2⟩ := xy ho
    simp only [z4F, zaH]
    rw [z56 X tt ctr n ops o _ _ _ _ _ _ _ e1 o1]
    exact z1M os _ _ _ e2 o2 (by simpa using hd) hk
end
inductive Fm where
 | seq (y : Code)
 | blk (id : Nat)
 | pre (J : St → Prop)
 | rnd (m : Nat) (c : Code)
def zaS (P : Program) (n : Fr) (c : Code) : Nat → St → (Exit → St → Prop) → Prop
 | 0, _, _ => False
 | m + 1, st, Q => AWP P n c st (z2V (fun st' => zaS P n c m st' Q) Q)
variable {Q : Exit → St → Prop}{c : Code}{n : Fr}
theorem zaS.loop : ∀ (m : Nat) (st : St), zaS P n c m st Q → AWP P n (.loop c) st Q := by
 intro m st h rd mm df w0 S0 M S Fp a w hc hs
 refine wpIn_loop_rounds m ?_
 have gen : ∀ (m : Nat) (st : St) (df' : List Nat) (S : zn) (Fp : Nat → List Nat) (a : Act) (w : World), zaS P n c m st Q → Sim ⟨n, df', w0, S0, M⟩ S Fp [] st a w → ZK df M df' Fp w → Code.roundsIn (fen rd) mm P c (z6R n df w0 S0 M Q) m a w := by
  intro m
  induction m with
  | zero => intro st df' S Fp a w h _ _; exact h.elim
  | succ m ih =>
   intro st df' S Fp a w h hs hd
   refine wpIn_mono (AWP.go h hc hs hd) ?_
   intro e a' w' hp
   cases e with
   | normal =>
    have ⟨df2, st2, S2, Fp2, h1, h2, h3⟩ := hp
    exact ih st2 df2 S2 Fp2 a' w' h3 h1 h2
   | _ => exact hp.next fun _ q => q
 exact gen m st df S Fp a w h hs (hc.post hs)
def Qf (P : Program) (n : Fr) : List Fm → (Exit → St → Prop) → Exit → St → Prop
 | [], Q => Q
 | .seq y :: fs, Q => z2V (fun st => AWP P n y st (Qf P n fs Q)) (Qf P n fs Q)
 | .blk id :: fs, Q => z0z id (Qf P n fs Q)
 | .pre J :: fs, Q => z2V J (Qf P n fs Q)
 | .rnd m c :: fs, Q => z2V (fun st => zaS P n c m st (Qf P n fs Q)) (Qf P n fs Q)
inductive Stop where
 | fin (e : Exit)
 | back (J : St → Prop)
 | at (c : Code) (fs : List Fm)
def Stop.sem (P : Program) (n : Fr) (Q : Exit → St → Prop) : Stop → St → Prop
 | .fin e, st => Q e st
 | .back J, st => J st
 | .at c fs, st => AWP P n c st (Qf P n fs Q)
inductive Nxt where
 | go (y : Code) (fs : List Fm)
 | stop (s : Stop)
 | none
def unw : List Fm → Nxt
 | [] => .stop (.fin .normal)
 | .seq y :: fs => .go y fs
 | .blk _ :: fs => unw fs
 | .pre J :: _ => .stop (.back J)
 | .rnd (m + 1) c :: fs => .go c (.rnd m c :: fs)
 | .rnd 0 _ :: _ => .none
def z2P (id : Nat) : List Fm → Option (List Fm)
 | [] => none
 | .blk i :: fs => if id = i then some fs else z2P id fs
 | .seq _ :: fs => z2P id fs
 | .pre _ :: fs => z2P id fs
 | .rnd _ _ :: fs => z2P id fs
abbrev z6Q := Option (Stop × St × List H × List Prop)
def zaO (ob : List Prop) : z6Q → z6Q
 | none => none
 | some (s, st, hs, ob') => some (s, st, hs, ob ++ ob')
def goN (rec : Code → List Fm → St → List H → z6Q) (x : Nxt) (st : St) (hs : List H) : z6Q :=
 match x with
 | .go y fs => rec y fs st hs
 | .stop s => some (s, st, hs, [])
 | .none => none
def z7s (k : Nat) : SM Unit := do
 let y ← opnd (.tmp k)
 let q ← ptrOf y
 match q with
 | .inr (r, p, er, ec) => do
  let _ ← lookP r p er ec
  let _ ← shutT (fun _ => none) 0 (.als r p er ec)
  pure ()
 | .inl _ => zt
def z7q (k : Nat) : SM Unit := do
 let e ← rdE k
 match e.t with
 | .own (.osl sz t es) => if A.lives es = true then wrE k ⟨.own (.osl sz t (A.shuts es)), e.er, e.ec + 1⟩ else zt
 | _ => zt
def z7U : T → Bool
 | .own (.osl _ _ _) => true
 | _ => false
def z7o (k : Nat) : SM Unit := do
 let e ← rdE k
 if z7U e.t = true then z7q k else z7s k
def z3F : List Nat → SM Unit
 | [] => pure ()
 | k :: ks => do
  z7o k
  z3F ks
def z8K (k : Nat) : HM Unit :=
 yk (opnd (.tmp k)) >>= fun y => yk (ptrOf y) >>= fun q =>
 match q with
 | .inr (r, p, er, ec) => yk (lookP r p er ec) >>= fun _ => JR (fun _ => none) 0 (.als r p er ec) >>= fun _ => pure ()
 | .inl _ => zF
def z8J (k : Nat) : HM Unit :=
 yk (rdE k) >>= fun e =>
 match e.t with
 | .own (.osl sz t es) => z7X >>= fun es' => Zq (A.lives es = true ∧ A.shuts es = es') (yk (wrE k ⟨.own (.osl sz t es'), e.er, e.ec + 1⟩))
 | _ => zF
def z8I (k : Nat) : HM Unit := yk (rdE k) >>= fun e => if z7U e.t = true then z8J k else z8K k
def z0U : List Nat → HM Unit
 | [] => pure ()
 | k :: ks => z8I k >>= fun _ => z0U ks
theorem z9R (k : Nat) : Snd (z7s k) (z8K k) :=
 zk (zo _) fun y => zk (zo _) fun q => by
  cases q with
  | inl _ => exact zp _
  | inr q =>
   have ⟨r, p, er, ec⟩ := q
   exact zk (zo _) fun _ => zk (XU _ _ _) fun _ => wB _
theorem z9Q (k : Nat) : Snd (z7q k) (z8J k) := by
 refine zk (zo _) fun e => ?_
 have ⟨t, er, ec⟩ := e
 cases t with
 | own x =>
  cases x with
  | osl sz tg es =>
   intro st hs b R U hs' ob e ho
   obtain ⟨es', R1, U1, hs1, ob1, R2, U2, ob2, e1, e2, rfl, rfl, rfl⟩ := WT e
   unfold z7X at e1
   split at e1
   ·cases e1
    have ⟨⟨q1, q2⟩, ob', e3, o3⟩ := z16 e2 (xy ho).2
    subst q2
    dsimp only
    rw [if_pos q1]
    exact zo _ _ _ _ _ _ _ _ e3 o3
   ·cases e1
  | _ => exact zp _
 | _ => exact zp _
theorem z9P (k : Nat) : Snd (z7o k) (z8I k) := zk (zo _) fun e => vE (z9Q k) (z9R k)
theorem z3H : ∀ ks, Snd (z3F ks) (z0U ks)
 | [] => wB _
 | k :: ks => zk (z9P k) fun _ => z3H ks
variable {k : Nat}
theorem z7p (h : Sim C S Fp [] st a w)     (e : z7q k st = some (u, R, U)) : ∃ S' Fp', Sim C S' Fp' [] (zl U st) a w := by
 unfold z7q at e
 have ⟨_, e1⟩ := bD e
 have hno : ∀ x, (st k).t = x → z7U x = false → False := by
  intro x hx hn
  rw [hx] at e1
  cases x with
  | own y => cases y <;> first | exact w7 e1 | (simp [z7U] at hn)
  | _ => exact w7 e1
 have hyes : ∃ sz t es, (st k).t = .own (.osl sz t es) := by
  cases hx : (st k).t with
  | own y => cases y <;> first | exact ⟨_, _, _, rfl⟩ | exact (hno _ hx rfl).elim
  | _ => exact (hno _ hx rfl).elim
 have ⟨sz, t, es, ht⟩ := hyes
 rw [ht] at e1
 dsimp only at e1
 split at e1
 ·rename_i hl
  cases e1
  have hr := h.ent k
  unfold xV at hr
  simp only [ht] at hr
  have ⟨cs, q, q1, q2⟩ := hr
  simp only [zH] at q
  obtain ⟨p, c, rfl, d1, d2, d3, d4, d5⟩ := q
  simp only [zl]
  rcases d5 with ⟨rfl, rfl, rfl, hF0⟩ | ⟨b, arr, ty, l, F1, rfl, e1, e2, e3, e4, hF0, e5⟩
  ·exact ⟨S, Qc Fp k [], h.change k (.own (.osl sz t (A.shuts []))) _ _ [] h.below (fun _ _ _ q => q) h.still.cell h.sbase (fun t' k' hk hk' => ⟨rfl, (h.free t' k' hk').2.1⟩)
    ⟨⟨_, by simp only [zH]; exact ⟨none, 0, rfl, fun _ => rfl, Nat.le_refl _, Nat.zero_le _, by simp [A.shuts], .inl (by simp [A.shuts])⟩, by simp, by rw [q2]; rfl⟩, _, ht⟩ (.inl ⟨_, ht⟩) (Nat.le_refl _) (Nat.lt_succ_self _) (by simp) (by simp) h.xn (fun t k _ hk => h.xd t k hk) (by simp) h.xb⟩
  ·have hF7 : ∀ q ∈ F1, q ∈ Fp k := fun q hq => by rw [hF0]; exact List.mem_cons_of_mem _ hq
   have ⟨m1, m2, m3, m4⟩ := WR h hF7
   have hrs := zL.shut (S' := xQ S w.heap F1) m1 e4 hl (fun k hk o => by unfold xQ; rw [if_pos hk])
   have hlen : (A.shuts es).length = es.length := by simp [A.shuts_eq]
   have hb : b ∉ F1 := by rw [hF0] at q1; exact (List.nodup_cons.1 q1).1
   have hbk : b ∈ Fp k := by rw [hF0]; exact List.mem_cons_self
   refine ⟨xQ S w.heap F1, Qc Fp k [b], h.change k (.own (.osl sz t (A.shuts es))) _ _ [b] h.below m1 m2 m3 ?_ ⟨⟨_, ?_, by simp, by rw [q2]; rfl⟩, _, ht⟩ (.inl ⟨_, ht⟩) (Nat.le_refl _) (Nat.lt_succ_self _) ?_ ?_ h.xn (fun t k _ hk => h.xd t k hk) (by simp) h.xb⟩
   ·intro t' k' hk hk'
    refine ⟨rfl, fun o => ?_⟩
    rw [m4 k' (fun hF => hk (h.disj t' k k' hk' (hF7 k' hF)))]
    exact (h.free t' k' hk').2.1 o
   ·simp only [zH]
    refine ⟨some ⟨b, 0, none⟩, c, by rw [hlen], fun ht => by rw [hlen]; exact d1 ht, by rw [hlen]; exact d2, d3, ?_, .inr ⟨b, arr, ty, _, [], rfl, e1, e2, by rw [hlen]; exact e3, yw.concs _ hrs, rfl, ?_⟩⟩
    ·intro x hx
     rw [A.shuts_eq] at hx
     obtain ⟨y, hy, rfl⟩ := List.mem_map.1 hx
     rw [A.size_shut]
     exact d4 y hy
    ·intro o
     rw [m4 b hb]
     exact e5 o
   ·intro t' k' hk hk' hk2
    simp only [List.mem_cons, List.not_mem_nil, or_false] at hk'
    subst hk'
    exact hk (h.disj t' k _ hk2 hbk)
   ·intro k' hk'
    simp only [List.mem_cons, List.not_mem_nil, or_false] at hk'
    subst hk'
    exact h.base k _ hbk
 ·cases e1
theorem z7r (h : Sim C S Fp [] st a w)     (e : z7s k st = some (u, R, U)) : ∃ S' Fp', Sim C S' Fp' [] (zl U st) a w := by
 unfold z7s at e
 obtain ⟨y, R1, U1, R2, U2, h1, e1, rfl, rfl⟩ := bind_some e
 obtain ⟨rfl, hx⟩ := zD h h1
 obtain ⟨q, R3, U3, R4, U4, h3, e2, rfl, rfl⟩ := bind_some e1
 obtain ⟨rfl, hq⟩ := Vb h hx h3
 simp only [zl, List.nil_append] at e2 ⊢
 split at e2
 ·rename_i r p er ec
  obtain ⟨z, R7, U7, R8, U8, h7, e4, rfl, rfl⟩ := bind_some e2
  obtain ⟨rfl, x0, k1, k2, k3, k4⟩ := Ve h7
  simp only [zl, List.nil_append] at e4 ⊢
  obtain ⟨z2, R9, U9, R10, U10, h9, e5, rfl, rfl⟩ := bind_some e4
  obtain ⟨_, _, rfl⟩ := wT e5
  have ⟨b, o', arr, ty, csy, Fy, cs, ev, o1, f2, f3, f4, f5, f6, f7, f8, f9, f10, f11, _⟩ := K5 h hq k1 k2 k3 k4
  have hals : TOk S w.heap st (Act.tv a) (.als r p er ec) (yc z csy) := ⟨by omega, by omega, by
   simp only [k1]
   exact fun _ _ => .inr ⟨o1, z, b, o', csy, k4, f11, f4.len, z0S f2 f3, rfl⟩⟩
  have ⟨S', Fp', g1, _⟩ := V9 h hals h9
  exact ⟨S', Fp', by simpa using g1⟩
 ·cases e2
theorem z7n (h : Sim C S Fp [] st a w)     (e : z7o k st = some (u, R, U)) : ∃ S' Fp', Sim C S' Fp' [] (zl U st) a w := by
 unfold z7o at e
 have ⟨_, e1⟩ := bD e
 split at e1
 ·exact z7p h e1
 ·exact z7r h e1
theorem z1N : ∀ {ks : List Nat} {S : zn} {Fp : Nat → List Nat} {st : St}, Sim C S Fp [] st a w → ∀ {u : Unit} {R : List Nat} {U : List (Nat × Ent)}, z3F ks st = some (u, R, U) → ∃ S' Fp', Sim C S' Fp' [] (zl U st) a w
 | [], S, Fp, st, h, u, R, U, e => by
  obtain ⟨_, rfl, rfl⟩ := wT e
  exact ⟨S, Fp, h⟩
 | k :: ks, S, Fp, st, h, u, R, U, e => by
  simp [z3F] at e
  obtain ⟨_, R1, U1, R2, U2, h1, e1, rfl, rfl⟩ := bind_some e
  have ⟨S1, Fp1, g1⟩ := z7n h h1
  rw [zz]
  exact z1N g1 e1
def zez : List H → List H
 | .n (m + 1) ks :: hs => .n m ks :: hs
 | .v (m + 1) ks :: hs => .v m ks :: hs
 | .stp (m + 1) :: hs => .stp m :: hs
 | hs => hs
def z0Q (rec : Code → List Fm → St → List H → z6Q) (X : XH P) (tt : TT) (ctr : Ctr) (n : Fr) (c : Code) (fs : List Fm) (st : St) (hs : List H) : z6Q :=
  match c with
  | .skip => goN rec (unw fs) st hs
  | .label _ => goN rec (unw fs) st hs
  | .ret => some (.fin .ret, st, hs, [])
   | .exit id => match z2P id fs with | some fs' => goN rec (unw fs') st hs | none => some (.fin (.exit id), st, hs, [])
  | .region _ ops d =>
   match z52 X tt ctr n ops ops.toList st hs with
   | some (st', hs', ob, lg) => if d = false ∨ KD ops.toList lg = true then zaO ob (goN rec (unw fs) st' hs') else none
   | none => none
  | .seq x y =>
   match hs with
   | .cut 0 :: hs' => some (.at (.seq x y) fs, st, hs', [])
   | .cut (m + 1) :: hs' => rec x (.seq y :: fs) st (.cut m :: hs')
   | hs => rec x (.seq y :: fs) st hs
  | .cond o x y =>
   match z3p st o with
   | some b =>
    match hs with
    | .b b' :: hs' => zaO [b = b'] (rec (match b' with | true => x | false => y) fs st hs')
    | _ => none
   | none => none
  | .block id c => rec c (.blk id :: fs) st hs
  | .loop c =>
   match hs with
   | .u m :: hs' => rec c (.rnd m c :: fs) st hs'
   | hs => some (.at (.loop c) fs, st, hs, [])
  | c => some (.at c fs, st, hs, [])
def z5h (X : XH P) (tt : TT) (ctr : Ctr) (n : Fr) : Nat → Code → List Fm → St → List H → z6Q
 | 0, _, _, _, _ => none
 | k + 1, c, fs, st, hs =>
  match hs with
  | .n 0 ks :: hs =>
   match uD (fun _ => none) (ks.map fun i => (.tmp i, 0)) st hs with
   | some (_, _, U, hs', ob) => zaO ob (z5h X tt ctr n k c fs (zl U st) hs')
   | none => none
  | .v 0 ks :: hs =>
   match z0U ks st hs with
   | some (_, _, U, hs', ob) => zaO ob (z5h X tt ctr n k c fs (zl U st) hs')
   | none => none
  | .stp 0 :: hs => some (.at c fs, st, hs, [])
  | hs => z0Q (z5h X tt ctr n k) X tt ctr n c fs st (zez hs)
variable {fs : List Fm}{rec : Code → List Fm → St → List H → z6Q}{hs : List H}
section
variable {P : Program} {tt : TT} {ctr : Ctr} {n : Fr} {Q : Exit → St → Prop}
theorem z1G {k : Nat}  (hrec : ∀ c fs st hs s st' hs' ob, rec c fs st hs = some (s, st', hs', ob) → KV ob → s.sem P n Q st' → AWP P n c st (Qf P n fs Q)) :
  ∀ (fs : List Fm) {st : St} {hs : List H} {s : Stop} {st' : St} {hs' : List H} {ob : List Prop}, goN rec (unw fs) st hs = some (s, st', hs', ob) → KV ob → s.sem P n Q st' → Qf P n fs Q .normal st
 | [], st, hs, s, st', hs', ob, e, ho, h => by
  simp only [unw, goN, Option.some.injEq, Prod.mk.injEq] at e
  obtain ⟨rfl, rfl, _⟩ := e
  exact h
 | .seq y :: fs, st, hs, s, st', hs', ob, e, ho, h => by
  simp only [unw, goN] at e
  exact hrec _ _ _ _ _ _ _ _ e ho h
 | .blk id :: fs, st, hs, s, st', hs', ob, e, ho, h => by
  simp only [unw] at e
  exact z1G (k := k) hrec fs e ho h
 | .pre J :: fs, st, hs, s, st', hs', ob, e, ho, h => by
  simp only [unw, goN, Option.some.injEq, Prod.mk.injEq] at e
  obtain ⟨rfl, rfl, _⟩ := e
  exact h
 | .rnd (m + 1) c :: fs, st, hs, s, st', hs', ob, e, ho, h => by
  simp only [unw, goN] at e
  exact hrec _ _ _ _ _ _ _ _ e ho h
 | .rnd 0 c :: fs, st, hs, s, st', hs', ob, e, ho, h => by
  simp only [unw, goN] at e
  cases e
theorem JO {id : Nat}  : ∀ (fs : List Fm) {fs' : List Fm}, z2P id fs = some fs' → Qf P n fs' Q .normal st → Qf P n fs Q (.exit id) st
 | [], fs', e, h => by cases e
 | .blk i :: fs, fs', e, h => by
  simp [z2P] at e
  simp [Qf, z0z]
  split at e
  ·rename_i hi
   cases e
   rw [if_pos hi]
   exact h
  ·rename_i hi
   rw [if_neg hi]
   exact JO fs e h
 | .seq y :: fs, fs', e, h => JO fs (by simpa only [z2P] using e) h
 | .pre J :: fs, fs', e, h => JO fs (by simpa only [z2P] using e) h
 | .rnd _ _ :: fs, fs', e, h => JO fs (by simpa only [z2P] using e) h
theorem z23 : ∀ (fs : List Fm), Q .ret st → Qf P n fs Q .ret st
 | [], h => h
 | .seq _ :: fs, h => z23 fs h
 | .blk _ :: fs, h => z23 fs h
 | .pre _ :: fs, h => z23 fs h
 | .rnd _ _ :: fs, h => z23 fs h
theorem K4 {id : Nat}  : ∀ (fs : List Fm), z2P id fs = none → Q (.exit id) st → Qf P n fs Q (.exit id) st
 | [], _, h => h
 | .blk i :: fs, e, h => by
  simp [z2P] at e
  simp [Qf, z0z]
  split at e
  ·cases e
  ·rename_i hi
   rw [if_neg hi]
   exact K4 fs e h
 | .seq y :: fs, e, h => K4 fs (by simpa only [z2P] using e) h
 | .pre J :: fs, e, h => K4 fs (by simpa only [z2P] using e) h
 | .rnd _ _ :: fs, e, h => K4 fs (by simpa only [z2P] using e) h
theorem UJ {ob : List Prop} {x : z6Q} {s : Stop}   {ob' : List Prop} (e : zaO ob x = some (s, st, hs, ob')) : ∃ ob2, x = some (s, st, hs, ob2) ∧ ob' = ob ++ ob2 := by
 cases x with
 | none => cases e
 | some q =>
  have ⟨s1, st1, hs1, ob1⟩ := q
  simp [zaO, Option.some.injEq, Prod.mk.injEq] at e
  obtain ⟨rfl, rfl, rfl, rfl⟩ := e
  exact ⟨ob1, rfl, rfl⟩
theorem AWP.label {l : Nat}   (h : Q .normal st) : AWP P n (.label l) st Q := fun _ _ _ _ _ _ _ _ _ _ hc hs => wpIn_label (hc.fin hs h)
theorem z7h (X : XH P) (hT : wG P tt) (hC : zO P ctr) (hm : P.follows .mixedOrders = true)  (ih : ∀ c fs st hs s st' hs' ob, rec c fs st hs = some (s, st', hs', ob) → KV ob → s.sem P n Q st' → AWP P n c st (Qf P n fs Q)) (c : Code) (fs : List Fm) (st : St) (hs : List H) (s : Stop) (st' : St) (hs' : List H) (ob : List Prop)
  (e : z0Q rec X tt ctr n c fs st hs = some (s, st', hs', ob)) (ho : KV ob) (h : s.sem P n Q st') : AWP P n c st (Qf P n fs Q) := by
 cases c with
 | skip => exact AWP.skip (z1G (k := 0) ih fs e ho h)
 | label l => exact AWP.label (z1G (k := 0) ih fs e ho h)
 | ret =>
  simp only [z0Q, Option.some.injEq, Prod.mk.injEq] at e
  obtain ⟨rfl, rfl, _⟩ := e
  exact AWP.ret (z23 fs h)
 | exit id =>
  simp only [z0Q] at e
  cases hx : z2P id fs with
  | none =>
   simp only [hx, Option.some.injEq, Prod.mk.injEq] at e
   obtain ⟨rfl, rfl, _⟩ := e
   exact AWP.exit (K4 fs hx h)
  | some fs' =>
   simp only [hx] at e
   exact AWP.exit (JO fs hx (z1G (k := 0) ih fs' e ho h))
 | region id ops d =>
  simp only [z0Q] at e
  cases hx : z52 X tt ctr n ops ops.toList st hs with
  | none => simp only [hx] at e; cases e
  | some q =>
   have ⟨st1, hs1, ob1, lg⟩ := q
   simp only [hx] at e
   by_cases hd : d = false ∨ KD ops.toList lg = true
   ·rw [if_pos hd] at e
    obtain ⟨ob2, e2, rfl⟩ := UJ e
    have ⟨o1, o2⟩ := xy ho
    have hq := z1G (k := 0) ih fs e2 o2 h
    cases d with
    | false => exact AWP.region hT (hC.withE X.ok) (z3E _ _ _ hx o1 hq)
    | true => exact AWP.drawn hT (hC.withE X.ok) hm (z1M _ _ _ [] hx o1 (by simpa using hd) hq)
   ·rw [if_neg hd] at e; cases e
 | seq x y =>
  have gen : ∀ hs, rec x (.seq y :: fs) st hs = some (s, st', hs', ob) → AWP P n (.seq x y) st (Qf P n fs Q) := fun hs e => AWP.seq (ih _ _ _ _ _ _ _ _ e ho h)
  rcases hs with _ | ⟨q, hs⟩
  ·exact gen _ e
  ·cases q with
   | cut m =>
    cases m with
    | zero =>
     simp only [z0Q, Option.some.injEq, Prod.mk.injEq] at e
     obtain ⟨rfl, rfl, _⟩ := e
     exact h
    | succ m => exact gen _ e
   | _ => exact gen _ e
 | cond o x y =>
  simp only [z0Q] at e
  cases hb : z3p st o with
  | none => simp only [hb] at e; cases e
  | some b =>
   simp only [hb] at e
   rcases hs with _ | ⟨q, hs⟩
   ·cases e
   ·cases q with
    | b b' =>
     obtain ⟨ob2, e2, rfl⟩ := UJ e
     have h1 : b = b' := ho.1
     subst h1
     cases b with
     | true => exact AWP.condT hb (ih _ _ _ _ _ _ _ _ e2 ho.2 h)
     | false => exact AWP.condF hb (ih _ _ _ _ _ _ _ _ e2 ho.2 h)
    | _ => cases e
 | block id c => exact AWP.block (ih _ _ _ _ _ _ _ _ e ho h)
 | loop c =>
  have gen : some (Stop.at (.loop c) fs, st, hs, ([] : List Prop)) = some (s, st', hs', ob) → AWP P n (.loop c) st (Qf P n fs Q) := by
   intro e
   cases e
   exact h
  rcases hs with _ | ⟨q, hs⟩
  ·exact gen e
  ·cases q with
   | u m => exact zaS.loop (m + 1) st (ih _ _ _ _ _ _ _ _ e ho h)
   | _ => exact gen e
 | _ =>
  simp only [z0Q, Option.some.injEq, Prod.mk.injEq] at e
  obtain ⟨rfl, rfl, _⟩ := e
  exact h
theorem JZ (X : XH P) (hT : wG P tt) (hC : zO P ctr) (hm : P.follows .mixedOrders = true) : ∀ (k : Nat) (c : Code) (fs : List Fm) (st : St) (hs : List H) (s : Stop) (st' : St) (hs' : List H) (ob : List Prop),
  z5h X tt ctr n k c fs st hs = some (s, st', hs', ob) → KV ob → s.sem P n Q st' → AWP P n c st (Qf P n fs Q) := by
 intro k
 induction k with
 | zero => intro c fs st hs s st' hs' ob e; cases e
 | succ k ih =>
  intro c fs st hs s st' hs' ob e ho h
  have gen : ∀ hs, z0Q (z5h X tt ctr n k) X tt ctr n c fs st hs = some (s, st', hs', ob) → AWP P n c st (Qf P n fs Q) := fun hs e => z7h X hT hC hm ih c fs st hs s st' hs' ob e ho h
  rcases hs with _ | ⟨q, hs⟩
  ·exact gen _ e
  ·cases q with
   | v m ks =>
    cases m with
    | zero =>
     simp only [z5h] at e
     cases hx : z0U ks st hs with
     | none => simp only [hx] at e; cases e
     | some q =>
      have ⟨xs, R, U, hs1, ob1⟩ := q
      simp only [hx] at e
      obtain ⟨ob2, e2, rfl⟩ := UJ e
      have ⟨o1, o2⟩ := xy ho
      have h1 := z3H _ _ _ _ _ _ _ _ hx o1
      have h2 := ih c fs _ _ _ _ _ _ e2 o2 h
      intro rd m df w0 S0 M S Fp a w hc hs
      have ⟨S', Fp', g1⟩ := z1N hs h1
      exact h2 rd m df w0 S0 M S' Fp' a w hc g1
    | succ m => exact gen _ e
   | n m ks =>
    cases m with
    | zero =>
     simp only [z5h] at e
     cases hx : uD (fun _ => none) (ks.map fun i => (.tmp i, 0)) st hs with
     | none => simp only [hx] at e; cases e
     | some q =>
      have ⟨xs, R, U, hs1, ob1⟩ := q
      simp only [hx] at e
      obtain ⟨ob2, e2, rfl⟩ := UJ e
      have ⟨o1, o2⟩ := xy ho
      have h1 := qI (fun _ => none) _ _ _ _ _ _ _ _ hx o1
      have h2 := ih c fs _ _ _ _ _ _ e2 o2 h
      intro rd m df w0 S0 M S Fp a w hc hs
      have ⟨S', Fp', g1, _⟩ := wS hs h1
      exact h2 rd m df w0 S0 M S' Fp' a w hc g1
    | succ m => exact gen _ e
   | stp m =>
    cases m with
    | zero =>
     simp only [z5h, Option.some.injEq, Prod.mk.injEq] at e
     obtain ⟨rfl, rfl, _⟩ := e
     exact h
    | succ m => exact gen _ e
   | _ => exact gen _ e
structure Ob where
 p : Prop
 h : p
def ob {p : Prop} (h : p) : Ob := ⟨p, h⟩
theorem z3U : ∀ (l : List Ob), KV (l.map Ob.p)
 | [] => trivial
 | o :: l => ⟨o.h, z3U l⟩
def z1u (X : XH P) (tt : TT) (ctr : Ctr) (n : Fr) (live : List Nat) (k : Nat) (c : Code) (fs : List Fm) (st : St) (hs : List H) : Option (Stop × St × List Prop) :=
 match z5h X tt ctr n k c fs st hs with
 | some (s, st', [], ob) => some (s, canon live st', ob)
 | _ => none
theorem z3t (X : XH P) (hT : wG P tt) (hC : zO P ctr) (hm : P.follows .mixedOrders = true) (live : List Nat) (k : Nat) {c : Code} {fs : List Fm} {st : St} {hs : List H} {s : Stop} {st' : St} (obs : List Ob)
  (e : z1u X tt ctr n live k c fs st hs = some (s, st', obs.map Ob.p)) (h : ∀ st0, canon live st0 = st' → s.sem P n Q st0) : AWP P n c st (Qf P n fs Q) := by
 unfold z1u at e
 split at e
 ·rename_i s1 st1 ob1 e1
  simp [Option.some.injEq, Prod.mk.injEq] at e
  obtain ⟨rfl, h1, rfl⟩ := e
  exact JZ X hT hC hm k c fs st hs _ _ _ _ e1 (z3U obs) (h _ h1)
 ·cases e
def sub : List Nat → Code → Code
 | [], c => c
 | 0 :: p, .seq x _ => sub p x
 | 1 :: p, .seq _ y => sub p y
 | 2 :: p, .seq x _ => sub p x
 | 0 :: p, .cond _ x _ => sub p x
 | 1 :: p, .cond _ _ y => sub p y
 | _ :: p, .block _ c => sub p c
 | _ :: p, .loop c => sub p c
 | _ :: p, .scope c => sub p c
 | 0 :: p, .rangeFunc _ _ c _ => sub p c
 | 1 :: p, .rangeFunc _ _ _ c => sub p c
 | _ :: _, c => c
def frs : List Nat → List (St → Prop) → Code → List Fm → List Fm
 | [], _, _, fs => fs
 | 0 :: p, Js, .seq x y, fs => frs p Js x (.seq y :: fs)
 | 1 :: p, Js, .seq _ y, fs => frs p Js y fs
 | 2 :: p, J :: Js, .seq x _, fs => frs p Js x (.pre J :: fs)
 | 0 :: p, Js, .cond _ x _, fs => frs p Js x fs
 | 1 :: p, Js, .cond _ _ y, fs => frs p Js y fs
 | _ :: p, Js, .block id c, fs => frs p Js c (.blk id :: fs)
 | (m + 3) :: p, Js, .loop c, fs => frs p Js c (.rnd m c :: fs)
 | _ :: p, J :: Js, .loop c, fs => frs p Js c (.pre J :: fs)
 | _ :: p, Js, .scope c, fs => frs p Js c fs
 | 0 :: p, Js, .rangeFunc _ _ c _, _ => frs p Js c []
 | 1 :: p, Js, .rangeFunc _ _ _ c, _ => frs p Js c []
 | _ :: _, _, _, fs => fs
end
class LeA (x y : A) : Prop where
 rep : ∀ S cs, Rep S x cs → Rep S y cs
 conc : ∀ S h cs F, zH S h x cs F → zH S h y cs F
 val : ∀ cs, yc x cs = yc y cs
 tup : ∀ fs, x = .tup fs → y = x
class z2R (xs ys : List A) : Prop where
 rep : ∀ S cs, yw S xs cs → yw S ys cs
 conc : ∀ S h cs F, zL S h xs cs F → zL S h ys cs F
 len : xs.length = ys.length
 size : ∀ sz, (∀ x ∈ xs, x.size = sz) → ∀ y ∈ ys, y.size = sz
instance (priority := 2000) LeA.refl (x : A) : LeA x x := ⟨fun _ _ h => h, fun _ _ _ _ h => h, fun _ => rfl, fun _ _ => rfl⟩
instance (priority := 2000) z2R.refl (x : List A) : z2R x x := ⟨fun _ _ h => h, fun _ _ _ _ h => h, rfl, fun _ h => h⟩
theorem Qi {S : zn} {xs ys : List A} (hl : xs.length = ys.length) (h : xs = []) : ys = [] := by
 subst h; exact List.length_eq_zero_iff.1 hl.symm
instance LeA.osl (sz : Nat) (t : Bool) (xs ys : List A) [h : z2R xs ys] : LeA (.osl sz t xs) (.osl sz false ys) := {
 rep := fun S cs q => by simp only [Rep] at q
 conc := fun S hp cs F q => by
  simp only [zH] at q ⊢
  have ⟨p, c, e, h1, h2, h3, h4, h5⟩ := q
  refine ⟨p, c, by rw [← h.len]; exact e, by simp, by rw [← h.len]; exact h2, h3, h.size _ h4, ?_⟩
  rcases h5 with ⟨q1, q2, q3, q4⟩ | ⟨b, arr, ty, l, F', e1, e2, e3, e4, e5, e6, e7⟩
  ·exact .inl ⟨Qi (S := S) h.len q1, q2, q3, q4⟩
  ·exact .inr ⟨b, arr, ty, l, F', e1, e2, e3, by rw [← h.len]; exact e4, h.conc _ _ _ _ e5, e6, e7⟩
 val := fun _ => rfl
 tup := fun _ e => by cases e }
instance LeA.sl (sz : Nat) (t : Bool) (xs ys : List A) [h : z2R xs ys] : LeA (.sl sz t xs) (.sl sz false ys) := {
 rep := fun S cs q => by
  simp only [Rep] at q ⊢
  have ⟨p, c, e, h1, h2, h3, h4⟩ := q
  refine ⟨p, c, by rw [← h.len]; exact e, by simp, by rw [← h.len]; exact h2, h.size _ h3, ?_⟩
  rcases h4 with q | ⟨b, o, l, q1, q2, q3⟩
  ·exact .inl (Qi (S := S) h.len q)
  ·exact .inr ⟨b, o, l, q1, h.rep _ _ q2, q3⟩
 conc := fun S hp cs F q => by
  simp only [zH] at q ⊢
  refine ⟨?_, q.2⟩
  have q := q.1
  simp only [Rep] at q ⊢
  have ⟨p, c, e, h1, h2, h3, h4⟩ := q
  refine ⟨p, c, by rw [← h.len]; exact e, by simp, by rw [← h.len]; exact h2, h.size _ h3, ?_⟩
  rcases h4 with q | ⟨b, o, l, q1, q2, q3⟩
  ·exact .inl (Qi (S := S) h.len q)
  ·exact .inr ⟨b, o, l, q1, h.rep _ _ q2, q3⟩
 val := fun _ => rfl
 tup := fun _ e => by cases e }
instance LeA.agg (xs ys : List A) [h : z2R xs ys] : LeA (.agg xs) (.agg ys) := {
 rep := fun S cs q => by simp [Rep] at q ⊢; exact h.rep _ _ q
 conc := fun S hp cs F q => by simp [zH] at q ⊢; exact h.conc _ _ _ _ q
 val := fun _ => rfl
 tup := fun _ e => by cases e }
instance LeA.box (x y : A) [h : LeA x y] : LeA (.box x) (.box y) := {
 rep := fun S cs q => by simp [Rep] at q
 conc := fun S hp cs F q => by
  simp [zH] at q ⊢
  have ⟨b, ty, l, F', e1, e2, e3, e4, e5⟩ := q
  exact ⟨b, ty, l, F', e1, e2, h.conc _ _ _ _ e3, e4, e5⟩
 val := fun _ => rfl
 tup := fun _ e => by cases e }
class SzA (x y : A) : Prop where
 eq : x.size = y.size
instance (priority := 2000) SzA.refl (x : A) : SzA x x := ⟨rfl⟩
class zaP (x y : List A) : Prop where
 eq : A.sizes x = A.sizes y
instance zaP.nil : zaP [] [] := ⟨rfl⟩
instance zaP.cons (x y : A) (xs ys : List A) [h : SzA x y] [k : zaP xs ys] : zaP (x :: xs) (y :: ys) := ⟨by simp [A.sizes, h.eq, k.eq]⟩
instance SzA.agg (xs ys : List A) [h : zaP xs ys] : SzA (.agg xs) (.agg ys) := ⟨by simp [A.size, h.eq]⟩
instance z2R.nil : z2R [] [] := z2R.refl []
instance z2R.cons (x y : A) (xs ys : List A) [h : LeA x y] [z : SzA x y] [k : z2R xs ys] : z2R (x :: xs) (y :: ys) := {
 rep := fun S cs q => by
  simp [yw] at q ⊢
  have ⟨c1, c2, e, q1, q2⟩ := q
  exact ⟨c1, c2, e, h.rep _ _ q1, k.rep _ _ q2⟩
 conc := fun S hp cs F q => by
  simp [zL] at q ⊢
  have ⟨c1, c2, F1, F2, e, e2, q1, q2⟩ := q
  exact ⟨c1, c2, F1, F2, e, e2, h.conc _ _ _ _ q1, k.conc _ _ _ _ q2⟩
 len := by simp [k.len]
 size := fun sz q => by
  intro y' hy
  rcases List.mem_cons.1 hy with rfl | hy
  ·rw [← z.eq]; exact q x (by simp)
  ·exact k.size sz (fun x hx => q x (by simp [hx])) y' hy }
variable {α : Type}
theorem zbM {f g : α → A} (h : ∀ x, LeA (f x) (g x)) (z : ∀ x, SzA (f x) (g x)) : ∀ l : List α, z2R (l.map f) (l.map g)
 | [] => z2R.nil
 | x :: l => @z2R.cons _ _ _ _ (h x) (z x) (zbM h z l)
instance z2R.map {α : Type} (f g : α → A) [h : ∀ x, LeA (f x) (g x)] [z : ∀ x, SzA (f x) (g x)] (l : List α) : z2R (l.map f) (l.map g) := zbM h z l
variable {v : Value}
theorem LeA.repV {x y : A} (h : LeA x y)   (q : we S x v) : we S y v := by
 by_cases ht : ∃ fs, x = .tup fs
 ·obtain ⟨fs, rfl⟩ := ht
  rw [h.tup fs rfl]; exact q
 ·have q1 : u6 S x v := by cases x <;> simp [we] at q <;> first | exact q | exact absurd ⟨_, rfl⟩ ht
  have ⟨cs, c1, c2⟩ := q1
  exact u6.repV ⟨cs, h.rep _ _ c1, by rw [← h.val]; exact c2⟩
class LeV (x y : A) : Prop where
 has : ∀ S h v F, Has S h x v F → Has S h y v F
instance (priority := 2000) LeV.refl (x : A) : LeV x x := ⟨fun _ _ _ _ h => h⟩
instance LeV.one (x y : A) [h : LeA x y] : LeV x y := ⟨fun S hp v F q => by
 rcases q with ⟨q, e⟩ | ⟨cs, q1, q2, q3⟩
 ·exact .inl ⟨h.repV q, e⟩
 ·exact .inr ⟨cs, h.conc _ _ _ _ q1, q2, by rw [← h.val]; exact q3⟩⟩
class KO (xs ys : List A) : Prop where
 all : ∀ S vs, ZW (u6 S) xs vs → ZW (u6 S) ys vs
instance KO.nil : KO [] [] := ⟨fun _ _ h => h⟩
instance KO.cons (x y : A) (xs ys : List A) [h : LeA x y] [k : KO xs ys] : KO (x :: xs) (y :: ys) := ⟨fun S vs q => by
 cases vs with
 | nil => exact q.elim
 | cons v vs =>
  refine ⟨?_, k.all S vs q.2⟩
  have ⟨cs, c1, c2⟩ := q.1
  exact ⟨cs, h.rep _ _ c1, by rw [← h.val]; exact c2⟩⟩
instance LeV.tup (xs ys : List A) [k : KO xs ys] : LeV (.tup xs) (.tup ys) := ⟨fun S hp v F q => by
 rcases q with ⟨q, e⟩ | ⟨cs, q1, q2, q3⟩
 ·simp [we] at q
  have ⟨vs, e2, q⟩ := q
  exact .inl ⟨by simp [we]; exact ⟨vs, e2, k.all _ _ q⟩, e⟩
 ·simp [zH] at q1⟩
def LeT : T → T → Prop
 | .own x, y => ∃ z, y = .own z ∧ LeA x z
 | .d x, y => ∃ z, y = .d z ∧ LeA x z
 | .als r p er ec, y => p = [] ∧ y = .als r [] er ec
 | .gone, y => y = .gone
 | _, _ => False
class z3v (l m : List (Nat × T)) : Prop where
 ent : ∀ t, (ofL l t).er = (ofL m t).er ∧ (ofL l t).ec = (ofL m t).ec ∧ LeT (ofL l t).t (ofL m t).t
instance z3v.nil : z3v [] [] := ⟨fun t => ⟨rfl, rfl, rfl⟩⟩
theorem z3v.cons' {x y : T} {l m : List (Nat × T)} (h : LeT x y) (hl : z3v l m) : z3v ((k, x) :: l) ((k, y) :: m) := ⟨fun t => by
 simp [ofL]
 split
 ·exact ⟨rfl, rfl, h⟩
 ·exact hl.ent t⟩
instance z3v.own (k : Nat) (x y : A) (l m : List (Nat × T)) [h : LeA x y] [hl : z3v l m] : z3v ((k, .own x) :: l) ((k, .own y) :: m) := z3v.cons' ⟨y, rfl, h⟩ hl
instance z3v.d (k : Nat) (x y : A) (l m : List (Nat × T)) [h : LeA x y] [hl : z3v l m] : z3v ((k, .d x) :: l) ((k, .d y) :: m) := z3v.cons' ⟨y, rfl, h⟩ hl
class LeL (l m : List (Nat × T)) : Prop where
 or : l = m ∨ z3v l m
instance (priority := 2000) LeL.refl (l : List (Nat × T)) : LeL l l := ⟨.inl rfl⟩
instance LeL.of0 (l m : List (Nat × T)) [h : z3v l m] : LeL l m := ⟨.inr h⟩
variable {X : List Nat}
theorem Sim.le {st st' : St}   (h : Sim C S Fp X st a w) (hl : ∀ t, (st t).er = (st' t).er ∧ (st t).ec = (st' t).ec ∧ LeT (st t).t (st' t).t) : Sim C S Fp X st' a w := {
 size := h.size
 pin := h.pin
 defers := h.defers
 below := h.below
 mine := h.mine
 still := h.still
 sinc := h.sinc
 sbase := h.sbase
 disj := h.disj
 base := h.base
 xn := h.xn
 xd := h.xd
 xb := h.xb
 ent := fun t => by
  have q := h.ent t
  have ⟨_, _, l3⟩ := hl t
  unfold xV at q ⊢
  cases ht : (st t).t with
  | gone =>
   simp only [ht, LeT] at l3 q
   simp only [l3]; exact q
  | d x =>
   simp only [ht, LeT] at l3 q
   have ⟨z, e, l3⟩ := l3
   simp only [e]; exact ⟨l3.repV q.1, q.2⟩
  | own x =>
   simp only [ht, LeT] at l3 q
   have ⟨z, e, l3⟩ := l3
   simp only [e]
   have ⟨cs, q1, q2, q3⟩ := q
   exact ⟨cs, l3.conc _ _ _ _ q1, q2, by rw [← l3.val]; exact q3⟩
  | als r p er ec =>
   simp only [ht, LeT] at l3 q
   obtain ⟨rfl, e⟩ := l3
   simp only [e]
   refine ⟨q.1, ?_⟩
   have ⟨q1, q2, q3⟩ := q.2
   have ⟨r1, r2, r3⟩ := hl r
   unfold Xt
   refine ⟨by rw [← r1]; exact q1, by rw [← r2]; exact q2, ?_⟩
   cases hr : (st r).t with
   | own x =>
    simp only [hr, LeT] at q3 r3
    have ⟨z, e2, _⟩ := r3
    simp only [e2]
    intro g1 g2
    rcases q3 (by rw [r1]; exact g1) (.inl trivial) with g | g
    ·exact .inl g
    ·simp [Vn] at g
   | d x =>
    simp only [hr, LeT] at q3 r3
    have ⟨z, e2, _⟩ := r3
    simp only [e2]
    intro g1 _
    exact q3 (by rw [r1]; exact g1) trivial
   | gone => simp only [hr, LeT] at r3; simp only [r3]
   | als u p e1 e2 => simp only [hr, LeT] at r3; simp only [r3.2]
   | ptr u p e1 e2 => simp only [hr, LeT] at r3
  | ptr r p er ec => simp only [ht, LeT] at l3 }
variable {fn : Func}{body : Code}{r : A}{st0 : St}{E : St → Prop}{keep : Bool}
section
variable {P : Program} {tt : TT} {ctr : Ctr} {n : Fr} {Q : Exit → St → Prop}
theorem zay {l m : List (Nat × T)} (h : LeL l m) (k : AWP P n c (ofL m) Q) : AWP P n c (ofL l) Q :=
 h.or.elim (fun e => e ▸ k) fun h => fun rd mm df w0 S0 M S Fp a w hc hs => k rd mm df w0 S0 M S Fp a w hc (hs.le h.ent)
theorem z8q {X : Type} {c c' : Code} {fs : List Fm}  (e : c = .loop c') (live : List Nat) (Inv : X → Prop) (mu : X → Nat) (stOf : X → List (Nat × T)) (x0 : X) (l0 : List (Nat × T)) (hs : canon live st0 = ofL l0) (hl : LeL l0 (stOf x0)) (h0 : Inv x0)
  (round : ∀ x, Inv x → ∀ J : St → Prop, (∀ st' l' x', Inv x' → mu x' < mu x → canon live st' = ofL l' → LeL l' (stOf x') → J st') → AWP P n c' (ofL (stOf x)) (Qf P n (.pre J :: fs) Q)) : AWP P n c st0 (Qf P n fs Q) := by
 subst e
 refine AWP.loop live (fun k st => ∃ x l, Inv x ∧ mu x = k ∧ st = ofL l ∧ LeL l (stOf x)) (mu x0) ⟨x0, l0, h0, rfl, hs, hl⟩ ?_
 rintro k st ⟨x, l, hx, rfl, rfl, hl⟩
 refine zay hl ?_
 exact round x hx _ fun st' l' x' h1 h2 h3 h4 => ⟨_, h2, x', l', h1, rfl, h3, h4⟩
theorem z8r {X : Type} {c x y : Code}   (e : c = .seq x y) (live live0 : List Nat) (l0 : List (Nat × T)) (hs : canon live0 st0 = ofL l0) (Inv : X → Prop) (stJ : X → List (Nat × T)) (h1 : ∀ z, Inv z → AWP P n y (ofL (stJ z)) (Qf P n fs Q))
  (h2 : ∀ J : St → Prop, (∀ st' l' z, Inv z → canon live st' = ofL l' → LeL l' (stJ z) → J st') → AWP P n x (ofL l0) (Qf P n (.pre J :: fs) Q)) : AWP P n c st0 (Qf P n fs Q) := by
 subst e
 refine AWP.canon live0 ?_
 rw [hs]
 refine AWP.nextC live fun K hK => h2 K fun st' l' z hz he hl => hK st' ?_
 rw [he]
 exact zay hl (h1 z hz)
def z5s (tt : TT) (keep : Bool) (rs : List (Nat × Option Nat)) : SM A :=
 match keep, rs with
 | true, [(t, none)] => zbw tt true [t]
 | _, rs => zbv tt rs
def z7C (tt : TT) (keep : Bool) (rs : List (Nat × Option Nat)) : HM A :=
 match keep, rs with
 | true, [(t, none)] => yk (zbw tt true [t])
 | _, rs => uD tt (rs.map fun r => (.tmp r.1, 0)) >>= fun xs =>
  match kY tt rs xs with
  | some [y] => pure y
  | some ys => pure (.tup ys)
  | none => zF
theorem z8M (tt : TT) (rs : List (Nat × Option Nat)) : Snd (zbv tt rs) (uD tt (rs.map fun r => (.tmp r.1, 0)) >>= fun xs =>
  match kY tt rs xs with
  | some [y] => pure y
  | some ys => pure (.tup ys)
  | none => zF) := by
 refine zk (qI _ _) fun xs => ?_
 cases kY tt rs xs with
 | none => exact zp _
 | some ys => rcases ys with _ | ⟨y, _ | ⟨z, l⟩⟩ <;> exact wB _
theorem zbj (tt : TT) (keep : Bool) (rs : List (Nat × Option Nat)) : Snd (z5s tt keep rs) (z7C tt keep rs) := by
 cases keep with
 | false => rcases rs with _ | ⟨⟨t, _ | ty⟩, _ | ⟨q, l⟩⟩ <;> exact z8M _ _
 | true => rcases rs with _ | ⟨⟨t, _ | ty⟩, _ | ⟨q, l⟩⟩ <;> first | exact zo _ | exact z8M _ _
theorem z8l {n : Fr}   {keep : Bool} {rs : List (Nat × Option Nat)} {ls : List A} {r : A} (hT : wG P tt) (hf : P.funcs[k]? = some fn) (hnm : (fn.name == "runtime.NumGoroutine") = false) (hb : fn.body = some body)
  (hn : n = ⟨fn.ntmps, []⟩) (hr : fn.results = (rs.map z1H).toArray) (ha : ls.length ≤ fn.ntmps)
  (h : ∀ E : St → Prop, (∀ st x R U, z5s tt keep rs st = some (x, R, U) → LeV x r → E st) → AWP P n body (ofL (z4J 0 ls)) (Qf P n [] (z6L E))) : XJ P k ls r := by
 have h' := h (fun st => ∃ x R U, z5s tt keep rs st = some (x, R, U) ∧ LeV x r) fun st x R U h1 h2 => ⟨x, R, U, h1, h2⟩
 refine ⟨⟨fn, hf, hnm, by rw [hb]; rfl⟩, ?_⟩
 intro S w vs F hS hq hF
 have h2 : AWP P n body (ini ls) (fun ex st => (ex = .normal ∨ ex = .ret) ∧ ∃ x R U, z5s tt keep rs st = some (x, R, U) ∧ LeV x r) := by
  rw [z41]
  refine AWP.mono h' ?_
  intro e st q
  cases e with
  | normal => exact ⟨.inl rfl, q⟩
  | ret => exact ⟨.inr rfl, q⟩
  | _ => exact q.elim
 refine Qu (R := fun w e w' => ∃ v' S' F', e = .returned v' ∧ Xr (fun k => w.heap.size ≤ k ∨ k ∈ F) w w' ∧ (∀ b o u, S b o = some u → S' b o = some u) ∧ (∀ b o, b < w.heap.size → b ∉ F → S' b o = S b o) ∧ wN S' w' ∧ Has S' w'.heap r v' F' ∧ F'.Nodup ∧
   ∀ k ∈ F', w.heap.size ≤ k ∨ k ∈ F) hf hb (by rw [hn]) (by rw [hn]; simp) ha hS hq hF h2 ?_
 rintro ex st' ⟨hx, x, R, U, h3, h4⟩
 refine ⟨hx, ?_⟩
 intro df S' Fp' a' w' h1
 have gcase : zbv tt rs st' = some (x, R, U) → ∃ v, (results fn a'.tmps).run P w' = .ok v w' ∧ ∃ v' S' F', Ending.returned v = .returned v' ∧ Xr (fun k => w.heap.size ≤ k ∨ k ∈ F) w w' ∧ (∀ b o u, S b o = some u → S' b o = some u) ∧ (∀ b o, b < w.heap.size → b ∉ F → S' b o = S b o) ∧ wN S' w' ∧ Has S' w'.heap r v' F' ∧ F'.Nodup ∧
   ∀ k ∈ F', w.heap.size ≤ k ∨ k ∈ F := by
  intro he
  have ⟨v, S2, hres, g1, g2, g3, g4⟩ := za3 (P := P) hT hr h1 he
  refine ⟨_, hres, _, S2, [], rfl, h1.below, fun b o u hu => g1 _ _ _ (h1.sinc _ _ _ hu), ?_, g3, h4.has _ _ _ _ (.inl ⟨g4, rfl⟩), by simp, by simp⟩
  intro b o hb' hbF
  exact g2 b o (by rintro (hq | hq) <;> first | omega | exact hbF hq)
 cases keep with
 | false => exact gcase (by rcases rs with _ | ⟨⟨t, _ | ty⟩, _ | ⟨q, l⟩⟩ <;> exact h3)
 | true =>
  rcases rs with _ | ⟨⟨t, _ | ty⟩, _ | ⟨q, l⟩⟩
  ·exact gcase h3
  ·have h3' : zbw tt true [t] st' = some (x, R, U) := h3
   have ⟨hl, S2, F', g1, g2, g3, g4, g5, g6⟩ := za4 h1 h3'
   refine ⟨_, z34 (P := P) (ts := [t]) hr hl a' w', _, S2, F', rfl, h1.below, fun b o u hu => g1 _ _ _ (h1.sinc _ _ _ hu), ?_, g3, h4.has _ _ _ _ g4, g5, g6⟩
   intro b o hb' hbF
   exact g2 b o (by rintro (hq | hq) <;> first | omega | exact hbF hq)
  ·exact gcase h3
  ·exact gcase h3
  ·exact gcase h3
def zaJ (X : XH P) (tt : TT) (ctr : Ctr) (n : Fr) (keep : Bool) (rs : List (Nat × Option Nat)) (k : Nat) (c : Code) (fs : List Fm) (st : St) (hs : List H) : Option (A × List Prop) :=
 match z5h X tt ctr n k c fs st hs with
 | some (.fin .normal, st', hs', ob) => match z7C tt keep rs st' hs' with | some (x, _, _, [], ob') => some (x, ob ++ ob') | _ => none
 | some (.fin .ret, st', hs', ob) => match z7C tt keep rs st' hs' with | some (x, _, _, [], ob') => some (x, ob ++ ob') | _ => none
 | _ => none
theorem z94 (X : XH P) (hT : wG P tt) (hC : zO P ctr) (hm : P.follows .mixedOrders = true)    {rs : List (Nat × Option Nat)} (hE : ∀ st x R U, z5s tt keep rs st = some (x, R, U) → LeV x r → E st) (k : Nat) {c : Code} {fs : List Fm} {st : St} {hs : List H} {x : A} (obs : List Ob)
  (e : zaJ X tt ctr n keep rs k c fs st hs = some (x, obs.map Ob.p)) (hle : LeV x r) : AWP P n c st (Qf P n fs (z6L E)) := by
 unfold zaJ at e
 have fin : ∀ {st' hs' ob}, (match z7C tt keep rs st' hs' with | some (x, _, _, [], ob') => some (x, ob ++ ob') | _ => none) = some (x, obs.map Ob.p) → KV ob ∧ E st' := by
  intro st' hs' ob e
  split at e
  ·rename_i x1 R U ob' he
   simp [Option.some.injEq, Prod.mk.injEq] at e
   obtain ⟨rfl, e2⟩ := e
   have ha := z3U obs
   rw [← e2] at ha
   have ⟨o1, o2⟩ := xy ha
   exact ⟨o1, hE _ _ _ _ (zbj tt keep rs _ _ _ _ _ _ _ he o2) hle⟩
  ·cases e
 split at e
 ·rename_i st' hs' ob' he
  have ⟨h1, h2⟩ := fin e
  exact JZ X hT hC hm k c fs st hs _ _ _ _ he h1 h2
 ·rename_i st' hs' ob' he
  have ⟨h1, h2⟩ := fin e
  exact JZ X hT hC hm k c fs st hs _ _ _ _ he h1 h2
 ·cases e
end
abbrev w64 (x : Int) : Int := IntKind.i64.wrap x
def idx (l : List α) : Int → Option α
 | .ofNat n => l[n]?
 | .negSucc _ => none
inductive LR (σ τ : Type) where
 | next (s : σ)
 | done (t : τ)
variable {σ τ : Type}
def Vo (step : σ → Option (LR σ τ)) (n : Nat) : σ → Option τ :=
 Nat.rec (fun _ => none) (fun _ ih s => match step s with | none => none | some (.next s') => ih s' | some (.done t) => some t) n
def fuel : Nat := 18446744073709551616
def loop (step : σ → Option (LR σ τ)) (s : σ) : Option τ := Vo step fuel s
def zcr (step : σ → Option (LR σ τ)) (m : Nat) (t : τ) : LR σ τ → Prop
 | .next s' => Vo step m s' = some t
 | .done t' => t' = t
theorem zcR {step : σ → Option (LR σ τ)} {n : Nat} {s : σ} {t : τ} (h : Vo step n s = some t) : ∃ m lr, n = m + 1 ∧ step s = some lr ∧ zcr step m t lr := by
 cases n with
 | zero => cases h
 | succ m =>
  have h' : (match step s with | none => none | some (.next s') => Vo step m s' | some (.done t) => some t) = some t := h
  cases hs : step s with
  | none => simp [hs] at h'
  | some lr =>
   refine ⟨m, lr, rfl, rfl, ?_⟩
   cases lr with
   | next s' => simp [hs] at h'; exact h'
   | done t' => simp [hs, Option.some.injEq] at h'; exact h'
theorem zj {α β : Type} {x : Option α} {f : α → Option β} {r : β} (h : Option.bind x f = some r) : ∃ u, x = some u ∧ f u = some r := by
 cases x with
 | none => cases h
 | some u => exact ⟨u, rfl, h⟩
theorem zJ {c : Bool} {x y : Option α} {r : α} (h : (bif c then x else y) = some r) : (c = true ∧ x = some r) ∨ (c = false ∧ y = some r) := by
 cases c
 ·exact .inr ⟨rfl, h⟩
 ·exact .inl ⟨rfl, h⟩
def gd (p : Prop) [Decidable p] (x : Option α) : Option α := if p then x else none
theorem gdE {p : Prop} [Decidable p] {x : Option α} {r : α} (h : gd p x = some r) : p ∧ x = some r := by
 unfold gd at h
 by_cases hp : p
 ·rw [if_pos hp] at h; exact ⟨hp, h⟩
 ·rw [if_neg hp] at h; cases h
theorem zi {a b : α} (h : some a = some b) : a = b := by cases h; rfl
variable {gives : List Bool}{β : Type}{as_ : List A}
section
variable {α : Type}
def eI (k : IntKind) (x : Int) : A := .atom (.int k x)
def eB (b : Bool) : A := .atom (.bool b)
def eSl (sz : Nat) (t : Bool) (f : α → A) (l : List α) : A := .sl sz t (l.map f)
def eOs (sz : Nat) (t : Bool) (f : α → A) (l : List α) : A := .osl sz t (l.map f)
def eSp (f : α → A) (x : α) : A := .sptr (f x)
def z04 (k : Nat) (_ : Unit) : A := .fn k []
def z6k (k : Nat) (f : α → A) (x : α) : A := .fn k [f x]
def z4K (k : Nat) (f : α → A) (g : β → A) (x : α × β) : A := .fn k [f x.1, g x.2]
def zeT {β γ : Type} (k : Nat) (f : α → A) (g : β → A) (h : γ → A) (x : α × β × γ) : A := .fn k [f x.1, g x.2.1, h x.2.2]
class Uo (f : α → A) : Prop where
 isD : ∀ x, (f x).isD = true
class zaE (f : α → A) : Prop where
 no : ∀ x, (f x).isD = false
class kX (f : α → A) (g : outParam (α → A)) : Prop where
 lo : ∀ x, (f x).loose = g x
class Wp (f : α → A) (g : outParam (α → A)) : Prop where
 live : ∀ x, (f x).live = true
 sh : ∀ x, (f x).shut = g x
class vD (f : α → A) : Prop where
 inj : ∀ x y, f x = f y → x = y
instance (k : IntKind) : Uo (eI k) := ⟨fun _ => rfl⟩
instance (sz : Nat) (t : Bool) (f : α → A) : Uo (eSl sz t f) := ⟨fun _ => rfl⟩
instance (k : Nat) : kX (z04 k) (z04 k) := ⟨fun _ => rfl⟩
instance (k : Nat) (f f' : α → A) [h : kX f f'] : kX (z6k k f) (z6k k f') := ⟨fun x => by simp [z6k, A.loose, A.looses, h.lo]⟩
instance {β : Type} (k : Nat) (f f' : α → A) (g g' : β → A) [h : kX f f'] [h2 : kX g g'] : kX (z4K k f g) (z4K k f' g') := ⟨fun x => by simp [z4K, A.loose, A.looses, h.lo, h2.lo]⟩
instance (k : Nat) : vD (z04 k) := ⟨fun _ _ _ => rfl⟩
instance (k : Nat) (f : α → A) [h : vD f] : vD (z6k k f) := ⟨fun a b e => by simp [z6k, A.fn.injEq, List.cons.injEq, true_and, and_true] at e; exact h.inj _ _ e⟩
instance {β : Type} (k : Nat) (f : α → A) (g : β → A) [h : vD f] [h2 : vD g] : vD (z4K k f g) := ⟨fun a b e => by
 simp [z4K, A.fn.injEq, List.cons.injEq, true_and, and_true] at e
 exact Prod.ext (h.inj _ _ e.1) (h2.inj _ _ e.2)⟩
instance (sz : Nat) (t : Bool) (f : α → A) : zaE (eOs sz t f) := ⟨fun _ => rfl⟩
instance (k : IntKind) : kX (eI k) (eI k) := ⟨fun _ => rfl⟩
instance (sz : Nat) (t : Bool) (f g : α → A) [h : kX f g] : kX (eSl sz t f) (eSl sz false g) := ⟨fun l => by simp [eSl, A.loose, z0o, h.lo]⟩
instance (sz : Nat) (t : Bool) (f g : α → A) [h : kX f g] : kX (eOs sz t f) (eOs sz false g) := ⟨fun l => by simp [eOs, A.loose, z0o, h.lo]⟩
instance (f g : α → A) [h : kX f g] : kX (eSp f) (eSp g) := ⟨fun l => by simp [eSp, A.loose, h.lo]⟩
instance (k : IntKind) : Wp (eI k) (eI k) := ⟨fun _ => rfl, fun _ => rfl⟩
instance (sz : Nat) (t : Bool) (f : α → A) : Wp (eSl sz t f) (eSl sz t f) := ⟨fun _ => rfl, fun _ => rfl⟩
instance (sz : Nat) (t : Bool) (f g : α → A) [h : Wp f g] : Wp (eOs sz t f) (eSl sz t g) := ⟨fun l => by simp [eOs, A.live]; exact Kj f l h.live, fun l => by simp [eOs, eSl, A.shut, JQ, h.sh]⟩
instance (k : IntKind) : vD (eI k) := ⟨fun a b h => by simpa [eI] using h⟩
theorem z5R {f : α → β} (hf : ∀ a b, f a = f b → a = b) : ∀ {l l' : List α}, l.map f = l'.map f → l = l'
 | [], [], _ => rfl
 | [], _ :: _, h => by simp at h
 | _ :: _, [], h => by simp at h
 | a :: l, b :: l', h => by
  simp [List.map_cons, List.cons.injEq] at h
  rw [hf _ _ h.1, z5R hf h.2]
instance (sz : Nat) (t : Bool) (f : α → A) [h : vD f] : vD (eSl sz t f) := ⟨fun a b e => by simp [eSl, A.sl.injEq, true_and] at e; exact z5R h.inj e⟩
instance (sz : Nat) (t : Bool) (f : α → A) [h : vD f] : vD (eOs sz t f) := ⟨fun a b e => by simp [eOs, A.osl.injEq, true_and] at e; exact z5R h.inj e⟩
instance (f : α → A) [h : vD f] : vD (eSp f) := ⟨fun a b e => by simp [eSp, A.sptr.injEq] at e; exact h.inj _ _ e⟩
instance (sz sz' : Nat) (t t' : Bool) (f g : α → A) (l l' : List α) : SzA (eSl sz t f l) (eSl sz' t' g l') := ⟨rfl⟩
instance (sz : Nat) (t : Bool) (f g : α → A) [h : ∀ x, LeA (f x) (g x)] [z : ∀ x, SzA (f x) (g x)] (l : List α) : LeA (eSl sz t f l) (eSl sz false g l) := LeA.sl sz t (l.map f) (l.map g)
instance (sz : Nat) (t : Bool) (f g : α → A) [h : ∀ x, LeA (f x) (g x)] [z : ∀ x, SzA (f x) (g x)] (l : List α) : LeA (eOs sz t f l) (eOs sz false g l) := LeA.osl sz t (l.map f) (l.map g)
theorem i0 {l : List α} {i : Int} {u : α} (h : idx l i = some u) : 0 ≤ i := by
 cases i with
 | ofNat n => exact Int.natCast_nonneg n
 | negSucc n => cases h
theorem iE {l : List α} {i : Int} {u : α} (h : idx l i = some u) : l[i.toNat]? = some u := by
 cases i with
 | ofNat n => exact h
 | negSucc n => cases h
theorem iM (f : α → A) {l : List α} {i : Int} {u : α} (h : idx l i = some u) : (l.map f)[i.toNat]? = some (f u) := by rw [List.getElem?_map, iE h]; rfl
theorem iL (f : α → A) {l : List α} {i : Int} {u : α} (h : idx l i = some u) : 0 ≤ i ∧ i.toNat < (l.map f).length := ⟨i0 h, by rw [List.length_map]; exact (List.getElem?_eq_some_iff.1 (iE h)).1⟩
theorem arJ {fs : List A} {j : Int} (h0 : Yy tt t fs 0 = true) (hj : 0 ≤ j) : Yy tt t fs j = true := by
 unfold Yy at h0 ⊢
 split at h0
 ·simp [decide_true, Bool.and_true, Bool.and_eq_true] at h0
  simp [hj, decide_true, Bool.and_true, Bool.and_eq_true]
  exact h0
 ·cases h0
theorem sM (f : α → A) (l : List α) (i : Int) (v : α) : (l.map f).set i.toNat (f v) = (l.set i.toNat v).map f := by rw [List.map_set]
theorem dM (f : α → A) [h : Uo f] (l : List α) : A.areD (l.map f) = true := z4l f l h.isD
theorem d1 (f : α → A) [h : Uo f] (x : α) : A.areD [f x] = true := by simp [A.areD, h.isD]
theorem o1 (f : α → A) [h : zaE f] (x : α) : A.areD [f x] = false := by simp [A.areD, h.no]
theorem shM (f g : α → A) [h : Wp f g] (l : List α) : A.lives (l.map f) = true ∧ A.shuts (l.map f) = l.map g := ⟨Kj f l h.live, by rw [JQ]; simp [h.sh]⟩
theorem aM (f : α → A) (l m : List α) : l.map f ++ m.map f = (l ++ m).map f := by rw [List.map_append]
theorem aL (f g : α → A) {l m : List α} (h : l.length + m.length ≤ 4294967296) : (l.map f).length + (m.map g).length ≤ lim := by simpa [lim] using h
theorem rM (sz : Nat) (f : α → A) (n : Int) (z : α) : A.osl sz (decide (n = n)) (List.replicate n.toNat (f z)) = eOs sz true f (List.replicate n.toNat z) := by simp [eOs]
theorem rL {n : Int} (h : 0 ≤ n ∧ n ≤ 4294967296) : 0 ≤ n ∧ n ≤ n ∧ n ≤ ((lim : Nat) : Int) := ⟨h.1, Int.le_refl _, h.2⟩
theorem lnM (f : α → A) (l : List α) : A.atom (.int .i64 (((l.map f).length : Nat) : Int)) = .atom (.int .i64 ((l.length : Nat) : Int)) := by rw [List.length_map]
theorem oC (f : α → A) [h : zaE f] (x : α) (l : List α) : A.areD ((x :: l).map f) = false := by simp [A.areD, h.no]
theorem aM0 (f : α → A) (m : List α) : ([] : List A) ++ m.map f = m.map f := rfl
theorem slB {a b : Int} {r : Prop} (h : 0 ≤ a ∧ a ≤ b ∧ r) : 0 ≤ b := Int.le_trans h.1 h.2.1
theorem slC {a b m : Int} {r : Prop} (h : 0 ≤ a ∧ a ≤ b ∧ r ∧ b ≤ m) : 0 ≤ m := by omega
theorem z51 (f : α → A) {l : List α} {b m : Int} (h : (0 : Int) ≤ 0 ∧ 0 ≤ b ∧ m ≤ ((l.length : Nat) : Int) ∧ b ≤ m) : 0 ≤ b.toNat ∧ b.toNat ≤ m.toNat ∧ m.toNat ≤ (l.map f).length := by simp; omega
theorem zbg (sz : Nat) (f : α → A) (l : List α) (a b : Nat) : A.sl sz (b == b) (((l.map f).drop a).take (b - a)) = eSl sz true f ((l.drop a).take (b - a)) := by simp [eSl]
def mn (a b : Int) : Int := if b < a then b else a
def mx (a b : Int) : Int := if a < b then b else a
theorem cuB (f : α → A) {l : List α} {b : Int} (h : 0 ≤ b ∧ b ≤ ((l.length : Nat) : Int)) : b.toNat ≤ (l.map f).length := by simp; omega
theorem cuM (f : α → A) (l : List α) (b : Int) : (l.map f).take b.toNat = (l.take b.toNat).map f := by rw [List.map_take]
def spF (k : Nat) {α ρ : Type} (enc : α → List A) (encR : ρ → A) (F : α → Option ρ) (gives : List Bool) (inj : ∀ x y, enc x = enc y → x = y) : wI := {
 α := α
 k := k
 raw := false
 gives := gives
 enc := enc
 pre := fun x => ∃ r, F x = some r
 f := fun x => match F x with | some r => encR r | none => .dead 0
 inj := by
  intro x y h _ _
  rw [inj x y h] }
theorem Kp {c : Ctr}  {α ρ : Type} {enc : α → List A} {encR : ρ → A} {F : α → Option ρ}  {inj : ∀ x y, enc x = enc y → x = y} (h : c.Has (spF k enc encR F gives inj)) {x : α} {r : ρ} (hr : F x = some r)  (ha : as_.map A.loose = enc x) :
  c.run k (c.norm k as_) = some (encR r) := by
 have h1 := h.run x ⟨r, hr⟩
 have h2 : c.raw k = false := h.raw
 unfold Ctr.norm
 rw [h2]
 simp [Bool.false_eq_true]
 rw [ha]
 refine Eq.trans h1 ?_
 simp [spF, hr]
theorem Ko {c : Ctr}  {α ρ : Type} {enc : α → List A} {encR : ρ → A} {F : α → Option ρ}  {inj : ∀ x y, enc x = enc y → x = y} (h : c.Has (spF k enc encR F gives inj)) : c.gives k = gives := h.gives
theorem zY {P : Program} {k : Nat} {α ρ : Type} {enc : α → List A} {encR : ρ → A} {F : α → Option ρ} {gives : List Bool} {inj : ∀ x y, enc x = enc y → x = y} (h : ∀ x r, F x = some r → XJ P k (enc x) (encR r)) : (spF k enc encR F gives inj).Ok P := by
 rintro x ⟨r, hr⟩
 have := h x r hr
 simpa only [spF, hr] using this
theorem loN : ([] : List A).map A.loose = [] := rfl
theorem loC (f : α → A) {g : α → A} [h : kX f g] (x : α) {as_ bs : List A} (k : as_.map A.loose = bs) : (f x :: as_).map A.loose = g x :: bs := by simp [List.map_cons, h.lo, k]
end
section
variable {P : Program} {tt : TT} {ctr : Ctr} {n : Fr} {Q : Exit → St → Prop}
theorem z8t (X : XH P) (hT : wG P tt) (hC : zO P ctr) (hm : P.follows .mixedOrders = true) (live : List Nat) (k : Nat) {c : Code} {fs : List Fm} {st : St} (hs : List H) (c' : Code) (fs' : List Fm) (l' : List (Nat × T)) (obs : List Ob)
  (e : z1u X tt ctr n live k c fs st hs = some (.at c' fs', ofL l', obs.map Ob.p)) (h : ∀ st0, canon live st0 = ofL l' → AWP P n c' st0 (Qf P n fs' Q)) : AWP P n c st (Qf P n fs Q) := z3t X hT hC hm live k obs e h
theorem zaz (X : XH P) (hT : wG P tt) (hC : zO P ctr) (hm : P.follows .mixedOrders = true) (live : List Nat) (k : Nat) {c : Code} {fs : List Fm} {st : St} (hs : List H) (J : St → Prop) (l' : List (Nat × T)) (obs : List Ob)
  (e : z1u X tt ctr n live k c fs st hs = some (.back J, ofL l', obs.map Ob.p)) (h : ∀ st0, canon live st0 = ofL l' → J st0) : AWP P n c st (Qf P n fs Q) := z3t X hT hC hm live k obs e h
end
open Classical
def z0q : A → Option (List Value)
 | .atom (.int k x) => some [.int k x]
 | .atom (.string s) => some [.string s]
 | .agg fs => keyLs fs
 | _ => none
where keyLs : List A → Option (List Value)
 | [] => some []
 | a :: as_ => match z0q a, keyLs as_ with | some x, some y => some (x ++ y) | _, _ => none
def Jh (a : A) : Option Value := (z0q a).map (yc a)
mutual
theorem z3Z : ∀ {a : A} {cs l : List Value}, Rep S a cs → z0q a = some l → cs = l
 | .atom v, cs, l, h, e => by
  cases v <;> simp only [z0q] at e <;> first | (cases e; done) | skip
  all_goals
   simp only [Rep] at h
   cases e
   exact h.1
 | .agg fs, cs, l, h, e => by
  simp only [Rep] at h
  simp only [z0q] at e
  exact z2o h e
 | .fn _ _, _, _, _, e => by cases e
 | .tup _, _, _, _, e => by cases e
 | .sl _ _ _, _, _, _, e => by cases e
 | .sptr _, _, _, _, e => by cases e
 | .dop _, _, _, _, e => by cases e
 | .osl _ _ _, _, _, _, e => by cases e
 | .box _, _, _, _, e => by cases e
 | .dead _, _, _, _, e => by cases e
 | .opq _, _, _, _, e => by cases e
theorem z2o : ∀ {as_ : List A} {cs l : List Value}, yw S as_ cs → z0q.keyLs as_ = some l → cs = l
 | [], cs, l, h, e => by
  simp only [yw] at h
  simp only [z0q.keyLs] at e
  cases e
  exact h
 | a :: as_, cs, l, h, e => by
  simp only [yw] at h
  obtain ⟨c1, c2, rfl, h1, h2⟩ := h
  simp only [z0q.keyLs] at e
  cases e1 : z0q a with
  | none => simp only [e1] at e; cases e
  | some x =>
   cases e2 : z0q.keyLs as_ with
   | none => simp only [e1, e2] at e; cases e
   | some y =>
    simp only [e1, e2] at e
    cases e
    rw [z3Z h1 e1, z2o h2 e2]
end
theorem z18 {a : A} {v kv : Value} (h : u6 S a v) (e : Jh a = some kv) : v = kv := by
 obtain ⟨cs, h1, rfl⟩ := h
 unfold Jh at e
 obtain ⟨l, e1, rfl⟩ := Option.map_eq_some_iff.1 e
 rw [z3Z h1 e1]
def V8 (S : zn) (es : List (A × A)) (ents : List MapEntry) : Prop := ZW (fun p (e : MapEntry) => Jh p.1 = some e.key ∧ u6 S p.2 e.val) es ents
def W2 (es : List (A × A)) : Opq := {
 holds := fun S h u F => ∃ b ents cl, u = .map (some b) ∧ F = [b] ∧ h[b]? = some (.map ents cl) ∧ (∀ o, S b o = none) ∧ V8 S es ents.toList
 one := fun ⟨_, _, _, e, _⟩ => .inl (by rw [e]; rfl)
 frame := fun hS hF ⟨b, ents, cl, e1, e2, e3, e4, e5⟩ => by
  subst e2
  have ⟨g1, g2⟩ := hF b (by simp)
  exact ⟨b, ents, cl, e1, rfl, g1.trans e3, g2, ZW.mono (fun _ _ q => ⟨q.1, q.2.mono hS⟩) e5⟩
 own := fun ⟨b, ents, cl, e1, e2, e3, e4, e5⟩ k hk => by
  subst e2
  simp [List.mem_cons, List.not_mem_nil, or_false] at hk
  subst hk
  exact ⟨(Array.getElem?_eq_some_iff.1 e3).1, e4⟩
 idx := 0 }
def WW (k : A) : List (A × A) → Nat → Option (Nat × A)
 | [], _ => none
 | p :: es, i => if Jh p.1 = Jh k then some (i, p.2) else WW k es (i + 1)
def VV (k : Value) : List MapEntry → Nat → Option (Nat × Value)
 | [], _ => none
 | e :: es, i => if e.key = k then some (i, e.val) else VV k es (i + 1)
variable {kv : Value}
theorem JC {k : A}  (hk : Jh k = some kv) : ∀ {es : List (A × A)} {ents : List MapEntry} {i : Nat}, V8 S es ents →
  (WW k es i = none ∧ VV kv ents i = none) ∨ ∃ j y v, WW k es i = some (j, y) ∧ VV kv ents i = some (j, v) ∧ u6 S y v ∧ i ≤ j ∧ j < i + es.length ∧ (ents[j - i]?).map (·.key) = some kv
 | [], [], i, _ => .inl ⟨rfl, rfl⟩
 | p :: es, e :: ents, i, h => by
  simp only [WW, VV]
  by_cases hp : Jh p.1 = Jh k
  ·have he : e.key = kv := by
    have := h.1.1.symm.trans (hp.trans hk)
    simpa using this
   rw [if_pos hp, if_pos he]
   exact .inr ⟨i, p.2, e.val, rfl, rfl, h.1.2, Nat.le_refl _, by simp, by simp [he]⟩
  ·have he : ¬ e.key = kv := fun q => hp (by rw [h.1.1, hk, q])
   rw [if_neg hp, if_neg he]
   rcases JC hk (i := i + 1) h.2 with q | ⟨j, y, v, q1, q2, q3, q4, q5, q6⟩
   ·exact .inl q
   ·refine .inr ⟨j, y, v, q1, q2, q3, by omega, by simp only [List.length_cons]; omega, ?_⟩
    rw [show j - i = (j - (i + 1)) + 1 by omega, List.getElem?_cons_succ]
    exact q6
 | [], _ :: _, _, h => h.elim
 | _ :: _, [], _, h => h.elim
structure z8A (P : Program) (t kt et : Nat) (ok : A → Bool) (z : A) : Prop where
 und : P.underlying t = some (.map kt et)
 zero : ∃ zv, (∀ w, (zeroValue et).run P w = .ok zv w) ∧ ∀ S, u6 S z zv
 check : ∀ a kv e w, ok a = true → Jh a = some kv → (Instr.checkKey e 10000 kt kv).run P w = .ok () w
 find : ∀ a kv, ok a = true → Jh a = some kv → ∀ (ents : List MapEntry) (es : List (A × A)), (∀ p ∈ es, ok p.1 = true) → ZW (fun p (e : MapEntry) => Jh p.1 = some e.key) es ents → ∀ w, (Instr.findKey kt kv ents).run P w = .ok (VV kv ents 0) w
 bits : ∀ a kv, ok a = true → Jh a = some kv → Instr.sameBits 10000 kv kv = true
 key : ∀ a, ok a = true → ∃ kv, Jh a = some kv
 zd : z.isD = true
variable {es : List (A × A)}
section
variable {P : Program} {C : Ctx} {S : zn} {Fp : Nat → List Nat} {X : List Nat} {st : St} {a : Act} {w : World} {t kt et : Nat} {ok : A → Bool} {z : A}
def z7N (n : Fr) (dst : Option Nat) (es : List (A × A)) (ok : A → Bool) (z : A) (x k : Operand) (two : Bool) : SM Unit := do
 let tx ← opnd x
 let y ← peek tx
 let tk ← opnd k
 let vk ← val tk
 if y = .opq (W2 es) ∧ ok vk = true ∧ ∀ p ∈ es, ok p.1 = true then
  wrT n dst (.d (match WW vk es 0 with
   | some (_, v) => if two = true then .tup [v, .atom (.bool true)] else v
   | none => if two = true then .tup [z, .atom (.bool false)] else z))
 else zt
theorem z7L {q : Opq}  (h : we S (.opq q) v ∨ ∃ cs F, zH S w.heap (.opq q) cs F ∧ v = yc (.opq q) cs) : ∃ F, q.holds S w.heap v F := by
 rcases h with h | ⟨cs, F, h1, h2⟩
 ·simp [we, u6, Rep, false_and] at h
 ·simp [zH] at h1
  obtain ⟨u, rfl, h1⟩ := h1
  exact ⟨F, by rw [h2]; exact h1⟩
theorem z7K (mt : z8A P t kt et ok z)  {ents : Array MapEntry} {cl b : Nat} (hb : w.heap[b]? = some (.map ents cl)) (he : V8 S es ents.toList) (hok : ∀ p ∈ es, ok p.1 = true) {vk : A}  (hv : ok vk = true) (hk : Jh vk = some kv) (two : Bool) :
    ∃ v, (Instr.lookup t (.map (some b)) kv two).run P w = .ok v w ∧ we S (match WW vk es 0 with
      | some (_, v) => if two = true then .tup [v, .atom (.bool true)] else v
      | none => if two = true then .tup [z, .atom (.bool false)] else z) v := by
  have ⟨zv, z1, z2⟩ := mt.zero
  have hf := mt.find vk kv hv hk ents.toList es hok (ZW.mono (fun _ _ q => q.1) he) w
  have hc := mt.check vk kv ents.isEmpty w hv hk
  have run : (Instr.lookup t (.map (some b)) kv two).run P w = (do
        let (v, b) ← match VV kv ents.toList 0 with
          | some (_, v) => pure (v, true)
          | none => pure (← zeroValue et, false)
        pure (if two then .tuple #[v, .bool b] else v) : Sem Value).run P w := by
    unfold Instr.lookup
    rw [Sem.run_bind, run_underlying mt.und, Result.andThen_ok]
    have hg : (getObj b).run P w = .ok (.map ents cl) w := by simp [getObj, Sem.run, hb]
    simp only [Sem.run_bind, hg, Result.andThen_ok, Sem.run_pure, hc, hf]
    cases VV kv ents.toList 0 <;> rfl
  rcases JC hk (i := 0) he with ⟨q1, q2⟩ | ⟨j, y, v, q1, q2, q3, _⟩
  · rw [q1]
    refine ⟨if two = true then .tuple #[zv, .bool false] else zv, ?_, ?_⟩
    · rw [run, q2]; simp [z1]
    · cases two
      · exact (z2 S).repV
      · simp only [if_true, we]
        exact ⟨[zv, .bool false], rfl, z2 S, uE.2 ⟨rfl, rfl⟩, trivial⟩
  · rw [q1]
    refine ⟨if two = true then .tuple #[v, .bool true] else v, ?_, ?_⟩
    · rw [run, q2]; simp
    · cases two
      · exact q3.repV
      · simp only [if_true, we]
        exact ⟨[v, .bool true], rfl, q3, uE.2 ⟨rfl, rfl⟩, trivial⟩
theorem z7M (mt : z8A P t kt et ok z) (h : Sim C S Fp [] st a w)   {x k : Operand} {two : Bool} (ho : o.op = .lookup t x k two)    (e : z7N C.n o.dst es ok z x k two st = some (u, R, U)) : qE P C o a w (zl U st) := by
 unfold z7N at e
 have ⟨tx, _, hx, e1⟩ := bR (zD h) e
 have ⟨y, _, qx, e2⟩ := bR (Ql h hx) e1
 have ⟨tk, _, hk, e3⟩ := bR (zD h) e2
 have ⟨vk, _, qk, e4⟩ := bR (vO h hk) e3
 split at e4
 ·rename_i hc
  obtain ⟨rfl, c2, c3⟩ := hc
  have ⟨F, b, ents, cl, ev, _, g1, _, g3⟩ := z7L qx
  have ⟨kv, hkv⟩ := mt.key vk c2
  have hkd : a.eval k = kv := by
   refine z18 (S := S) ?_ hkv
   cases vk <;> first | exact qk | (simp only [Jh, z0q, Option.map_none] at hkv; cases hkv)
  have ⟨v, r1, r2⟩ := z7K mt g1 g3 c3 c2 hkv two
  have ⟨Fp', hs⟩ := wJ h e4 (x := .d _) r2
  exact zr (by simp [execOp, ho, ev, hkd, r1]) hs
 ·cases e4
def z3P (es : List (A × A)) (k v : A) : List (A × A) :=
 match WW k es 0 with
 | some (j, _) => es.set j (k, v)
 | none => es ++ [(k, v)]
def zaF (es : List (A × A)) (ok : A → Bool) (x k v : Operand) : SM Unit := do
 let tx ← opnd x
 match tx with
 | .als r [] er ec => do
  let e ← rdE r
  let tk ← opnd k
  let vk ← val tk
  let tv ← opnd v
  let vv ← val tv
  if e.t = .own (.opq (W2 es)) ∧ e.er = er ∧ ok vk = true ∧ vv.isD = true ∧ ∀ p ∈ es, ok p.1 = true then
   wrE r ⟨.own (.opq (W2 (z3P es vk vv))), e.er, e.ec + 1⟩
  else zt
 | _ => zt
theorem z0T : ∀ {es : List (A × A)} {ents : List MapEntry} {j : Nat} {p : A × A} {f : MapEntry → MapEntry}, V8 S es ents → (∀ e, ents[j]? = some e → Jh p.1 = some (f e).key ∧ u6 S p.2 (f e).val) → V8 S (es.set j p) (ents.modify j f)
 | [], [], j, p, f, _, _ => by simp [List.set_nil, List.modify_nil]; exact trivial
 | q :: es, e :: ents, 0, p, f, h, hf => by
  have := hf e (by simp)
  simp [List.set_cons_zero, List.modify_zero_cons]
  exact ⟨this, h.2⟩
 | q :: es, e :: ents, j + 1, p, f, h, hf => by
  simp [List.set_cons_succ, List.modify_succ_cons]
  exact ⟨h.1, z0T h.2 (fun e' he' => hf e' (by simpa using he'))⟩
 | [], _ :: _, _, _, _, h, _ => h.elim
 | _ :: _, [], _, _, _, h, _ => h.elim
theorem z4Q (mt : z8A P t kt et ok z) (h : Sim C S Fp [] st a w)   {x k v : Operand} (ho : o.op = .mapUpdate t x k v ∨ o.op = .insert t x k v) (hd : o.dst = none)    (e : zaF es ok x k v st = some (u, R, U)) : qE P C o a w (zl U st) := by
 unfold zaF at e
 have ⟨tx, _, hx, e1⟩ := bR (zD h) e
 split at e1
 ·rename_i r er ec
  have ⟨_, e2⟩ := bD e1
  have ⟨tk, _, hk, e3⟩ := bR (zD h) e2
  have ⟨vk, _, qk, e4⟩ := bR (vO h hk) e3
  have ⟨tv, _, hv, e5⟩ := bR (zD h) e4
  have ⟨vv, _, qv, e6⟩ := bR (vO h hv) e5
  split at e6
  ·rename_i hc
   have ⟨c1, c2, c3, c4, c5⟩ := hc
   cases e6
   have hr := h.ent r
   unfold xV at hr
   simp only [c1] at hr
   have ⟨cs, k1, k2, k3⟩ := hr
   simp only [zH] at k1
   obtain ⟨v0, rfl, b, ents, cl, rfl, hF, g1, g2, g3⟩ := k1
   have hev : a.eval x = .map (some b) := by
    have := hx.2.2
    simp only [c1] at this
    rcases this c2 (.inl trivial) with ⟨_, q⟩ | ⟨q, _⟩
    ·rw [q, k3]; rfl
    ·simp [Vn] at q
   have ⟨kv, hkv⟩ := mt.key vk c3
   have hkd : a.eval k = kv := by
    refine z18 (S := S) ?_ hkv
    cases vk <;> first | exact qk | (simp only [Jh, z0q, Option.map_none] at hkv; cases hkv)
   have hvd : u6 S vv (a.eval v) := qv.rep1 c4
   have hf := mt.find vk kv c3 hkv ents.toList es c5 (ZW.mono (fun _ _ q => q.1) g3) w
   have hck := mt.check vk kv false w c3 hkv
   have hget : (getObj b).run P w = .ok (.map ents cl) w := by simp [getObj, Sem.run, g1]
   have hset : ∀ o', (setObj b o').run P w = .ok () (w.putObj b o') := by intro o'; simp [setObj, Sem.run, g1, World.putObj]
   have hbM : C.M b := h.base r b (by rw [hF]; simp)
   have hoth : ∀ k o', k ≠ b → (w.putObj b o').heap[k]? = w.heap[k]? := fun k o' hk => World.putObj_heap_other hk
   have hlt : b < w.heap.size := (Array.getElem?_eq_some_iff.1 g1).1
   have fin : ∀ ents' cl' es', V8 S es' ents'.toList → ∃ Fp', Sim C S Fp' [] (upd st r ⟨.own (.opq (W2 es')), (st r).er, (st r).ec + 1⟩) a (w.putObj b (.map ents' cl')) := by
    intro ents' cl' es' he'
    refine ⟨_, h.change r (.own (.opq (W2 es'))) _ _ [b] ?_ (fun _ _ _ q => q) ?_ h.sbase ?_ ⟨⟨[.map (some b)], ?_, by simp, k3⟩, _, c1⟩ (.inl ⟨_, c1⟩) (Nat.le_refl _) (Nat.lt_succ_self _) ?_ ?_ (by simp) (by simp) (by simp) (by simp)⟩
    ·exact h.below.trans ⟨rfl, rfl, rfl, Nat.le_refl _, by simp [World.putObj], fun k hk => hoth k _ (by rintro rfl; exact hk hbM)⟩
    ·intro b' o' v' hs
     have := h.still b' o' v' hs
     unfold yj at this ⊢
     rw [hoth b' _ (by rintro rfl; rw [g2] at hs; cases hs)]
     exact this
    ·intro t' k' ht' hk'
     exact ⟨hoth k' _ (by rintro rfl; exact ht' (h.disj t' r _ hk' (by rw [hF]; simp))), (h.free t' k' hk').2.1⟩
    ·simp only [zH]
     exact ⟨_, rfl, b, ents', cl', rfl, rfl, World.putObj_heap_same hlt, g2, he'⟩
    ·intro t' k' ht' hk' hk2
     simp only [List.mem_cons, List.not_mem_nil, or_false] at hk'
     subst hk'
     exact ht' (h.disj t' r _ hk2 (by rw [hF]; simp))
    ·intro k' hk'
     simp only [List.mem_cons, List.not_mem_nil, or_false] at hk'
     subst hk'
     exact hbM
   have run : (Instr.mapUpdate t (.map (some b)) kv (a.eval v)).run P w = (do
     match VV kv ents.toList 0 with
     | some (i, _) => do
      let key ← Instr.keyThatStays (((ents[i]?).map (·.key)).getD kv) kv
      setObj b (.map (ents.modify i fun e => { e with key, val := a.eval v }) cl)
     | none => setObj b (.map (ents.push { key := kv, val := a.eval v, born := cl }) (cl + 1)) : Sem Unit).run P w := by
    unfold Instr.mapUpdate
    rw [Sem.run_bind, run_underlying mt.und, Result.andThen_ok]
    simp only [Sem.run_bind, hget, Result.andThen_ok, hck, hf]
    cases VV kv ents.toList 0 <;> rfl
   simp only [zl]
   have good : ∀ w', (Instr.mapUpdate t (.map (some b)) kv (a.eval v)).run P w = .ok () w' → ∀ es' Fp', Sim C S Fp' [] (upd st r ⟨.own (.opq (W2 es')), (st r).er, (st r).ec + 1⟩) a w' → qE P C o a w (upd st r ⟨.own (.opq (W2 es')), (st r).er, (st r).ec + 1⟩) := by
    intro w' hw es' Fp' hs
    refine Ks (w' := w') ?_ hd hs
    rcases ho with ho | ho <;> simp [execOp, ho, hev, hkd, hw]
   rcases JC hkv (i := 0) g3 with ⟨q1, q2⟩ | ⟨j, y, v', q1, q2, q3, q4, q5, q6⟩
   ·have he' : V8 S (z3P es vk vv) (ents.push { key := kv, val := a.eval v, born := cl }).toList := by
     simp only [z3P, q1, Array.toList_push]
     exact JF g3 ⟨⟨hkv, hvd⟩, trivial⟩
    have ⟨Fp', hs⟩ := fin _ (cl + 1) _ he'
    exact good _ (by rw [run, q2]; exact hset _) _ _ hs
   ·have hkey : (ents[j]?).map (·.key) = some kv := by
     simp only [Nat.sub_zero] at q6
     rw [← Array.getElem?_toList]; exact q6
    have he' : V8 S (z3P es vk vv) (ents.modify j fun e => { e with key := kv, val := a.eval v }).toList := by
     simp only [z3P, q1]
     rw [Array.toList_modify]
     exact z0T g3 fun _ _ => ⟨hkv, hvd⟩
    have ⟨Fp', hs⟩ := fin _ cl _ he'
    refine good _ ?_ _ _ hs
    rw [run, q2]
    simp only [hkey, Option.getD_some, Instr.keyThatStays, mt.bits vk kv c3 hkv, if_true, Sem.run_bind, Sem.run_pure, Result.andThen_ok, hset]
  ·cases e6
 ·cases e1
end
section
variable {P : Program} {C : Ctx} {S : zn} {Fp : Nat → List Nat} {X : List Nat} {st : St} {a : Act} {w : World} {t kt et : Nat} {ok : A → Bool} {z : A}
def z5O (n : Fr) (dst : Option Nat) : SM Unit := wrT n dst (.own (.opq (W2 [])))
theorem z5N (h : Sim C S Fp [] st a w)  (ho : o.op = .makeMap t none)    (e : z5O C.n o.dst st = some (u, R, U)) : qE P C o a w (zl U st) := by
 have h2 := h.alloc (by simp) (.map #[] 0)
 have hc : zH S (w.alloc (.map #[] 0)).heap (.opq (W2 [])) [.map (some w.heap.size)] [w.heap.size] := by
  simp only [zH]
  exact ⟨_, rfl, w.heap.size, #[], 0, rfl, rfl, heap_alloc_new w _, fun o => h.free_new (Nat.le_refl _) o, trivial⟩
 have ⟨Fp'', hs⟩ := Xv (F := [w.heap.size]) (X := []) h2 e hc (by simp)
 refine zr (v := .map (some w.heap.size)) ?_ hs
 simp [execOp, ho, Instr.makeMap]
end
def z8V (n : Fr) (dst : Option Nat) (es : List (A × A)) (ok : A → Bool) (z : A) (x k : Operand) (two : Bool) : HM Unit :=
 yk (opnd x) >>= fun tx => z4z tx >>= fun y => yk (opnd k) >>= fun tk => Q0 tk >>= fun vk =>
 Zq (y = .opq (W2 es) ∧ ok vk = true ∧ ∀ p ∈ es, ok p.1 = true) (eqA (match WW vk es 0 with
   | some (_, v) => if two = true then .tup [v, .atom (.bool true)] else v
   | none => if two = true then .tup [z, .atom (.bool false)] else z) >>= fun r => yk (wrT n dst (.d r)))
theorem z9S (n : Fr) (dst : Option Nat) (es : List (A × A)) (ok : A → Bool) (z : A) (x k : Operand) (two : Bool) : Snd (z7N n dst es ok z x k two) (z8V n dst es ok z x k two) :=
 zk (zo _) fun _ => zk (z1O _) fun _ => zk (zo _) fun _ => zk (Za _) fun _ => ue (Vx (yd _ fun r => wrT n dst (.d r)).symm (zk (z1Q _) fun _ => zo _))
def zcD (es es' : List (A × A)) (ok : A → Bool) (x k v : Operand) : HM Unit := yk (opnd x) >>= fun tx =>
 match tx with
 | .als r [] er ec => yk (rdE r) >>= fun e => yk (opnd k) >>= fun tk => Q0 tk >>= fun vk => yk (opnd v) >>= fun tv => Q0 tv >>= fun vv =>
  Zq (e.t = .own (.opq (W2 es)) ∧ e.er = er ∧ ok vk = true ∧ vv.isD = true ∧ ∀ p ∈ es, ok p.1 = true) (Zq (z3P es vk vv = es') (yk (wrE r ⟨.own (.opq (W2 es')), e.er, e.ec + 1⟩)))
 | _ => zF
theorem z8L (es es' : List (A × A)) (ok : A → Bool) (x k v : Operand) : Snd (zaF es ok x k v) (zcD es es' ok x k v) := by
 refine zk (zo _) fun tx => ?_
 cases tx with
 | als r p er ec =>
  cases p with
  | nil =>
   refine zk (zo _) fun e => zk (zo _) fun tk => zk (Za _) fun vk => zk (zo _) fun tv => zk (Za _) fun vv => ue ?_
   exact Qg fun hq => by rw [hq]; exact zo _
  | cons _ _ => exact zp _
 | _ => exact zp _
def zcw (P : Program) (d : Nat) : XH P := {
 e := fun n o => match o.op with | .makeMap _ none => if o.dst = some d then some (z5O n o.dst) else none | _ => none
 h := fun n o => match o.op with | .makeMap _ none => if o.dst = some d then some (yk (z5O n o.dst)) else none | _ => none
 ok := by
  refine ⟨?_, ?_⟩
  ·intro C S Fp st a w o m u R U e h h2
   dsimp only at e
   split at e
   ·rename_i ho
    split at e
    ·cases e; exact z5N h ho h2
    ·cases e
   ·cases e
  ·intro n o m e
   dsimp only at e
   split at e
   ·split at e
    ·cases e; exact fun st st' a R U => Loc.wrT _ _ _ st st' a R U
    ·cases e
   ·cases e
 none := by
  intro n o e
  skip
  split at e
  ·split at e
   ·cases e
   ·rename_i hd; rw [if_neg hd]
  ·rfl
 some := by
  intro n o m e
  skip
  split at e
  ·split at e
   ·rename_i hd; cases e; exact ⟨_, by rw [if_pos hd], zo _⟩
   ·cases e
  ·cases e }
variable {z : A}
def zcx {t kt et : Nat} {ok : A → Bool}  (mt : z8A P t kt et ok z) (d : Nat) (es : List (A × A)) : XH P := {
 e := fun n o => match o.op with | .lookup t' x k two => if o.dst = some d ∧ t' = t then some (z7N n o.dst es ok z x k two) else none | _ => none
 h := fun n o => match o.op with | .lookup t' x k two => if o.dst = some d ∧ t' = t then some (z8V n o.dst es ok z x k two) else none | _ => none
 ok := by
  refine ⟨?_, ?_⟩
  ·intro C S Fp st a w o m u R U e h h2
   dsimp only at e
   split at e
   ·rename_i t' x k two ho
    split at e
    ·rename_i hd
     obtain ⟨_, rfl⟩ := hd
     cases e; exact z7M mt h ho h2
    ·cases e
   ·cases e
  ·intro n o m e
   dsimp only at e
   split at e
   ·split at e
    ·cases e
     refine Loc.bind (Loc.opnd _) fun _ => Loc.bind (Loc.peek _) fun _ => Loc.bind (Loc.opnd _) fun _ => Loc.bind (Loc.val _) fun _ => Loc.ite (Loc.wrT _ _ _) Loc.fail
    ·cases e
   ·cases e
 none := by
  intro n o e
  skip
  split at e
  ·split at e
   ·cases e
   ·rename_i hd; rw [if_neg hd]
  ·rfl
 some := by
  intro n o m e
  skip
  split at e
  ·split at e
   ·rename_i hd; cases e; exact ⟨_, by rw [if_pos hd], z9S _ _ _ _ _ _ _ _⟩
   ·cases e
  ·cases e }
def zev {t kt et : Nat} {ok : A → Bool}  (mt : z8A P t kt et ok z) (q : Nat) (es es' : List (A × A)) : XH P := {
 e := fun n o => match o.op with
  | .mapUpdate t' (.tmp x) k v => if x = q ∧ t' = t ∧ o.dst = none then some (zaF es ok (.tmp x) k v) else none
  | .insert t' (.tmp x) k v => if x = q ∧ t' = t ∧ o.dst = none then some (zaF es ok (.tmp x) k v) else none
  | _ => none
 h := fun n o => match o.op with
  | .mapUpdate t' (.tmp x) k v => if x = q ∧ t' = t ∧ o.dst = none then some (zcD es es' ok (.tmp x) k v) else none
  | .insert t' (.tmp x) k v => if x = q ∧ t' = t ∧ o.dst = none then some (zcD es es' ok (.tmp x) k v) else none
  | _ => none
 ok := by
  have loc : ∀ x k v, Loc (zaF es ok x k v) := by
   intro x k v
   refine Loc.bind (Loc.opnd _) fun tx => ?_
   split
   ·exact Loc.bind (Loc.rdE _) fun _ => Loc.bind (Loc.opnd _) fun _ => Loc.bind (Loc.val _) fun _ => Loc.bind (Loc.opnd _) fun _ => Loc.bind (Loc.val _) fun _ => Loc.ite (Loc.wrE _ _) Loc.fail
   ·exact Loc.fail
  refine ⟨?_, ?_⟩
  ·intro C S Fp st a w o m u R U e h h2
   dsimp only at e
   split at e
   ·rename_i t' x k v ho
    split at e
    ·rename_i hd
     obtain ⟨_, rfl, hd⟩ := hd
     cases e; exact z4Q mt h (.inl ho) hd h2
    ·cases e
   ·rename_i t' x k v ho
    split at e
    ·rename_i hd
     obtain ⟨_, rfl, hd⟩ := hd
     cases e; exact z4Q mt h (.inr ho) hd h2
    ·cases e
   ·cases e
  ·intro n o m e
   dsimp only at e
   split at e
   ·split at e
    ·cases e; exact loc _ _ _
    ·cases e
   ·split at e
    ·cases e; exact loc _ _ _
    ·cases e
   ·cases e
 none := by
  intro n o e
  skip
  split at e
  ·split at e
   ·cases e
   ·rename_i hd; rw [if_neg hd]
  ·split at e
   ·cases e
   ·rename_i hd; rw [if_neg hd]
  ·rfl
 some := by
  intro n o m e
  skip
  split at e
  ·split at e
   ·rename_i hd; cases e; exact ⟨_, by rw [if_pos hd], z8L _ _ _ _ _ _⟩
   ·cases e
  ·split at e
   ·rename_i hd; cases e; exact ⟨_, by rw [if_pos hd], z8L _ _ _ _ _ _⟩
   ·cases e
  ·cases e }
variable {K V : Type}
def KS [BEq K] : List (K × V) → K → Option V
 | [], _ => none
 | p :: l, x => if p.1 == x then some p.2 else KS l x
def KR [BEq K] : List (K × V) → K → V → List (K × V)
 | [], x, v => [(x, v)]
 | p :: l, x, v => if p.1 == x then (x, v) :: l else p :: KR l x v
class zer {K : Type} [BEq K] (f : K → A) : Prop where
 eq : ∀ x y, (Jh (f x) = Jh (f y)) ↔ (x == y) = true
def Xu (f : K → A) (g : V → A) (l : List (K × V)) : List (A × A) := l.map fun p => (f p.1, g p.2)
theorem z4b {f : K → A} {g : V → A} (x : K) : ∀ (l : List (K × V)) (i j : Nat) (y : A), WW (f x) (Xu f g l) i = some (j, y) → i ≤ j
 | [], _, _, _, e => by cases e
 | p :: l, i, j, y, e => by
  simp [Xu, List.map_cons, WW] at e
  split at e
  ·cases e; exact Nat.le_refl _
  ·exact Nat.le_of_succ_le (z4b x l (i + 1) j y e)
section
variable {K V : Type} [BEq K] {f : K → A} {g : V → A} [hk : zer f]
theorem z4c (x : K) : ∀ (l : List (K × V)) (i : Nat), (WW (f x) (Xu f g l) i).map (·.2) = (KS l x).map g
 | [], _ => rfl
 | p :: l, i => by
  simp [Xu, List.map_cons, WW, KS]
  by_cases h : (p.1 == x) = true
  ·rw [if_pos ((hk.eq _ _).2 h), if_pos h]; rfl
  ·rw [if_neg (fun q => h ((hk.eq _ _).1 q)), if_neg h]; exact z4c x l (i + 1)
theorem z5v (x : K) (v : V) : ∀ (l : List (K × V)) (i : Nat), (match WW (f x) (Xu f g l) i with | some (j, _) => (Xu f g l).set (j - i) (f x, g v) | none => Xu f g l ++ [(f x, g v)]) = Xu f g (KR l x v)
 | [], _ => rfl
 | p :: l, i => by
  simp [Xu, List.map_cons, WW, KR]
  by_cases h : (p.1 == x) = true
  ·rw [if_pos ((hk.eq _ _).2 h), if_pos h]
   simp
  ·rw [if_neg (fun q => h ((hk.eq _ _).1 q)), if_neg h]
   have ih := z5v x v l (i + 1)
   simp [List.map_cons]
   simp [Xu] at ih
   cases hf : WW (f x) (l.map fun p => (f p.1, g p.2)) (i + 1) with
   | none =>
    simp [hf] at ih ⊢
    simp [ih]
   | some q =>
    have ⟨j, y⟩ := q
    have hle := z4b (f := f) (g := g) x l (i + 1) j y hf
    simp [hf] at ih ⊢
    rw [show j - i = (j - (i + 1)) + 1 by omega, List.set_cons_succ, ih]
theorem z5u (x : K) (v : V) (l : List (K × V)) : z3P (Xu f g l) (f x) (g v) = Xu f g (KR l x v) := by
 have := z5v (f := f) (g := g) x v l 0
 simpa only [Nat.sub_zero, z3P] using this
theorem zeP {z0 : V}  (hz : g z0 = z) (x : K) (l : List (K × V)) : (match WW (f x) (Xu f g l) 0 with
      | some (_, v) => if true = true then A.tup [v, .atom (.bool true)] else v
      | none => if true = true then A.tup [z, .atom (.bool false)] else z) = .tup [g ((KS l x).getD z0), .atom (.bool (KS l x).isSome)] := by
  have := z4c (f := f) (g := g) x l 0
  cases hf : WW (f x) (Xu f g l) 0 with
  | none => rw [hf] at this; cases hm : KS l x with | none => simp [hz] | some y => simp [hm] at this
  | some q => have ⟨j, y⟩ := q; rw [hf] at this; cases hm : KS l x with | none => simp [hm] at this | some y' => simp [hm] at this; simp [this]
end
theorem z6i {f : K → A} {g : V → A} {ok : A → Bool} (h : ∀ x, ok (f x) = true) (l : List (K × V)) : ∀ p ∈ Xu f g l, ok p.1 = true := by
 intro p hp
 obtain ⟨q, _, rfl⟩ := List.mem_map.1 hp
 exact h _
def z6e : List IntKind → List Value → Bool
 | [], [] => true
 | k :: ks, .int k' _ :: vs => k' == k && z6e ks vs
 | _, _ => false
def Ke (ks : List IntKind) : A → Bool
 | .agg fs => match z0q.keyLs fs with | some l => z6e ks l | none => false
 | _ => false
variable {ks : List IntKind}
theorem XA {a : A} (h : Ke ks a = true) : ∃ l, z0q a = some l ∧ z6e ks l = true ∧ Jh a = some (.agg l.toArray) := by
 unfold Ke at h
 split at h
 ·rename_i fs
  cases e : z0q.keyLs fs with
  | none => simp [e] at h
  | some l =>
   simp [e] at h
   exact ⟨l, by simp [z0q, e], h, by simp [Jh, z0q, e, Option.map_some, yc]⟩
 ·cases h
theorem JB : ∀ {ks : List IntKind} {l : List Value}, z6e ks l = true → l.length = ks.length
 | [], [], _ => rfl
 | k :: ks, v :: l, h => by
  cases v <;> simp only [z6e] at h <;> first | (cases h; done) | skip
  simp only [Bool.and_eq_true] at h
  simp [JB h.2]
 | [], _ :: _, h => by cases h
 | _ :: _, [], h => by cases h
theorem z6d : ∀ {ks : List IntKind} {l m : List Value}, z6e ks l = true → z6e ks m = true → ∃ r, xF l m = some r ∧ (r = true ↔ m = l)
 | [], [], [], _, _ => ⟨true, rfl, by simp⟩
 | k :: ks, v :: l, u :: m, h1, h2 => by
  cases v <;> simp only [z6e] at h1 <;> first | (cases h1; done) | skip
  cases u <;> simp only [z6e] at h2 <;> first | (cases h2; done) | skip
  simp only [Bool.and_eq_true, beq_iff_eq] at h1 h2
  obtain ⟨rfl, h1⟩ := h1
  obtain ⟨rfl, h2⟩ := h2
  have ⟨r, q1, q2⟩ := z6d h1 h2
  rename_i a _ b
  refine ⟨(a == b) && r, by simp [xF, q1], ?_⟩
  simp only [Bool.and_eq_true, beq_iff_eq, List.cons.injEq, Value.int.injEq, true_and, q2]
  constructor
  ·rintro ⟨rfl, rfl⟩; exact ⟨rfl, rfl⟩
  ·rintro ⟨rfl, rfl⟩; exact ⟨rfl, rfl⟩
 | [], _ :: _, _, h, _ => by cases h
 | [], [], _ :: _, _, h => by cases h
 | _ :: _, [], _, h, _ => by cases h
 | _ :: _, _ :: _, [], _, h => by cases h
section
variable {P : Program} {t kt et : Nat} {z : A}
theorem z7J {i : Go.Ex.EI} (hu : P.underlying t = some (.map kt et)) (d : TypeDesc) (hk : P.underlying kt = some d) (hx : Go.Ex.z6S P kt i) (he : z6S P kt ks.length) (hn : i.size = ks.length) (hz : ∃ zv, (∀ w, (zeroValue et).run P w = .ok zv w) ∧ ∀ S, u6 S z zv) (zd : z.isD = true) : z8A P t kt et (Ke ks) z := {
 und := hu
 zero := hz
 zd := zd
 key := fun a h => by have ⟨l, _, _, h3⟩ := XA h; exact ⟨_, h3⟩
 check := fun a kv e w h hv => by
  have ⟨l, _, h2, h3⟩ := XA h
  rw [h3] at hv
  cases hv
  exact hx.key l e w (by rw [hn]; exact JB h2)
 bits := fun a kv h hv => by
  have ⟨l, _, h2, h3⟩ := XA h
  rw [h3] at hv
  cases hv
  have : ∀ {ks : List IntKind} {l : List Value}, z6e ks l = true → (l.zip l).all (fun (x, y) => Instr.sameBits 9999 x y) = true := by
   intro ks
   induction ks with
   | nil => intro l h; cases l <;> first | rfl | cases h
   | cons k ks ih =>
    intro l h
    cases l with
    | nil => rfl
    | cons v l =>
     cases v <;> simp only [z6e] at h <;> first | (cases h; done) | skip
     simp only [Bool.and_eq_true] at h
     simp only [List.zip_cons_cons, List.all_cons, Bool.and_eq_true]
     exact ⟨by simp [Instr.sameBits], ih h.2⟩
  simp only [Instr.sameBits, beq_self_eq_true, Bool.true_and]
  exact this h2
 find := fun a kv h hv ents es hes hall w => by
  have ⟨l, _, h2, h3⟩ := XA h
  rw [h3] at hv
  cases hv
  have gen : ∀ (ents : List MapEntry) (es : List (A × A)) (i : Nat), (∀ p ∈ es, Ke ks p.1 = true) → ZW (fun p (e : MapEntry) => Jh p.1 = some e.key) es ents → (Instr.findAsking kt (.agg l.toArray) ents i).run P w = .ok (VV (.agg l.toArray) ents i) w := by
   intro ents
   induction ents with
   | nil => intro es i _ _; simp [Instr.findAsking, VV]
   | cons e ents ih =>
    intro es i h1 h2'
    cases es with
    | nil => exact h2'.elim
    | cons p es =>
     have ⟨m, _, g2, g3⟩ := XA (h1 p (by simp))
     have hk2 : e.key = .agg m.toArray := by
      have : Jh p.1 = some e.key := h2'.1
      rw [g3] at this
      exact (Option.some.inj this).symm
     have ⟨r, r1, r2⟩ := z6d h2 g2
     have hrun := he.run l m r w (JB h2) (JB g2) r1
     simp only [Instr.findAsking, VV, Sem.run_bind, show (Op.equal kt (Value.agg l.toArray) e.key).run P w = .ok r w by rw [hk2]; exact hrun, Result.andThen_ok]
     by_cases hlm : m = l
     ·have hr := r2.2 hlm
      subst hlm
      rw [hr]; simp [hk2]
     ·have hr : r = false := by
       cases r
       ·rfl
       ·exact absurd (r2.1 rfl) hlm
      have hne : ¬ e.key = Value.agg l.toArray := by rw [hk2]; intro q; exact hlm (by simpa using q)
      simp only [hr, Bool.false_eq_true, if_false, if_neg hne]
      exact ih es (i + 1) (fun p hp => h1 p (by simp [hp])) h2'.2
  cases ents with
  | nil => simp [Instr.findKey, run_underlying hk, Instr.findNow, VV]
  | cons e ents =>
   have hn : Instr.findNow d (.agg l.toArray) (e :: ents) 0 = none := by
    simp only [Instr.findNow]
    cases d <;> rfl
   simp only [Instr.findKey, Sem.run_bind, run_underlying hk, Result.andThen_ok, hn]
   exact gen (e :: ents) es 0 hes hall }
end
theorem z6T {f : TypeInfo}  (h : P.info? t = some f) (hz : f.zero = some v) (w : World) : (zeroValue t).run P w = .ok v w := by simp [zeroValue, typeInfo, h, hz]
def z8B (P : Program) (f : A)  (enc : β → Bool → Value → List A) (F : ∀ {σ : Type}, (σ → β → Option (σ × Bool)) → σ → Option σ) : Prop :=
 ∀ (σ : Type) (yv : Value) (Y : σ → z1t) (y : σ → β → Option (σ × Bool)), (∀ s x s' b, y s x = some (s', b) → ∀ v, qQ P (.atom yv) (enc x b v) [(yv, .opq (Y s).q)] (.atom (.bool b)) [.opq (Y s').q]) →
  ∀ s s', F y s = some s' → qQ P f [.atom yv] [(yv, .opq (Y s).q)] (.tup []) [.opq (Y s').q]
def YOk (P : Program) (yv : Value) {σ β : Type} (Y : σ → z1t) (enc : β → Bool → Value → List A) (y : σ → β → Option (σ × Bool)) : Prop :=
 ∀ s x s' b, y s x = some (s', b) → ∀ v, qQ P (.atom yv) (enc x b v) [(yv, .opq (Y s).q)] (.atom (.bool b)) [.opq (Y s').q]
def yOf {σ τ β : Type} (step : σ → β → Option (LR σ τ)) : LR σ τ → β → Option (LR σ τ × Bool)
 | .next s, x => match step s x with | some (.next s') => some (.next s', true) | some (.done t) => some (.done t, false) | none => none
 | .done _, _ => none
def zaL : LR σ τ → Bool
 | .next _ => true
 | .done _ => false
variable {b : Bool}
theorem z6U {σ τ β : Type} {step : σ → β → Option (LR σ τ)} {l l' : LR σ τ} {x : β}  (h : yOf step l x = some (l', b)) : ∃ s, l = .next s ∧ step s x = some l' ∧ b = zaL l' := by
 cases l with
 | done t => cases h
 | next s =>
  simp [yOf] at h
  cases hs : step s x with
  | none => simp [hs] at h
  | some r =>
   cases r with
   | _ => simp [hs, Option.some.injEq, Prod.mk.injEq] at h; obtain ⟨rfl, rfl⟩ := h; exact ⟨s, rfl, hs, rfl⟩
variable {caps : List A}{ps : List Nat}{g : Operand}
section
variable {σ τ β : Type}
def z1J (stF : σ → St) (stD : τ → St) : LR σ τ → St
 | .next s => stF s
 | .done t => stD t
def z4B (jc : τ → Code) : LR σ τ → Option Code
 | .next _ => none
 | .done t => some (jc t)
def Vm (rec : Loop) (jc : τ → Code) (l : LR σ τ) : Loop := { rec with state := if (z4B jc l).isNone then .ready else .done, pending := z4B jc l }
theorem AWP.iterG {P : Program} {n : Fr} {st : St} {Q : Exit → St → Prop} {g : Operand} {ps : List Nat} {assign body : Code} {K : Nat} {caps : List A} (live : List Nat) (stF : σ → St) (stD : τ → St) (jc : τ → Code) (enc : β → Bool → Value → List A)
  (step : σ → β → Option (LR σ τ)) (s0 : σ) (lr : LR σ τ)
  (hg : zcp st g = some (.fn K caps)) (hnd : live.Nodup) (h0 : Own.canon live st = stF s0)
  (hcan : ∀ l, (∀ t, (z1J stF stD l t).t.plain = true) ∧ ∀ t, t ∉ live → (z1J stF stD l t).t = .gone)
  (hps : ∀ p ∈ ps, p < n.size ∧ p ∉ live ∧ pinned n.pin p = false) (hlen : ∀ x b v, ps.length = (enc x b v).length)
  (hit : ∀ (L : Nat) (rec : Loop) (tv : Nat → Value), YOk P (.func (.yield L) #[] #[]) (fun l => (Ki L (Vm rec jc l) tv (z1J stF stD l) (hcan l).1 0).single rfl) enc (yOf step) →
   qQ P (.fn K caps) [.atom (.func (.yield L) #[] #[])] [(.func (.yield L) #[] #[], .opq (Ki L (Vm rec jc (LR.next s0 : LR σ τ)) tv (z1J stF stD (.next s0)) (hcan (.next s0)).1 0))] (.tup []) [.opq (Ki L (Vm rec jc lr) tv (z1J stF stD lr) (hcan lr).1 0)])
  (hround : ∀ (tv : Nat → Value) (s : σ) (x : β) (v : Value) (r : LR σ τ), step s x = some r → AWP P ⟨n.size, live.map (fun t => (t, tv t)) ++ n.pin⟩ assign (z29 (stF s) ps (enc x (zaL r) v)) (fun e st1 => e = .normal ∧ AWP P ⟨n.size, live.map (fun t => (t, tv t)) ++ n.pin⟩ body st1 (fun ex st2 => z5X ex = some (z4B jc r) ∧ Own.canon live st2 = z1J stF stD r)))
  (hend : zd4 P n (z1J stF stD lr) Q (z4B jc lr)) : AWP P n (.rangeFunc g ps.toArray assign body) st Q := by
 intro rd mm df w0 S0 M S Fp a w hc hs
 obtain ⟨us, hev, hreps⟩ : ∃ us : List Value, a.eval g = .func (.func K) #[] us.toArray ∧ u6 S (.fn K caps) (a.eval g) := by
  unfold zcp at hg
  split at hg
  ·rename_i t
   split at hg
   ·rename_i x ht
    cases hg
    have q := hs.ent t
    unfold xV at q
    simp [ht] at q
    have q1 : u6 S (.fn K caps) (Act.tv a t) := q.1
    have ⟨cs, c1, c2⟩ := q1
    have c1' := c1
    simp [Rep] at c1
    obtain ⟨us, _, _, rfl⟩ := c1
    exact ⟨us, c2, ⟨_, c1', c2⟩⟩
   ·cases hg
  ·cases hg
 have ⟨Fp0, hs0, hd0⟩ := hs.canonD (hc.post hs) live
 rw [h0] at hs0
 refine wpIn_rangeFunc ?_
 intro fn hfn
 have ⟨df', wA, dq, en1, en2, en3⟩ := zbU (P := P) hc hs0 hd0 fn ps.toArray assign body
 generalize (df'.map zaK).take (df'.length - df.length) = mk at en1 en2
 obtain ⟨rec, hrec⟩ : ∃ q : Loop, q = { state := .ready, pending := none, fn, tmps := a.tmps, params := ps.toArray, assign, body, defers := dq } := ⟨_, rfl⟩
 rw [← hrec] at en1
 have hs1 := en2.newObj (.loop rec)
 have hl : (wA.alloc (.loop rec)).heap[wA.heap.size]? = some (.loop rec) := World.alloc_heap_new wA _
 have hfr : ∀ t k, k ∈ Fp0 t → k < wA.heap.size := fun t k hk => (en2.free t k hk).1
 have hlF : ∀ t, wA.heap.size ∉ Fp0 t := fun t hk => by have := hfr t _ hk; omega
 have hSl : ∀ o, S wA.heap.size o = none := by
  intro o
  cases hq : S wA.heap.size o with
  | none => rfl
  | some v => have := en2.still_lt hq; omega
 have hrec0 : ∀ s, Vm rec jc (LR.next s : LR σ τ) = rec := by intro s; rw [hrec]; rfl
 have hY : ∀ (l : LR σ τ) (x : β) (l' : LR σ τ) (b : Bool), yOf step l x = some (l', b) → ∀ v, qQ P (.atom (.func (.yield wA.heap.size) #[] #[])) (enc x b v) [(.func (.yield wA.heap.size) #[] #[], .opq (Ki wA.heap.size (Vm rec jc l) (Yx a.tmps) (z1J stF stD l) (hcan l).1 0))] (.atom (.bool b))
   [.opq (Ki wA.heap.size (Vm rec jc l') (Yx a.tmps) (z1J stF stD l') (hcan l').1 0)] := by
  intro l x l' b hy v
  obtain ⟨s, rfl, hst, rfl⟩ := z6U hy
  have htm : (Vm rec jc (LR.next s : LR σ τ)).tmps = a.tmps := by rw [hrec0, hrec]
  have hb : zaL l' = (z4B jc l').isNone := by cases l' <;> rfl
  have r := z7w (P := P) (n := ⟨n.size, live.map (fun t => (t, Yx a.tmps t)) ++ n.pin⟩) (l := wA.heap.size) (rec := Vm rec jc (LR.next s : LR σ τ)) (ps := ps) (ys := enc x (zaL l') v) (st0 := stF s) (st1 := z1J stF stD l') (i := 0) (i2 := 0) (live := live) (jc := z4B jc l') (hcan (.next s)).1 (hcan l').1
   (by rw [hrec0, hrec]) (by rw [hrec0, hrec]) (by rw [htm]; exact hs.size)
   (by
    intro j u hj
    rw [htm]
    rcases List.mem_append.1 hj with hj | hj
    ·have ⟨t, ht, he⟩ := List.mem_map.1 hj
     cases he
     rfl
    ·exact hs.pin j u hj)
   (fun t ht => by rw [htm]; exact List.mem_append.2 (.inl (List.mem_map.2 ⟨t, ht, rfl⟩))) hnd
   (fun p hp => by
    have ⟨p1, p2, p3⟩ := hps p hp
    refine ⟨p1, (hcan (.next s)).2 p p2, ?_⟩
    have gen : ∀ l : List Nat, p ∉ l → pinned (l.map (fun t => (t, Yx a.tmps t)) ++ n.pin) p = false := by
     intro l
     induction l with
     | nil => intro _; exact p3
     | cons t l ih =>
      intro hl
      simp [List.mem_cons, not_or] at hl
      simp [List.map_cons, List.cons_append, pinned, ih hl.2, Bool.or_false]
      simpa using Ne.symm hl.1
    exact gen live p2) (hlen x _ v)
   (by
    have := hround (Yx a.tmps) s x v l' hst
    rw [hrec0, hrec]
    exact this)
  have e : ({ Vm rec jc (LR.next s : LR σ τ) with state := if (z4B jc l').isNone then .ready else .done, pending := z4B jc l' } : Loop) = Vm rec jc l' := rfl
  rw [e] at r
  simp [htm] at r
  rw [← hb] at r
  exact r
 have hL := hit wA.heap.size rec (Yx a.tmps) hY S (wA.alloc (.loop rec)) (a.eval g) [.func (.yield wA.heap.size) #[] #[]] (wA.heap.size :: live.flatMap Fp0) hs1.still hreps ⟨uE.2 ⟨rfl, rfl⟩, trivial⟩
  ⟨_, [], rfl, z5F ⟨rfl, by rw [hrec0]; exact hl, hSl, Fp0, (fun t => hs1.ent t), en2.disj, hlF, (fun k => by
   simp [List.mem_cons, List.mem_flatMap]
   constructor
   ·rintro (rfl | ⟨t, _, ht⟩)
    ·exact .inl rfl
    ·exact .inr ⟨t, ht⟩
   ·rintro (rfl | ⟨t, ht⟩)
    ·exact .inl rfl
    ·refine .inr ⟨t, ?_, ht⟩
     apply Classical.byContradiction
     intro hn
     have q := en2.ent t
     unfold xV at q
     have hg := (hcan (.next s0)).2 t hn
     simp [z1J] at hg
     simp [hg] at q
     rw [q] at ht
     simp at ht)⟩ (z3V en2 hnd hlF), rfl⟩ (z3V en2 hnd hlF)
 rcases hL with ⟨k, cs, fn', a1, a2, a3, a4, a5⟩ | ⟨L, q, a1, _⟩
 rotate_left
 ·rw [hev] at a1; cases a1
 refine ⟨wA.heap.size, mk, wA.alloc (.loop rec), { target := .fn (.func k) cs, args := #[.func (.yield wA.heap.size) #[] #[]] }, wA.alloc (.loop rec), k, #[.func (.yield wA.heap.size) #[] #[]] ++ cs, wA.alloc (.loop rec), en1, ?_, fun _ _ => trivial, ?_, fun h => (by cases h), ?_⟩
 ·simp [resolve, a1]
  simp [go_sem]
 ·simp [invoke]
  exact Qh a2 a3 a4 _ _
 ·refine (UC a5 rd (mm - 1)).mono ?_
  rintro e w' ⟨v', rfl, S', F', G, b1, b2, b3, b4, _, b6, _, b8⟩
  have ⟨G1, G2, hGe, b6, hnil⟩ := b6
  have hG2 : G2 = [] := hnil
  subst hG2
  simp [List.nil_append] at hGe
  subst hGe
  have ⟨_, c2, c3, Fp', c4, c5, c6, c7⟩ := z62 b6
  have hnb : (Vm rec jc lr).state ≠ .busy := by
   simp [Vm]
   cases lr <;> simp [z4B]
  have hpend : (Vm rec jc lr).pending = z4B jc lr := rfl
  refine ⟨_, _, run_endLoop c2 hnb, ?_⟩
  rw [hpend]
  have hMl : M wA.heap.size := en2.mine _ en2.below.size
  have hMn : ∀ k, ((wA.alloc (.loop rec)).heap.size ≤ k ∨ k ∈ wA.heap.size :: live.flatMap Fp0) → M k := by
   rintro k (hk | hk)
   ·exact hs1.mine k (Nat.le_trans hs1.below.size hk)
   ·rcases List.mem_cons.1 hk with rfl | hk
    ·exact hMl
    ·have ⟨t, _, ht⟩ := List.mem_flatMap.1 hk
     exact en2.base t k ht
  have hout : ∀ t k, k ∈ Fp' t → ((wA.alloc (.loop rec)).heap.size ≤ k ∨ k ∈ wA.heap.size :: live.flatMap Fp0) := fun t k hk => b8 k (List.mem_append.2 (.inl ((c7 k).2 (.inr ⟨t, hk⟩))))
  have hpf : ∀ o, Sim ⟨n, df', w0, S0, M⟩ S' Fp' [] (z1J stF stD lr) { a with defers := mk ++ a.defers } (w'.putObj wA.heap.size o) := by
   intro o
   refine { size := hs.size, pin := hs.pin, defers := en2.defers, below := ?_, mine := hs.mine, still := ?_, sinc := fun b o v q => b2 _ _ _ (en2.sinc _ _ _ q), sbase := ?_, ent := ?_, disj := c5, base := fun t k hk => hMn k (hout t k hk), xn := by simp, xd := by simp, xb := by simp }
   ·exact (hs1.below.trans (b1.mono hMn)).trans ⟨rfl, rfl, rfl, Nat.le_refl _, by simp [World.putObj], fun k hk => World.putObj_heap_other (by rintro rfl; exact hk hMl)⟩
   ·refine ⟨?_, b4.gok, b4.blk.of (fun _ _ _ q => q) fun g x e => World.putObj_heap_other (by rintro rfl; exact b4.blk.ne (c3 0) x e)⟩
    intro b i v q
    have hne : b ≠ wA.heap.size := by rintro rfl; rw [c3] at q; cases q
    have := b4 b i v q
    unfold yj at this ⊢
    rw [World.putObj_heap_other hne]
    exact this
   ·intro b i hb
    rcases Nat.lt_or_ge b (wA.alloc (.loop rec)).heap.size with hlt | hge
    ·rw [b3 b i hlt (fun hF => hb (hMn b (.inr hF)))]
     exact en2.sbase b i hb
    ·exact absurd (hMn b (.inl hge)) hb
   ·intro t
    exact (c4 t).frame ((hcan lr).1 t) (fun _ _ _ q => q) (fun k hk => ⟨World.putObj_heap_other (by rintro rfl; exact c6 t hk), ((c4 t).owns ((hcan lr).1 t) k hk).2⟩)
  have hdp : ∀ o, ZK df M df' Fp' (w'.putObj wA.heap.size o) := by
   intro o
   have hlt : ∀ D ∈ df', D < wA.heap.size := fun D hD => (Array.getElem?_eq_some_iff.1 (en3.ent D hD)).1
   have hno : ∀ D ∈ df', ¬ ((wA.alloc (.loop rec)).heap.size ≤ D ∨ D ∈ wA.heap.size :: live.flatMap Fp0) := by
    rintro D hD (q | q)
    ·have := hlt D hD
     have h3 : (wA.alloc (.loop rec)).heap.size = wA.heap.size + 1 := by simp
     omega
    ·rcases List.mem_cons.1 q with rfl | q
     ·have := hlt _ hD; omega
     ·have ⟨t, _, ht⟩ := List.mem_flatMap.1 q
      exact en3.off D hD t ht
   refine ⟨en3.nodup, fun D hD => ?_, fun D hD t ht => hno D hD (hout t D ht), en3.old⟩
   rw [World.putObj_heap_other (by have := hlt D hD; omega), b1.block D (hno D hD), World.alloc_old _ (hlt D hD)]
   exact en3.ent D hD
  cases lr with
  | next s => exact ⟨df', stF s, S', Fp', hpf _, hdp _, hend⟩
  | done t => exact AWP.go hend hc (hpf _) (hdp _)
end
def Uw (live : List Nat) (l : List (Nat × T)) : Bool := l.all fun q => live.contains q.1 && q.2.plain
theorem z5I : ∀ (l : List (Nat × T)) (t : Nat), ofL l t = ⟨(ofL l t).t, 0, 0⟩
 | [], t => rfl
 | p :: l, t => by
  simp [ofL]
  split
  ·rfl
  ·exact z5I l t
theorem K8 {live : List Nat} : ∀ {l : List (Nat × T)}, Uw live l = true → (∀ t, (ofL l t).t.plain = true) ∧ ∀ t, t ∉ live → (ofL l t).t = .gone
 | [], _ => ⟨fun _ => rfl, fun _ _ => rfl⟩
 | p :: l, h => by
  simp only [Uw, List.all_cons, Bool.and_eq_true] at h
  obtain ⟨h1, h2⟩ := K8 (l := l) (by simpa only [Uw] using h.2)
  constructor
  ·intro t
   simp only [ofL]
   split
   ·exact h.1.2
   ·exact h1 t
  ·intro t ht
   simp only [ofL]
   split
   ·rename_i e
    subst e
    exact absurd (List.contains_iff_mem.1 h.1.1) ht
   ·exact h2 t ht
variable {l : List (Nat × T)}
theorem KF {live : List Nat}  (h : Uw live l = true) : Own.canon live (ofL l) = ofL l := by
 have ⟨h1, h2⟩ := K8 h
 funext t
 rw [YN]
 by_cases ht : t ∈ live
 ·rw [if_pos ht]
  have h3 := h1 t
  rw [z5I l t]
  unfold z8k
  cases hx : (ofL l t).t with
  | als r p er ec => rw [hx] at h3; cases h3
  | ptr r p er ec => rw [hx] at h3; cases h3
  | _ => rfl
 ·rw [if_neg ht, z5I l t, h2 t ht]
  rfl
theorem AWP.weak {Q Q' : Exit → St → Prop} (h : AWP P n c st Q') (hq : ∀ e st, Q' e st → ∃ live l m, Own.canon live st = ofL l ∧ LeL l m ∧ Q e (ofL m)) : AWP P n c st Q := by
 intro rd mm df w0 S0 M S Fp a w hc hs
 refine wpIn_mono (h rd mm df w0 S0 M S Fp a w hc hs) ?_
 rintro e a' w' ⟨df', st1, S1, Fp1, h1, h2, h3⟩
 have ⟨live, l, m, e1, e2, e3⟩ := hq _ _ h3
 have ⟨Fp2, g1, g2⟩ := Sim.canonD h1 h2 live
 rw [e1] at g1
 exact ⟨df', ofL m, S1, Fp2, e2.or.elim (fun e => e ▸ g1) fun h => g1.le h.ent, g2, e3⟩
def zck : List (Nat × T) → List Nat → List A → List (Nat × T)
 | l, p :: ps, y :: ys => zck ((p, .d y) :: l) ps ys
 | l, _, _ => l
theorem z3S : ∀ (ps : List Nat) (ys : List A) (l : List (Nat × T)), z29 (ofL l) ps ys = ofL (zck l ps ys)
 | [], _, l => by cases l <;> rfl
 | _ :: _, [], l => by cases l <;> rfl
 | p :: ps, y :: ys, l => z3S ps ys ((p, .d y) :: l)
def zdW (n : Fr) (ps live : List Nat) : Bool := ps.all fun p => decide (p < n.size) && (!live.contains p && !pinned n.pin p)
section
variable {σ τ β : Type}
def zbf (stF : σ → List (Nat × T)) (stD : τ → List (Nat × T)) : LR σ τ → List (Nat × T)
 | .next s => stF s
 | .done t => stD t
def itQ (live : List Nat) (stF : σ → List (Nat × T)) (stD : τ → List (Nat × T)) (jc : τ → Code) (r : LR σ τ) (ex : Exit) (st : St) : Prop :=
 z5X ex = some (z4B jc r) ∧ ∃ l', Own.canon live st = ofL l' ∧ LeL l' (zbf stF stD r)
theorem z8s {P : Program} {n : Fr} {Q : Exit → St → Prop}  {fs : List Fm} {st0 : St}   {assign body : Code} {K : Nat} {caps : List A} (e : c = .rangeFunc g ps.toArray assign body) (live : List Nat) (stF : σ → List (Nat × T)) (stD : τ → List (Nat × T)) (jc : τ → Code) (enc : β → Bool → Value → List A)
  (step : σ → β → Option (LR σ τ)) (s0 : σ) (lr : LR σ τ) (l0 : List (Nat × T)) (hs : Own.canon live st0 = ofL l0) (hl : LeL l0 (stF s0)) (hg : zcp (ofL (stF s0)) g = some (.fn K caps)) (hnd : live.Nodup) (hp : ∀ s, Uw live (stF s) = true) (hp2 : ∀ t, Uw live (stD t) = true)
  (hps : zdW n ps live = true) (hlen : ∀ x b v, ps.length = (enc x b v).length) (hit : ∀ (L : Nat) (rec : Loop) (tv : Nat → Value) (hp : ∀ l t, (z1J (fun s => ofL (stF s)) (fun t => ofL (stD t)) l t).t.plain = true), YOk P (.func (.yield L) #[] #[]) (fun l => (Ki L (Vm rec jc l) tv (z1J (fun s => ofL (stF s)) (fun t => ofL (stD t)) l) (hp l) 0).single rfl) enc (yOf step) →
   qQ P (.fn K caps) [.atom (.func (.yield L) #[] #[])] [(.func (.yield L) #[] #[], .opq (Ki L (Vm rec jc (LR.next s0 : LR σ τ)) tv (z1J (fun s => ofL (stF s)) (fun t => ofL (stD t)) (.next s0)) (hp (.next s0)) 0))] (.tup []) [.opq (Ki L (Vm rec jc lr) tv (z1J (fun s => ofL (stF s)) (fun t => ofL (stD t)) lr) (hp lr) 0)])
  (hround : ∀ (tv : Nat → Value) (s : σ) (x : β) (v : Value) (r : LR σ τ), step s x = some r → AWP P ⟨n.size, live.map (fun t => (t, tv t)) ++ n.pin⟩ assign (ofL (zck (stF s) ps (enc x (zaL r) v)))
   (Qf P ⟨n.size, live.map (fun t => (t, tv t)) ++ n.pin⟩ [] (fun e st1 => e = .normal ∧ AWP P ⟨n.size, live.map (fun t => (t, tv t)) ++ n.pin⟩ body st1 (Qf P ⟨n.size, live.map (fun t => (t, tv t)) ++ n.pin⟩ [] (itQ live stF stD jc r)))))
  (hend : zd4 P n (ofL (zbf stF stD lr)) (Qf P n fs Q) (z4B jc lr)) : AWP P n c st0 (Qf P n fs Q) := by
 subst e
 refine AWP.canon live ?_
 rw [hs]
 refine zay hl ?_
 have hst : ∀ l : LR σ τ, z1J (fun s => ofL (stF s)) (fun t => ofL (stD t)) l = ofL (zbf stF stD l) := by intro l; cases l <;> rfl
 have hpl : ∀ l : LR σ τ, Uw live (zbf stF stD l) = true := by
  intro l
  cases l with
  | next s => exact hp s
  | done t => exact hp2 t
 refine AWP.iterG live (fun s => ofL (stF s)) (fun t => ofL (stD t)) jc enc step s0 lr hg hnd (KF (hp s0)) (fun l => by rw [hst]; exact K8 (hpl l)) ?_ hlen (fun L rec tv hY => hit L rec tv _ hY) ?_ (by rw [hst]; exact hend)
 ·intro p hp
  have := List.all_eq_true.1 hps p hp
  simp only [Bool.and_eq_true, decide_eq_true_eq, Bool.not_eq_true'] at this
  exact ⟨this.1, fun h => by rw [List.contains_iff_mem.2 h] at this; simp at this, this.2.2⟩
 ·intro tv s x v r hr
  rw [z3S]
  refine AWP.mono (hround tv s x v r hr) ?_
  rintro e st1 ⟨h1, h2⟩
  refine ⟨h1, AWP.weak h2 ?_⟩
  rintro ex st2 ⟨hj, l', q1, q2⟩
  refine ⟨live, l', _, q1, q2, hj, ?_⟩
  rw [KF (hpl r), hst]
theorem KJ {P : Program} {n : Fr} {Q : Exit → St → Prop}  {fs : List Fm} {st0 : St}   {assign body : Code} {K : Nat} {caps : List A} (e : c = .rangeFunc g ps.toArray assign body) (live : List Nat) (stF : σ → List (Nat × T)) (stD : τ → List (Nat × T)) (jc : τ → Code) (enc : β → Bool → Value → List A) {F : ∀ {σ : Type}, (σ → β → Option (σ × Bool)) → σ → Option σ}
  (step : σ → β → Option (LR σ τ)) (s0 : σ) (lr : LR σ τ) (l0 : List (Nat × T)) (hs : Own.canon live st0 = ofL l0) (hl : LeL l0 (stF s0)) (hg : zcp (ofL (stF s0)) g = some (.fn K caps)) (hnd : live.Nodup) (hp : ∀ s, Uw live (stF s) = true) (hp2 : ∀ t, Uw live (stD t) = true)
  (hps : zdW n ps live = true) (hlen : ∀ x b v, ps.length = (enc x b v).length) (hit : z8B P (.fn K caps) enc F) (hF : F (yOf step) (.next s0) = some lr)
  (hround : ∀ (tv : Nat → Value) (s : σ) (x : β) (v : Value) (r : LR σ τ), step s x = some r → AWP P ⟨n.size, live.map (fun t => (t, tv t)) ++ n.pin⟩ assign (ofL (zck (stF s) ps (enc x (zaL r) v)))
   (Qf P ⟨n.size, live.map (fun t => (t, tv t)) ++ n.pin⟩ [] (fun e st1 => e = .normal ∧ AWP P ⟨n.size, live.map (fun t => (t, tv t)) ++ n.pin⟩ body st1 (Qf P ⟨n.size, live.map (fun t => (t, tv t)) ++ n.pin⟩ [] (itQ live stF stD jc r)))))
  (hend : zd4 P n (ofL (zbf stF stD lr)) (Qf P n fs Q) (z4B jc lr)) : AWP P n c st0 (Qf P n fs Q) :=
 z8s e live stF stD jc enc step s0 lr l0 hs hl hg hnd hp hp2 hps hlen (fun L rec tv hp hY => hit _ _ _ _ hY _ _ hF) hround hend
end
section
variable {P : Program} {tt : TT} {ctr : Ctr} {n : Fr} {Q : Exit → St → Prop}
theorem zc5 (X : XH P) (hT : wG P tt) (hC : zO P ctr) (hm : P.follows .mixedOrders = true) (live : List Nat) (k : Nat) {c : Code} {fs : List Fm} {st : St} (hs : List H) (ex : Exit) (l' : List (Nat × T)) (obs : List Ob)
  (e : z1u X tt ctr n live k c fs st hs = some (.fin ex, ofL l', obs.map Ob.p)) (h : ∀ st0, canon live st0 = ofL l' → Q ex st0) : AWP P n c st (Qf P n fs Q) := z3t X hT hC hm live k obs e h
theorem XI {J : St → Prop} : ∀ {fs : List Fm} {st : St}, unw fs = .stop (.back J) → J st → Qf P n fs Q .normal st
 | [], _, e, _ => by cases e
 | .seq z :: fs, _, e, h => by cases e
 | .blk id :: fs, _, e, h => XI (fs := fs) (by simpa only [unw] using e) h
 | .pre J :: fs, _, e, h => by
  simp [unw, Nxt.stop.injEq, Stop.back.injEq] at e
  subst e
  exact h
 | .rnd (m + 1) c :: fs, _, e, h => by cases e
 | .rnd 0 _ :: _, _, e, _ => by cases e
theorem z1l {live : List Nat}   (h0 : canon live st0 = ofL l) (h : AWP P n c (ofL l) Q) : AWP P n c st0 Q := by
 refine AWP.canon live ?_
 rw [h0]
 exact h
end
variable {yv : Value}{nt : Nat}
theorem z5Y {tt : TT}    {nt : Nat} {caps : List A} {yv : Value} {o o' : z1t} (hT : wG P tt) (hf : P.funcs[k]? = some fn) (hnm : (fn.name == "runtime.NumGoroutine") = false) (hb : fn.body = some body)
  (hn : nt = fn.ntmps) (hr : fn.results = #[]) (ha : caps.length + 1 ≤ fn.ntmps)
  (h : ∀ E : Exit → St → Prop, (∀ ex st, (ex = .normal ∨ ex = .ret) → canon [0] st = ofL [(0, .own (.opq o'.q))] → E ex st) →
   AWP P ⟨nt, [(0, yv)]⟩ body (ofL (z4J 0 (.opq o.q :: caps))) (Qf P ⟨nt, [(0, yv)]⟩ [] E)) : qQ P (.fn k caps) [.atom yv] [(yv, .opq o.q)] (.tup []) [.opq o'.q] := by
 subst hn
 refine z2m (tt := tt) (rs := []) [0] (args := [.atom yv]) (caps := caps) (xs := [.opq o.q]) (vals := [yv]) hT hf hnm hb hr (by simpa using ha) (by simp) (by simp) rfl ?_
 rw [z41]
 refine h _ ?_
 intro ex st hx hc
 refine ⟨hx, ?_⟩
 have h0 := congrFun hc 0
 rw [YN] at h0
 simp only [List.mem_singleton, if_true, ofL, Ent.mk.injEq, and_true] at h0
 have h1 : (st 0).t = .own (.opq o'.q) := by
  unfold z8k at h0
  cases hx : (st 0).t with
  | own a => simpa only [hx] using h0
  | d a => simp only [hx] at h0; cases h0
  | gone => simp only [hx] at h0; cases h0
  | _ => simp only [hx] at h0; split at h0 <;> cases h0
 have h2 : QV [0] st = some ([.opq o'.q], [0], []) := by
  simp only [QV]
  show SM.bind (rdE 0) _ st = _
  unfold SM.bind
  simp only [rdE, zl, h1]
  rfl
 refine ⟨[0], [], ?_⟩
 simp only [zco, List.map_nil]
 show SM.bind (shutArgs tt []) _ st = _
 unfold SM.bind
 simp only [shutArgs]
 simp only [pure, SM.pure, bind, SM.bind, zl, h2]
 rfl
theorem z5Z {nt : Nat} {caps : List A}  {enc : β → Bool → Value → List A} {F : ∀ {σ : Type}, (σ → β → Option (σ × Bool)) → σ → Option σ} (hT : wG P tt) (hf : P.funcs[k]? = some fn) (hnm : (fn.name == "runtime.NumGoroutine") = false) (hb : fn.body = some body)
  (hn : nt = fn.ntmps) (hr : fn.results = #[]) (ha : caps.length + 1 ≤ fn.ntmps)
  (h : ∀ (σ : Type) (yv : Value) (Y : σ → z1t) (y : σ → β → Option (σ × Bool)), YOk P yv Y enc y → ∀ s s', F y s = some s' → ∀ E : Exit → St → Prop, (∀ ex st, (ex = .normal ∨ ex = .ret) → canon [0] st = ofL [(0, .own (.opq (Y s').q))] → E ex st) →
   AWP P ⟨nt, [(0, yv)]⟩ body (ofL (z4J 0 (.opq (Y s).q :: caps))) (Qf P ⟨nt, [(0, yv)]⟩ [] E)) : z8B P (.fn k caps) enc F := fun σ yv Y y hy s s' hs => z5Y hT hf hnm hb hn hr ha (h σ yv Y y hy s s' hs)
def z7E (tt : TT) (n : Fr) (ty : Nat) (x : T) : HM A :=
 match x with
 | .als r p er ec =>
  match WO n.pin r with
  | some _ => yk (refT tt n ty (.als r p er ec))
  | none => JR tt ty (.als r p er ec)
 | x => JR tt ty x
theorem zbl (tt : TT) (n : Fr) (ty : Nat) (x : T) : Snd (refT tt n ty x) (z7E tt n ty x) := by
 cases x with
 | als r p er ec =>
  cases hp : WO n.pin r with
  | some v => simp [z7E, hp]; exact zo _
  | none => simp [z7E, refT, hp]; exact XU tt ty (.als r p er ec)
 | d a => exact XU tt ty (.d a)
 | own a => exact XU tt ty (.own a)
 | ptr r p er ec => exact XU tt ty (.ptr r p er ec)
 | gone => exact XU tt ty .gone
def Jw (tt : TT) (n : Fr) : List (Operand × Nat) → HM (List A)
 | [] => pure []
 | (x, t) :: as_ => yk (opnd x) >>= fun y => z7E tt n t y >>= fun a => Jw tt n as_ >>= fun bs => pure (a :: bs)
theorem JT (tt : TT) (n : Fr) : ∀ as_, Snd (refArgs tt n as_) (Jw tt n as_)
 | [] => wB _
 | (x, t) :: as_ => zk (zo _) fun y => zk (zbl _ _ _ _) fun a => zk (JT tt n as_) fun bs => wB _
open Classical in
def z9G (yv : Value) {σ β : Type} (Y : σ → z1t) (enc : β → Bool → Value → List A) (s : σ) (x : β) (s' : σ) (b : Bool) (v : Value) (f : A) (xs : List A) (ls : List (Value × A)) : Option (A × List A) :=
 if f = .atom yv ∧ ls = [(yv, .opq (Y s).q)] ∧ (∀ S vs, ZW (u6 S) xs vs → ZW (u6 S) (enc x b v) vs) then some (.atom (.bool b), [.opq (Y s').q]) else none
theorem z9F {σ β : Type} {Y : σ → z1t} {enc : β → Bool → Value → List A} {y : σ → β → Option (σ × Bool)} (hy : YOk P yv Y enc y) {s : σ} {x : β} {s' : σ}  (v : Value) (h : y s x = some (s', b)) :
  ∀ f xs ls r ys, z9G yv Y enc s x s' b v f xs ls = some (r, ys) → qQ P f xs ls r ys := by
 intro f xs ls r ys e
 unfold z9G at e
 split at e
 ·rename_i hc
  obtain ⟨rfl, rfl, h3⟩ := hc
  cases e
  intro S w fv vs F hS hfv hvs
  exact hy s x s' b h v S w fv vs F hS hfv (h3 S vs hvs)
 ·cases e
theorem z2X {σ β : Type} {Y : σ → z1t} {enc : β → Bool → Value → List A} {s : σ} {x : β} {s' : σ}   (xs : List A) (h : KO xs (enc x b v)) : z9G yv Y enc s x s' b v (.atom yv) xs [(yv, .opq (Y s).q)] = some (.atom (.bool b), [.opq (Y s').q]) := by
 unfold z9G
 rw [if_pos ⟨rfl, rfl, h.all⟩]
def z3X (tt : TT) (tab : A → List A → List (Value × A) → Option (A × List A)) (r : A) (ys : List A) (n : Fr) (dst : Option Nat) (f : Operand) (as_ : List (Operand × Nat)) (L : List Nat) : HM Unit :=
 Jw tt n [(f, 0)] >>= fun fs => Jw tt n as_ >>= fun xs => yk (lentsA n L) >>= fun ls =>
  match fs with
  | [fa] => z8R (tab fa xs ls = some (r, ys)) >>= fun _ => yk (backsA L ys >>= fun _ => wrT n dst (mkT r))
  | _ => zF
theorem z58 (tt : TT) (tab : A → List A → List (Value × A) → Option (A × List A)) (r : A) (ys : List A) (n : Fr) (dst : Option Nat) (f : Operand) (as_ : List (Operand × Nat)) (L : List Nat) : Snd (lentQ tt tab n dst f as_ L) (z3X tt tab r ys n dst f as_ L) := by
 unfold lentQ z3X
 refine zk (JT _ _ _) fun fs => zk (JT _ _ _) fun xs => zk (zo _) fun ls => ?_
 rcases fs with _ | ⟨fa, _ | ⟨z, l⟩⟩
 ·exact zp _
 ·refine Qg fun h => ?_
  simp [h]
  exact zo _
 ·exact zp _
def z09 (tt : TT)  {σ β : Type} {Y : σ → z1t} {enc : β → Bool → Value → List A} {y : σ → β → Option (σ × Bool)} (hy : YOk P yv Y enc y) (d : Nat) {s : σ} {x : β} {s' : σ}  (v : Value) (h : y s x = some (s', b)) : XH P := {
 e := Wb tt (z9G yv Y enc s x s' b v) d [0]
 h := fun n o => match o.op with
  | .call ⟨.value f, args, tys⟩ => if o.dst = some d ∧ args.size = tys.size then some (z3X tt (z9G yv Y enc s x s' b v) (.atom (.bool b)) [.opq (Y s').q] n o.dst f (args.toList.zip tys.toList) [0]) else none
  | _ => none
 ok := z0u (z9F hy v h) d [0]
 none := by
  intro n o e
  unfold Wb at e
  split at e
  ·rename_i ho
   split at e
   ·cases e
   ·rename_i hd; simp [ho, if_neg hd]
  ·rename_i hne
   split
   ·rename_i ho2; exact absurd ho2 (by intro h; exact hne _ _ _ h)
   ·rfl
 some := by
  intro n o m e
  unfold Wb at e
  split at e
  ·rename_i ho
   split at e
   ·rename_i hd; cases e
    refine ⟨_, ?_, z58 tt (z9G yv Y enc s x s' b v) (.atom (.bool b)) [.opq (Y s').q] n o.dst _ _ [0]⟩
    rw [ho]
    exact if_pos hd
   ·cases e
  ·cases e }
variable {M : Nat → Prop}{df : List Nat}{w0 : World}
theorem Sim.pinned {S0 : zn}        (h : Sim ⟨n, df, w0, S0, M⟩ S Fp X st a w) (k : Nat) : Sim ⟨⟨n.size, (k, Act.tv a k) :: n.pin⟩, df, w0, S0, M⟩ S Fp X st a w := {
 size := h.size
 pin := fun j u hj => by
  rcases List.mem_cons.1 hj with e | hj
  ·cases e; rfl
  ·exact h.pin j u hj
 defers := h.defers
 below := h.below
 mine := h.mine
 still := h.still
 sinc := h.sinc
 sbase := h.sbase
 ent := h.ent
 disj := h.disj
 base := h.base
 xn := h.xn
 xd := h.xd
 xb := h.xb }
theorem Sim.unpinned {S0 : zn}        (h : Sim ⟨⟨n.size, (k, v) :: n.pin⟩, df, w0, S0, M⟩ S Fp X st a w) : Sim ⟨n, df, w0, S0, M⟩ S Fp X st a w := {
 size := h.size
 pin := fun j u hj => h.pin j u (List.mem_cons_of_mem _ hj)
 defers := h.defers
 below := h.below
 mine := h.mine
 still := h.still
 sinc := h.sinc
 sbase := h.sbase
 ent := h.ent
 disj := h.disj
 base := h.base
 xn := h.xn
 xd := h.xd
 xb := h.xb }
theorem AWP.pin (k : Nat) (h : ∀ v, AWP P ⟨n.size, (k, v) :: n.pin⟩ c st Q) : AWP P n c st Q := by
 intro rd m df w0 S0 M S Fp a w hc hs
 refine wpIn_mono (h (Act.tv a k) rd m df w0 S0 M S Fp a w ⟨hc.nodup, hc.df, hc.rd⟩ (hs.pinned k)) ?_
 rintro e a' w' ⟨df', st1, S1, Fp1, h1, h2, h3⟩
 exact ⟨df', st1, S1, Fp1, h1.unpinned, h2, h3⟩
theorem zej (e : fs = []) (k : Nat) (h : ∀ v, AWP P ⟨n.size, (k, v) :: n.pin⟩ c st (Qf P ⟨n.size, (k, v) :: n.pin⟩ [] Q)) : AWP P n c st (Qf P n fs Q) := by
 subst e
 exact AWP.pin k h
open Classical in
def z9I (f : A) (xs : List A) (ls : List (Value × A)) (r : A) (ys : List A) (f' : A) (xs' : List A) (ls' : List (Value × A)) : Option (A × List A) :=
 if f' = f ∧ ls' = ls ∧ (∀ S vs, ZW (u6 S) xs' vs → ZW (u6 S) xs vs) then some (r, ys) else none
variable {ls : List (Value × A)}{ys : List A}{f : A}
theorem z9H (h : qQ P f xs ls r ys) : ∀ f' xs' ls' r' ys', z9I f xs ls r ys f' xs' ls' = some (r', ys') → qQ P f' xs' ls' r' ys' := by
 intro f' xs' ls' r' ys' e
 unfold z9I at e
 split at e
 ·rename_i hc
  obtain ⟨rfl, rfl, h3⟩ := hc
  cases e
  intro S w fv vs F hS hfv hvs
  exact h S w fv vs F hS hfv (h3 S vs hvs)
 ·cases e
theorem YQ (xs' : List A) (h : KO xs' xs) : z9I f xs ls r ys f xs' ls = some (r, ys) := by
 unfold z9I
 rw [if_pos ⟨rfl, rfl, h.all⟩]
def qo (tt : TT) (L : List Nat)      (h : qQ P f xs ls r ys) (dd : Nat) : XH P := {
 e := Wb tt (z9I f xs ls r ys) dd L
 h := fun n o => match o.op with
  | .call ⟨.value g, args, tys⟩ => if o.dst = some dd ∧ args.size = tys.size then some (z3X tt (z9I f xs ls r ys) r ys n o.dst g (args.toList.zip tys.toList) L) else none
  | _ => none
 ok := z0u (z9H h) dd L
 none := by
  intro n o e
  unfold Wb at e
  split at e
  ·rename_i ho
   split at e
   ·cases e
   ·rename_i hd; simp [ho, if_neg hd]
  ·rename_i hne
   split
   ·rename_i ho2; exact absurd ho2 (by intro h; exact hne _ _ _ h)
   ·rfl
 some := by
  intro n o m e
  unfold Wb at e
  split at e
  ·rename_i ho
   split at e
   ·rename_i hd; cases e
    refine ⟨_, ?_, z58 tt (z9I f xs ls r ys) r ys n o.dst _ _ L⟩
    rw [ho]
    exact if_pos hd
   ·cases e
  ·cases e }
theorem z2d {st : St} : ∀ {is : List Nat} {ys : List A}, is.length = ys.length → (∀ p ∈ is.zip ys, (st p.1).t = .own p.2) → QV is st = some (ys, is, [])
 | [], [], _, _ => rfl
 | i :: is, y :: ys, hl, h => by
  have h1 : (st i).t = .own y := h (i, y) (by simp)
  have h2 := z2d (st := st) (is := is) (ys := ys) (by simpa using hl) (fun p hp => h p (by simp [hp]))
  simp only [QV]
  show SM.bind (rdE i) _ st = _
  unfold SM.bind
  simp only [rdE, zl, h1, bind, SM.bind, h2, pure, SM.pure]
  simp
 | [], _ :: _, hl, _ => by simp at hl
 | _ :: _, [], hl, _ => by simp at hl
theorem z8j {live : List Nat}    (h : z8k live st k = .own y) : (st k).t = .own y := by
 unfold z8k at h
 cases hx : (st k).t with
 | own a => simpa only [hx] using h
 | d a => simp only [hx] at h; cases h
 | gone => simp only [hx] at h; cases h
 | _ => simp only [hx] at h; split at h <;> cases h
theorem z7P {tt : TT}    {nt : Nat} (is : List Nat) {args caps xs : List A} {vals : List Value} {ys : List A} (hT : wG P tt) (hf : P.funcs[k]? = some fn) (hnm : (fn.name == "runtime.NumGoroutine") = false) (hb : fn.body = some body)
  (hn : nt = fn.ntmps) (hr : fn.results = #[]) (ha : (args ++ caps).length ≤ fn.ntmps) (hnd : is.Nodup) (hbase : is.map (fun i => (args ++ caps)[i]?) = vals.map (fun v => some (.atom v))) (hl : xs.length = vals.length)
  (h : ∀ E : Exit → St → Prop, (∀ ex st, (ex = .normal ∨ ex = .ret) → (∀ p ∈ is.zip ys, (st p.1).t = .own p.2) → E ex st) →
   AWP P ⟨nt, is.zip vals⟩ body (ofL (z4J 0 (QQ (args ++ caps) is xs))) (Qf P ⟨nt, is.zip vals⟩ [] E)) (hy : is.length = ys.length) : qQ P (.fn k caps) args (vals.zip xs) (.tup []) ys := by
 subst hn
 refine z2m (tt := tt) (rs := []) is hT hf hnm hb hr ha hnd hbase hl ?_
 rw [z41]
 refine h _ ?_
 intro ex st hx hc
 refine ⟨hx, is, [], ?_⟩
 have h2 := z2d hy hc
 simp [zco, List.map_nil]
 show SM.bind (shutArgs tt []) _ st = _
 unfold SM.bind
 simp [shutArgs]
 simp [pure, SM.pure, bind, SM.bind, zl, h2]
 show (match (match (SM.pure (A.tup [], ys) : SM (A × List A)) st with | none => none | some (b, R', U') => some (b, is ++ R', [] ++ U')) with | none => none | some (b, R', U') => some (b, [] ++ R', [] ++ U')) = _
 simp [SM.pure]
theorem zbB {live : List Nat}   (hc : canon live st = ofL l)   (hk : live.contains k = true) (hy : (ofL l k).t = .own y) : (st k).t = .own y := by
 have := congrFun hc k
 rw [YN, if_pos (List.contains_iff_mem.1 hk)] at this
 rw [← this] at hy
 exact z8j hy
def z9a (live : List Nat) (l : List (Nat × T)) : List Nat → List A → Prop
 | i :: is, y :: ys => (live.contains i = true ∧ (ofL l i).t = .own y) ∧ z9a live l is ys
 | _, _ => True
theorem z5C {live : List Nat}   (hc : canon live st = ofL l) : ∀ {is : List Nat} {ys : List A}, z9a live l is ys → ∀ p ∈ is.zip ys, (st p.1).t = .own p.2
 | [], _, _, p, hp => by simp at hp
 | _ :: _, [], _, p, hp => by simp at hp
 | i :: is, y :: ys, h, p, hp => by
  rcases List.mem_cons.1 hp with rfl | hp
  ·exact zbB hc h.1.1 h.1.2
  ·exact z5C hc h.2 p hp
theorem z6w {c x y : Code}    (e : c = .seq x y) (E : St → Prop) (h : AWP P n x st (Qf P n [] (fun e st1 => e = .normal ∧ E st1))) (h2 : ∀ st1, E st1 → AWP P n y st1 (Qf P n fs Q)) : AWP P n c st (Qf P n fs Q) := by
 subst e
 refine AWP.seq (AWP.mono h ?_)
 rintro e st1 ⟨rfl, q⟩
 exact h2 st1 q
theorem z2K {c x y : Code}    (e : c = .seq x y) (k : Nat) (E : St → Prop) (h : ∀ v, AWP P ⟨n.size, (k, v) :: n.pin⟩ x st (Qf P ⟨n.size, (k, v) :: n.pin⟩ [] (fun e st1 => e = .normal ∧ E st1))) (h2 : ∀ st1, E st1 → AWP P n y st1 (Qf P n fs Q)) : AWP P n c st (Qf P n fs Q) :=
 z6w e E (AWP.pin k fun v => h v) h2
section
variable {C : Ctx} {S : zn} {Fp : Nat → List Nat} {st : St} {a : Act} {w : World}
open Classical in
def mvQ (n : Fr) (dst : Option Nat) (s : Nat) (v : Value) : SM Unit := if WO n.pin s = some v then wrT n dst (.d (.atom v)) else zt
open Classical in
theorem Loc.mvQ (n : Fr) (dst : Option Nat) (s : Nat) (v : Value) : Loc (mvQ n dst s v) := by
 unfold Go.Own.mvQ
 exact Loc.ite (Loc.wrT _ _ _) Loc.fail
def zdY (n : Fr) (dst : Option Nat) (s : Nat) (v : Value) : HM Unit := Zq (WO n.pin s = some v) (yk (wrT n dst (.d (.atom v))))
open Classical in
theorem zeF (n : Fr) (dst : Option Nat) (s : Nat) (v : Value) : Snd (mvQ n dst s v) (zdY n dst s v) := ue (zo _)
theorem zbG (h : Sim C S Fp [] st a w)  {s : Nat} {v : Value} (hv : v.oneCell' = true) (ho : o.op = .move (.tmp s))    (e : mvQ C.n o.dst s v st = some (u, R, U)) : qE P C o a w (zl U st) := by
 unfold mvQ at e
 split at e
 ·rename_i hp
  have hs := h.pin s v (vL hp)
  have ⟨Fp', hs'⟩ := wJ h e (x := .d (.atom v)) (v := v) (zw.2 ⟨rfl, hv⟩)
  refine zr ?_ hs'
  have ev : a.eval (.tmp s) = v := hs
  simp [execOp, ho, ev]
 ·cases e
def xMv (P : Program) (d s : Nat) (v : Value) (hv : v.oneCell' = true) : XH P := {
 e := fun n o => match o.op with | .move (.tmp t) => if o.dst = some d ∧ t = s then some (mvQ n o.dst s v) else none | _ => none
 h := fun n o => match o.op with | .move (.tmp t) => if o.dst = some d ∧ t = s then some (zdY n o.dst s v) else none | _ => none
 ok := by
  refine ⟨?_, ?_⟩
  ·intro C S Fp st a w o m u R U e h h2
   dsimp only at e
   split at e
   ·rename_i t ho
    split at e
    ·rename_i hd
     obtain ⟨_, rfl⟩ := hd
     cases e; exact zbG h hv ho h2
    ·cases e
   ·cases e
  ·intro n o m e
   dsimp only at e
   split at e
   ·split at e
    ·cases e
     exact fun st st' a R U => Loc.mvQ _ _ _ _ st st' a R U
    ·cases e
   ·cases e
 none := by
  intro n o e
  skip
  split at e
  ·split at e
   ·cases e
   ·rename_i hd; rw [if_neg hd]
  ·rfl
 some := by
  intro n o m e
  skip
  split at e
  ·split at e
   ·rename_i hd; cases e; exact ⟨_, by rw [if_pos hd], zeF _ _ _ _⟩
   ·cases e
  ·cases e }
open Classical in
def ixQ (tt : TT) (n : Fr) (dst : Option Nat) (ty s : Nat) (v : Value) (x i : Operand) : SM Unit := do
 let tx ← opnd x
 let ti ← opnd i
 let vi ← val ti
 if tx = .d (.atom v) ∧ WO n.pin s = some v then do
  let e ← rdE s
  indexAddrA tt n dst ty (.als s [] e.er e.ec) vi
 else zt
def zdZ (tt : TT) (n : Fr) (dst : Option Nat) (ty s : Nat) (v : Value) (x i : Operand) : HM Unit :=
 yk (opnd x) >>= fun tx => yk (opnd i) >>= fun ti => Q0 ti >>= fun vi => Zq (tx = .d (.atom v) ∧ WO n.pin s = some v) (yk (rdE s) >>= fun e => VQ tt n dst ty (.als s [] e.er e.ec) vi)
open Classical in
theorem zeH (tt : TT) (n : Fr) (dst : Option Nat) (ty s : Nat) (v : Value) (x i : Operand) : Snd (ixQ tt n dst ty s v x i) (zdZ tt n dst ty s v x i) :=
 zk (zo _) fun _ => zk (zo _) fun _ => zk (Za _) fun _ => ue (zk (zo _) fun _ => QR _ _ _ _ _ _)
theorem zbN (hT : wG P tt) (h : Sim C S Fp [] st a w)  {t s : Nat}  {x i : Operand} (ho : o.op = .indexAddr t x i)    (e : ixQ tt C.n o.dst t s v x i st = some (u, R, U)) : qE P C o a w (zl U st) := by
 unfold ixQ at e
 have ⟨y, _, hx, e1⟩ := bR (zD h) e
 have ⟨ti, _, hi, e2⟩ := bR (zD h) e1
 have ⟨vi, _, qi, e3⟩ := bR (vO h hi) e2
 split at e3
 ·rename_i hc
  obtain ⟨rfl, hp⟩ := hc
  have hev : a.eval x = v := (zw.1 hx).1
  have hs := h.pin s v (vL hp)
  have ⟨_, e4⟩ := bD e3
  unfold indexAddrA at e4
  cases vi with
  | atom vv =>
   cases vv with
   | int k j =>
    simp only at e4
    have ⟨ei, _⟩ := zw.1 qi
    obtain ⟨en2, R7', U7', R8', U8', h7', e4b, rfl, rfl⟩ := bind_some e4
    obtain ⟨rfl, rfl, rfl⟩ := qJ h7'
    obtain ⟨z, R9, U9, R10, U10, h9, e5, rfl, rfl⟩ := bind_some e4b
    have hals : Xt w.heap st (Act.tv a) s [] (st s).er (st s).ec (a.eval x) := by
     refine ⟨Nat.le_refl _, Nat.le_refl _, ?_⟩
     have : a.eval x = Act.tv a s := by rw [hev, hs]
     cases (st s).t with
     | own x0 => exact fun _ _ => .inl ⟨rfl, this⟩
     | d x0 => exact fun _ _ => this
     | _ => trivial
    have hx' : TOk S w.heap st (Act.tv a) (T.als s [] (st s).er (st s).ec) (a.eval x) := hals
    obtain ⟨rfl, q⟩ := VM h hx' h9
    cases z with
    | osl sz tg es =>
     simp only at e5
     split at e5
     ·rename_i hc
      rcases q with ⟨x0, cs, F, q1, q2, q3, q4, q5, q6, _⟩ | ⟨q1, q2, q3, q4, q5⟩
      ·have ⟨b, c, ev, hp⟩ := z3u h hals q1 q2 q3 q4 hc.2.2
       have ⟨e', he, hsz⟩ := vq hT hc.1 w
       have hp' : TOk S w.heap st (Act.tv a) (T.ptr s ([] ++ [ZI.idx j.toNat]) (st s).er (st s).ec) (.pointer (some ⟨b, j.toNat * sz, none⟩)) := hp
       have ⟨Fp', hs'⟩ := wJ h e5 hp'
       refine zr ?_ hs'
       simp [execOp, ho, ei, ev, XV he hsz hc.2.1 hc.2.2]
      ·simp [we] at q5
       have ⟨cs, q5, _⟩ := q5
       simp [Rep] at q5
     ·cases e5
    | sl sz tg xs =>
     simp only at e5
     have hv : we S (.sl sz tg xs) (a.eval x) := by
      rcases q with ⟨x0, cs, F, q1, q2, q3, q4, q5, q6, _⟩ | ⟨q1, q2, q3, q4, q5⟩
      ·exact u6.repV ⟨cs, (q5.isD rfl).1, q6⟩
      ·exact q5
     split at e5
     ·rename_i hc
      cases hy : xs[j.toNat]? with
      | none => simp [hy] at e5; cases e5
      | some y =>
       simp [hy] at e5
       have ⟨v', rv, hrun⟩ := z0R hT hv hc.1 (k := k) hc.2 hy w
       have ⟨Fp', hs'⟩ := wJ h e5 (x := .d (.sptr y)) rv
       exact zr (by simp [execOp, ho, ei, hrun]) hs'
     ·cases e5
    | _ => cases e5
   | _ => cases e4
  | _ => cases e4
 ·cases e3
open Classical in
theorem Loc.ixQ (tt : TT) (n : Fr) (dst : Option Nat) (ty s : Nat) (v : Value) (x i : Operand) : Loc (ixQ tt n dst ty s v x i) := by
 unfold Go.Own.ixQ
 exact Loc.bind (Loc.opnd _) fun _ => Loc.bind (Loc.opnd _) fun _ => Loc.bind (Loc.val _) fun _ => Loc.ite (Loc.bind (Loc.rdE _) fun _ => Loc.indexAddrA _ _ _ _ _ _) Loc.fail
def xIx (hT : wG P tt) (d s : Nat) (v : Value) : XH P := {
 e := fun n o => match o.op with | .indexAddr t x i => if o.dst = some d then some (ixQ tt n o.dst t s v x i) else none | _ => none
 h := fun n o => match o.op with | .indexAddr t x i => if o.dst = some d then some (zdZ tt n o.dst t s v x i) else none | _ => none
 ok := by
  refine ⟨?_, ?_⟩
  ·intro C S Fp st a w o m u R U e h h2
   dsimp only at e
   split at e
   ·rename_i t x i ho
    split at e
    ·cases e; exact zbN hT h ho h2
    ·cases e
   ·cases e
  ·intro n o m e
   dsimp only at e
   split at e
   ·split at e
    ·cases e
     exact fun st st' a R U => Loc.ixQ _ _ _ _ _ _ _ _ st st' a R U
    ·cases e
   ·cases e
 none := by
  intro n o e
  skip
  split at e
  ·split at e
   ·cases e
   ·rename_i hd; rw [if_neg hd]
  ·rfl
 some := by
  intro n o m e
  skip
  split at e
  ·split at e
   ·rename_i hd; cases e; exact ⟨_, by rw [if_pos hd], zeH _ _ _ _ _ _ _ _⟩
   ·cases e
  ·cases e }
end
theorem z3s (e : fs = []) (k : Nat)  (hk : (st k).t = .own y) (ho : z6N y = true) (h : ∀ v, v.oneCell' = true → AWP P ⟨n.size, (k, v) :: n.pin⟩ c st (Qf P ⟨n.size, (k, v) :: n.pin⟩ [] Q)) : AWP P n c st (Qf P n fs Q) := by
 subst e
 intro rd m df w0 S0 M S Fp a w hc hs
 have hone : (Act.tv a k).oneCell' = true := by
  have q := hs.ent k
  unfold xV at q
  simp [hk] at q
  have ⟨cs, c1, _, hv⟩ := q
  have hcs := Jy ho c1
  rw [hv]
  exact c1.one1 (Vd ho) _ (by have q := List.mem_singleton_self (yc y cs); rwa [← hcs] at q)
 refine wpIn_mono (h (Act.tv a k) hone rd m df w0 S0 M S Fp a w ⟨hc.nodup, hc.df, hc.rd⟩ (hs.pinned k)) ?_
 rintro e a' w' ⟨df', st1, S1, Fp1, h1, h2, h3⟩
 exact ⟨df', st1, S1, Fp1, h1.unpinned, h2, h3⟩
def shrO (n : Fr) (dst : Option Nat) (x y : Operand) : SM Unit := do
 let tx ← opnd x
 let vx ← val tx
 let ty ← opnd y
 let vy ← val ty
 match vx, vy with
 | .atom (.int k p), .atom (.int _ q) => if 0 ≤ q then wrT n dst (.d (.atom (.int k (p.fdiv (2 ^ (min q.toNat k.bits)))))) else zt
 | _, _ => zt
def zdV (n : Fr) (dst : Option Nat) (x y : Operand) : HM Unit := yk (opnd x) >>= fun tx => Q0 tx >>= fun vx => yk (opnd y) >>= fun ty => Q0 ty >>= fun vy =>
 yk (match vx, vy with
 | .atom (.int k p), .atom (.int _ q) => if 0 ≤ q then wrT n dst (.d (.atom (.int k (p.fdiv (2 ^ (min q.toNat k.bits)))))) else zt
 | _, _ => zt)
theorem zcG (n : Fr) (dst : Option Nat) (x y : Operand) : Snd (shrO n dst x y) (zdV n dst x y) :=
 zk (zo _) fun _ => zk (Za _) fun _ => zk (zo _) fun _ => zk (Za _) fun _ => zo _
theorem Loc.shrO (n : Fr) (dst : Option Nat) (x y : Operand) : Loc (shrO n dst x y) := by
 unfold Go.Own.shrO
 refine Loc.bind (Loc.opnd _) fun _ => Loc.bind (Loc.val _) fun _ => Loc.bind (Loc.opnd _) fun _ => Loc.bind (Loc.val _) fun _ => ?_
 split
 ·exact Loc.ite (Loc.wrT _ _ _) Loc.fail
 ·exact Loc.fail
section
variable {C : Ctx} {S : zn} {Fp : Nat → List Nat} {st : St} {a : Act} {w : World}
theorem zbh (h : Sim C S Fp [] st a w)  {xt yt : Nat} {x y : Operand} (ho : o.op = .binOp .shr xt x y yt)    (e0 : shrO C.n o.dst x y st = some (u, R, U)) : qE P C o a w (zl U st) := by
 unfold shrO at e0
 have ⟨tx, _, hx, e1⟩ := bR (zD h) e0
 have ⟨vx, _, qx, e2⟩ := bR (vO h hx) e1
 have ⟨ty, _, hy, e3⟩ := bR (zD h) e2
 have ⟨vy, _, qy, e4⟩ := bR (vO h hy) e3
 split at e4
 ·rename_i k p k' q
  split at e4
  ·rename_i hq
   have ⟨ex, _⟩ := zw.1 qx
   have ⟨ey, _⟩ := zw.1 qy
   have ⟨Fp', hs⟩ := wJ h e4 (x := .d _) (zw.2 ⟨rfl, rfl⟩)
   refine zr ?_ hs
   have hn : ¬ q < 0 := by omega
   simp [execOp, ho, ex, ey, eqGuard, Go.binOp, Op.shift, hn]
  ·cases e4
 ·cases e4
end
def zdn (P : Program) : XH P := {
 e := fun n o => match o.op with | .binOp .shr _ x y _ => some (shrO n o.dst x y) | _ => none
 h := fun n o => match o.op with | .binOp .shr _ x y _ => some (zdV n o.dst x y) | _ => none
 ok := by
  refine ⟨?_, ?_⟩
  ·intro C S Fp st a w o m u R U e0 h h2
   dsimp only at e0
   split at e0
   ·rename_i ho; cases e0; exact zbh h ho h2
   ·cases e0
  ·intro n o m e0
   dsimp only at e0
   split at e0
   ·cases e0
    exact fun st st' a R U => Loc.shrO _ _ _ _ st st' a R U
   ·cases e0
 none := by
  intro n o e0
  skip
  split at e0
  ·cases e0
  ·rfl
 some := by
  intro n o m e0
  skip
  split at e0
  ·cases e0; exact ⟨_, rfl, zcG _ _ _ _⟩
  ·cases e0 }
open Classical
def Yo (S : zn) (h : Array Obj) : List (Option A) → List Value → List Nat → Prop
 | [], [], F => F = []
 | none :: ys, _ :: vs, F => Yo S h ys vs F
 | some y :: ys, v :: vs, F => ∃ F1 F2, F = F2 ++ F1 ∧ Has S h y v F1 ∧ Yo S h ys vs F2
 | _, _, _ => False
theorem Yo.frame {S S' : zn} {h h' : Array Obj} (hS : ∀ b o u, S b o = some u → S' b o = some u) : ∀ {ys : List (Option A)} {vs : List Value} {F : List Nat}, Yo S h ys vs F → (∀ k ∈ F, h'[k]? = h[k]? ∧ ∀ o, S' k o = none) → Yo S' h' ys vs F
 | [], [], _, q, _ => q
 | none :: ys, _ :: vs, F, q, hF => Yo.frame (ys := ys) (vs := vs) (F := F) hS q hF
 | some _ :: _, _ :: _, _, ⟨F1, F2, e, q1, q2⟩, hF => ⟨F1, F2, e, q1.frame hS (fun k hk => hF k (by rw [e]; simp [hk])), Yo.frame hS q2 (fun k hk => hF k (by rw [e]; simp [hk]))⟩
 | [], _ :: _, _, q, _ => q.elim
 | none :: _, [], _, q, _ => q.elim
 | some _ :: _, [], _, q, _ => q.elim
theorem Yo.own : ∀ {ys : List (Option A)} {vs : List Value} {F : List Nat}, Yo S h ys vs F → ∀ k ∈ F, k < h.size ∧ ∀ o, S k o = none
 | [], [], F, q, k, hk => by
  have e : F = [] := q
  subst e; simp at hk
 | none :: ys, _ :: vs, F, q, k, hk => Yo.own (ys := ys) (vs := vs) (F := F) q k hk
 | some _ :: _, _ :: _, F, ⟨F1, F2, e, q1, q2⟩, k, hk => by
  subst e
  rcases List.mem_append.1 hk with hk | hk
  ·exact Yo.own q2 k hk
  ·exact q1.own k hk
 | [], _ :: _, _, q, _, _ => q.elim
 | none :: _, [], _, q, _, _ => q.elim
 | some _ :: _, [], _, q, _, _ => q.elim
theorem Yo.of : ∀ {ys : List A} {vs : List Value} {F : List Nat}, YO S h ys vs F → Yo S h (ys.map some) vs F
 | [], [], _, q => q
 | _ :: _, _ :: _, _, ⟨F1, F2, e, q1, q2⟩ => ⟨F1, F2, e, q1, Yo.of q2⟩
 | [], _ :: _, _, q => q.elim
 | _ :: _, [], _, q => q.elim
theorem Yo.at : ∀ {ys : List (Option A)} {vs : List Value} {F : List Nat} {i : Nat} {y : A}, Yo S h ys vs F → ys[i]? = some (some y) →
  ∃ v F1 F2, vs[i]? = some v ∧ Has S h y v F1 ∧ Yo S h (ys.set i none) vs F2 ∧ (∀ k, k ∈ F ↔ k ∈ F1 ∨ k ∈ F2) ∧ (F.Nodup → F1.Nodup ∧ F2.Nodup ∧ ∀ k ∈ F1, k ∉ F2)
 | [], [], _, _, _, _, e => by simp at e
 | none :: ys, v :: vs, F, 0, y, q, e => by simp at e
 | none :: ys, v :: vs, F, i + 1, y, q, e => by
  obtain ⟨u, F1, F2, h1, h2, h3, h4, h5⟩ := Yo.at (ys := ys) (vs := vs) (F := F) q (by simpa using e)
  exact ⟨u, F1, F2, by simpa using h1, h2, h3, h4, h5⟩
 | some z :: ys, v :: vs, F, 0, y, ⟨F1, F2, e1, q1, q2⟩, e => by
  simp [Option.some.injEq] at e
  subst e e1
  refine ⟨v, F1, F2, rfl, q1, q2, fun k => by rw [List.mem_append]; exact or_comm, fun hn => ?_⟩
  rw [List.nodup_append] at hn
  exact ⟨hn.2.1, hn.1, fun k hk hk' => hn.2.2 k hk' k hk rfl⟩
 | some z :: ys, v :: vs, F, i + 1, y, ⟨F1, F2, e1, q1, q2⟩, e => by
  obtain ⟨u, G1, G2, h1, h2, h3, h4, h5⟩ := Yo.at q2 (by simpa using e)
  subst e1
  refine ⟨u, G1, G2 ++ F1, by simpa using h1, h2, ⟨F1, G2, rfl, q1, h3⟩, fun k => by simp [List.mem_append, h4 k, or_assoc], fun hn => ?_⟩
  rw [List.nodup_append] at hn
  obtain ⟨n1, n2, n3⟩ := h5 hn.1
  refine ⟨n1, ?_, ?_⟩
  ·rw [List.nodup_append]
   exact ⟨n2, hn.2.1, fun k hk k' hk' => hn.2.2 k ((h4 k).2 (.inr hk)) k' hk'⟩
  ·intro k hk hk'
   rcases List.mem_append.1 hk' with hk' | hk'
   ·exact n3 k hk hk'
   ·exact hn.2.2 k ((h4 k).2 (.inl hk)) k hk' rfl
 | [], _ :: _, _, _, _, q, _ => q.elim
 | none :: _, [], _, _, _, q, _ => q.elim
 | some _ :: _, [], _, _, _, q, _ => q.elim
def Zm (xs : List (Option A)) : Opq := {
 holds := fun S h v F => ∃ vs : List Value, v = .tuple vs.toArray ∧ Yo S h xs vs F
 multi := true
 one := fun ⟨vs, e, _⟩ => .inr ⟨rfl, _, e⟩
 frame := fun hS hF ⟨vs, e, q⟩ => ⟨vs, e, q.frame hS hF⟩
 own := fun ⟨_, _, q⟩ => q.own
 idx := 0 }
def z5J : A → Bool
 | .tup _ => false
 | _ => true
section
variable {P : Program} {C : Ctx} {S : zn} {Fp : Nat → List Nat} {X : List Nat} {st : St} {a : Act} {w : World}
def z81 (n : Fr) (dst : Option Nat) (xs : List (Option A)) (r : Nat) (e : Ent) (i : Nat) : SM Unit :=
 match xs[i]? with
 | some (some y) =>
  if y.isD = true then wrT n dst (.d y)
  else if z5J y = true then do
   wrE r ⟨.own (.opq (Zm (xs.set i none))), e.er, e.ec + 1⟩
   wrT n dst (.own y)
  else zt
 | _ => zt
def z83 (n : Fr) (dst : Option Nat) (xs : List (Option A)) (x : Operand) (i : Nat) : SM Unit := do
 let tx ← opnd x
 match tx with
 | .als r [] er ec => do
  let e ← rdE r
  if e.t = .own (.opq (Zm xs)) ∧ e.er = er then z81 n dst xs r e i
  else zt
 | _ => zt
theorem z82 (h : Sim C S Fp [] st a w)  {xs : List (Option A)} {x : Operand} {i : Nat} (ho : o.op = .extract x i)    (e : z83 C.n o.dst xs x i st = some (u, R, U)) : qE P C o a w (zl U st) := by
 unfold z83 at e
 have ⟨tx, _, hx, e1⟩ := bR (zD h) e
 split at e1
 ·rename_i r er ec
  have ⟨_, e2⟩ := bD e1
  split at e2
  ·rename_i hc
   have ⟨c1, c2⟩ := hc
   have hr := h.ent r
   unfold xV at hr
   simp only [c1] at hr
   have ⟨cs, k1, k2, k3⟩ := hr
   simp only [zH] at k1
   obtain ⟨v0, rfl, vs, rfl, g1⟩ := k1
   have hev : a.eval x = .tuple vs.toArray := by
    have := hx.2.2
    simp only [c1] at this
    rcases this c2 (.inl trivial) with ⟨_, q⟩ | ⟨q, _⟩
    ·rw [q, k3]; rfl
    ·simp [Vn] at q
   unfold z81 at e2
   cases hy0 : xs[i]? with
   | none => simp only [hy0] at e2; cases e2
   | some yo =>
   cases yo with
   | none => simp only [hy0] at e2; cases e2
   | some y =>
    simp only [hy0] at e2
    have hy : xs[i]? = some (some y) := hy0
    have ⟨v, F1, F2, m1, m2, m3, m4, m5⟩ := g1.at hy
    have ⟨n1, n2, n3⟩ := m5 k2
    have run : (execOp a.eval o).run P w = .ok (.value v) w := by simp [execOp, ho, hev, Instr.extract, m1]
    split at e2
    ·rename_i hd
     have ⟨q1, _⟩ := z43 hd m2
     have ⟨Fp', hs⟩ := wJ h e2 (x := .d y) q1.repV
     exact zr run hs
    ·split at e2
     ·rename_i hnt
      obtain ⟨u5, R5, U5, R6, U6, h5, h6, rfl, rfl⟩ := bind_some e2
      cases h5
      have ⟨cs, c3, c4, c5⟩ := m2.cells (by rintro fs rfl; cases hnt)
      have h2 : Sim C S (Qc Fp r F2) (F1 ++ []) (upd st r ⟨.own (.opq (Zm (xs.set i none))), (st r).er, (st r).ec + 1⟩) a w := by
       refine h.change r (.own (.opq (Zm (xs.set i none)))) _ _ F2 h.below (fun _ _ _ q => q) h.still.cell h.sbase (fun t k _ hk => ⟨rfl, (h.free t k hk).2.1⟩) ⟨⟨[.tuple vs.toArray], ?_, n2, k3⟩, _, c1⟩ (.inl ⟨_, c1⟩) (Nat.le_refl _) (Nat.lt_succ_self _) ?_ ?_ (by simpa using n1) ?_ ?_ ?_
       ·simp only [zH]
        exact ⟨_, rfl, vs, rfl, m3⟩
       ·intro t k ht hk hk'
        exact ht (h.disj t r k hk' ((m4 k).2 (.inr hk)))
       ·intro k hk
        exact h.base r k ((m4 k).2 (.inr hk))
       ·intro t k ht hk hk'
        exact ht (h.disj t r k hk' ((m4 k).2 (.inl (by simpa using hk))))
       ·intro k hk
        exact n3 k (by simpa using hk)
       ·intro k hk
        exact h.base r k ((m4 k).2 (.inl (by simpa using hk)))
      simp only [zl] at h6 ⊢
      have ⟨Fp', hs⟩ := Xv h2 h6 c3 c4
      subst c5
      exact zr run hs
     ·cases e2
  ·cases e2
 ·cases e1
end
def zbS (n : Fr) (dst : Option Nat) (xs : List (Option A)) (x : Operand) (i : Nat) : HM Unit := yk (opnd x) >>= fun tx =>
 match tx with
 | .als r [] er ec => yk (rdE r) >>= fun e => Zq (e.t = .own (.opq (Zm xs)) ∧ e.er = er) (yk (z81 n dst xs r e i))
 | _ => zF
theorem zbo (n : Fr) (dst : Option Nat) (xs : List (Option A)) (x : Operand) (i : Nat) : Snd (z83 n dst xs x i) (zbS n dst xs x i) := by
 refine zk (zo _) fun tx => ?_
 cases tx with
 | als r p er ec =>
  cases p with
  | nil => exact zk (zo _) fun e => ue (zo _)
  | cons _ _ => exact zp _
 | _ => exact zp _
def xz (P : Program) (d : Nat) (xs : List (Option A)) : XH P := {
 e := fun n o => match o.op with | .extract x i => if o.dst = some d then some (z83 n o.dst xs x i) else none | _ => none
 h := fun n o => match o.op with | .extract x i => if o.dst = some d then some (zbS n o.dst xs x i) else none | _ => none
 ok := by
  refine ⟨?_, ?_⟩
  ·intro C S Fp st a w o m u R U e h h2
   dsimp only at e
   split at e
   ·rename_i x i ho
    split at e
    ·cases e; exact z82 h ho h2
    ·cases e
   ·cases e
  ·intro n o m e
   dsimp only at e
   split at e
   ·split at e
    ·cases e
     refine Loc.bind (Loc.opnd _) fun tx => ?_
     split
     ·refine Loc.bind (Loc.rdE _) fun _ => Loc.ite ?_ Loc.fail
      unfold z81
      split
      ·exact Loc.ite (Loc.wrT _ _ _) (Loc.ite (Loc.bind (Loc.wrE _ _) fun _ => Loc.wrT _ _ _) Loc.fail)
      ·exact Loc.fail
     ·exact Loc.fail
    ·cases e
   ·cases e
 none := by
  intro n o e
  skip
  split at e
  ·split at e
   ·cases e
   ·rename_i hd; rw [if_neg hd]
  ·rfl
 some := by
  intro n o m e
  skip
  split at e
  ·split at e
   ·rename_i hd; cases e; exact ⟨_, by rw [if_pos hd], zbo _ _ _ _ _⟩
   ·cases e
  ·cases e }
def z4A (tt : TT) (x : T) (c : Option Nat) : Option A :=
 match x, c with
 | .own y, none => if z5J y = true then some y else none
 | .own (.box y), some ty => if Zn tt ty y = true then some y else none
 | _, _ => none
def zcj (tt : TT) (g : Bool) (t : Nat) (c : Option Nat) : SM A :=
 if g = true then do
  let e ← rdE t
  let x ← ofO (z4A tt e.t c)
  wrE t ⟨.gone, e.er + 1, e.ec + 1⟩
  pure x
 else do
  let xs ← shutArgs tt [(.tmp t, 0)]
  match c, xs with
  | none, [x] => pure x
  | some ty, [.sptr y] => if Zn tt ty y = true then pure y else zt
  | _, _ => zt
def z5r (tt : TT) : List (Bool × Nat × Option Nat) → SM (List A)
 | [] => pure []
 | (g, t, c) :: rs => do
  let x ← zcj tt g t c
  let xs ← z5r tt rs
  pure (x :: xs)
def za2 (tt : TT) (rs : List (Bool × Nat × Option Nat)) : SM A := do
 let xs ← z5r tt rs
 match xs with
 | [y] => pure y
 | ys => pure (.opq (Zm (ys.map some)))
variable {rs : List (Bool × Nat × Option Nat)}
section
variable {P : Program} {C : Ctx} {a : Act} {w : World}
def z0D (P : Program) (a : Act) (w : World) (r : ResultVar) (v : Value) : Prop := ((fun r : ResultVar => match r with | .tmp t => (pure (a.tmps.getD t undef) : Sem Value) | .cell b t => do loadVar t (← asAddr (a.tmps.getD b undef))) r).run P w = .ok v w
theorem za5 (hT : wG P tt)     (h : Sim C S Fp X st a w) {g : Bool}  {c : Option Nat} {x : A}   (e : zcj tt g t c st = some (x, R, U)) :
  ∃ S' Fp' F v, Sim C S' Fp' (F ++ X) (zl U st) a w ∧ (∀ b o u, S b o = some u → S' b o = some u) ∧ (∀ k ∈ X, ∀ o, S k o = none → S' k o = none) ∧ Has S' w.heap x v F ∧ z0D P a w (z1H (t, c)) v := by
 unfold zcj at e
 split at e
 ·have ⟨_, e1⟩ := bD e
  have ⟨x0, _, hk, e2⟩ := bO e1
  obtain ⟨u5, R5, U5, R6, U6, h5, h6, rfl, rfl⟩ := bind_some e2
  cases h5
  cases h6
  have hr := h.ent t
  unfold xV at hr
  have fin : ∀ F', (∃ y, (st t).t = .own y) → F'.Nodup → (∀ k ∈ F', k ∈ Fp t) → Sim C S (Qc Fp t []) (F' ++ X) (upd st t ⟨.gone, (st t).er + 1, (st t).ec + 1⟩) a w := by
   intro F' ho hn hmem
   refine h.change t .gone _ _ [] h.below (fun _ _ _ q => q) h.still.cell h.sbase (fun t' k _ hk => ⟨rfl, (h.free t' k hk).2.1⟩) rfl (.inl ho) (Nat.le_succ _) (Nat.lt_succ_self _) (by simp) (by simp) ?_ ?_ (by simp) ?_
   ·rw [List.nodup_append]
    refine ⟨hn, h.xn, ?_⟩
    rintro m hm m' hm' rfl
    exact h.xd t m hm' (hmem m hm)
   ·intro t' k ht' hk
    rcases List.mem_append.1 hk with hk | hk
    ·exact fun hk' => ht' (h.disj t' t k hk' (hmem k hk))
    ·exact h.xd t' k hk
   ·intro k hk
    rcases List.mem_append.1 hk with hk | hk
    ·exact h.base t k (hmem k hk)
    ·exact h.xb k hk
  cases ht : (st t).t with
  | own z =>
   simp only [ht] at hr hk
   have ⟨cs, c1, c2, c3⟩ := hr
   cases c with
   | none =>
    have hz : x = z := by
     cases z <;> simp only [z4A, z5J] at hk <;> simpa using hk.symm
    subst hz
    refine ⟨S, Qc Fp t [], Fp t, Act.tv a t, by simpa [zl] using fin (Fp t) ⟨_, ht⟩ c2 (fun _ h => h), fun _ _ _ q => q, fun _ _ _ q => q, .inr ⟨cs, c1, c2, c3⟩, ?_⟩
    simp only [z0D, z1H]; exact Sem.run_pure ..
   | some ty =>
    cases z with
    | box y =>
     simp only [z4A] at hk
     split at hk
     ·rename_i hf
      simp only [Option.some.injEq] at hk
      subst hk
      simp only [zH] at c1
      obtain ⟨b, bty, l, F', rfl, d1, d2, d3, d4⟩ := c1
      have hn2 : (b :: F').Nodup := d3 ▸ c2
      refine ⟨S, Qc Fp t [], F', yc y l, by simpa [zl] using fin F' ⟨_, ht⟩ (List.nodup_cons.1 hn2).2 (fun k hk => by rw [d3]; simp [hk]), fun _ _ _ q => q, fun _ _ _ q => q, .inr ⟨l, d2, (List.nodup_cons.1 hn2).2, rfl⟩, ?_⟩
      have hv : a.tmps.getD t undef = .pointer (some ⟨b, 0, none⟩) := c3
      simp only [z0D, z1H]
      rw [hv]
      simp only [asAddr, Sem.run_bind, Sem.run_pure, Result.andThen_ok]
      refine Zb hT hf d2.len ?_
      intro j u hj
      simp only [yj, d1, Nat.zero_add]
      simpa using hj
     ·cases hk
    | _ => simp only [z4A] at hk; cases hk
  | _ => simp only [ht, z4A] at hk; cases hk
 ·obtain ⟨xs, R1, U1, R2, U2, h1, e1, rfl, rfl⟩ := bind_some e
  have ⟨S1, Fp1, g1, g2, g3, g4⟩ := wS h h1
  split at e1
  ·cases e1
   refine ⟨S1, Fp1, [], Act.tv a t, by simpa using g1, g2, g3, .inl ⟨g4.1.repV, rfl⟩, ?_⟩
   simp only [z0D, z1H]; exact Sem.run_pure ..
  ·rename_i ty y
   split at e1
   ·rename_i hf
    cases e1
    have ⟨cs, q1, q2⟩ := g4.1
    simp only [Rep] at q1
    obtain ⟨b, o, l, rfl, r1, r2⟩ := q1
    refine ⟨S1, Fp1, [], yc x l, by simpa using g1, g2, g3, .inl ⟨u6.repV ⟨l, r1, rfl⟩, rfl⟩, ?_⟩
    have hv : a.tmps.getD t undef = .pointer (some ⟨b, o, none⟩) := q2
    simp only [z0D, z1H]
    rw [hv]
    simp only [asAddr, Sem.run_bind, Sem.run_pure, Result.andThen_ok]
    exact Zb hT hf r1.len (fun j u hj => g1.still _ _ _ (r2 j u hj))
   ·cases e1
  ·cases e1
theorem z3L (hT : wG P tt) : ∀ {rs : List (Bool × Nat × Option Nat)} {S : zn} {Fp : Nat → List Nat} {X : List Nat} {st : St}, Sim C S Fp X st a w → ∀ {xs : List A} {R : List Nat} {U : List (Nat × Ent)}, z5r tt rs st = some (xs, R, U) →
  ∃ S' Fp' G vs, Sim C S' Fp' (G ++ X) (zl U st) a w ∧ (∀ b o u, S b o = some u → S' b o = some u) ∧ (∀ k ∈ X, ∀ o, S k o = none → S' k o = none) ∧ YO S' w.heap xs vs G ∧ ZW (z0D P a w) (rs.map fun r => z1H r.2) vs
 | [], S, Fp, X, st, h, xs, R, U, e => by
  cases e
  exact ⟨S, Fp, [], [], h, fun _ _ _ h => h, fun _ _ _ h => h, rfl, trivial⟩
 | (g, t, c) :: rs, S, Fp, X, st, h, xs, R, U, e => by
  simp [z5r] at e
  obtain ⟨y, R1, U1, R2, U2, h1, e1, rfl, rfl⟩ := bind_some e
  obtain ⟨ys, R3, U3, R4, U4, h3, e2, rfl, rfl⟩ := bind_some e1
  have ⟨S1, Fp1, F, v, g1, g2, g3, g4, g5⟩ := za5 hT h h1
  have ⟨S2, Fp2, G, vs, k1, k2, k3, k4, k5⟩ := z3L hT g1 h3
  cases e2
  refine ⟨S2, Fp2, G ++ F, v :: vs, ?_, fun b o u hs => k2 b o u (g2 b o u hs), fun k hk o hn => k3 k (by simp [hk]) o (g3 k hk o hn), ⟨F, G, rfl, g4.grow k2 (fun k hk o hn => k3 k (by simp [hk]) o hn), k4⟩, g5, k5⟩
  rw [List.append_nil, zz, List.append_assoc]
  exact k1
theorem za1 (hT : wG P tt)   (hr : fn.results = (rs.map fun r => z1H r.2).toArray)    (h : Sim C S Fp [] st a w) {x : A}   (e : za2 tt rs st = some (x, R, U)) :
  ∃ v S' F', (results fn a.tmps).run P w = .ok v w ∧ (∀ b o u, S b o = some u → S' b o = some u) ∧ (∀ b o, ¬ C.M b → S' b o = C.S0 b o) ∧ wN S' w ∧ Has S' w.heap x v F' ∧ F'.Nodup ∧ ∀ k ∈ F', C.M k := by
 unfold za2 at e
 obtain ⟨xs, R1, U1, R2, U2, h1, e1, rfl, rfl⟩ := bind_some e
 have ⟨S1, Fp1, G, vs, g1, g2, _, g3, g4⟩ := z3L hT h h1
 have hrun : (results fn a.tmps).run P w = .ok (if h : vs.toArray.size = 1 then vs.toArray[0] else .tuple vs.toArray) w := by
  unfold results
  rw [hr, Array.mapM_eq_foldlM, List.foldlM_toArray, Sem.run_bind]
  have := XW (P := P) (w := w) _ _ vs #[] g4
  rw [Array.empty_append] at this
  exact (congrArg (fun r => Result.andThen r (fun q w' => Sem.run P (pure (if h : q.size = 1 then q[0] else Value.tuple q)) w')) this).trans rfl
 have hn : G.Nodup := by have := g1.xn; simpa using this
 have hM : ∀ k ∈ G, C.M k := fun k hk => g1.xb k (by simp [hk])
 have many : ∀ ys : List A, YO S1 w.heap ys vs G → ys.length ≠ 1 → Has S1 w.heap (.opq (Zm (ys.map some))) (.tuple vs.toArray) G ∧ vs.length ≠ 1 := by
  intro ys q hl
  refine ⟨.inr ⟨[.tuple vs.toArray], ?_, hn, rfl⟩, by rw [← q.nil]; exact hl⟩
  simp only [zH]
  exact ⟨_, rfl, vs, rfl, Yo.of q⟩
 split at e1
 ·cases e1
  rcases vs with _ | ⟨v, _ | ⟨v2, l⟩⟩
  ·exact g3.elim
  ·obtain ⟨F1, F2, rfl, q1, q2⟩ := g3
   have e2 : F2 = [] := q2
   subst e2
   exact ⟨v, S1, F1, hrun, g2, g1.sbase, g1.still, q1, by simpa using hn, by simpa using hM⟩
  ·obtain ⟨F1, F2, rfl, q1, q2⟩ := g3
   exact q2.elim
 ·rename_i hne
  cases e1
  have ⟨m1, m2⟩ := many _ g3 (by
   intro hl
   have ⟨y, hy⟩ := List.length_eq_one_iff.1 hl
   exact hne y hy)
  rw [dif_neg (by simpa using m2)] at hrun
  exact ⟨_, S1, G, hrun, g2, g1.sbase, g1.still, m1, hn, hM⟩
end
def zbx (tt : TT) (g : Bool) (t : Nat) (c : Option Nat) : HM A :=
 if g = true then yk (rdE t >>= fun e => ofO (z4A tt e.t c) >>= fun x => wrE t ⟨.gone, e.er + 1, e.ec + 1⟩ >>= fun _ => pure x)
 else uD tt [(.tmp t, 0)] >>= fun xs =>
  match c, xs with
  | none, [x] => pure x
  | some ty, [.sptr y] => if Zn tt ty y = true then pure y else zF
  | _, _ => zF
theorem zbk (tt : TT) (g : Bool) (t : Nat) (c : Option Nat) : Snd (zcj tt g t c) (zbx tt g t c) := by
 refine vE (zo _) (zk (qI _ _) fun xs => ?_)
 split
 ·exact wB _
 ·exact vE (wB _) (zp _)
 ·exact zp _
def z5q (tt : TT) : List (Bool × Nat × Option Nat) → HM (List A)
 | [] => pure []
 | (g, t, c) :: rs => zbx tt g t c >>= fun x => z5q tt rs >>= fun xs => pure (x :: xs)
theorem z57 (tt : TT) : ∀ rs, Snd (z5r tt rs) (z5q tt rs)
 | [] => wB _
 | (g, t, c) :: rs => zk (zbk tt g t c) fun x => zk (z57 tt rs) fun xs => wB _
def z7B (tt : TT) (rs : List (Bool × Nat × Option Nat)) : HM A := z5q tt rs >>= fun xs =>
 match xs with
 | [y] => pure y
 | ys => pure (.opq (Zm (ys.map some)))
theorem zbi (tt : TT) (rs : List (Bool × Nat × Option Nat)) : Snd (za2 tt rs) (z7B tt rs) := by
 refine zk (z57 _ _) fun xs => ?_
 split <;> exact wB _
section
variable {P : Program} {tt : TT} {ctr : Ctr} {n : Fr} {Q : Exit → St → Prop}
theorem z4i {n : Fr}   {rs : List (Bool × Nat × Option Nat)} {ls : List A} {r : A} (hT : wG P tt) (hf : P.funcs[k]? = some fn) (hnm : (fn.name == "runtime.NumGoroutine") = false) (hb : fn.body = some body)
  (hn : n = ⟨fn.ntmps, []⟩) (hr : fn.results = (rs.map fun r => z1H r.2).toArray) (ha : ls.length ≤ fn.ntmps)
  (h : ∀ E : St → Prop, (∀ st x R U, za2 tt rs st = some (x, R, U) → LeV x r → E st) → AWP P n body (ofL (z4J 0 ls)) (Qf P n [] (z6L E))) : XJ P k ls r := by
 have h' := h (fun st => ∃ x R U, za2 tt rs st = some (x, R, U) ∧ LeV x r) fun st x R U h1 h2 => ⟨x, R, U, h1, h2⟩
 refine ⟨⟨fn, hf, hnm, by rw [hb]; rfl⟩, ?_⟩
 intro S w vs F hS hq hF
 have h2 : AWP P n body (ini ls) (fun ex st => (ex = .normal ∨ ex = .ret) ∧ ∃ x R U, za2 tt rs st = some (x, R, U) ∧ LeV x r) := by
  rw [z41]
  refine AWP.mono h' ?_
  intro e st q
  cases e with
  | normal => exact ⟨.inl rfl, q⟩
  | ret => exact ⟨.inr rfl, q⟩
  | _ => exact q.elim
 refine Qu (R := fun w e w' => ∃ v' S' F', e = .returned v' ∧ Xr (fun k => w.heap.size ≤ k ∨ k ∈ F) w w' ∧ (∀ b o u, S b o = some u → S' b o = some u) ∧ (∀ b o, b < w.heap.size → b ∉ F → S' b o = S b o) ∧ wN S' w' ∧ Has S' w'.heap r v' F' ∧ F'.Nodup ∧
   ∀ k ∈ F', w.heap.size ≤ k ∨ k ∈ F) hf hb (by rw [hn]) (by rw [hn]; simp) ha hS hq hF h2 ?_
 rintro ex st' ⟨hx, x, R, U, h3, h4⟩
 refine ⟨hx, ?_⟩
 intro df S' Fp' a' w' h1
 have ⟨v, S2, F', hres, g1, g2, g3, g4, g5, g6⟩ := za1 (P := P) hT hr h1 h3
 refine ⟨_, hres, _, S2, F', rfl, h1.below, fun b o u hu => g1 _ _ _ (h1.sinc _ _ _ hu), ?_, g3, h4.has _ _ _ _ g4, g5, g6⟩
 intro b o hb' hbF
 exact g2 b o (by rintro (hq | hq) <;> first | omega | exact hbF hq)
def zbr (X : XH P) (tt : TT) (ctr : Ctr) (n : Fr) (rs : List (Bool × Nat × Option Nat)) (k : Nat) (c : Code) (fs : List Fm) (st : St) (hs : List H) : Option (A × List Prop) :=
 match z5h X tt ctr n k c fs st hs with
 | some (.fin .normal, st', hs', ob) => match z7B tt rs st' hs' with | some (x, _, _, [], ob') => some (x, ob ++ ob') | _ => none
 | some (.fin .ret, st', hs', ob) => match z7B tt rs st' hs' with | some (x, _, _, [], ob') => some (x, ob ++ ob') | _ => none
 | _ => none
theorem KK (X : XH P) (hT : wG P tt) (hC : zO P ctr) (hm : P.follows .mixedOrders = true)    (hE : ∀ st x R U, za2 tt rs st = some (x, R, U) → LeV x r → E st) (k : Nat) {c : Code} {fs : List Fm} {st : St} {hs : List H} {x : A} (obs : List Ob)
  (e : zbr X tt ctr n rs k c fs st hs = some (x, obs.map Ob.p)) (hle : LeV x r) : AWP P n c st (Qf P n fs (z6L E)) := by
 unfold zbr at e
 have fin : ∀ {st' hs' ob}, (match z7B tt rs st' hs' with | some (x, _, _, [], ob') => some (x, ob ++ ob') | _ => none) = some (x, obs.map Ob.p) → KV ob ∧ E st' := by
  intro st' hs' ob e
  split at e
  ·rename_i x1 R U ob' he
   simp [Option.some.injEq, Prod.mk.injEq] at e
   obtain ⟨rfl, e2⟩ := e
   have ha := z3U obs
   rw [← e2] at ha
   have ⟨o1, o2⟩ := xy ha
   exact ⟨o1, hE _ _ _ _ (zbi tt rs _ _ _ _ _ _ _ he o2) hle⟩
  ·cases e
 split at e
 ·rename_i st' hs' ob' he
  have ⟨h1, h2⟩ := fin e
  exact JZ X hT hC hm k c fs st hs _ _ _ _ he h1 h2
 ·rename_i st' hs' ob' he
  have ⟨h1, h2⟩ := fin e
  exact JZ X hT hC hm k c fs st hs _ _ _ _ he h1 h2
 ·cases e
end
theorem lentCall (h : XJ P k as_ r) : qQ P (.fn k []) as_ [] r [] := by
 intro S w fv vs F hS hfv hvs hH hF
 have hF0 : F = [] := hH
 subst hF0
 obtain ⟨cs, c1, c2⟩ := hfv
 simp only [Rep] at c1
 obtain ⟨us, u1, _, rfl⟩ := c1
 have hu : us = [] := by
  cases us with
  | nil => rfl
  | cons _ _ => simp [yw] at u1
 subst hu
 obtain ⟨⟨fn, f1, f2, f3⟩, hc⟩ := h
 refine .inl ⟨k, #[], fn, c2, f1, f2, f3, ?_⟩
 rw [Array.append_empty]
 have hass : ∀ {as_ : List A} {vs : List Value}, ZW (u6 S) as_ vs → YO S w.heap as_ vs [] := by
  intro as_
  induction as_ with
  | nil => intro vs q; cases vs with | nil => rfl | cons _ _ => exact q.elim
  | cons a as_ ih =>
   intro vs q
   cases vs with
   | nil => exact q.elim
   | cons v vs => exact ⟨[], [], rfl, .inl ⟨q.1.repV, rfl⟩, ih q.2⟩
 refine (hc S w vs [] hS (hass hvs) List.nodup_nil).mono ?_
 rintro e w' ⟨v', S', F', he, b1, b2, b3, b4, b5, b6, b7⟩
 exact ⟨v', he, S', F', [], b1, b2, b3, b4, b5, rfl, by simpa using b6, by simpa using b7⟩
theorem xo {c : Ctr} (hC : zO P c)  {α ρ : Type} {enc : α → List A} {encR : ρ → A} {F : α → Option ρ}  {inj : ∀ x y, enc x = enc y → x = y} (h : c.Has (spF k enc encR F gives inj)) {x : α} {r : ρ} (hr : F x = some r) : XJ P k (enc x) (encR r) := by
 have h1 := h.run x ⟨r, hr⟩
 have := hC.1 _ _ _ h1
 simpa only [spF, hr] using this
open Go.Proofs Go.Shelf
section
variable {α : Type}
def zah (c : α → α → Int) (x : α) : List α → List α
 | [] => [x]
 | y :: l => if c y x < 0 then y :: zah c x l else x :: y :: l
def z03 (c : α → α → Int) : List α → List α
 | [] => []
 | x :: l => zah c x (z03 c l)
def SOk (c : α → α → Int) (l : List α) : Prop :=
 (∀ x ∈ l, ¬ c x x < 0) ∧ (∀ x ∈ l, ∀ y ∈ l, ∀ z ∈ l, c x y < 0 → c y z < 0 → c x z < 0) ∧ (∀ x ∈ l, ∀ y ∈ l, ¬ c x y < 0 → ¬ c y x < 0 → x = y)
instance [DecidableEq α] (c : α → α → Int) (l : List α) : Decidable (SOk c l) := by unfold SOk; infer_instance
def z4Z [DecidableEq α] (cmp : α → α → Option Int) (l : List α) : Option (List α) :=
 gd (l.length ≤ 4294967296 ∧ ∀ x ∈ l, ∀ y ∈ l, (cmp x y).isSome = true) <| gd (SOk (fun x y => (cmp x y).getD 0) l) <| some (z03 (fun x y => (cmp x y).getD 0) l)
theorem SOk.ntr {c : α → α → Int} {l : List α} (h : SOk c l) : ∀ x ∈ l, ∀ y ∈ l, ∀ z ∈ l, ¬ c x y < 0 → ¬ c y z < 0 → ¬ c x z < 0 := by
 intro x hx y hy z hz h1 h2 h3
 by_cases h4 : c y x < 0
 ·exact h2 (h.2.1 y hy x hx z hz h4 h3)
 ·have := h.2.2 x hx y hy h1 h4
  subst this
  exact h2 h3
theorem Km (c : α → α → Int) (x : α) : ∀ l, (zah c x l).Perm (x :: l)
 | [] => .refl _
 | y :: l => by
  simp [zah]
  split
  ·exact ((Km c x l).cons y).trans (.swap x y l)
  ·exact .refl _
theorem Y0 (c : α → α → Int) : ∀ l, (z03 c l).Perm l
 | [] => .refl _
 | x :: l => (Km c x _).trans ((Y0 c l).cons x)
theorem Kl {c : α → α → Int} {L : List α} (h : SOk c L) {x : α} (hx : x ∈ L) : ∀ {l : List α}, (∀ y ∈ l, y ∈ L) → l.Pairwise (fun a b => ¬ c b a < 0) → (zah c x l).Pairwise (fun a b => ¬ c b a < 0)
 | [], _, _ => by simp [zah]
 | y :: l, hl, hp => by
  have hy := hl y (by simp)
  have ⟨p1, p2⟩ := List.pairwise_cons.1 hp
  simp only [zah]
  split
  ·rename_i hc
   refine List.pairwise_cons.2 ⟨?_, Kl h hx (fun z hz => hl z (by simp [hz])) p2⟩
   intro z hz
   rcases List.mem_cons.1 ((Km c x l).mem_iff.1 hz) with rfl | hz
   ·exact fun q => h.1 _ hx (h.2.1 _ hx _ hy _ hx q hc)
   ·exact p1 z hz
  ·rename_i hc
   refine List.pairwise_cons.2 ⟨?_, hp⟩
   intro z hz
   rcases List.mem_cons.1 hz with rfl | hz
   ·exact hc
   ·exact h.ntr z (hl z (by simp [hz])) y hy x hx (p1 z hz) hc
theorem WS {c : α → α → Int} {L : List α} (h : SOk c L) : ∀ {l : List α}, (∀ y ∈ l, y ∈ L) → (z03 c l).Pairwise (fun a b => ¬ c b a < 0)
 | [], _ => .nil
 | x :: l, hl => Kl h (hl x (by simp)) (fun y hy => hl y (by simp [(Y0 c l).mem_iff.1 hy])) (WS h fun y hy => hl y (by simp [hy]))
theorem z2q {c : α → α → Int} {l l' : List α} (h : SOk c l) (hp : l'.Perm l) (hs : l'.Pairwise (fun a b => ¬ c b a < 0)) : l' = z03 c l := by
 refine List.Perm.eq_of_pairwise (le := fun a b => ¬ c b a < 0) ?_ hs (WS h fun _ q => q) (hp.trans (Y0 c l).symm)
 intro a b ha hb h1 h2
 exact h.2.2 a (hp.mem_iff.1 ha) b ((Y0 c l).mem_iff.1 hb) h2 h1
theorem z4w [DecidableEq α] {cmp : α → α → Option Int} {l l' : List α} (h : z4Z cmp l = some l') : l.length ≤ 4294967296 ∧ (∀ x ∈ l, ∀ y ∈ l, cmp x y = some ((cmp x y).getD 0)) ∧ SOk (fun x y => (cmp x y).getD 0) l ∧ l' = z03 (fun x y => (cmp x y).getD 0) l := by
 have ⟨h1, h⟩ := gdE h
 have ⟨h2, h⟩ := gdE h
 refine ⟨h1.1, fun x hx y hy => ?_, h2, (zi h).symm⟩
 have := h1.2 x hx y hy
 cases hc : cmp x y with
 | none => rw [hc] at this; cases this
 | some _ => rfl
end
theorem zbR [Inhabited α] (enc : α → List Value) (k : Nat) (hk : ∀ x, (enc x).length = k) : ∀ l : List α, ((List.range (l.length * k)).map fun t => (enc l[t / k]!)[t % k]!) = l.flatMap enc
 | [] => by simp
 | x :: l => by
  rcases Nat.eq_zero_or_pos k with rfl | h0
  ·simp only [Nat.mul_zero, List.range_zero, List.map_nil]
   symm
   rw [List.flatMap_eq_nil_iff]
   intro y _
   exact List.eq_nil_of_length_eq_zero (hk y)
  rw [List.length_cons, Nat.add_mul, Nat.one_mul, Nat.add_comm, List.range_add, List.map_append, List.map_map, List.flatMap_cons]
  congr 1
  ·apply List.ext_getElem?
   intro i
   rw [List.getElem?_map]
   by_cases hi : i < k
   ·rw [List.getElem?_range hi, Option.map_some, Nat.div_eq_of_lt hi, Nat.mod_eq_of_lt hi]
    have : i < (enc x).length := by rw [hk]; exact hi
    simp [this]
   ·rw [List.getElem?_eq_none (by simpa using hi), List.getElem?_eq_none (by rw [hk]; omega)]; rfl
  ·rw [← zbR enc k hk l]
   apply List.map_congr_left
   intro t _
   simp only [Function.comp]
   rw [Nat.add_div_left _ h0, Nat.add_mod_left]
   simp
theorem J0 [Inhabited α] (enc : α → List Value) (k : Nat) (hk : ∀ x, (enc x).length = k) (d : Array α) : (Sort.flatK enc k d).toList = d.toList.flatMap enc := by
 rw [← zbR enc k hk d.toList]
 simp only [Sort.flatK, Array.toList_map, Array.toList_range, Array.length_toList]
 apply List.map_congr_left
 intro a _
 have : d.toList[a / k]! = d[a / k]! := by
  by_cases hlt : a / k < d.size
  ·rw [getElem!_pos d _ hlt, getElem!_pos d.toList _ (by simpa using hlt)]; simp
  ·rw [getElem!_neg d _ hlt, getElem!_neg d.toList _ (by simpa using hlt)]
 rw [this]
def zaC (P : Program) (kf k : Nat) (ag : Bool) : Prop := ∃ ρ, SlLaysF0.n6 P ρ ∧ ρ.f 6 = kf ∧ (∀ w, (isAgg (ρ.t 24)).run P w = .ok ag w) ∧ (∀ w, (Go.sizeOf (ρ.t 24)).run P w = .ok k w) ∧ (ag = false → k = 1)
theorem z0h {enc : α → A}  (hsz : ∀ x, (enc x).size = k) (L : List α) : ∀ {l : List α} {cs : List Value}, (∀ x ∈ l, x ∈ L) → yw S (l.map enc) cs →
  ∃ d : List {p : List Value × α // Rep S (enc p.2) p.1 ∧ p.2 ∈ L}, d.map (fun p => p.1.2) = l ∧ d.flatMap (fun p => p.1.1) = cs
 | [], cs, _, h => by
  simp [List.map_nil, yw] at h
  exact ⟨[], rfl, by simp [h]⟩
 | x :: l, cs, hl, h => by
  simp [List.map_cons, yw] at h
  obtain ⟨c1, c2, rfl, h1, h2⟩ := h
  have ⟨d, e1, e2⟩ := z0h hsz L (fun y hy => hl y (by simp [hy])) h2
  exact ⟨⟨(c1, x), h1, hl x (by simp)⟩ :: d, by simp [e1], by simp [e2]⟩
theorem Uv {enc : α → A} {L : List α} : ∀ (d : List {p : List Value × α // Rep S (enc p.2) p.1 ∧ p.2 ∈ L}), yw S ((d.map fun p => p.1.2).map enc) (d.flatMap fun p => p.1.1)
 | [] => by simp [yw]
 | p :: d => by
  simp only [List.map_cons, List.flatMap_cons, yw]
  exact ⟨_, _, rfl, p.2.1, Uv d⟩
variable {ag : Bool}
theorem z7l {ρ : Ren} {kf k t : Nat}  (hT : wG P tt) (L : SlLaysF0.n6 P ρ) (h6 : ρ.f 6 = kf) (h24 : ρ.t 24 = t) (hs : (tt t).map (fun i => (i.kind.isAgg, i.size)) = some (ag, k)) (h1 : ag = false → k = 1) : zaC P kf k ag := by
 have ⟨i, hi, he⟩ := Option.map_eq_some_iff.1 hs
 simp [Prod.mk.injEq] at he
 refine ⟨ρ, L, h6, fun w => ?_, fun w => ?_, h1⟩
 ·rw [h24, WM (hT t i hi).kind w, he.1]
 ·rw [h24, vV hT hi w, he.2]
section
variable {α : Type} [Inhabited α] (enc : α → List Value) (k : Nat) (w : World) (b n : Nat) (d : Array α) (os : Array Obj)
theorem z0O {j : Nat} (hj : j < w.heap.size) (hb : j ≠ b) : (sortWorldK enc k w b 0 n d os).heap[j]? = w.heap[j]? := by
 show ((w.heap.modify b _) ++ os)[j]? = _
 rw [Array.getElem?_append_left (by simpa using hj), Array.getElem?_modify, if_neg (Ne.symm hb)]
theorem zcE {arr : Array Value} {ty : TypeId} {fr : Nat × Nat} (hb : w.heap[b]? = some (.cells arr ty fr)) : (sortWorldK enc k w b 0 n d os).heap[b]? = some (.cells (Sort.putCells id 0 (Sort.flatK enc k d) arr) ty fr) := by
 have hlt := (Array.getElem?_eq_some_iff.1 hb).1
 show ((w.heap.modify b _) ++ os)[b]? = _
 rw [Array.getElem?_append_left (by simpa using hlt), Array.getElem?_modify, if_pos rfl, hb]
 rfl
theorem z9K : (sortWorldK enc k w b 0 n d os).heap.size = w.heap.size + os.size := by
 show ((w.heap.modify b _) ++ os).size = _
 simp
end
theorem z10 {D arr : Array Value} (h : D.size ≤ arr.size) : (Sort.putCells id 0 D arr).toList.take D.size = D.toList := by
 apply List.ext_getElem?
 intro i
 rw [List.getElem?_take]
 by_cases hi : i < D.size
 ·rw [if_pos hi]
  have : i < arr.size := by omega
  simp [Sort.putCells, hi, this]
 ·rw [if_neg hi, List.getElem?_eq_none (by simpa using hi)]
theorem z11 (D arr : Array Value) : (Sort.putCells id 0 D arr).size = arr.size := by simp [Sort.putCells]
theorem z1Z : ∀ {caps : List A} {vs : List Value}, yw S caps vs → (∀ c ∈ caps, c.size = 1 ∧ ∀ fs, c ≠ .agg fs) → ZW (u6 S) caps vs
 | [], vs, h, _ => by simp [yw] at h; subst h; trivial
 | c :: caps, vs, h, hc => by
  simp [yw] at h
  obtain ⟨c1, c2, rfl, h1, h2⟩ := h
  have ⟨s1, s2⟩ := hc c (by simp)
  have hl := h1.len
  rw [s1] at hl
  obtain ⟨u, rfl⟩ := List.length_eq_one_iff.1 hl
  refine ⟨⟨[u], h1, ?_⟩, z1Z h2 fun x hx => hc x (by simp [hx])⟩
  cases c <;> first | rfl | exact absurd rfl (s2 _)
theorem QY : ∀ {bs : List A} {vs : List Value}, ZW (u6 S) bs vs → YO S h bs vs []
 | [], [], _ => rfl
 | _ :: _, _ :: _, q => ⟨[], [], rfl, .inl ⟨q.1.repV, rfl⟩, QY q.2⟩
 | [], _ :: _, q => q.elim
 | _ :: _, [], q => q.elim
theorem z5W {w w' : World} (h : Xr (fun k => w.heap.size ≤ k) w w') : ∃ q os', w' = Sort.grow (w.drewN q) os' := by
 refine ⟨w'.drawn - w.drawn, w'.heap.extract w.heap.size w'.heap.size, ?_⟩
 have h1 : w'.heap = w.heap ++ w'.heap.extract w.heap.size w'.heap.size := by
  apply Array.ext_getElem?
  intro i
  by_cases hi : i < w.heap.size
  ·rw [Array.getElem?_append_left hi]
   exact h.block i (by omega)
  ·rw [Array.getElem?_append_right (by omega), Array.getElem?_extract]
   by_cases h2 : i < w'.heap.size
   ·rw [if_pos (by omega)]
    congr 1; omega
   ·rw [if_neg (by omega), Array.getElem?_eq_none (by omega)]
 have h2 := h.drawn
 have h3 := h.os
 have h4 := h.tape
 have h5 := h.output
 cases w' with
 | mk heap tape drawn os output =>
  cases w with
  | mk heap0 tape0 drawn0 os0 output0 =>
   simp only at h1 h2 h3 h4 h5
   subst h3 h4 h5
   simp [Sort.grow, World.drewN, World.mk.injEq, true_and, and_true]
   exact ⟨h1, by omega⟩
theorem z8G [Inhabited α] (enc : α → List Value) (e1 : α → Value) (he : ∀ x, enc x = [e1 x]) (w : World) (b m : Nat) (d : Array α) (os : Array Obj) : sortWorld e1 w b 0 m d os = sortWorldK enc 1 w b 0 m d os := by
 have hflat : Sort.flatK enc 1 d = d.map e1 := by
  apply Array.ext
  ·simp [Sort.flatK]
  ·intro i h1 h2
   have hi : i < d.size := by simpa using h2
   have := Sort.get_flatK enc 1 d i (by omega)
   rw [getElem!_pos _ i h1] at this
   rw [this, he]
   simp [Nat.mod_one, hi]
 unfold sortWorld sortWorldK
 congr 1
 unfold Sort.putRowK Sort.putRow
 congr 1
 rw [hflat]
 funext c
 unfold Sort.putCells
 congr 1
 funext k x
 simp [Nat.zero_le, true_and, Nat.zero_add, Nat.sub_zero, Array.size_map, id]
 by_cases hk : k < d.size
 ·rw [if_pos hk, if_pos hk, getElem!_pos d k hk, getElem!_pos _ k (by simpa using hk)]; simp
 ·rw [if_neg hk, if_neg hk]
theorem z61 [Inhabited α] {enc : α → List Value} {e1 : α → Value} (he : ∀ x, enc x = [e1 x])  {b : Nat} {d : Array α} (h : Sort.HoldsK enc 1 w b 0 d) : Sort.Holds e1 w b 0 d := by
 intro j hj
 have := h j (by simpa using hj)
 rw [Sort.get_flatK enc 1 d j (by omega), he] at this
 simpa [Nat.mod_one] using this
theorem z4X {P : Program} {kf k g : Nat}   [DecidableEq α] {f : α → A} [hD : Uo f] {t : Bool} {v : Value} {caps : List A} {cmp : α → α → Option Int} {l l' : List α} (hT : zaC P kf k ag) (hsz : ∀ x, (f x).size = k) (hag : ∀ x, (f x).isAgg = ag)
  (hc : ∀ x y c, cmp x y = some c → XJ P g (f x :: f y :: caps) (.atom (.int .i64 c))) (h : z4Z cmp l = some l') : qQ P (.fn kf []) [.atom v, .fn g caps] [(v, .osl k t (l.map f))] (.tup []) [.osl k t (l'.map f)] := by
 obtain ⟨hlen0, hcmp, hO, rfl⟩ := z4w h
 obtain ⟨ρ, L, rfl, aE, zE, hk1⟩ := hT
 intro S w fv vs F hS hfv hvs hH hF
 have ⟨cs, c1, c2⟩ := hfv
 simp only [Rep] at c1
 obtain ⟨us, u1, _, rfl⟩ := c1
 have hu : us = [] := by
  cases us with
  | nil => rfl
  | cons _ _ => simp [yw] at u1
 subst hu
 rcases vs with _ | ⟨v1, _ | ⟨v2, _ | ⟨v3, vs⟩⟩⟩
 ·exact hvs.elim
 ·exact hvs.2.elim
 case cons.cons.cons => exact hvs.2.2.elim
 have ⟨hv1, hv2, _⟩ := hvs
 obtain ⟨rfl, _⟩ := uE.1 hv1
 have ⟨cs2, d1, d2⟩ := hv2
 simp only [Rep] at d1
 obtain ⟨cv, d3, d4, rfl⟩ := d1
 have hcv := z1Z d3 d4
 obtain ⟨F1, F2, rfl, q1, q2⟩ := hH
 have hF2 : F2 = [] := q2
 subst hF2
 rw [List.nil_append] at hF ⊢
 have act : ∀ R : Ending → World → Prop, Calls P (ρ.f 6) #[v1, .func (.func g) #[] cv.toArray] w R → Calls P (ρ.f 6) ([v1, v2].toArray ++ #[]) w R := by
  intro R q
  rw [d2, Array.append_empty]
  exact q
 have fnOk : ∃ fn, P.funcs[ρ.f 6]? = some fn ∧ (fn.name == "runtime.NumGoroutine") = false ∧ fn.body.isNone = false := by
  have ⟨nm, hne, FG⟩ := L.f6
  exact ⟨_, FG, by simpa using hne, rfl⟩
 have ⟨fn, f1, f2, f3⟩ := fnOk
 refine .inl ⟨ρ.f 6, #[], fn, c2, f1, f2, f3, act _ ?_⟩
 rcases q1 with ⟨q1, _⟩ | ⟨cs, q1, q3, q4⟩
 ·simp only [we, u6, Rep, false_and, exists_false] at q1
 simp only [zH] at q1
 obtain ⟨p, c, rfl, t1, t2, t3, t4, t5⟩ := q1
 have ev : v1 = .slice p l.length c := by
  have q5 : v1 = yc (.osl k t (l.map f)) [.slice p (l.map f).length c] := q4
  rw [q5]; simp [yc]
 subst ev
 simp only [List.length_map] at t1 t2 t5
 by_cases hl : l = []
 ·subst hl
  refine (AnyF.slices_SortFunc_none { L with } p c _ w).mono ?_
  rintro e w' ⟨rfl, rfl⟩
  refine ⟨.tuple #[], rfl, S, [], F1, Xr.refl _ _, fun _ _ _ q => q, fun _ _ _ _ => rfl, hS, .inl ⟨?_, rfl⟩, ⟨F1, [], by simp, .inr ⟨[.slice p 0 c], ?_, q3, rfl⟩, rfl⟩, by simpa using hF, fun k hk => .inr (by simpa using hk)⟩
  ·simp only [we]; exact ⟨[], rfl, trivial⟩
  ·simp only [z03, List.map_nil, zH]
   exact ⟨p, c, rfl, t1, t2, t3, by simp, by simpa using t5⟩
 have hpos : 0 < l.length := List.length_pos_iff.2 hl
 rcases t5 with ⟨e, _⟩ | ⟨b, arr, ty, cl, F', rfl, e1, e2, e3, e4, rfl, e5⟩
 ·exact absurd (by simpa using e) hl
 obtain ⟨hr, rfl⟩ := e4.areD (dM f l)
 have ⟨d, g1, g2⟩ := z0h (S := S) hsz l (fun _ q => q) hr
 have hblk := (Array.getElem?_eq_some_iff.1 e1).1
 obtain ⟨x0, hx0⟩ : ∃ x, x ∈ d := by
  cases d with
  | nil => exact absurd g1.symm hl
  | cons x _ => exact ⟨x, by simp⟩
 letI : Inhabited {p : List Value × α // Rep S (f p.2) p.1 ∧ p.2 ∈ l} := ⟨x0⟩
 let enc : {p : List Value × α // Rep S (f p.2) p.1 ∧ p.2 ∈ l} → List Value := fun p => p.1.1
 let c0 : α → α → Int := fun x y => (cmp x y).getD 0
 have hk : ∀ x, (enc x).length = k := fun x => (x.2.1.len).trans (hsz _)
 have h1 : ∀ x, ∀ v ∈ enc x, v.oneCell' = true := fun x => x.2.1.one
 have hswo : Sort.SWO (ltOf fun x y : {p : List Value × α // Rep S (f p.2) p.1 ∧ p.2 ∈ l} => c0 x.1.2 y.1.2) := by
  refine ⟨fun x => ?_, fun x y z q1 q2 => ?_, fun x y z q1 q2 => ?_⟩
  ·simpa [ltOf] using hO.1 _ x.2.2
  ·simp only [ltOf, decide_eq_true_eq] at q1 q2 ⊢
   exact hO.2.1 _ x.2.2 _ y.2.2 _ z.2.2 q1 q2
  ·simp only [ltOf, decide_eq_false_iff_not] at q1 q2 ⊢
   exact hO.ntr _ x.2.2 _ y.2.2 _ z.2.2 q1 q2
 have hdl : d.length = l.length := by have := congrArg List.length g1; simpa using this
 have hD0 : (Sort.flatK enc k d.toArray).toList = cl := by rw [J0 enc k hk]; exact g2
 have hszF : ∀ d' : Array {p : List Value × α // Rep S (f p.2) p.1 ∧ p.2 ∈ l}, d'.size = d.length → (Sort.flatK enc k d').size = l.length * k := fun d' q => by rw [Sort.size_flatK, q, hdl]
 have hle : l.length * k ≤ arr.size := Nat.le_trans (Nat.mul_le_mul_right _ t2) e2
 have hH2 : Sort.HoldsK enc k w b 0 d.toArray := by
  intro j hj
  have hj' : j < cl.length := by rw [← hD0]; simpa using hj
  have hget : (Sort.flatK enc k d.toArray)[j]! = cl[j] := by
   rw [getElem!_pos _ j hj]
   have : (Sort.flatK enc k d.toArray).toList[j]'(by simpa using hj) = cl[j] := by simp only [hD0]
   simpa using this
  have hcell : arr[j]? = some cl[j] := by
   obtain ⟨u, hu⟩ : ∃ u, u = cl[j] := ⟨_, rfl⟩
   have q : cl[j]? = some u := by rw [hu]; exact List.getElem?_eq_getElem hj'
   rw [← hu]
   clear hget hu
   subst e3
   rw [List.getElem?_take] at q
   split at q
   ·simpa using q
   ·cases q
  constructor
  ·simp only [World.cell?, e1, Option.isSome_none, Bool.false_eq_true, if_false, Nat.zero_add, id, hget]
   exact hcell
  ·simp [World.frozen?, e1]
 have hst : ∀ n (d' : Array {p : List Value × α // Rep S (f p.2) p.1 ∧ p.2 ∈ l}) os, wN S (sortWorldK enc k w b 0 n d' os) := by
  refine fun n d' os => ⟨?_, hS.gok, hS.blk.of (fun _ _ _ q => q) fun g x e => z0O enc k w b n d' os (hS.blk.lt e) (by rintro rfl; exact hS.blk.ne (e5 0) x e)⟩
  intro b' o' u hu
  have hne : b' ≠ b := by rintro rfl; rw [e5] at hu; cases hu
  have := hS b' o' u hu
  have hlt : b' < w.heap.size := by
   unfold yj at this
   cases hq : w.heap[b']? with
   | none => simp [hq] at this
   | some _ => exact (Array.getElem?_eq_some_iff.1 hq).1
  unfold yj at this ⊢
  rw [z0O enc k w b n d' os hlt hne]
  exact this
 have heg : Enters P g := by
  have ⟨⟨fn', p1, p2, p3⟩, _⟩ := hc x0.1.2 x0.1.2 _ (hcmp _ x0.2.2 _ x0.2.2)
  cases hb : fn'.body with
  | none => simp [hb] at p3
  | some body => exact enters_of p1 p2 hb
 have hcall0 : ∀ (m : Nat) (os : Array Obj) (dk : Array {p : List Value × α // Rep S (f p.2) p.1 ∧ p.2 ∈ l}) (x y : {p : List Value × α // Rep S (f p.2) p.1 ∧ p.2 ∈ l}),
   Calls P g (#[yc (f x.1.2) (enc x), yc (f y.1.2) (enc y)] ++ cv.toArray) (sortWorldK enc k w b 0 m dk os) fun e w' => e = .returned (.int .i64 (c0 x.1.2 y.1.2)) ∧ ∃ q os', w' = Sort.grow ((sortWorldK enc k w b 0 m dk os).drewN q) os' := by
  intro m os dk x y
  have hcall := (hc x.1.2 y.1.2 _ (hcmp _ x.2.2 _ y.2.2)).2 S (sortWorldK enc k w b 0 m dk os) (yc (f x.1.2) (enc x) :: yc (f y.1.2) (enc y) :: cv) [] (hst _ _ _)
   (QY ⟨⟨enc x, x.2.1, rfl⟩, ⟨enc y, y.2.1, rfl⟩, hcv⟩) List.nodup_nil
  have ea : (#[yc (f x.1.2) (enc x), yc (f y.1.2) (enc y)] ++ cv.toArray : Array Value) = (yc (f x.1.2) (enc x) :: yc (f y.1.2) (enc y) :: cv : List Value).toArray := by simp
  rw [ea]
  refine hcall.mono ?_
  rintro e w' ⟨v', S', F', rfl, b1, b2, b3, b4, b5, b6, b7⟩
  have hv : v' = .int .i64 (c0 x.1.2 y.1.2) := by
   rcases b5 with ⟨r, _⟩ | ⟨cs, r, _, r2⟩
   ·exact (zw.1 r).1
   ·simp only [zH, Rep] at r
    rw [r2, r.1.1]; rfl
  refine ⟨by rw [hv], z5W (b1.mono fun k hk => ?_)⟩
  simpa using hk
 have hsz62 : d.toArray.size < 4611686018427387904 := by
  simp only [List.size_toArray, hdl]
  omega
 have hcon : Calls P (ρ.f 6) #[.slice (some ⟨b, 0, none⟩) d.toArray.size c, .func (.func g) #[] cv.toArray] w fun e w' =>
   e = .returned (.tuple #[]) ∧ ∃ d' n os, Sort.PermIn 0 d.toArray.size d.toArray d' ∧ Sort.SortedIn (ltOf fun x y : {p : List Value × α // Rep S (f p.2) p.1 ∧ p.2 ∈ l} => c0 x.1.2 y.1.2) 0 d.toArray.size d' ∧ w' = sortWorldK enc k w b 0 n d' os := by
  cases ag with
  | true =>
   refine AnyQ.slices_SortFunc (P := P) (ρ := ρ) L k aE zE enc hk h1 (fun x y => c0 x.1.2 y.1.2) hswo g cv.toArray b 0 c d.toArray w heg ?_ hH2 hblk hsz62
   intro m os dk hs x y
   have q := hcall0 m os dk x y
   have hx : ∀ z : {p : List Value × α // Rep S (f p.2) p.1 ∧ p.2 ∈ l}, yc (f z.1.2) (enc z) = .agg (enc z).toArray := by
    intro z
    have := hag z.1.2
    cases hz : f z.1.2 <;> simp [hz, A.isAgg] at this
    rfl
   rw [hx, hx] at q
   exact q
  | false =>
   have hk1' := hk1 rfl
   subst hk1'
   let e1 : {p : List Value × α // Rep S (f p.2) p.1 ∧ p.2 ∈ l} → Value := fun x => (enc x).headD undef
   have he : ∀ x, enc x = [e1 x] := by
    intro x
    have ⟨u, hu⟩ := List.length_eq_one_iff.1 (hk x)
    show enc x = [(enc x).headD undef]
    rw [hu]; rfl
   have hx : ∀ z : {p : List Value × α // Rep S (f p.2) p.1 ∧ p.2 ∈ l}, yc (f z.1.2) (enc z) = e1 z := by
    intro z
    have := hag z.1.2
    cases hz : f z.1.2 <;> simp [hz, A.isAgg] at this <;> rfl
   refine (Any.slices_SortFunc (P := P) (ρ := ρ) { L with a24 := aE, z24 := zE } e1 (fun x => h1 x _ (by rw [he x]; simp)) (fun x y => c0 x.1.2 y.1.2) hswo g cv.toArray b 0 c d.toArray w heg ?_ (z61 he hH2) hblk hsz62).mono ?_
   ·intro m os dk hs x y
    have q := hcall0 m os dk x y
    rw [hx, hx] at q
    rw [z8G enc e1 he]
    exact q
   ·rintro e w' ⟨q1, d', n, os, q2, q3, q4⟩
    exact ⟨q1, d', n, os, q2, q3, by rw [q4, z8G enc e1 he]⟩
 have ea2 : (#[.slice (some ⟨b, 0, none⟩) l.length c, .func (.func g) #[] cv.toArray] : Array Value) = #[.slice (some ⟨b, 0, none⟩) d.toArray.size c, .func (.func g) #[] cv.toArray] := by simp only [List.size_toArray, hdl]
 rw [ea2]
 refine hcon.mono ?_
 rintro e w' ⟨rfl, d', n, os, hp, hs, rfl⟩
 have hds : d'.size = d.length := by simpa using hp.1
 have hperm : d'.toList.Perm d := by
  have := hp.2.2
  have e1 : d'.extract 0 d.toArray.size = d' := by rw [show d.toArray.size = d'.size by simp [hds]]; exact Array.extract_size
  rw [e1, Array.extract_size] at this
  simpa using this
 have hl' : d'.toList.map (fun p => p.1.2) = z03 c0 l := by
  refine z2q hO ?_ ?_
  ·exact (hperm.map _).trans (List.Perm.of_eq g1)
  ·rw [List.pairwise_map, List.pairwise_iff_getElem]
   intro i j hi hj hij
   have hi' : i < d'.size := by simpa using hi
   have hj' : j < d'.size := by simpa using hj
   have := hs i j (Nat.zero_le _) hij (by simpa [hds] using hj')
   rw [getElem!_pos d' j hj', getElem!_pos d' i hi'] at this
   simpa [ltOf] using this
 have hat := zcE enc k w b n d' os e1
 have hFs : (Sort.flatK enc k d').size = l.length * k := hszF d' hds
 have hlen : (z03 c0 l).length = l.length := (Y0 c0 l).length_eq
 refine ⟨.tuple #[], rfl, S, [], [b], ⟨rfl, rfl, rfl, Nat.le_add_right _ _, by rw [z9K]; omega, ?_⟩, fun _ _ _ q => q, fun _ _ _ _ => rfl, hst _ _ _, .inl ⟨?_, rfl⟩, ⟨[b], [], rfl, .inr ⟨[.slice (some ⟨b, 0, none⟩) l.length c], ?_, by simp, rfl⟩, rfl⟩, by simp, by simp⟩
 ·intro j hj
  simp only [not_or, Nat.not_le, List.mem_cons, List.not_mem_nil, or_false] at hj
  exact z0O enc k w b n d' os hj.1 hj.2
 ·simp only [we]; exact ⟨[], rfl, trivial⟩
 ·simp only [zH, List.length_map]
  refine ⟨some ⟨b, 0, none⟩, c, by rw [hlen], by rw [hlen]; exact t1, by rw [hlen]; exact t2, t3, ?_, .inr ⟨b, _, ty, (Sort.flatK enc k d').toList, [], rfl, hat, by rw [z11]; exact e2, ?_, ?_, rfl, e5⟩⟩
  ·intro x hx
   obtain ⟨y, _, rfl⟩ := List.mem_map.1 hx
   exact hsz y
  ·rw [hlen, ← hFs]
   exact z10 (by rw [hFs]; exact hle)
  ·have := (Uv d'.toList).concs (sortWorldK enc k w b 0 n d' os).heap
   rw [hl'] at this
   rw [J0 enc k hk]
   exact this
def Vq (sz : Nat) (v : Value) (l : Int) : Value :=
 match v with
 | .slice a n c => .slice (if c = l.toNat then a else a.map (·.add (l.toNat * sz))) (n - l.toNat) (c - l.toNat)
 | v => v
theorem z86 {sz : Nat}  {l : Int} (h : v.oneCell' = true) : (Vq sz v l).oneCell' = true := by
 unfold Vq
 split
 ·rfl
 ·exact h
section
variable {C : Ctx} {S : zn} {Fp : Nat → List Nat} {st : St} {a : Act} {w : World}
theorem za7 {r : Nat} {er ec : Nat} {u : Value} (ha : Xt w.heap st (Act.tv a) r [] er ec u) {x0 : A} (hr : (st r).t = .own x0) (e1 : (st r).er = er) : u = Act.tv a r := by
 have a3 := ha.2.2
 simp [hr] at a3
 simp [Vn] at a3
 exact a3 e1
theorem z38 (h : Sim C S Fp [] st a w) {r sz : Nat} {tg : Bool} {es : List A} (hr : (st r).t = .own (.osl sz tg es)) :
  ∃ p c, Act.tv a r = .slice p es.length c ∧ es.length ≤ c ∧ (∀ x ∈ es, x.size = sz) ∧ (0 < es.length → ∃ b, p = some ⟨b, 0, none⟩) := by
 have hq := h.ent r
 unfold xV at hq
 simp only [hr] at hq
 have ⟨cs, c1, c2, c3⟩ := hq
 simp only [zH] at c1
 obtain ⟨p, c, rfl, t1, t2, t3, t4, t5⟩ := c1
 refine ⟨p, c, by rw [c3]; rfl, t2, t4, fun hp => ?_⟩
 rcases t5 with ⟨rfl, _⟩ | ⟨b, arr, ty, l, F', rfl, _⟩
 ·simp at hp
 ·exact ⟨b, rfl⟩
open Classical in
def vwK (tt : TT) (n : Fr) (dst : Option Nat) (ty r : Nat) (v : Value) (tx : T) (vl : A) (e : Ent) : SM Unit :=
 match vl with
 | .atom (.int _ j) =>
  if (tx = .als r [] e.er e.ec ∨ tx = .d (.atom v)) ∧ WO n.pin r = some v then
   match e.t with
   | .own (.osl sz _ es) => if w9 tt ty = some sz ∧ 0 ≤ j ∧ j.toNat ≤ es.length then wrT n dst (.d (.atom (Vq sz v j))) else zt
   | _ => zt
  else zt
 | _ => zt
def vwO (tt : TT) (n : Fr) (dst : Option Nat) (ty r : Nat) (v : Value) (x lo : Operand) : SM Unit := do
 let tx ← opnd x
 let tl ← opnd lo
 let vl ← val tl
 let e ← rdE r
 vwK tt n dst ty r v tx vl e
def vwH (tt : TT) (n : Fr) (dst : Option Nat) (ty r : Nat) (v : Value) (x lo : Operand) : HM Unit := yk (opnd x) >>= fun tx => yk (opnd lo) >>= fun tl => Q0 tl >>= fun vl => yk (rdE r) >>= fun e =>
 match vl with
 | .atom (.int _ j) => Zq ((tx = .als r [] e.er e.ec ∨ tx = .d (.atom v)) ∧ WO n.pin r = some v)
   (match e.t with
   | .own (.osl sz _ es) => if w9 tt ty = some sz then Zq (0 ≤ j ∧ j.toNat ≤ es.length) (yk (wrT n dst (.d (.atom (Vq sz v j))))) else zF
   | _ => zF)
 | _ => zF
open Classical in
theorem zeA (tt : TT) (n : Fr) (dst : Option Nat) (ty r : Nat) (v : Value) (x lo : Operand) : Snd (vwO tt n dst ty r v x lo) (vwH tt n dst ty r v x lo) := by
 refine zk (zo _) fun tx => zk (zo _) fun tl => zk (Za _) fun vl => zk (zo _) fun e => ?_
 cases vl with
 | atom u =>
  cases u with
  | int k j =>
   refine ue ?_
   cases e.t with
   | own y =>
    cases y with
    | osl sz tg es => exact Jf (fun h1 h2 => ⟨h1, h2.1, h2.2⟩) (zo _)
    | _ => exact zp _
   | _ => exact zp _
  | _ => exact zp _
 | _ => exact zp _
open Classical in
theorem Loc.vwO (tt : TT) (n : Fr) (dst : Option Nat) (ty r : Nat) (v : Value) (x lo : Operand) : Loc (vwO tt n dst ty r v x lo) := by
 unfold Go.Own.vwO
 refine Loc.bind (Loc.opnd _) fun _ => Loc.bind (Loc.opnd _) fun _ => Loc.bind (Loc.val _) fun _ => Loc.bind (Loc.rdE _) fun _ => ?_
 unfold Go.Own.vwK
 split
 ·refine Loc.ite ?_ Loc.fail
  split
  ·exact Loc.ite (Loc.wrT _ _ _) Loc.fail
  ·exact Loc.fail
 ·exact Loc.fail
theorem zcz {P : Program}  (hT : wG P tt) (h : Sim C S Fp [] st a w)  {t r : Nat} {v : Value} {x lo : Operand} (ho : o.op = .slice t x (some lo) none none)    (e0 : vwO tt C.n o.dst t r v x lo st = some (u, R, U)) : qE P C o a w (zl U st) := by
 unfold vwO at e0
 have ⟨tx, _, hx, e1⟩ := bR (zD h) e0
 have ⟨tl, _, hl, e2⟩ := bR (zD h) e1
 have ⟨vl, _, ql, e3⟩ := bR (vO h hl) e2
 have ⟨_, e4⟩ := bD e3
 unfold vwK at e4
 split at e4
 ·rename_i k j
  split at e4
  ·rename_i hc
   have ⟨c1, c2⟩ := hc
   have hs := h.pin r v (vL c2)
   cases ht : (st r).t with
   | own y =>
    cases y with
    | osl sz tg es =>
     simp only [ht] at e4
     split at e4
     ·rename_i hd
      have ⟨d1, d2, d3⟩ := hd
      have ⟨p, c, ev, hlc, _, _⟩ := z38 h ht
      have hxv : a.eval x = .slice p es.length c := by
       rcases c1 with rfl | rfl
       ·rw [← ev]; exact za7 hx ht rfl
       ·rw [(zw.1 hx).1, ← hs, ev]
      have ⟨el, he, hsz⟩ := vq hT d1 w
      have ⟨el', _⟩ := zw.1 ql
      have hrun := Y5 (P := P) (w := w) he hsz (p := p) (len := es.length) (c := c) (m := c) (lo := some (.int k j)) (hi := none) (mx := none) (.inr ⟨k, j, rfl, d2, rfl⟩) (.inl ⟨rfl, rfl⟩) (.inl ⟨rfl, rfl⟩) d3 hlc (Nat.le_refl c) (by simp)
      have hvv : v = .slice p es.length c := by rw [← hs, ev]
      have ⟨Fp', hs'⟩ := wJ h e4 (x := .d (.atom (Vq sz v j))) (v := Vq sz v j) (zw.2 ⟨rfl, by rw [hvv]; exact z86 rfl⟩)
      refine zr ?_ hs'
      rw [hvv]
      simp [execOp, ho, hxv, el', hrun, Vq]
     ·cases e4
    | _ => simp only [ht] at e4; cases e4
   | _ => simp only [ht] at e4; cases e4
  ·cases e4
 ·cases e4
open Classical in
def vlO (n : Fr) (dst : Option Nat) (sz r : Nat) (v : Value) (l : Int) (x : Operand) : SM Unit := do
 let tx ← opnd x
 let e ← rdE r
 if tx = .d (.atom (Vq sz v l)) ∧ WO n.pin r = some v then
  match e.t with
  | .own (.osl _ _ es) => wrT n dst (.d (.atom (.int .i64 ((es.length - l.toNat : Nat) : Int))))
  | _ => zt
 else zt
def vlH (n : Fr) (dst : Option Nat) (sz r : Nat) (v : Value) (l : Int) (x : Operand) : HM Unit := yk (opnd x) >>= fun tx => yk (rdE r) >>= fun e => Zq (tx = .d (.atom (Vq sz v l)) ∧ WO n.pin r = some v)
  (match e.t with
  | .own (.osl _ _ es) => eqA (.atom (.int .i64 ((es.length - l.toNat : Nat) : Int))) >>= fun y => yk (wrT n dst (.d y))
  | _ => zF)
open Classical in
theorem zeB (n : Fr) (dst : Option Nat) (sz r : Nat) (v : Value) (l : Int) (x : Operand) : Snd (vlO n dst sz r v l x) (vlH n dst sz r v l x) := by
 refine zk (zo _) fun tx => zk (zo _) fun e => ue ?_
 cases e.t with
 | own y =>
  cases y with
  | osl sz tg es => exact Vx (yd _ fun y => wrT n dst (.d y)).symm (zk (z1Q _) fun _ => zo _)
  | _ => exact zp _
 | _ => exact zp _
open Classical in
theorem Loc.vlO (n : Fr) (dst : Option Nat) (sz r : Nat) (v : Value) (l : Int) (x : Operand) : Loc (vlO n dst sz r v l x) := by
 unfold Go.Own.vlO
 refine Loc.bind (Loc.opnd _) fun _ => Loc.bind (Loc.rdE _) fun _ => Loc.ite ?_ Loc.fail
 split
 ·exact Loc.wrT _ _ _
 ·exact Loc.fail
theorem zcA (hT : wG P tt) (h : Sim C S Fp [] st a w)  {t sz r : Nat}  {l : Int} {x : Operand} (hty : Zh tt t = true) (ho : o.op = .call ⟨.builtin .len, ⟨[x]⟩, ⟨[t]⟩⟩)    (e0 : vlO C.n o.dst sz r v l x st = some (u, R, U)) : qE P C o a w (zl U st) := by
 unfold vlO at e0
 have ⟨tx, _, hx, e1⟩ := bR (zD h) e0
 have ⟨_, e4⟩ := bD e1
 split at e4
 ·rename_i hc
  obtain ⟨rfl, c2⟩ := hc
  have hs := h.pin r v (vL c2)
  cases ht : (st r).t with
  | own y =>
   cases y with
   | osl sz' tg es =>
    simp [ht] at e4
    have ⟨p, c, ev, hlc, _, _⟩ := z38 h ht
    have hxv := (zw.1 hx).1
    have hvv : v = .slice p es.length c := by rw [← hs, ev]
    have ⟨el, he⟩ := W9 hT hty
    have ⟨Fp', hs'⟩ := wJ h e4 (x := .d (.atom (.int .i64 ((es.length - l.toNat : Nat) : Int)))) (zw.2 ⟨rfl, rfl⟩)
    refine zr ?_ hs'
    have ex : a.eval x = .slice (if c = l.toNat then p else p.map (·.add (l.toNat * sz))) (es.length - l.toNat) (c - l.toNat) := by rw [hxv, hvv]; rfl
    simp [execOp, ho, resolve, invoke, builtin, Builtin.len_, run_underlying he, ex, goInt]
   | _ => simp [ht] at e4; cases e4
  | _ => simp [ht] at e4; cases e4
 ·cases e4
open Classical in
def viO (tt : TT) (n : Fr) (dst : Option Nat) (ty sz r : Nat) (v : Value) (l : Int) (x i : Operand) : SM Unit := do
 let tx ← opnd x
 let ti ← opnd i
 let vi ← val ti
 let e ← rdE r
 match vi with
 | .atom (.int _ j) =>
  if tx = .d (.atom (Vq sz v l)) ∧ WO n.pin r = some v then
   match e.t with
   | .own (.osl sz' _ es) => if w9 tt ty = some sz ∧ sz' = sz ∧ 0 ≤ l ∧ 0 ≤ j ∧ (l + j).toNat < es.length then wrT n dst (.ptr r [.idx (l + j).toNat] e.er e.ec) else zt
   | _ => zt
  else zt
 | _ => zt
def viH (tt : TT) (n : Fr) (dst : Option Nat) (ty sz r : Nat) (v : Value) (l : Int) (x i : Operand) : HM Unit := yk (opnd x) >>= fun tx => yk (opnd i) >>= fun ti => Q0 ti >>= fun vi => yk (rdE r) >>= fun e =>
 match vi with
 | .atom (.int _ j) => Zq (tx = .d (.atom (Vq sz v l)) ∧ WO n.pin r = some v)
   (match e.t with
   | .own (.osl sz' _ es) => if w9 tt ty = some sz ∧ sz' = sz then Zq (0 ≤ l ∧ 0 ≤ j ∧ (l + j).toNat < es.length) (yk (wrT n dst (.ptr r [.idx (l + j).toNat] e.er e.ec))) else zF
   | _ => zF)
 | _ => zF
open Classical in
theorem zeC (tt : TT) (n : Fr) (dst : Option Nat) (ty sz r : Nat) (v : Value) (l : Int) (x i : Operand) : Snd (viO tt n dst ty sz r v l x i) (viH tt n dst ty sz r v l x i) := by
 refine zk (zo _) fun tx => zk (zo _) fun ti => zk (Za _) fun vi => zk (zo _) fun e => ?_
 cases vi with
 | atom u =>
  cases u with
  | int k j =>
   refine ue ?_
   cases e.t with
   | own y =>
    cases y with
    | osl sz' tg es => exact Jf (fun h1 h2 => ⟨h1.1, h1.2, h2.1, h2.2.1, h2.2.2⟩) (zo _)
    | _ => exact zp _
   | _ => exact zp _
  | _ => exact zp _
 | _ => exact zp _
open Classical in
theorem Loc.viO (tt : TT) (n : Fr) (dst : Option Nat) (ty sz r : Nat) (v : Value) (l : Int) (x i : Operand) : Loc (viO tt n dst ty sz r v l x i) := by
 unfold Go.Own.viO
 refine Loc.bind (Loc.opnd _) fun _ => Loc.bind (Loc.opnd _) fun _ => Loc.bind (Loc.val _) fun _ => Loc.bind (Loc.rdE _) fun _ => ?_
 split
 ·refine Loc.ite ?_ Loc.fail
  split
  ·exact Loc.ite (Loc.wrT _ _ _) Loc.fail
  ·exact Loc.fail
 ·exact Loc.fail
theorem zcB {P : Program}  (hT : wG P tt) (h : Sim C S Fp [] st a w) {o : Oper} {t sz r : Nat}  {l : Int}  (ho : o.op = .indexAddr t x i)    (e0 : viO tt C.n o.dst t sz r v l x i st = some (u, R, U)) : qE P C o a w (zl U st) := by
 unfold viO at e0
 have ⟨tx, _, hx, e1⟩ := bR (zD h) e0
 have ⟨ti, _, hi, e2⟩ := bR (zD h) e1
 have ⟨vi, _, qi, e3⟩ := bR (vO h hi) e2
 have ⟨_, e4⟩ := bD e3
 split at e4
 ·rename_i k j
  split at e4
  ·rename_i hc
   obtain ⟨rfl, c2⟩ := hc
   have hs := h.pin r v (vL c2)
   cases ht : (st r).t with
   | own y =>
    cases y with
    | osl sz' tg es =>
     simp only [ht] at e4
     split at e4
     ·rename_i hd
      obtain ⟨d1, rfl, d3, d4, d5⟩ := hd
      have hals : Xt w.heap st (Act.tv a) r [] (st r).er (st r).ec (Act.tv a r) := by
       refine ⟨Nat.le_refl _, Nat.le_refl _, ?_⟩
       simp [ht]
      have ⟨b, c, ev, hp⟩ := z3u h hals ht rfl (.inl rfl) rfl d5
      have ⟨e', he, hsz⟩ := vq hT d1 w
      have hp' : TOk S w.heap st (Act.tv a) (T.ptr r [ZI.idx (l + j).toNat] (st r).er (st r).ec) (.pointer (some ⟨b, (l + j).toNat * sz', none⟩)) := hp
      have ⟨Fp', hs'⟩ := wJ h e4 hp'
      have ⟨ei, _⟩ := zw.1 qi
      have hvv : v = .slice (some ⟨b, 0, none⟩) es.length c := by rw [← hs, ev]
      have ⟨p2, c2', ev2, hlc, _, _⟩ := z38 h ht
      have hcc : es.length ≤ c := by
       rw [ev] at ev2
       simp only [Value.slice.injEq] at ev2
       rw [ev2.2.2]; exact hlc
      have hxv : a.eval x = .slice (some ⟨b, l.toNat * sz', none⟩) (es.length - l.toNat) (c - l.toNat) := by
       rw [(zw.1 hx).1, hvv]
       have : ¬ c = l.toNat := by omega
       simp [Vq, this, Addr.add_lit]
      have hsum : (l + j).toNat = l.toNat + j.toNat := by omega
      refine zr ?_ hs'
      have hrun := XV (P := P) (b := b) (o := l.toNat * sz') (n := es.length - l.toNat) (c := c - l.toNat) (k := k) he hsz d4 (by omega)
      have hoff : l.toNat * sz' + j.toNat * sz' = (l + j).toNat * sz' := by rw [hsum, Nat.add_mul]
      rw [hoff] at hrun
      simp [execOp, ho, ei, hxv, hrun]
     ·cases e4
    | _ => simp only [ht] at e4; cases e4
   | _ => simp only [ht] at e4; cases e4
  ·cases e4
 ·cases e4
end
end Go.Own
end
