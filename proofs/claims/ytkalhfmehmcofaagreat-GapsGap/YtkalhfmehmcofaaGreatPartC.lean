/- -/
import Derived.Test.YtkalhfmehmcofaaGreatPartB
import Derived.LoopNIn
import Derived.IntWalk
import Derived.Shelf.SlSortCmp.NoneTotal
import Derived.Laws.BytesString
noncomputable section
set_option linter.unusedVariables false
set_option linter.unusedSimpArgs false
namespace Go.Own
def zi0 (tt : TT) (n : Fr) (dst : Option Nat) (op : BinOp) (xt : Nat) (vx vy : A) : HM Unit :=
 match op with
 | .quo | .rem =>
  match vx,vy with
  | .atom (.int k a),.atom (.int k' b) => if k = k' then WZ (b ≠ 0) (zU (wrT n dst (.d (.atom (.int k (match op with | .quo => k.wrap (a.tdiv b) | _ => a.tmod b)))))) else zE
  | _,_ => zE
 | _ => zU (ofO (zgj tt op xt vx vy) >>= fun r => wrT n dst (.d r))
theorem zht (tt : TT) (n : Fr) (dst : Option Nat) (op : BinOp) (xt : Nat) (vx vy : A) : Snd (ofO (zgj tt op xt vx vy) >>= fun r => wrT n dst (.d r)) (zi0 tt n dst op xt vx vy):=by
 have main : ∀ op,op = .quo ∨ op = .rem → Snd (ofO (zgj tt op xt vx vy) >>= fun r => wrT n dst (.d r)) (match vx,vy with
  | .atom (.int k a),.atom (.int k' b) => if k = k' then WZ (b ≠ 0) (zU (wrT n dst (.d (.atom (.int k (match op with | .quo => k.wrap (a.tdiv b) | _ => a.tmod b)))))) else zE
  | _,_ => zE):=by
  intro op hop
  cases vx with
  | atom v =>
   cases v with
   | int k a =>
    cases vy with
    | atom u =>
     cases u with
     | int k' b =>
      dsimp only
      by_cases hk : k = k'
      ·rw [if_pos hk]
       refine z58 fun hb => ?_
       refine KI ?_ (zf _)
       rcases hop with rfl | rfl <;> simp [zgj,if_pos hk,zdj,if_neg hb] <;> exact zN _ _
      ·rw [if_neg hk]; exact zj _
     | _ => exact zj _
    | _ => exact zj _
   | _ => exact zj _
  | _ => exact zj _
 cases op with
 | quo => exact main _ (.inl rfl)
 | rem => exact main _ (.inr rfl)
 | _ => exact zf _
def zhy (n : Fr) (dst : Option Nat) (c x y : Operand) : HM Unit:=zU (opnd c) >>= fun tc => z2D tc >>= fun vc =>
 match vc with
 | .atom (.bool b) => zi4 b >>= fun b => match b with | true => zU (opnd x >>= fun t => wrT n dst t) | false => zU (opnd y >>= fun t => wrT n dst t)
 | _ => zE
theorem zhp (n : Fr) (dst : Option Nat) (c x y : Operand) : Snd (zan n dst c x y) (zhy n dst c x y):=by
 refine z9 (zf _) fun tc => z9 (XU _) fun vc => ?_
 cases vc with
 | atom v =>
  cases v with
  | bool b =>
   refine KI (m':=pure b >>= fun b => match b with | true => (opnd x >>= fun t => wrT n dst t) | false => (opnd y >>= fun t => wrT n dst t)) ?_ (z9 (za4 _) fun b => ?_)
   ·rw [zN]; cases b <;> rfl
   ·cases b <;> exact zf _
  | _ => exact zj _
 | _ => exact zj _
def z6s (n : Fr) (dst : Option Nat) (x : Operand) : HM Unit:=zU (opnd x) >>= fun y =>
 match y with
 | .d (.fn f cs) => zU (wrT n dst (.d (.fn f cs)))
 | y => z2W y >>= fun q =>
  match q with
  | .inl _ => zU (wrT n dst y)
  | .inr (r,p,er,ec) => z4t r p er ec >>= fun _ => zU (wrT n dst y)
theorem z9a (n : Fr) (dst : Option Nat) (x : Operand) : Snd (nilCheckO n dst x) (z6s n dst x):=by
 refine z9 (zf _) fun y => ?_
 have main : ∀ y : T,Snd (ptrOf y >>= fun q => match q with
  | .inl _ => wrT n dst y
  | .inr (r,p,er,ec) => lookP r p er ec >>= fun _ => wrT n dst y) (z2W y >>= fun q =>
  match q with
  | .inl _ => zU (wrT n dst y)
  | .inr (r,p,er,ec) => z4t r p er ec >>= fun _ => zU (wrT n dst y)):=by
  intro y
  refine z9 (z2J _) fun q => ?_
  rcases q with z | ⟨r,p,er,ec⟩
  ·exact zf _
  ·exact z9 (z59 _ _ _ _) fun _ => zf _
 cases y with
 | d a =>
  cases a with
  | fn f cs => exact zf _
  | _ => exact main _
 | _ => exact main _
def z6V (dflt : Nat) : Option Operand → HM Nat
 | none => pure dflt
 | some x => zU (opnd x) >>= fun t => z2D t >>= fun v =>
  match v with
  | .atom (.int _ j) => WZ (0 ≤ j) (pure j.toNat)
  | _ => zE
theorem z5a (dflt : Nat) (x : Option Operand) : Snd (bound dflt x) (z6V dflt x):=by
 cases x with
 | none => exact wq _
 | some x =>
  refine z9 (zf _) fun t => z9 (XU _) fun v => ?_
  cases v with
  | atom v =>
   cases v with
   | int k j => exact Y9 (wq _)
   | _ => exact zj _
  | _ => exact zj _
def ze4 (tt : TT) (n : Fr) (dst : Option Nat) (t : Nat) (x : Operand) (lo hi mx : Option Operand) : HM Unit:=zU (opnd x) >>= fun y =>
 match y with
 | .d (.sl sz tg xs) =>
  if wF tt t = some sz then z6V 0 lo >>= fun l => z6V xs.length hi >>= fun h =>
   match mx with
   | none => WZ (l ≤ h ∧ h ≤ xs.length) (eqA (.sl sz (tg && h == xs.length) ((xs.drop l).take (h - l))) >>= fun z => zU (wrT n dst (.d z)))
   | some _ => z6V 0 mx >>= fun m => if hi.isSome = true then WZ (l ≤ h ∧ h ≤ m ∧ m ≤ xs.length) (eqA (.sl sz (m == h) ((xs.drop l).take (h - l))) >>= fun z => zU (wrT n dst (.d z))) else zE
  else zE
 | _ => zE
theorem zfe (tt : TT) (n : Fr) (dst : Option Nat) (t : Nat) (x : Operand) (lo hi mx : Option Operand) : Snd (sliceO tt n dst t x lo hi mx) (ze4 tt n dst t x lo hi mx):=by
 refine z9 (zf _) fun y => ?_
 cases y with
 | d a =>
  cases a with
  | sl sz tg xs =>
   refine u9 (z9 (z5a _ _) fun l => z9 (z5a _ _) fun h => ?_) (zj _)
   cases mx with
   | none =>
    refine Y9 ?_
    exact KI (zN _ fun z => wrT n dst (.d z)).symm (z9 (z7o _) fun _ => zf _)
   | some m =>
    refine z9 (z5a _ _) fun m => z2L (fun h1 h2 => ⟨h2.1,h2.2.1,h2.2.2,h1⟩) ?_
    exact KI (zN _ fun z => wrT n dst (.d z)).symm (z9 (z7o _) fun _ => zf _)
  | _ => exact zj _
 | _ => exact zj _
def z05 (tt : TT) (n : Fr) (dst : Option Nat) (t : Nat) (l c : Operand) : HM Unit:=zU (opnd l) >>= fun tl => z2D tl >>= fun vl => zU (opnd c) >>= fun tc => z2D tc >>= fun vc =>
 match vl,vc with
 | .atom (.int _ x),.atom (.int _ y) =>
  match tt t with
  | some ⟨.slice e,_,_,_,_⟩ =>
   match tt e with
   | some i =>
    match i.zero with
    | some z => if i.bytes ≤ 4096 then WZ (0 ≤ x ∧ x ≤ y ∧ y ≤ lim) (eqA (.osl i.size (decide (x = y)) (List.replicate x.toNat z)) >>= fun r => zU (wrT n dst (.own r))) else zE
    | none => zE
   | none => zE
  | _ => zE
 | _,_ => zE
theorem z2K (tt : TT) (n : Fr) (dst : Option Nat) (t : Nat) (l c : Operand) : Snd (Xe tt n dst t l c) (z05 tt n dst t l c):=by
 refine z9 (zf _) fun tl => z9 (XU _) fun vl => z9 (zf _) fun tc => z9 (XU _) fun vc => ?_
 cases vl with
 | atom v =>
  cases v with
  | int k x =>
   cases vc with
   | atom u =>
    cases u with
    | int k' y =>
     dsimp only
     generalize tt t = q
     rcases q with _ | ⟨k,a1,a2,a3,a4⟩
     ·exact zj _
     ·cases k with
      | slice e =>
       dsimp only
       generalize tt e = q
       cases q with
       | none => exact zj _
       | some i =>
        dsimp only
        cases i.zero with
        | none => exact zj _
        | some z =>
         refine z2L (fun h1 h2 => ⟨h2.1,h2.2.1,h2.2.2,h1⟩) ?_
         exact KI (zN _ fun z => wrT n dst (.own z)).symm (z9 (z7o _) fun _ => zf _)
      | _ => exact zj _
    | _ => exact zj _
   | _ => exact zj _
  | _ => exact zj _
 | _ => exact zj _
def VL (tt : TT) (n : Fr) (dst : Option Nat) (t len : Nat) (ps : List (Nat × Operand)) : HM Unit :=
 match tt t with
 | some ⟨.slice e,_,_,_,_⟩ =>
  match tt e with
  | some i =>
   match i.zero with
   | some z => z7W (ps.map fun p => (p.2,e)) tt >>= fun xs =>
    if z32 (List.replicate len z) ((ps.map (·.1)).zip xs) = true ∧ len * i.size ≤ 16777216 ∧ len ≤ lim then
     zU (wrT n dst (.own (.osl i.size true (KW (List.replicate len z) ((ps.map (·.1)).zip xs)))))
    else zE
   | none => zE
  | none => zE
 | _ => zE
theorem z0V (tt : TT) (n : Fr) (dst : Option Nat) (t len : Nat) (ps : List (Nat × Operand)) : Snd (jA tt n dst t len ps) (VL tt n dst t len ps):=by
 unfold jA VL
 generalize tt t = q
 rcases q with _ | ⟨k,a1,a2,a3,a4⟩
 ·exact zj _
 ·cases k with
  | slice e =>
   dsimp only
   generalize tt e = q
   cases q with
   | none => exact zj _
   | some i =>
    dsimp only
    cases i.zero with
    | none => exact zj _
    | some z => exact z9 (z7l _ _) fun xs => u9 (zf _) (zj _)
  | _ => exact zj _
def zbk (tt : TT) (n : Fr) (dst : Option Nat) (t : Nat) (ps : List (Nat × Operand)) : HM Unit :=
 match tt t with
 | some i =>
  match i.zero with
  | some (.agg zs) => z7W (ps.map fun p => (p.2,0)) tt >>= fun xs =>
   if z32 zs ((ps.map (·.1)).zip xs) = true ∧ z8r tt t zs ((ps.map (·.1)).zip xs) = true ∧ i.kind.isAgg = true ∧ ((XC tt t 0).isSome = true ∨ z3a i.kind = true) then
    zU (wrT n dst (mkT (.agg (KW zs ((ps.map (·.1)).zip xs)))))
   else zE
  | _ => zE
 | none => zE
theorem zfo (tt : TT) (n : Fr) (dst : Option Nat) (t : Nat) (ps : List (Nat × Operand)) : Snd (z4E tt n dst t ps) (zbk tt n dst t ps):=by
 unfold z4E zbk
 generalize tt t = q
 cases q with
 | none => exact zj _
 | some i =>
  dsimp only
  cases i.zero with
  | none => exact zj _
  | some z =>
   cases z with
   | agg zs => exact z9 (z7l _ _) fun xs => u9 (zf _) (zj _)
   | _ => exact zj _
def z82 (tt : TT) (ctr : Ctr) (n : Fr) (o : Oper) : HM Unit :=
 match o.op with
 | .assign x => zU (opnd x) >>= fun y =>
  match y with
  | .ptr r p er ec => zU (wrT n o.dst (.ptr r p er ec))
  | y => JC tt o.type y >>= fun z => zU (wrT n o.dst (mkT z))
 | .binOp op xt x y _ => zU (opnd x) >>= fun tx => z2D tx >>= fun vx => zU (opnd y) >>= fun ty => z2D ty >>= fun vy => zi0 tt n o.dst op xt vx vy
 | .unOp op _ x => zU (opnd x) >>= fun t => z2D t >>= fun y => zU (ofO (unA op y) >>= fun r => wrT n o.dst (.d r))
 | .convert s t x => zU (opnd x) >>= fun y => z2D y >>= fun v =>
  match v with
  | .atom (.int _ m) =>
   match tt s with
   | some _ =>
    match tt t with
    | some ⟨.int k,_,_,_,_⟩ => zU (wrT n o.dst (.d (.atom (.int k (k.wrap m)))))
    | _ => zE
   | none => zE
  | _ => zE
 | .pick c x y => zhy n o.dst c x y
 | .nilCheck x => z6s n o.dst x
 | .slice t x lo hi mx => ze4 tt n o.dst t x lo hi mx
 | .load t x => zU (opnd x) >>= fun y => zaE tt n o.dst t y
 | .store t x v => if o.dst = none then zU (opnd x) >>= fun y => zU (opnd v) >>= fun z => z9O tt t y z else zE
 | .fieldAddr t x i => zU (opnd x) >>= fun y => z3c tt n o.dst t i y
 | .indexAddr t x i => zU (opnd x) >>= fun y => zU (opnd i) >>= fun ti => z2D ti >>= fun vi =>
  if (zdQ tt t).isSome = true then z4v tt n o.dst t y vi else z3b tt n o.dst t y vi
 | .box t x => zU (opnd x) >>= fun y => JC tt t y >>= fun z =>
  match z with
  | .tup _ => zE
  | z => if z.isAgg = true ∨ z.size = 1 then zU (wrT n o.dst (.own (.box z))) else zE
 | .makeSlice t l c => z05 tt n o.dst t l c
 | .buildSlice t len ps => VL tt n o.dst t len ps.toList
 | .build t ps => zbk tt n o.dst t ps.toList
 | .makeFunc (.func f) ⟨[]⟩ caps => qr tt (caps.toList.map fun x => (x,0)) >>= fun xs => if xs.all z03 = true then zU (wrT n o.dst (.d (.fn f xs))) else zE
 | .call ⟨.builtin .len,⟨[x]⟩,⟨[t]⟩⟩ => zU (opnd x) >>= fun y => z7w y >>= fun z => zU (ofO (lenOf z)) >>= fun m => if Wf tt t = true then eqA (.atom (.int .i64 m)) >>= fun r => zU (wrT n o.dst (.d r)) else zE
 | .call ⟨.builtin .cap,⟨[x]⟩,⟨[t]⟩⟩ => zU (opnd x) >>= fun y => z7w y >>= fun z => zU (ofO (zdG z)) >>= fun m => if Wf tt t = true then eqA (.atom (.int .i64 m)) >>= fun r => zU (wrT n o.dst (.d r)) else zE
 | .call ⟨.builtin .append,⟨[s,x]⟩,⟨[t,t']⟩⟩ => if t = t' then zU (opnd s) >>= fun ts => zU (opnd x) >>= fun tx => z7w tx >>= fun y =>
   match y with
   | .osl _ _ ys => zi4 (A.areD ys) >>= fun b => match b with | true => z2l tt n o.dst t ts tx | false => QZ tt n o.dst t s x
   | _ => z2l tt n o.dst t ts tx
  else zE
 | .call ⟨.value f,args,tys⟩ => if args.size = tys.size then zU (opnd f) >>= fun tf => z2D tf >>= fun vf => zbj tt ctr n o.dst vf (args.toList.zip tys.toList) else zE
 | _ => zU (stepO tt ctr n o)
theorem zhs (tt : TT) (n : Fr) (dst : Option Nat) (s t : Nat) (v : A) : Snd (match v with
  | .atom (.int _ m) =>
   match tt s with
   | some _ =>
    match tt t with
    | some ⟨.int k,_,_,_,_⟩ => wrT n dst (.d (.atom (.int k (k.wrap m))))
    | _ => zk
   | none => zk
  | _ => zk : SM Unit) (match v with
  | .atom (.int _ m) =>
   match tt s with
   | some _ =>
    match tt t with
    | some ⟨.int k,_,_,_,_⟩ => zU (wrT n dst (.d (.atom (.int k (k.wrap m)))))
    | _ => zE
   | none => zE
  | _ => zE):=by
 cases v with
 | atom u =>
  cases u with
  | int k m =>
   dsimp only
   generalize tt s = q
   cases q with
   | none => exact zj _
   | some _ =>
    dsimp only
    generalize tt t = q
    rcases q with _ | ⟨k,a1,a2,a3,a4⟩
    ·exact zj _
    ·cases k <;> first | exact zf _ | exact zj _
  | _ => exact zj _
 | _ => exact zj _
theorem z9Z (tt : TT) (ctr : Ctr) (n : Fr) (o : Oper) : Snd (stepO tt ctr n o) (z82 tt ctr n o):=by
 unfold stepO z82
 cases ho : o.op with
 | move x => exact sdLift' ho
 | assign x =>
  refine z9 (zf _) fun y => ?_
  cases y with
  | ptr r p er ec => exact zf _
  | _ => exact z9 (QA _ _ _) fun z => zf _
 | binOp op xt x y yt => exact z9 (zf _) fun tx => z9 (XU _) fun vx => z9 (zf _) fun ty => z9 (XU _) fun vy => zht _ _ _ _ _ _ _
 | unOp op xt x => exact z9 (zf _) fun t => z9 (XU _) fun y => zf _
 | convert s t x => exact z9 (zf _) fun y => z9 (XU _) fun v => zhs _ _ _ _ _ _
 | pick c x y => exact zhp _ _ _ _ _
 | extract x i => exact sdLift' ho
 | nilCheck x => exact z9a _ _ _
 | slice t x lo hi mx => exact zfe _ _ _ _ _ _ _ _
 | load t x => exact z9 (zf _) fun y => za1 _ _ _ _ _
 | store t x v => exact u9 (z9 (zf _) fun y => z9 (zf _) fun z => zcB _ _ _ _) (zj _)
 | fieldAddr t x i => exact z9 (zf _) fun y => z69 _ _ _ _ _ _
 | indexAddr t x i => exact z9 (zf _) fun y => z9 (zf _) fun ti => z9 (XU _) fun vi => u9 (z7m _ _ _ _ _ _) (z68 _ _ _ _ _ _)
 | alloc t => exact sdLift' ho
 | box t x =>
  refine z9 (zf _) fun y => z9 (QA _ _ _) fun z => ?_
  cases z <;> first | exact zj _ | exact u9 (zf _) (zj _)
 | makeSlice t l c => exact z2K _ _ _ _ _ _
 | buildSlice t len ps => exact z0V _ _ _ _ _ _
 | build t ps => exact zfo _ _ _ _ _
 | makeFunc fn first caps =>
  cases fn with
  | func f =>
   have ⟨l⟩:=first
   cases l with
   | nil => exact z9 (ZF _ _) fun xs => u9 (zf _) (zj _)
   | cons _ _ => exact sdLift' ho
  | _ => exact sdLift' ho
 | call c =>
  have ⟨callee,⟨args⟩,⟨tys⟩⟩:=c
  cases callee with
  | value f => exact u9 (z9 (zf _) fun tf => z9 (XU _) fun vf => zfn _ _ _ _ _ _) (zj _)
  | invoke r m => exact sdLift' ho
  | builtin b =>
   cases b with
   | len =>
    rcases args with _ | ⟨x,_ | ⟨y,l⟩⟩ <;> rcases tys with _ | ⟨t,_ | ⟨t',l'⟩⟩ <;> first | exact sdLift' ho | exact z9 (zf _) fun y => z9 (z4j _) fun z => z9 (zf _) fun m => u9 (KI (zN _ fun r => wrT n o.dst (.d r)).symm (z9 (z7o _) fun r => zf _)) (zj _)
   | cap =>
    rcases args with _ | ⟨x,_ | ⟨y,l⟩⟩ <;> rcases tys with _ | ⟨t,_ | ⟨t',l'⟩⟩ <;> first | exact sdLift' ho | exact z9 (zf _) fun y => z9 (z4j _) fun z => z9 (zf _) fun m => u9 (KI (zN _ fun r => wrT n o.dst (.d r)).symm (z9 (z7o _) fun r => zf _)) (zj _)
   | append =>
    rcases args with _ | ⟨x,_ | ⟨y,_ | ⟨z,l⟩⟩⟩ <;> rcases tys with _ | ⟨t,_ | ⟨t',_ | ⟨t'',l'⟩⟩⟩ <;> first | exact sdLift' ho | skip
    refine u9 (z9 (zf _) fun ts => z9 (zf _) fun tx => z9 (z4j _) fun w => ?_) (zj _)
    cases w with
    | osl sz tg ys =>
     dsimp only
     refine KI (m':=pure (A.areD ys) >>= fun b => match b with | true => appendA tt n o.dst t ts tx | false => appendOwnA tt n o.dst t x y) ?_ (z9 (za4 _) fun b => ?_)
     ·rw [zN]
      cases A.areD ys <;> rfl
     ·cases b
      ·exact z6a _ _ _ _ _ _
      ·exact z6b _ _ _ _ _ _
    | _ => exact z6b _ _ _ _ _ _
   | _ => exact sdLift' ho
 | _ => exact sdLift' ho
where sdLift' {op : Op} {tt : TT} {ctr : Ctr} {n : Fr} {o : Oper} {m : SM Unit} (ho : o.op = op) (e : stepO tt ctr n o = m:=by first | rfl | (unfold stepO; simp [ho])) : Snd m (zU (stepO tt ctr n o)):=e ▸ zf _
def ziM (mx : Bool) : A → A → Option A
 | .atom (.int k a),.atom (.int k' b) => if k = k' then some (.atom (.int k (if mx = true then (if a < b then b else a) else (if b < a then b else a)))) else none
 | _,_ => none
def minO (n : Fr) (dst : Option Nat) (mx : Bool) (x y : Operand) : SM Unit:=do
 let tx ← opnd x
 let vx ← val tx
 let ty ← opnd y
 let vy ← val ty
 let r ← ofO (ziM mx vx vy)
 wrT n dst (.d r)
def cutO (tt : TT) (n : Fr) (dst : Option Nat) (t : Nat) (x hi : Operand) : SM Unit:=do
 let y ← opnd x
 let z ← take y
 match z with
 | .osl sz _ es =>
  if wF tt t = some sz then (bound es.length (some hi) >>= fun h => if h ≤ es.length then wrT n dst (.own (.osl sz false (es.take h))) else zk)
  else zk
 | _ => zk
variable {P : Program}{U : List (Nat × Ent)}{R : List Nat}{tt : TT}{S : zb}{o : Oper}{u : Unit}{h : Array Obj}{t : Nat}{xs : List A}{F : List Nat}
section
variable {C : Ctx} {S : zb} {Fp : Nat → List Nat} {X : List Nat} {st : St} {a : Act} {w : World}
theorem zem (h : Sim C S Fp [] st a w)  {mx : Bool} {x y : Operand} {t1 t2 : Nat} (ho : o.op = .call ⟨.builtin (if mx = true then .max else .min),⟨[x,y]⟩,⟨[t1,t2]⟩⟩)    (e : minO C.n o.dst mx x y st = some (u,R,U)) : qo P C o a w (za U st):=by
 unfold minO at e
 have ⟨tx,_,hx,e1⟩:=bR (zD h) e
 have ⟨vx,_,qx,e2⟩:=bR (qe h hx) e1
 have ⟨ty,_,hy,e3⟩:=bR (zD h) e2
 have ⟨vy,_,qy,e4⟩:=bR (qe h hy) e3
 have ⟨r,_,hr,e5⟩:=bO e4
 unfold ziM at hr
 split at hr
 ·split at hr
  ·rename_i hk
   simp [Option.some.injEq] at hr
   subst hr hk
   have ⟨ex,_⟩:=zo.1 qx
   have ⟨ey,_⟩:=zo.1 qy
   have ⟨Fp',hs⟩:=wI h e5 (x:=.d _) (zo.2 ⟨rfl,rfl⟩)
   refine zl ?_ hs
   cases mx
   ·simp [execOp,ho,resolve,invoke,builtin,ex,ey,Builtin.min_,Builtin.min2]
   ·simp [execOp,ho,resolve,invoke,builtin,ex,ey,Builtin.max_,Builtin.max2]
  ·cases hr
 ·cases hr
theorem z9s {cs : List Value}  (q : zA S h xs cs F) (k : Nat) : ∃ F',zA S h (xs.take k) (cs.take (A.sizes (xs.take k))) F' ∧ (∀ b ∈ F',b ∈ F) ∧ (F.Nodup → F'.Nodup):=by
 induction xs generalizing cs F k with
 | nil =>
  simp only [zA] at q
  obtain ⟨rfl,rfl⟩:=q
  exact ⟨[],by simp [zA],by simp,by simp⟩
 | cons x xs ih =>
  cases k with
  | zero => exact ⟨[],by simp [zA,A.sizes],by simp,by simp⟩
  | succ k =>
   simp only [zA] at q
   obtain ⟨c1,c2,F1,F2,rfl,rfl,q1,q2⟩:=q
   have ⟨F',g1,g2,g3⟩:=ih q2 k
   refine ⟨F1 ++ F',?_,?_,?_⟩
   ·simp only [List.take_succ_cons,zA,A.sizes]
    refine ⟨c1,c2.take (A.sizes (xs.take k)),F1,F',?_,rfl,q1,g1⟩
    rw [List.take_append,q1.len,List.take_of_length_le (by rw [q1.len]; omega)]
    simp
   ·intro b hb
    rcases List.mem_append.1 hb with hb | hb
    ·simp [hb]
    ·simp [g2 b hb]
   ·intro hn
    rw [List.nodup_append] at hn ⊢
    refine ⟨hn.1,g3 hn.2.1,?_⟩
    intro k hk k' hk'
    exact hn.2.2 k hk k' (g2 k' hk')
theorem zhU {P : Program}  (hT : wR P tt) (h : Sim C S Fp [] st a w)   {x hi : Operand} (ho : o.op = .slice t x none (some hi) none)    (e : cutO tt C.n o.dst t x hi st = some (u,R,U)) : qo P C o a w (za U st):=by
 unfold cutO at e
 have ⟨y,_,hx,e1⟩:=bR (zD h) e
 obtain ⟨z,R3,U3,R4,U4,h3,e2,rfl,rfl⟩:=bind_some e1
 have ⟨Fp',F,g1,g2⟩:=z7f h hx h3
 rw [zi]
 cases z with
 | osl sz tg es =>
  simp only at e2
  split at e2
  ·rename_i hel
   have ⟨hh,_,b2,e3⟩:=bR (z2k g1) e2
   split at e3
   ·rename_i hle
    have ⟨el,he,hsz⟩:=q9 hT hel w
    obtain ⟨cs,k1,k2,k3⟩ : ∃ cs,zz S w.heap (.osl sz tg es) cs F ∧ F.Nodup ∧ a.eval x = zT (.osl sz tg es) cs:=by
     rcases g2 with ⟨q,_⟩ | q
     ·simp only [xw,ud,Rep,false_and,exists_false] at q
     ·exact q
    simp only [zz] at k1
    obtain ⟨p,c,rfl,t1,t2,t3,t4,t5⟩:=k1
    have ev : a.eval x = .slice p es.length c:=k3
    have hrun:=Vt (P:=P) (w:=w) he hsz (p:=p) (len:=es.length) (c:=c) (lo:=none) (mx:=none) (.inl ⟨rfl,rfl⟩) (JT b2) (.inl ⟨rfl,rfl⟩) (Nat.zero_le _) (by omega) (Nat.le_refl c) (by simp)
    have hp : (if c = 0 then p else p.map (·.add (0 * sz))) = p:=by
     split
     ·rfl
     ·cases p <;> simp [Addr.add]
    rw [hp] at hrun
    have hlen : (es.take hh).length = hh:=by simp; omega
    have ht4 : ∀ x ∈ es.take hh,x.size = sz:=fun x hx => t4 x (List.mem_of_mem_take hx)
    obtain ⟨F2,cs2,m1,m2,m3,m4⟩ : ∃ F2 cs2,zz S w.heap (.osl sz false (es.take hh)) cs2 F2 ∧ F2.Nodup ∧ (∀ k ∈ F2,k ∈ F) ∧ zT (.osl sz false (es.take hh)) cs2 = .slice p hh c:=by
     rcases t5 with ⟨rfl,rfl,rfl,rfl⟩ | ⟨b,arr,ty,l,F',rfl,e1,e2,e3,e4,rfl,e5⟩
     ·have : hh = 0:=by simp at hle; omega
      subst this
      refine ⟨[],[.slice none 0 0],?_,by simp,by simp,rfl⟩
      simp only [zz]
      exact ⟨none,0,by simp,by simp,by simp,Nat.zero_le _,by simp,.inl (by simp)⟩
     ·have ⟨F3,q1,q2,q3⟩:=z9s e4 hh
      have hn:=List.nodup_cons.1 k2
      refine ⟨b :: F3,[.slice (some ⟨b,0,none⟩) hh c],?_,List.nodup_cons.2 ⟨fun q => hn.1 (q2 b q),q3 hn.2⟩,?_,rfl⟩
      ·simp only [zz]
       refine ⟨some ⟨b,0,none⟩,c,by rw [hlen],by simp,by rw [hlen]; omega,t3,ht4,.inr ⟨b,arr,ty,_,F3,rfl,e1,e2,?_,q1,rfl,e5⟩⟩
       rw [← e3,List.take_take,A.sizes_const ht4,hlen]
       congr 1
       have:=Nat.mul_le_mul_right sz hle
       omega
      ·intro k hk
       rcases List.mem_cons.1 hk with rfl | hk
       ·simp
       ·simp [q2 k hk]
    have g1' : Sim C S Fp' (F2 ++ []) (za U3 st) a w:=g1.mem g1.below (fun _ _ _ h => h) g1.still.cell g1.sbase (fun t' k hk => ⟨rfl,(g1.free t' k hk).2.1⟩) (by simpa using m2) (fun t' k hk => g1.xd t' k (by simp at hk ⊢; exact m3 k hk)) (fun k hk => g1.xb k (by simp at hk ⊢; exact m3 k hk))
    have ⟨Fp'',hs⟩:=Ql g1' e3 m1 m2
    rw [m4] at hs
    refine zl ?_ hs
    simp only [Nat.sub_zero] at hrun
    simp only [Option.map_some] at hrun
    simp [execOp,ho,ev,hrun]
   ·cases e3
  ·cases e2
 | _ => cases e2
end
variable {w : World}{y : A}
theorem z8c (hT : wR P tt)   (hf : XL tt t y = true) {w : World} {c1 cs c2 : List Value} (hl : cs.length = y.size) :
  (part t (c1 ++ cs ++ c2).toArray c1.length).run P w = .ok (zT y cs) w:=by
 unfold XL at hf
 split at hf
 ·rename_i i hi
  simp only [Bool.and_eq_true,beq_iff_eq,Bool.or_eq_true] at hf
  have ⟨⟨h1,h2⟩,h3⟩:=hf
  have hk:=JJ (hT t i hi).kind w
  unfold part
  simp only [Sem.run_bind,hk,Result.andThen_ok,Sem.run_ite]
  by_cases ha : i.kind.isAgg = true
  ·rw [if_pos ha]
   rw [h1] at ha
   cases y <;> simp [A.isAgg] at ha
   simp only [jE hT hi,Result.andThen_ok,h2,← hl,Sem.run_pure,zT]
   congr 2
   simp [List.extract_eq_take_drop]
  ·rw [if_neg ha]
   have h4 : i.size = 1:=by simpa [ha] using h3
   have hlen : cs.length = 1:=by omega
   obtain ⟨c,rfl⟩:=List.length_eq_one_iff.1 hlen
   rw [h1] at ha
   have : ((c1 ++ [c] ++ c2).toArray)[c1.length]? = some c:=by simp
   rw [this]
   cases y <;> simp_all [A.isAgg,zT]
 ·cases hf
def zik (tt : TT) (t : Nat) : Option (Nat × Nat) :=
 match tt t with
 | some ⟨.array n e,_,_,_,_⟩ => some (n,e)
 | _ => none
def indexO (tt : TT) (n : Fr) (dst : Option Nat) (t : Nat) (x i : Operand) : SM Unit:=do
 let tx ← opnd x
 let vx ← val tx
 let ti ← opnd i
 let vi ← val ti
 match vx,vi with
 | .agg fs,.atom (.int _ j) =>
  match zik tt t with
  | some (m,e) => match fs[j.toNat]? with
   | some y => if 0 ≤ j ∧ j < (m : Int) ∧ XL tt e y = true ∧ y.isD = true ∧ (fs.take j.toNat).all (fun z => z.size == y.size) = true then wrT n dst (.d y) else zk
   | none => zk
  | none => zk
 | _,_ => zk
variable {st : St}{Fp : Nat → List Nat}{a : Act}{C : Ctx}
theorem zdk {P : Program}  (hT : wR P tt)      {w : World} (h : Sim C S Fp [] st a w)   {x i : Operand} (ho : o.op = .index t x i)    (e : indexO tt C.n o.dst t x i st = some (u,R,U)) : qo P C o a w (za U st):=by
 unfold indexO at e
 have ⟨tx,_,hx,e1⟩:=bR (zD h) e
 have ⟨vx,_,qx,e2⟩:=bR (qe h hx) e1
 have ⟨ty,_,hy,e3⟩:=bR (zD h) e2
 have ⟨vy,_,qy,e4⟩:=bR (qe h hy) e3
 split at e4
 ·rename_i fs k j
  cases ha : zik tt t with
  | none => simp only [ha] at e4; cases e4
  | some q =>
   have ⟨m,el⟩:=q
   simp only [ha] at e4
   cases hf : fs[j.toNat]? with
   | none => simp only [hf] at e4; cases e4
   | some y =>
    simp only [hf] at e4
    split at e4
    ·rename_i hc
     have ⟨c1,c2,c3,c4,c5⟩:=hc
     have hk : P.underlying t = some (.array m el):=by
      unfold zik at ha
      split at ha
      ·rename_i ht; cases ha; exact (hT _ _ ht).kind
      ·cases ha
     obtain ⟨i',hi⟩ : ∃ i',tt el = some i':=by
      unfold XL at c3
      split at c3
      ·exact ⟨_,by assumption⟩
      ·cases c3
     have ⟨cs,r1,r2⟩:=(qx : ud S (.agg fs) (a.eval x))
     simp only [Rep] at r1
     obtain ⟨d1,ci,d2,rfl,hl,hr⟩:=UV r1 hf
     have ei:=(zo.1 qy).1
     have hsz : i'.size = y.size:=by
      unfold XL at c3
      rw [hi] at c3
      simp only [Bool.and_eq_true,beq_iff_eq] at c3
      exact c3.1.2
     have hoff : d1.length = j.toNat * i'.size:=by
      rw [hl,A.sizes_const (sz:=y.size) (fun z hz => by simpa using List.all_eq_true.1 c5 z hz),List.length_take,hsz]
      congr 1
      have:=(List.getElem?_eq_some_iff.1 hf).1
      omega
     have ⟨Fp',hs⟩:=wI h e4 (x:=.d y) (ud.repV ⟨ci,hr,rfl⟩)
     refine zl ?_ hs
     have hp:=z8c (P:=P) hT c3 (w:=w) (c1:=d1) (c2:=d2) hr.len
     rw [hoff] at hp
     have ex : a.eval x = .agg (d1 ++ ci ++ d2).toArray:=r2
     simp only [execOp,ho,Instr.index,asIntOf,ei,ex,Sem.run_bind,Sem.run_pure,Result.andThen_ok,run_underlying hk,c1,c2,and_self,if_true,jE hT hi,hp]
    ·cases e4
 ·cases e4
def zgC (tt : TT) (n : Fr) (o : Oper) : Option (SM Unit) :=
 match o.op with
 | .call ⟨.builtin .min,⟨[x,y]⟩,⟨[_,_]⟩⟩ => some (minO n o.dst false x y)
 | .call ⟨.builtin .max,⟨[x,y]⟩,⟨[_,_]⟩⟩ => some (minO n o.dst true x y)
 | .index t x i => some (indexO tt n o.dst t x i)
 | _ => none
theorem Loc.indexO (tt : TT) (n : Fr) (dst : Option Nat) (t : Nat) (x i : Operand) : Loc (indexO tt n dst t x i):=by
 unfold Go.Own.indexO
 refine Loc.bind (Loc.opnd _) fun _ => Loc.bind (Loc.val _) fun _ => Loc.bind (Loc.opnd _) fun _ => Loc.bind (Loc.val _) fun _ => ?_
 split
 ·split
  ·split
   ·exact Loc.ite (Loc.wrT _ _ _) Loc.fail
   ·exact Loc.fail
  ·exact Loc.fail
 ·exact Loc.fail
theorem Loc.minO (n : Fr) (dst : Option Nat) (mx : Bool) (x y : Operand) : Loc (minO n dst mx x y):=by
 unfold Go.Own.minO
 exact Loc.bind (Loc.opnd _) fun _ => Loc.bind (Loc.val _) fun _ => Loc.bind (Loc.opnd _) fun _ => Loc.bind (Loc.val _) fun _ => Loc.bind (Loc.ofO _) fun _ => Loc.wrT _ _ _
theorem Loc.cutO (tt : TT) (n : Fr) (dst : Option Nat) (t : Nat) (x hi : Operand) : Loc (cutO tt n dst t x hi):=by
 unfold Go.Own.cutO
 refine Loc.bind (Loc.opnd _) fun _ => Loc.bind (Loc.take _) fun z => ?_
 cases z with
 | osl sz tg es => exact Loc.ite (Loc.bind (Loc.bound _ _) fun _ => Loc.ite (Loc.wrT _ _ _) Loc.fail) Loc.fail
 | _ => exact Loc.fail
theorem zfX (hT : wR P tt) : z3J P (zgC tt):=by
 refine ⟨?_,?_⟩
 ·intro C S Fp st a w o m u R U e h h2
  unfold zgC at e
  split at e
  ·rename_i ho; cases e; exact zem (mx:=false) h ho h2
  ·rename_i ho; cases e; exact zem (mx:=true) h ho h2
  ·rename_i ho; cases e; exact zdk hT h ho h2
  ·cases e
 ·intro n o m e
  unfold zgC at e
  split at e
  ·cases e; exact fun st st' a R U => Loc.minO _ _ _ _ _ st st' a R U
  ·cases e; exact fun st st' a R U => Loc.minO _ _ _ _ _ st st' a R U
  ·cases e; exact fun st st' a R U => Loc.indexO _ _ _ _ _ _ st st' a R U
  ·cases e
def z4C (tt : TT) (d : Nat) (n : Fr) (o : Oper) : Option (SM Unit) :=
 match o.op with
 | .slice t x none (some hi) none => if o.dst = some d then some (cutO tt n o.dst t x hi) else none
 | _ => none
theorem zaY (hT : wR P tt) (d : Nat) : z3J P (z4C tt d):=by
 refine ⟨?_,?_⟩
 ·intro C S Fp st a w o m u R U e h h2
  unfold z4C at e
  split at e
  ·rename_i ho
   split at e
   ·cases e; exact zhU hT h ho h2
   ·cases e
  ·cases e
 ·intro n o m e
  unfold z4C at e
  split at e
  ·split at e
   ·cases e; exact fun st st' a R U => Loc.cutO _ _ _ _ _ _ st st' a R U
   ·cases e
  ·cases e
structure XH (P : Program) where
 e : Fr → Oper → Option (SM Unit)
 h : Fr → Oper → Option (HM Unit)
 ok : z3J P e
 none : ∀ n o,e n o = none → h n o = none
 some : ∀ n o m,e n o = some m → ∃ q,h n o = some q ∧ Snd m q
def XH.or (x y : XH P) : XH P:={
 e:=fun n o => match x.e n o with | .some m => .some m | .none => y.e n o
 h:=fun n o => match x.h n o with | .some m => .some m | .none => y.h n o
 ok:=by
  refine ⟨?_,?_⟩
  ·intro C S Fp st a w o m u R U e
   cases hx : x.e C.n o with
   | some m' => simp only [hx] at e; cases e; exact x.ok.1 C S Fp st a w o _ u R U hx
   | none => simp only [hx] at e; exact y.ok.1 C S Fp st a w o _ u R U e
  ·intro n o m e
   cases hx : x.e n o with
   | some m' => simp only [hx] at e; cases e; exact x.ok.2 n o _ hx
   | none => simp only [hx] at e; exact y.ok.2 n o _ e
 none:=by
  intro n o e
  cases hx : x.e n o with
  | some m' => simp only [hx] at e; cases e
  | none => simp only [hx] at e; simp only [x.none n o hx]; exact y.none n o e
 some:=by
  intro n o m e
  cases hx : x.e n o with
  | some m' =>
   simp only [hx] at e; cases e
   have ⟨q,h1,h2⟩:=x.some n o _ hx
   exact ⟨q,by simp only [h1],h2⟩
  | none =>
   simp only [hx] at e
   have ⟨q,h1,h2⟩:=y.some n o _ e
   exact ⟨q,by simp only [x.none n o hx]; exact h1,h2⟩ }
def ziL (n : Fr) (dst : Option Nat) (mx : Bool) (x y : Operand) : HM Unit:=zU (opnd x) >>= fun tx => z2D tx >>= fun vx => zU (opnd y) >>= fun ty => z2D ty >>= fun vy => zU (ofO (ziM mx vx vy) >>= fun r => wrT n dst (.d r))
theorem zhq (n : Fr) (dst : Option Nat) (mx : Bool) (x y : Operand) : Snd (minO n dst mx x y) (ziL n dst mx x y) :=
 z9 (zf _) fun _ => z9 (XU _) fun _ => z9 (zf _) fun _ => z9 (XU _) fun _ => zf _
def zjV (tt : TT) (n : Fr) (dst : Option Nat) (t : Nat) (x hi : Operand) : HM Unit:=zU (opnd x) >>= fun y => zck y >>= fun z =>
 match z with
 | .osl sz _ es => if wF tt t = some sz then z6V es.length (some hi) >>= fun h => WZ (h ≤ es.length) (eqL (es.take h) >>= fun xs => zU (wrT n dst (.own (.osl sz false xs)))) else zE
 | _ => zE
theorem ziC (tt : TT) (n : Fr) (dst : Option Nat) (t : Nat) (x hi : Operand) : Snd (cutO tt n dst t x hi) (zjV tt n dst t x hi):=by
 refine z9 (zf _) fun y => z9 (z9X _) fun z => ?_
 cases z with
 | osl sz tg es =>
  refine u9 (z9 (z5a _ _) fun h => Y9 ?_) (zj _)
  exact KI (zN _ fun xs => wrT n dst (.own (.osl sz false xs))).symm (z9 (zcD _) fun _ => zf _)
 | _ => exact zj _
def zeq (tt : TT) (n : Fr) (dst : Option Nat) (t : Nat) (x i : Operand) : HM Unit:=zU (opnd x) >>= fun tx => z2D tx >>= fun vx => zU (opnd i) >>= fun ti => z2D ti >>= fun vi =>
 zU (match vx,vi with
 | .agg fs,.atom (.int _ j) =>
  match zik tt t with
  | some (m,e) => match fs[j.toNat]? with
   | some y => if 0 ≤ j ∧ j < (m : Int) ∧ XL tt e y = true ∧ y.isD = true ∧ (fs.take j.toNat).all (fun z => z.size == y.size) = true then wrT n dst (.d y) else zk
   | none => zk
  | none => zk
 | _,_ => zk)
theorem zfl (tt : TT) (n : Fr) (dst : Option Nat) (t : Nat) (x i : Operand) : Snd (indexO tt n dst t x i) (zeq tt n dst t x i) :=
 z9 (zf _) fun _ => z9 (XU _) fun _ => z9 (zf _) fun _ => z9 (XU _) fun _ => zf _
def xB (hT : wR P tt) : XH P:={
 e:=zgC tt
 h:=fun n o => match o.op with
  | .call ⟨.builtin .min,⟨[x,y]⟩,⟨[_,_]⟩⟩ => some (ziL n o.dst false x y)
  | .call ⟨.builtin .max,⟨[x,y]⟩,⟨[_,_]⟩⟩ => some (ziL n o.dst true x y)
  | .index t x i => some (zeq tt n o.dst t x i)
  | _ => none
 ok:=zfX hT
 none:=by
  intro n o e
  unfold zgC at e
  split at e
  ·cases e
  ·cases e
  ·cases e
  ·rfl
 some:=by
  intro n o m e
  unfold zgC at e
  split at e
  ·rename_i ho; cases e; exact ⟨_,by simp only,zhq _ _ _ _ _⟩
  ·rename_i ho; cases e; exact ⟨_,by simp only,zhq _ _ _ _ _⟩
  ·rename_i ho; cases e; exact ⟨_,by simp only,zfl _ _ _ _ _ _⟩
  ·cases e }
def zj8 (hT : wR P tt) (d : Nat) : XH P:={
 e:=z4C tt d
 h:=fun n o => match o.op with
  | .slice t x none (some hi) none => if o.dst = some d then some (zjV tt n o.dst t x hi) else none
  | _ => none
 ok:=zaY hT d
 none:=by
  intro n o e
  unfold z4C at e
  split at e
  ·rename_i ho
   split at e
   ·cases e
   ·rename_i hd; simp [if_neg hd]
  ·rfl
 some:=by
  intro n o m e
  unfold z4C at e
  split at e
  ·rename_i ho
   split at e
   ·rename_i hd; cases e; exact ⟨_,by simp [if_pos hd],ziC _ _ _ _ _ _⟩
   ·cases e
  ·cases e }
variable {m : SM Unit}
theorem zaQ {ks : List Nat}  (hm : ∀ S Fp st,Sim C S Fp [] st a w → ∀ u R U,m st = some (u,R,U) → qo P C o a w (za U st)) (h : Sim C S Fp [] st a w) {u : Unit} {R : List Nat} {U : List (Nat × Ent)}
  (e : (shutArgs (fun _ => none) (ks.map fun k => (.tmp k,0)) >>= fun _ => m) st = some (u,R,U)) : qo P C o a w (za U st):=by
 obtain ⟨xs,R1,U1,R2,U2,h1,e1,rfl,rfl⟩:=bind_some e
 have ⟨S1,Fp1,g1,_⟩:=vd h h1
 rw [zi]
 exact hm _ _ _ g1 _ _ _ e1
def zjR (d : Nat ⊕ Nat) (o : Oper) : Bool :=
 match d with
 | .inl d => o.dst == some d
 | .inr p => match o.op with | .store _ (.tmp q) _ => q == p | _ => false
def z3d (tt : TT) (d : Nat ⊕ Nat) (ks : List Nat) (n : Fr) (o : Oper) : Option (SM Unit) :=
 if zjR d o = true then some (shutArgs (fun _ => none) (ks.map fun k => (.tmp k,0)) >>= fun _ => stepO tt zg6 n o) else none
def z93 (hT : wR P tt) (d : Nat ⊕ Nat) (ks : List Nat) : XH P:={
 e:=z3d tt d ks
 h:=fun n o => if zjR d o = true then some (qr (fun _ => none) (ks.map fun k => (.tmp k,0)) >>= fun _ => z82 tt zg6 n o) else none
 ok:=by
  refine ⟨?_,?_⟩
  ·intro C S Fp st a w o m u R U e h h2
   unfold z3d at e
   split at e
   ·cases e
    exact zaQ (fun S Fp st h u R U e => z81 hT (zb7 P) h e) h h2
   ·cases e
  ·intro n o m e
   unfold z3d at e
   split at e
   ·cases e
    exact fun st st' a R U => Loc.bind (Loc.shutArgs _ _) (fun _ => Loc.stepO _ _ _ _) st st' a R U
   ·cases e
 none:=by
  intro n o e
  unfold z3d at e
  split at e
  ·cases e
  ·rename_i hd; rw [if_neg hd]
 some:=by
  intro n o m e
  unfold z3d at e
  split at e
  ·rename_i hd; cases e
   exact ⟨_,by rw [if_pos hd],z9 (ZF _ _) fun _ => z9Z _ _ _ _⟩
  ·cases e }
def z80 (X : XH P) (tt : TT) (ctr : Ctr) (n : Fr) (o : Oper) : HM Unit :=
 match X.h n o with
 | some q => q
 | none => z82 tt (ctr.withE X.e) n o
theorem z9Y (X : XH P) (tt : TT) (ctr : Ctr) (n : Fr) (o : Oper) : Snd (stepX tt (ctr.withE X.e) n o) (z80 X tt ctr n o):=by
 unfold stepX z80
 cases he : X.e n o with
 | none =>
  rw [X.none n o he]
  exact KI (by simp [he]) (z9Z _ _ _ _)
 | some m =>
  have ⟨q,h1,h2⟩:=X.some n o m he
  rw [h1]
  exact KI (by simp [he]) h2
def z7i (X : XH P) (tt : TT) (ctr : Ctr) (n : Fr) (ops : Array Oper) (o : Oper) : HM Unit :=
 match o.guard with
 | none => z80 X tt ctr n o
 | some (j,want) =>
  match (ops[j]?).bind (·.dst) with
  | some g => zU (rdE g) >>= fun e =>
   match e.t with
   | .d (.atom (.bool b)) => zi4 b >>= fun b => if b = want then z80 X tt ctr n o else zU (wrT n o.dst (.d (.tup [])))
   | .d (.tup []) => zU (wrT n o.dst (.d (.tup [])))
   | _ => zE
  | none => zE
def zei : List H → List H
 | .op 0 :: hs => hs
 | .op (m + 1) :: hs => .op m :: hs
 | hs => hs
def z84 (X : XH P) (tt : TT) (ctr : Ctr) (n : Fr) (ops : Array Oper) (o : Oper) : HM Unit:=fun st hs => z7i X tt ctr n ops o st (zei hs)
theorem zcC (X : XH P) (tt : TT) (ctr : Ctr) (n : Fr) (ops : Array Oper) (o : Oper) : Snd (stepG tt (ctr.withE X.e) n ops o) (z7i X tt ctr n ops o):=by
 unfold stepG z7i
 cases o.guard with
 | none => exact z9Y _ _ _ _ _
 | some q =>
  have ⟨j,want⟩:=q
  dsimp only
  cases (ops[j]?).bind (·.dst) with
  | none => exact zj _
  | some g =>
   refine z9 (zf _) fun e => ?_
   have ⟨t,a,b⟩:=e
   cases t with
   | d x =>
    cases x with
    | atom v =>
     cases v with
     | bool b =>
      refine KI (m':=pure b >>= fun b => if b = want then stepX tt (ctr.withE X.e) n o else wrT n o.dst (.d (.tup []))) (zN _ _).symm ?_
      exact z9 (za4 _) fun b => u9 (z9Y _ _ _ _ _) (zf _)
     | _ => exact zj _
    | tup l =>
     cases l with
     | nil => exact zf _
     | cons _ _ => exact zj _
    | _ => exact zj _
   | _ => exact zj _
theorem za0 (X : XH P) (tt : TT) (ctr : Ctr) (n : Fr) (ops : Array Oper) (o : Oper) : Snd (stepG tt (ctr.withE X.e) n ops o) (z84 X tt ctr n ops o) :=
 fun st hs a R U hs' ob e ho => zcC X tt ctr n ops o st (zei hs) a R U hs' ob e ho
abbrev Lg:=List (List Nat × List Nat)
def z9W (X : XH P) (tt : TT) (ctr : Ctr) (n : Fr) (ops : Array Oper) : List Oper → St → List H → Option (St × List H × List Prop × Lg)
 | [],st,hs => some (st,hs,[],[])
 | o :: os,st,hs =>
  match z84 X tt ctr n ops o st hs with
  | none => none
  | some (_,R,U,hs',ob) =>
   match z9W X tt ctr n ops os (za U st) hs' with
   | none => none
   | some (st',hs'',ob',lg) => some (st',hs'',ob ++ ob',(R,U.map (·.1)) :: lg)
variable {ops : Array Oper}
section
variable {P : Program} {X : XH P} {tt : TT} {ctr : Ctr} {n : Fr}
theorem z88 {K : St → Prop} : ∀ (l : List Oper) (st : St) (hs : List H) {st' : St} {hs' : List H} {ob : List Prop} {lg : Lg},z9W X tt ctr n ops l st hs = some (st',hs',ob,lg) → z4d ob → K st' → zgw tt (ctr.withE X.e) n ops l st K
 | [],st,hs,st',hs',ob,lg,e,ho,hk => by
  simp only [z9W,Option.some.injEq,Prod.mk.injEq] at e
  obtain ⟨rfl,_⟩:=e
  exact hk
 | o :: os,st,hs,st',hs',ob,lg,e,ho,hk => by
  simp only [z9W] at e
  cases e1 : z84 X tt ctr n ops o st hs with
  | none => simp only [e1] at e; cases e
  | some q =>
   have ⟨u,R,U,hs1,ob1⟩:=q
   simp only [e1] at e
   cases e2 : z9W X tt ctr n ops os (za U st) hs1 with
   | none => simp only [e2] at e; cases e
   | some q =>
    have ⟨st2,hs2,ob2,lg2⟩:=q
    simp only [e2,Option.some.injEq,Prod.mk.injEq] at e
    obtain ⟨rfl,rfl,rfl,rfl⟩:=e
    have ⟨o1,o2⟩:=yq ho
    simp only [zgw,zgx]
    rw [za0 X tt ctr n ops o _ _ _ _ _ _ _ e1 o1]
    exact z88 os _ _ e2 o2 hk
theorem z66 {K : St → Prop} : ∀ (l : List Oper) (st : St) (hs : List H) (logs : Lg) {st' : St} {hs' : List H} {ob : List Prop} {lg : Lg},z9W X tt ctr n ops l st hs = some (st',hs',ob,lg) → z4d ob → z3e ops.toList (logs ++ lg) = true → K st' → z9p tt (ctr.withE X.e) n ops l st logs K
 | [],st,hs,logs,st',hs',ob,lg,e,ho,hd,hk => by
  simp only [z9W,Option.some.injEq,Prod.mk.injEq] at e
  obtain ⟨rfl,_,_,rfl⟩:=e
  exact ⟨by simpa using hd,hk⟩
 | o :: os,st,hs,logs,st',hs',ob,lg,e,ho,hd,hk => by
  simp only [z9W] at e
  cases e1 : z84 X tt ctr n ops o st hs with
  | none => simp only [e1] at e; cases e
  | some q =>
   have ⟨u,R,U,hs1,ob1⟩:=q
   simp only [e1] at e
   cases e2 : z9W X tt ctr n ops os (za U st) hs1 with
   | none => simp only [e2] at e; cases e
   | some q =>
    have ⟨st2,hs2,ob2,lg2⟩:=q
    simp only [e2,Option.some.injEq,Prod.mk.injEq] at e
    obtain ⟨rfl,rfl,rfl,rfl⟩:=e
    have ⟨o1,o2⟩:=yq ho
    simp only [z9p,zgx]
    rw [za0 X tt ctr n ops o _ _ _ _ _ _ _ e1 o1]
    exact z66 os _ _ _ e2 o2 (by simpa using hd) hk
end
inductive Fm where
 | seq (y : Code)
 | blk (id : Nat)
 | pre (J : St → Prop)
 | rnd (m : Nat) (c : Code)
def zgH (P : Program) (n : Fr) (c : Code) : Nat → St → (Exit → St → Prop) → Prop
 | 0,_,_ => False
 | m + 1,st,Q => AWP P n c st (z7d (fun st' => zgH P n c m st' Q) Q)
variable {c : Code}{Q : Exit → St → Prop}{n : Fr}
theorem zgH.loop : ∀ (m : Nat) (st : St),zgH P n c m st Q → AWP P n (.loop c) st Q:=by
 intro m st h rd mm df w0 S0 M S Fp a w hc hs
 refine wpIn_loop_rounds m ?_
 have gen : ∀ (m : Nat) (st : St) (df' : List Nat) (S : zb) (Fp : Nat → List Nat) (a : Act) (w : World),zgH P n c m st Q → Sim ⟨n,df',w0,S0,M⟩ S Fp [] st a w → YI df M df' Fp w → Code.roundsIn (fen rd) mm P c (zbN n df w0 S0 M Q) m a w:=by
  intro m
  induction m with
  | zero => intro st df' S Fp a w h _ _; exact h.elim
  | succ m ih =>
   intro st df' S Fp a w h hs hd
   refine wpIn_mono (AWP.go h hc hs hd) ?_
   intro e a' w' hp
   cases e with
   | normal =>
    have ⟨df2,st2,S2,Fp2,h1,h2,h3⟩:=hp
    exact ih st2 df2 S2 Fp2 a' w' h3 h1 h2
   | _ => exact hp.next fun _ q => q
 exact gen m st df S Fp a w h hs (hc.post hs)
def Qf (P : Program) (n : Fr) : List Fm → (Exit → St → Prop) → Exit → St → Prop
 | [],Q => Q
 | .seq y :: fs,Q => z7d (fun st => AWP P n y st (Qf P n fs Q)) (Qf P n fs Q)
 | .blk id :: fs,Q => z4F id (Qf P n fs Q)
 | .pre J :: fs,Q => z7d J (Qf P n fs Q)
 | .rnd m c :: fs,Q => z7d (fun st => zgH P n c m st (Qf P n fs Q)) (Qf P n fs Q)
inductive z9y where
 | fin (e : Exit)
 | back (J : St → Prop)
 | at (c : Code) (fs : List Fm)
def z9y.sem (P : Program) (n : Fr) (Q : Exit → St → Prop) : z9y → St → Prop
 | .fin e,st => Q e st
 | .back J,st => J st
 | .at c fs,st => AWP P n c st (Qf P n fs Q)
inductive Nxt where
 | go (y : Code) (fs : List Fm)
 | stop (s : z9y)
 | none
def unw : List Fm → Nxt
 | [] => .stop (.fin .normal)
 | .seq y :: fs => .go y fs
 | .blk _ :: fs => unw fs
 | .pre J :: _ => .stop (.back J)
 | .rnd (m + 1) c :: fs => .go c (.rnd m c :: fs)
 | .rnd 0 _ :: _ => .none
def z70 (id : Nat) : List Fm → Option (List Fm)
 | [] => none
 | .blk i :: fs => if id = i then some fs else z70 id fs
 | .seq _ :: fs => z70 id fs
 | .pre _ :: fs => z70 id fs
 | .rnd _ _ :: fs => z70 id fs
abbrev zbM:=Option (z9y × St × List H × List Prop)
def zgD (ob : List Prop) : zbM → zbM
 | none => none
 | some (s,st,hs,ob') => some (s,st,hs,ob ++ ob')
def goN (rec : Code → List Fm → St → List H → zbM) (x : Nxt) (st : St) (hs : List H) : zbM :=
 match x with
 | .go y fs => rec y fs st hs
 | .stop s => some (s,st,hs,[])
 | .none => none
def zcA (k : Nat) : SM Unit:=do
 let y ← opnd (.tmp k)
 let q ← ptrOf y
 match q with
 | .inr (r,p,er,ec) => do
  let _ ← lookP r p er ec
  let _ ← shutT (fun _ => none) 0 (.als r p er ec)
  pure ()
 | .inl _ => zk
def zcy (k : Nat) : SM Unit:=do
 let e ← rdE k
 match e.t with
 | .own (.osl sz t es) => if A.lives es = true then wrE k ⟨.own (.osl sz t (A.shuts es)),e.er,e.ec + 1⟩ else zk
 | _ => zk
def zdi : T → Bool
 | .own (.osl _ _ _) => true
 | _ => false
def zcw (k : Nat) : SM Unit:=do
 let e ← rdE k
 if zdi e.t = true then zcy k else zcA k
def z89 : List Nat → SM Unit
 | [] => pure ()
 | k :: ks => do
  zcw k
  z89 ks
def ze7 (k : Nat) : HM Unit :=
 zU (opnd (.tmp k)) >>= fun y => zU (ptrOf y) >>= fun q =>
 match q with
 | .inr (r,p,er,ec) => zU (lookP r p er ec) >>= fun _ => z4f (fun _ => none) 0 (.als r p er ec) >>= fun _ => pure ()
 | .inl _ => zE
def ze6 (k : Nat) : HM Unit :=
 zU (rdE k) >>= fun e =>
 match e.t with
 | .own (.osl sz t es) => zdl >>= fun es' => WZ (A.lives es = true ∧ A.shuts es = es') (zU (wrE k ⟨.own (.osl sz t es'),e.er,e.ec + 1⟩))
 | _ => zE
def ze5 (k : Nat) : HM Unit:=zU (rdE k) >>= fun e => if zdi e.t = true then ze6 k else ze7 k
def z57 : List Nat → HM Unit
 | [] => pure ()
 | k :: ks => ze5 k >>= fun _ => z57 ks
theorem zfj (k : Nat) : Snd (zcA k) (ze7 k) :=
 z9 (zf _) fun y => z9 (zf _) fun q => by
  cases q with
  | inl _ => exact zj _
  | inr q =>
   have ⟨r,p,er,ec⟩:=q
   exact z9 (zf _) fun _ => z9 (Uq _ _ _) fun _ => wq _
theorem zfi (k : Nat) : Snd (zcy k) (ze6 k):=by
 refine z9 (zf _) fun e => ?_
 have ⟨t,er,ec⟩:=e
 cases t with
 | own x =>
  cases x with
  | osl sz tg es =>
   intro st hs b R U hs' ob e ho
   obtain ⟨es',R1,U1,hs1,ob1,R2,U2,ob2,e1,e2,rfl,rfl,rfl⟩:=Uw e
   unfold zdl at e1
   split at e1
   ·cases e1
    have ⟨⟨q1,q2⟩,ob',e3,o3⟩:=z5h e2 (yq ho).2
    subst q2
    dsimp only
    rw [if_pos q1]
    exact zf _ _ _ _ _ _ _ _ e3 o3
   ·cases e1
  | _ => exact zj _
 | _ => exact zj _
theorem zfh (k : Nat) : Snd (zcw k) (ze5 k):=z9 (zf _) fun e => u9 (zfi k) (zfj k)
theorem z8a : ∀ ks,Snd (z89 ks) (z57 ks)
 | [] => wq _
 | k :: ks => z9 (zfh k) fun _ => z8a ks
variable {k : Nat}
theorem zcx (h : Sim C S Fp [] st a w)     (e : zcy k st = some (u,R,U)) : ∃ S' Fp',Sim C S' Fp' [] (za U st) a w:=by
 unfold zcy at e
 have ⟨_,e1⟩:=bD e
 have hno : ∀ x,(st k).t = x → zdi x = false → False:=by
  intro x hx hn
  rw [hx] at e1
  cases x with
  | own y => cases y <;> first | exact jD e1 | (simp [zdi] at hn)
  | _ => exact jD e1
 have hyes : ∃ sz t es,(st k).t = .own (.osl sz t es):=by
  cases hx : (st k).t with
  | own y => cases y <;> first | exact ⟨_,_,_,rfl⟩ | exact (hno _ hx rfl).elim
  | _ => exact (hno _ hx rfl).elim
 have ⟨sz,t,es,ht⟩:=hyes
 rw [ht] at e1
 dsimp only at e1
 split at e1
 ·rename_i hl
  cases e1
  have hr:=h.ent k
  unfold yx at hr
  simp only [ht] at hr
  have ⟨cs,q,q1,q2⟩:=hr
  simp only [zz] at q
  obtain ⟨p,c,rfl,d1,d2,d3,d4,d5⟩:=q
  simp only [za]
  rcases d5 with ⟨rfl,rfl,rfl,hF0⟩ | ⟨b,arr,ty,l,F1,rfl,e1,e2,e3,e4,hF0,e5⟩
  ·exact ⟨S,KH Fp k [],h.change k (.own (.osl sz t (A.shuts []))) _ _ [] h.below (fun _ _ _ q => q) h.still.cell h.sbase (fun t' k' hk hk' => ⟨rfl,(h.free t' k' hk').2.1⟩)
    ⟨⟨_,by simp only [zz]; exact ⟨none,0,rfl,fun _ => rfl,Nat.le_refl _,Nat.zero_le _,by simp [A.shuts],.inl (by simp [A.shuts])⟩,by simp,by rw [q2]; rfl⟩,_,ht⟩ (.inl ⟨_,ht⟩) (Nat.le_refl _) (Nat.lt_succ_self _) (by simp) (by simp) h.xn (fun t k _ hk => h.xd t k hk) (by simp) h.xb⟩
  ·have hF7 : ∀ q ∈ F1,q ∈ Fp k:=fun q hq => by rw [hF0]; exact List.mem_cons_of_mem _ hq
   have ⟨m1,m2,m3,m4⟩:=Uu h hF7
   have hrs:=zA.shut (S':=zF S w.heap F1) m1 e4 hl (fun k hk o => by unfold zF; rw [if_pos hk])
   have hlen : (A.shuts es).length = es.length:=by simp [A.shuts_eq]
   have hb : b ∉ F1:=by rw [hF0] at q1; exact (List.nodup_cons.1 q1).1
   have hbk : b ∈ Fp k:=by rw [hF0]; exact List.mem_cons_self
   refine ⟨zF S w.heap F1,KH Fp k [b],h.change k (.own (.osl sz t (A.shuts es))) _ _ [b] h.below m1 m2 m3 ?_ ⟨⟨_,?_,by simp,by rw [q2]; rfl⟩,_,ht⟩ (.inl ⟨_,ht⟩) (Nat.le_refl _) (Nat.lt_succ_self _) ?_ ?_ h.xn (fun t k _ hk => h.xd t k hk) (by simp) h.xb⟩
   ·intro t' k' hk hk'
    refine ⟨rfl,fun o => ?_⟩
    rw [m4 k' (fun hF => hk (h.disj t' k k' hk' (hF7 k' hF)))]
    exact (h.free t' k' hk').2.1 o
   ·simp only [zz]
    refine ⟨some ⟨b,0,none⟩,c,by rw [hlen],fun ht => by rw [hlen]; exact d1 ht,by rw [hlen]; exact d2,d3,?_,.inr ⟨b,arr,ty,_,[],rfl,e1,e2,by rw [hlen]; exact e3,y9.concs _ hrs,rfl,?_⟩⟩
    ·intro x hx
     rw [A.shuts_eq] at hx
     obtain ⟨y,hy,rfl⟩:=List.mem_map.1 hx
     rw [A.size_shut]
     exact d4 y hy
    ·intro o
     rw [m4 b hb]
     exact e5 o
   ·intro t' k' hk hk' hk2
    simp only [List.mem_cons,List.not_mem_nil,or_false] at hk'
    subst hk'
    exact hk (h.disj t' k _ hk2 hbk)
   ·intro k' hk'
    simp only [List.mem_cons,List.not_mem_nil,or_false] at hk'
    subst hk'
    exact h.base k _ hbk
 ·cases e1
theorem zcz (h : Sim C S Fp [] st a w)     (e : zcA k st = some (u,R,U)) : ∃ S' Fp',Sim C S' Fp' [] (za U st) a w:=by
 unfold zcA at e
 obtain ⟨y,R1,U1,R2,U2,h1,e1,rfl,rfl⟩:=bind_some e
 obtain ⟨rfl,hx⟩:=zD h h1
 obtain ⟨q,R3,U3,R4,U4,h3,e2,rfl,rfl⟩:=bind_some e1
 obtain ⟨rfl,hq⟩:=UX h hx h3
 simp only [za,List.nil_append] at e2 ⊢
 split at e2
 ·rename_i r p er ec
  obtain ⟨z,R7,U7,R8,U8,h7,e4,rfl,rfl⟩:=bind_some e2
  obtain ⟨rfl,x0,k1,k2,k3,k4⟩:=Q2 h7
  simp only [za,List.nil_append] at e4 ⊢
  obtain ⟨z2,R9,U9,R10,U10,h9,e5,rfl,rfl⟩:=bind_some e4
  obtain ⟨_,_,rfl⟩:=vB e5
  have ⟨b,o',arr,ty,csy,Fy,cs,ev,o1,f2,f3,f4,f5,f6,f7,f8,f9,f10,f11,_⟩:=z2V h hq k1 k2 k3 k4
  have hals : TOk S w.heap st (Act.tv a) (.als r p er ec) (zT z csy):=⟨by omega,by omega,by
   simp only [k1]
   exact fun _ _ => .inr ⟨o1,z,b,o',csy,k4,f11,f4.len,z56 f2 f3,rfl⟩⟩
  have ⟨S',Fp',g1,_⟩:=JF h hals h9
  exact ⟨S',Fp',by simpa using g1⟩
 ·cases e2
theorem zcv (h : Sim C S Fp [] st a w)     (e : zcw k st = some (u,R,U)) : ∃ S' Fp',Sim C S' Fp' [] (za U st) a w:=by
 unfold zcw at e
 have ⟨_,e1⟩:=bD e
 split at e1
 ·exact zcx h e1
 ·exact zcz h e1
theorem z67 : ∀ {ks : List Nat} {S : zb} {Fp : Nat → List Nat} {st : St},Sim C S Fp [] st a w → ∀ {u : Unit} {R : List Nat} {U : List (Nat × Ent)},z89 ks st = some (u,R,U) → ∃ S' Fp',Sim C S' Fp' [] (za U st) a w
 | [],S,Fp,st,h,u,R,U,e => by
  obtain ⟨_,rfl,rfl⟩:=vB e
  exact ⟨S,Fp,h⟩
 | k :: ks,S,Fp,st,h,u,R,U,e => by
  simp [z89] at e
  obtain ⟨_,R1,U1,R2,U2,h1,e1,rfl,rfl⟩:=bind_some e
  have ⟨S1,Fp1,g1⟩:=zcv h h1
  rw [zi]
  exact z67 g1 e1
def zke : List H → List H
 | .n (m + 1) ks :: hs => .n m ks :: hs
 | .v (m + 1) ks :: hs => .v m ks :: hs
 | .stp (m + 1) :: hs => .stp m :: hs
 | hs => hs
def z55 (rec : Code → List Fm → St → List H → zbM) (X : XH P) (tt : TT) (ctr : Ctr) (n : Fr) (c : Code) (fs : List Fm) (st : St) (hs : List H) : zbM :=
  match c with
  | .skip => goN rec (unw fs) st hs
  | .label _ => goN rec (unw fs) st hs
  | .ret => some (.fin .ret,st,hs,[])
   | .exit id => match z70 id fs with | some fs' => goN rec (unw fs') st hs | none => some (.fin (.exit id),st,hs,[])
  | .region _ ops d =>
   match z9W X tt ctr n ops ops.toList st hs with
   | some (st',hs',ob,lg) => if d = false ∨ z3e ops.toList lg = true then zgD ob (goN rec (unw fs) st' hs') else none
   | none => none
  | .seq x y =>
   match hs with
   | .cut 0 :: hs' => some (.at (.seq x y) fs,st,hs',[])
   | .cut (m + 1) :: hs' => rec x (.seq y :: fs) st (.cut m :: hs')
   | hs => rec x (.seq y :: fs) st hs
  | .cond o x y =>
   match z7P st o with
   | some b =>
    match hs with
    | .b b' :: hs' => zgD [b = b'] (rec (match b' with | true => x | false => y) fs st hs')
    | _ => none
   | none => none
  | .block id c => rec c (.blk id :: fs) st hs
  | .loop c =>
   match hs with
   | .u m :: hs' => rec c (.rnd m c :: fs) st hs'
   | hs => some (.at (.loop c) fs,st,hs,[])
  | c => some (.at c fs,st,hs,[])
def zbI (X : XH P) (tt : TT) (ctr : Ctr) (n : Fr) : Nat → Code → List Fm → St → List H → zbM
 | 0,_,_,_,_ => none
 | k + 1,c,fs,st,hs =>
  match hs with
  | .n 0 ks :: hs =>
   match qr (fun _ => none) (ks.map fun i => (.tmp i,0)) st hs with
   | some (_,_,U,hs',ob) => zgD ob (zbI X tt ctr n k c fs (za U st) hs')
   | none => none
  | .v 0 ks :: hs =>
   match z57 ks st hs with
   | some (_,_,U,hs',ob) => zgD ob (zbI X tt ctr n k c fs (za U st) hs')
   | none => none
  | .stp 0 :: hs => some (.at c fs,st,hs,[])
  | hs => z55 (zbI X tt ctr n k) X tt ctr n c fs st (zke hs)
variable {fs : List Fm}{rec : Code → List Fm → St → List H → zbM}{p : Prop}{hs : List H}
section
variable {P : Program} {tt : TT} {ctr : Ctr} {n : Fr} {Q : Exit → St → Prop}
theorem z60 {k : Nat}  (hrec : ∀ c fs st hs s st' hs' ob,rec c fs st hs = some (s,st',hs',ob) → z4d ob → s.sem P n Q st' → AWP P n c st (Qf P n fs Q)) :
  ∀ (fs : List Fm) {st : St} {hs : List H} {s : z9y} {st' : St} {hs' : List H} {ob : List Prop},goN rec (unw fs) st hs = some (s,st',hs',ob) → z4d ob → s.sem P n Q st' → Qf P n fs Q .normal st
 | [],st,hs,s,st',hs',ob,e,ho,h => by
  simp only [unw,goN,Option.some.injEq,Prod.mk.injEq] at e
  obtain ⟨rfl,rfl,_⟩:=e
  exact h
 | .seq y :: fs,st,hs,s,st',hs',ob,e,ho,h => by
  simp only [unw,goN] at e
  exact hrec _ _ _ _ _ _ _ _ e ho h
 | .blk id :: fs,st,hs,s,st',hs',ob,e,ho,h => by
  simp only [unw] at e
  exact z60 (k:=k) hrec fs e ho h
 | .pre J :: fs,st,hs,s,st',hs',ob,e,ho,h => by
  simp only [unw,goN,Option.some.injEq,Prod.mk.injEq] at e
  obtain ⟨rfl,rfl,_⟩:=e
  exact h
 | .rnd (m + 1) c :: fs,st,hs,s,st',hs',ob,e,ho,h => by
  simp only [unw,goN] at e
  exact hrec _ _ _ _ _ _ _ _ e ho h
 | .rnd 0 c :: fs,st,hs,s,st',hs',ob,e,ho,h => by
  simp only [unw,goN] at e
  cases e
theorem z2E {id : Nat}  : ∀ (fs : List Fm) {fs' : List Fm},z70 id fs = some fs' → Qf P n fs' Q .normal st → Qf P n fs Q (.exit id) st
 | [],fs',e,h => by cases e
 | .blk i :: fs,fs',e,h => by
  simp [z70] at e
  simp [Qf,z4F]
  split at e
  ·rename_i hi
   cases e
   rw [if_pos hi]
   exact h
  ·rename_i hi
   rw [if_neg hi]
   exact z2E fs e h
 | .seq y :: fs,fs',e,h => z2E fs (by simpa only [z70] using e) h
 | .pre J :: fs,fs',e,h => z2E fs (by simpa only [z70] using e) h
 | .rnd _ _ :: fs,fs',e,h => z2E fs (by simpa only [z70] using e) h
theorem z6j : ∀ (fs : List Fm),Q .ret st → Qf P n fs Q .ret st
 | [],h => h
 | .seq _ :: fs,h => z6j fs h
 | .blk _ :: fs,h => z6j fs h
 | .pre _ :: fs,h => z6j fs h
 | .rnd _ _ :: fs,h => z6j fs h
theorem z2U {id : Nat}  : ∀ (fs : List Fm),z70 id fs = none → Q (.exit id) st → Qf P n fs Q (.exit id) st
 | [],_,h => h
 | .blk i :: fs,e,h => by
  simp [z70] at e
  simp [Qf,z4F]
  split at e
  ·cases e
  ·rename_i hi
   rw [if_neg hi]
   exact z2U fs e h
 | .seq y :: fs,e,h => z2U fs (by simpa only [z70] using e) h
 | .pre J :: fs,e,h => z2U fs (by simpa only [z70] using e) h
 | .rnd _ _ :: fs,e,h => z2U fs (by simpa only [z70] using e) h
theorem JZ {ob : List Prop} {x : zbM} {s : z9y}   {ob' : List Prop} (e : zgD ob x = some (s,st,hs,ob')) : ∃ ob2,x = some (s,st,hs,ob2) ∧ ob' = ob ++ ob2:=by
 cases x with
 | none => cases e
 | some q =>
  have ⟨s1,st1,hs1,ob1⟩:=q
  simp [zgD,Option.some.injEq,Prod.mk.injEq] at e
  obtain ⟨rfl,rfl,rfl,rfl⟩:=e
  exact ⟨ob1,rfl,rfl⟩
theorem AWP.label {l : Nat}   (h : Q .normal st) : AWP P n (.label l) st Q:=fun _ _ _ _ _ _ _ _ _ _ hc hs => wpIn_label (hc.fin hs h)
theorem zco (X : XH P) (hT : wR P tt) (hC : zr P ctr) (hm : P.follows .mixedOrders = true)  (ih : ∀ c fs st hs s st' hs' ob,rec c fs st hs = some (s,st',hs',ob) → z4d ob → s.sem P n Q st' → AWP P n c st (Qf P n fs Q)) (c : Code) (fs : List Fm) (st : St) (hs : List H) (s : z9y) (st' : St) (hs' : List H) (ob : List Prop)
  (e : z55 rec X tt ctr n c fs st hs = some (s,st',hs',ob)) (ho : z4d ob) (h : s.sem P n Q st') : AWP P n c st (Qf P n fs Q):=by
 cases c with
 | skip => exact AWP.skip (z60 (k:=0) ih fs e ho h)
 | label l => exact AWP.label (z60 (k:=0) ih fs e ho h)
 | ret =>
  simp only [z55,Option.some.injEq,Prod.mk.injEq] at e
  obtain ⟨rfl,rfl,_⟩:=e
  exact AWP.ret (z6j fs h)
 | exit id =>
  simp only [z55] at e
  cases hx : z70 id fs with
  | none =>
   simp only [hx,Option.some.injEq,Prod.mk.injEq] at e
   obtain ⟨rfl,rfl,_⟩:=e
   exact AWP.exit (z2U fs hx h)
  | some fs' =>
   simp only [hx] at e
   exact AWP.exit (z2E fs hx (z60 (k:=0) ih fs' e ho h))
 | region id ops d =>
  simp only [z55] at e
  cases hx : z9W X tt ctr n ops ops.toList st hs with
  | none => simp only [hx] at e; cases e
  | some q =>
   have ⟨st1,hs1,ob1,lg⟩:=q
   simp only [hx] at e
   by_cases hd : d = false ∨ z3e ops.toList lg = true
   ·rw [if_pos hd] at e
    obtain ⟨ob2,e2,rfl⟩:=JZ e
    have ⟨o1,o2⟩:=yq ho
    have hq:=z60 (k:=0) ih fs e2 o2 h
    cases d with
    | false => exact AWP.region hT (hC.withE X.ok) (z88 _ _ _ hx o1 hq)
    | true => exact AWP.drawn hT (hC.withE X.ok) hm (z66 _ _ _ [] hx o1 (by simpa using hd) hq)
   ·rw [if_neg hd] at e; cases e
 | seq x y =>
  have gen : ∀ hs,rec x (.seq y :: fs) st hs = some (s,st',hs',ob) → AWP P n (.seq x y) st (Qf P n fs Q):=fun hs e => AWP.seq (ih _ _ _ _ _ _ _ _ e ho h)
  rcases hs with _ | ⟨q,hs⟩
  ·exact gen _ e
  ·cases q with
   | cut m =>
    cases m with
    | zero =>
     simp only [z55,Option.some.injEq,Prod.mk.injEq] at e
     obtain ⟨rfl,rfl,_⟩:=e
     exact h
    | succ m => exact gen _ e
   | _ => exact gen _ e
 | cond o x y =>
  simp only [z55] at e
  cases hb : z7P st o with
  | none => simp only [hb] at e; cases e
  | some b =>
   simp only [hb] at e
   rcases hs with _ | ⟨q,hs⟩
   ·cases e
   ·cases q with
    | b b' =>
     obtain ⟨ob2,e2,rfl⟩:=JZ e
     have h1 : b = b':=ho.1
     subst h1
     cases b with
     | true => exact AWP.condT hb (ih _ _ _ _ _ _ _ _ e2 ho.2 h)
     | false => exact AWP.condF hb (ih _ _ _ _ _ _ _ _ e2 ho.2 h)
    | _ => cases e
 | block id c => exact AWP.block (ih _ _ _ _ _ _ _ _ e ho h)
 | loop c =>
  have gen : some (z9y.at (.loop c) fs,st,hs,([] : List Prop)) = some (s,st',hs',ob) → AWP P n (.loop c) st (Qf P n fs Q):=by
   intro e
   cases e
   exact h
  rcases hs with _ | ⟨q,hs⟩
  ·exact gen e
  ·cases q with
   | u m => exact zgH.loop (m + 1) st (ih _ _ _ _ _ _ _ _ e ho h)
   | _ => exact gen e
 | _ =>
  simp only [z55,Option.some.injEq,Prod.mk.injEq] at e
  obtain ⟨rfl,rfl,_⟩:=e
  exact h
theorem z7q (X : XH P) (hT : wR P tt) (hC : zr P ctr) (hm : P.follows .mixedOrders = true) : ∀ (k : Nat) (c : Code) (fs : List Fm) (st : St) (hs : List H) (s : z9y) (st' : St) (hs' : List H) (ob : List Prop),
  zbI X tt ctr n k c fs st hs = some (s,st',hs',ob) → z4d ob → s.sem P n Q st' → AWP P n c st (Qf P n fs Q):=by
 intro k
 induction k with
 | zero => intro c fs st hs s st' hs' ob e; cases e
 | succ k ih =>
  intro c fs st hs s st' hs' ob e ho h
  have gen : ∀ hs,z55 (zbI X tt ctr n k) X tt ctr n c fs st hs = some (s,st',hs',ob) → AWP P n c st (Qf P n fs Q):=fun hs e => zco X hT hC hm ih c fs st hs s st' hs' ob e ho h
  rcases hs with _ | ⟨q,hs⟩
  ·exact gen _ e
  ·cases q with
   | v m ks =>
    cases m with
    | zero =>
     simp only [zbI] at e
     cases hx : z57 ks st hs with
     | none => simp only [hx] at e; cases e
     | some q =>
      have ⟨xs,R,U,hs1,ob1⟩:=q
      simp only [hx] at e
      obtain ⟨ob2,e2,rfl⟩:=JZ e
      have ⟨o1,o2⟩:=yq ho
      have h1:=z8a _ _ _ _ _ _ _ _ hx o1
      have h2:=ih c fs _ _ _ _ _ _ e2 o2 h
      intro rd m df w0 S0 M S Fp a w hc hs
      have ⟨S',Fp',g1⟩:=z67 hs h1
      exact h2 rd m df w0 S0 M S' Fp' a w hc g1
    | succ m => exact gen _ e
   | n m ks =>
    cases m with
    | zero =>
     simp only [zbI] at e
     cases hx : qr (fun _ => none) (ks.map fun i => (.tmp i,0)) st hs with
     | none => simp only [hx] at e; cases e
     | some q =>
      have ⟨xs,R,U,hs1,ob1⟩:=q
      simp only [hx] at e
      obtain ⟨ob2,e2,rfl⟩:=JZ e
      have ⟨o1,o2⟩:=yq ho
      have h1:=ZF (fun _ => none) _ _ _ _ _ _ _ _ hx o1
      have h2:=ih c fs _ _ _ _ _ _ e2 o2 h
      intro rd m df w0 S0 M S Fp a w hc hs
      have ⟨S',Fp',g1,_⟩:=vd hs h1
      exact h2 rd m df w0 S0 M S' Fp' a w hc g1
    | succ m => exact gen _ e
   | stp m =>
    cases m with
    | zero =>
     simp only [zbI,Option.some.injEq,Prod.mk.injEq] at e
     obtain ⟨rfl,rfl,_⟩:=e
     exact h
    | succ m => exact gen _ e
   | _ => exact gen _ e
structure Ob where
 p : Prop
 h : p
def ob (h : p) : Ob:=⟨p,h⟩
theorem zau : ∀ (l : List Ob),z4d (l.map Ob.p)
 | [] => trivial
 | o :: l => ⟨o.h,zau l⟩
def z5E (X : XH P) (tt : TT) (ctr : Ctr) (n : Fr) (live : List Nat) (k : Nat) (c : Code) (fs : List Fm) (st : St) (hs : List H) : Option (z9y × St × List Prop) :=
 match zbI X tt ctr n k c fs st hs with
 | some (s,st',[],ob) => some (s,canon live st',ob)
 | _ => none
theorem z7R (X : XH P) (hT : wR P tt) (hC : zr P ctr) (hm : P.follows .mixedOrders = true) (live : List Nat) (k : Nat) {c : Code} {fs : List Fm} {st : St} {hs : List H} {s : z9y} {st' : St} (obs : List Ob)
  (e : z5E X tt ctr n live k c fs st hs = some (s,st',obs.map Ob.p)) (h : ∀ st0,canon live st0 = st' → s.sem P n Q st0) : AWP P n c st (Qf P n fs Q):=by
 unfold z5E at e
 split at e
 ·rename_i s1 st1 ob1 e1
  simp [Option.some.injEq,Prod.mk.injEq] at e
  obtain ⟨rfl,h1,rfl⟩:=e
  exact z7q X hT hC hm k c fs st hs _ _ _ _ e1 (zau obs) (h _ h1)
 ·cases e
def sub : List Nat → Code → Code
 | [],c => c
 | 0 :: p,.seq x _ => sub p x
 | 1 :: p,.seq _ y => sub p y
 | 2 :: p,.seq x _ => sub p x
 | 0 :: p,.cond _ x _ => sub p x
 | 1 :: p,.cond _ _ y => sub p y
 | _ :: p,.block _ c => sub p c
 | _ :: p,.loop c => sub p c
 | _ :: p,.scope c => sub p c
 | 0 :: p,.rangeFunc _ _ c _ => sub p c
 | 1 :: p,.rangeFunc _ _ _ c => sub p c
 | _ :: _,c => c
def frs : List Nat → List (St → Prop) → Code → List Fm → List Fm
 | [],_,_,fs => fs
 | 0 :: p,Js,.seq x y,fs => frs p Js x (.seq y :: fs)
 | 1 :: p,Js,.seq _ y,fs => frs p Js y fs
 | 2 :: p,J :: Js,.seq x _,fs => frs p Js x (.pre J :: fs)
 | 0 :: p,Js,.cond _ x _,fs => frs p Js x fs
 | 1 :: p,Js,.cond _ _ y,fs => frs p Js y fs
 | _ :: p,Js,.block id c,fs => frs p Js c (.blk id :: fs)
 | (m + 3) :: p,Js,.loop c,fs => frs p Js c (.rnd m c :: fs)
 | _ :: p,J :: Js,.loop c,fs => frs p Js c (.pre J :: fs)
 | _ :: p,Js,.scope c,fs => frs p Js c fs
 | 0 :: p,Js,.rangeFunc _ _ c _,_ => frs p Js c []
 | 1 :: p,Js,.rangeFunc _ _ _ c,_ => frs p Js c []
 | _ :: _,_,_,fs => fs
end
class LeA (x y : A) : Prop where
 rep : ∀ S cs,Rep S x cs → Rep S y cs
 conc : ∀ S h cs F,zz S h x cs F → zz S h y cs F
 val : ∀ cs,zT x cs = zT y cs
 tup : ∀ fs,x = .tup fs → y = x
class z5C (xs ys : List A) : Prop where
 rep : ∀ S cs,y9 S xs cs → y9 S ys cs
 conc : ∀ S h cs F,zA S h xs cs F → zA S h ys cs F
 len : xs.length = ys.length
 size : ∀ sz,(∀ x ∈ xs,x.size = sz) → ∀ y ∈ ys,y.size = sz
instance (priority:=2000) LeA.refl (x : A) : LeA x x:=⟨fun _ _ h => h,fun _ _ _ _ h => h,fun _ => rfl,fun _ _ => rfl⟩
instance (priority:=2000) z5C.refl (x : List A) : z5C x x:=⟨fun _ _ h => h,fun _ _ _ _ h => h,rfl,fun _ h => h⟩
theorem UW {S : zb} {xs ys : List A} (hl : xs.length = ys.length) (h : xs = []) : ys = []:=by
 subst h; exact List.length_eq_zero_iff.1 hl.symm
instance LeA.osl (sz : Nat) (t : Bool) (xs ys : List A) [h : z5C xs ys] : LeA (.osl sz t xs) (.osl sz false ys):={
 rep:=fun S cs q => by simp only [Rep] at q
 conc:=fun S hp cs F q => by
  simp only [zz] at q ⊢
  have ⟨p,c,e,h1,h2,h3,h4,h5⟩:=q
  refine ⟨p,c,by rw [← h.len]; exact e,by simp,by rw [← h.len]; exact h2,h3,h.size _ h4,?_⟩
  rcases h5 with ⟨q1,q2,q3,q4⟩ | ⟨b,arr,ty,l,F',e1,e2,e3,e4,e5,e6,e7⟩
  ·exact .inl ⟨UW (S:=S) h.len q1,q2,q3,q4⟩
  ·exact .inr ⟨b,arr,ty,l,F',e1,e2,e3,by rw [← h.len]; exact e4,h.conc _ _ _ _ e5,e6,e7⟩
 val:=fun _ => rfl
 tup:=fun _ e => by cases e }
instance LeA.sl (sz : Nat) (t : Bool) (xs ys : List A) [h : z5C xs ys] : LeA (.sl sz t xs) (.sl sz false ys):={
 rep:=fun S cs q => by
  simp only [Rep] at q ⊢
  have ⟨p,c,e,h1,h2,h3,h4⟩:=q
  refine ⟨p,c,by rw [← h.len]; exact e,by simp,by rw [← h.len]; exact h2,h.size _ h3,?_⟩
  rcases h4 with q | ⟨b,o,l,q1,q2,q3⟩
  ·exact .inl (UW (S:=S) h.len q)
  ·exact .inr ⟨b,o,l,q1,h.rep _ _ q2,q3⟩
 conc:=fun S hp cs F q => by
  simp only [zz] at q ⊢
  refine ⟨?_,q.2⟩
  have q:=q.1
  simp only [Rep] at q ⊢
  have ⟨p,c,e,h1,h2,h3,h4⟩:=q
  refine ⟨p,c,by rw [← h.len]; exact e,by simp,by rw [← h.len]; exact h2,h.size _ h3,?_⟩
  rcases h4 with q | ⟨b,o,l,q1,q2,q3⟩
  ·exact .inl (UW (S:=S) h.len q)
  ·exact .inr ⟨b,o,l,q1,h.rep _ _ q2,q3⟩
 val:=fun _ => rfl
 tup:=fun _ e => by cases e }
instance LeA.agg (xs ys : List A) [h : z5C xs ys] : LeA (.agg xs) (.agg ys):={
 rep:=fun S cs q => by simp [Rep] at q ⊢; exact h.rep _ _ q
 conc:=fun S hp cs F q => by simp [zz] at q ⊢; exact h.conc _ _ _ _ q
 val:=fun _ => rfl
 tup:=fun _ e => by cases e }
instance LeA.box (x y : A) [h : LeA x y] : LeA (.box x) (.box y):={
 rep:=fun S cs q => by simp [Rep] at q
 conc:=fun S hp cs F q => by
  simp [zz] at q ⊢
  have ⟨b,ty,l,F',e1,e2,e3,e4,e5⟩:=q
  exact ⟨b,ty,l,F',e1,e2,h.conc _ _ _ _ e3,e4,e5⟩
 val:=fun _ => rfl
 tup:=fun _ e => by cases e }
class SzA (x y : A) : Prop where
 eq : x.size = y.size
instance (priority:=2000) SzA.refl (x : A) : SzA x x:=⟨rfl⟩
instance z5C.nil : z5C [] []:=z5C.refl []
instance z5C.cons (x y : A) (xs ys : List A) [h : LeA x y] [z : SzA x y] [k : z5C xs ys] : z5C (x :: xs) (y :: ys):={
 rep:=fun S cs q => by
  simp [y9] at q ⊢
  have ⟨c1,c2,e,q1,q2⟩:=q
  exact ⟨c1,c2,e,h.rep _ _ q1,k.rep _ _ q2⟩
 conc:=fun S hp cs F q => by
  simp [zA] at q ⊢
  have ⟨c1,c2,F1,F2,e,e2,q1,q2⟩:=q
  exact ⟨c1,c2,F1,F2,e,e2,h.conc _ _ _ _ q1,k.conc _ _ _ _ q2⟩
 len:=by simp [k.len]
 size:=fun sz q => by
  intro y' hy
  rcases List.mem_cons.1 hy with rfl | hy
  ·rw [← z.eq]; exact q x (by simp)
  ·exact k.size sz (fun x hx => q x (by simp [hx])) y' hy }
theorem zhJ {α : Type} {f g : α → A} (h : ∀ x,LeA (f x) (g x)) (z : ∀ x,SzA (f x) (g x)) : ∀ l : List α,z5C (l.map f) (l.map g)
 | [] => z5C.nil
 | x :: l => @z5C.cons _ _ _ _ (h x) (z x) (zhJ h z l)
instance z5C.map {α : Type} (f g : α → A) [h : ∀ x,LeA (f x) (g x)] [z : ∀ x,SzA (f x) (g x)] (l : List α) : z5C (l.map f) (l.map g):=zhJ h z l
variable {v : Value}
theorem LeA.repV {x y : A} (h : LeA x y)   (q : xw S x v) : xw S y v:=by
 by_cases ht : ∃ fs,x = .tup fs
 ·obtain ⟨fs,rfl⟩:=ht
  rw [h.tup fs rfl]; exact q
 ·have q1 : ud S x v:=by cases x <;> simp [xw] at q <;> first | exact q | exact absurd ⟨_,rfl⟩ ht
  have ⟨cs,c1,c2⟩:=q1
  exact ud.repV ⟨cs,h.rep _ _ c1,by rw [← h.val]; exact c2⟩
class LeV (x y : A) : Prop where
 has : ∀ S h v F,Has S h x v F → Has S h y v F
instance (priority:=2000) LeV.refl (x : A) : LeV x x:=⟨fun _ _ _ _ h => h⟩
instance LeV.one (x y : A) [h : LeA x y] : LeV x y:=⟨fun S hp v F q => by
 rcases q with ⟨q,e⟩ | ⟨cs,q1,q2,q3⟩
 ·exact .inl ⟨h.repV q,e⟩
 ·exact .inr ⟨cs,h.conc _ _ _ _ q1,q2,by rw [← h.val]; exact q3⟩⟩
class z4I (xs ys : List A) : Prop where
 all : ∀ S vs,WI (ud S) xs vs → WI (ud S) ys vs
instance z4I.nil : z4I [] []:=⟨fun _ _ h => h⟩
instance z4I.cons (x y : A) (xs ys : List A) [h : LeA x y] [k : z4I xs ys] : z4I (x :: xs) (y :: ys):=⟨fun S vs q => by
 cases vs with
 | nil => exact q.elim
 | cons v vs =>
  refine ⟨?_,k.all S vs q.2⟩
  have ⟨cs,c1,c2⟩:=q.1
  exact ⟨cs,h.rep _ _ c1,by rw [← h.val]; exact c2⟩⟩
instance LeV.tup (xs ys : List A) [k : z4I xs ys] : LeV (.tup xs) (.tup ys):=⟨fun S hp v F q => by
 rcases q with ⟨q,e⟩ | ⟨cs,q1,q2,q3⟩
 ·simp [xw] at q
  have ⟨vs,e2,q⟩:=q
  exact .inl ⟨by simp [xw]; exact ⟨vs,e2,k.all _ _ q⟩,e⟩
 ·simp [zz] at q1⟩
def LeT : T → T → Prop
 | .own x,y => ∃ z,y = .own z ∧ LeA x z
 | .d x,y => ∃ z,y = .d z ∧ LeA x z
 | .als r p er ec,y => p = [] ∧ y = .als r [] er ec
 | .gone,y => y = .gone
 | _,_ => False
class z7T (l m : List (Nat × T)) : Prop where
 ent : ∀ t,(ofL l t).er = (ofL m t).er ∧ (ofL l t).ec = (ofL m t).ec ∧ LeT (ofL l t).t (ofL m t).t
instance z7T.nil : z7T [] []:=⟨fun t => ⟨rfl,rfl,rfl⟩⟩
theorem z7T.cons' {x y : T} {l m : List (Nat × T)} (h : LeT x y) (hl : z7T l m) : z7T ((k,x) :: l) ((k,y) :: m):=⟨fun t => by
 simp [ofL]
 split
 ·exact ⟨rfl,rfl,h⟩
 ·exact hl.ent t⟩
instance z7T.own (k : Nat) (x y : A) (l m : List (Nat × T)) [h : LeA x y] [hl : z7T l m] : z7T ((k,.own x) :: l) ((k,.own y) :: m):=z7T.cons' ⟨y,rfl,h⟩ hl
instance z7T.d (k : Nat) (x y : A) (l m : List (Nat × T)) [h : LeA x y] [hl : z7T l m] : z7T ((k,.d x) :: l) ((k,.d y) :: m):=z7T.cons' ⟨y,rfl,h⟩ hl
class LeL (l m : List (Nat × T)) : Prop where
 or : l = m ∨ z7T l m
instance (priority:=2000) LeL.refl (l : List (Nat × T)) : LeL l l:=⟨.inl rfl⟩
instance LeL.of0 (l m : List (Nat × T)) [h : z7T l m] : LeL l m:=⟨.inr h⟩
variable {X : List Nat}
theorem Sim.le {st st' : St}   (h : Sim C S Fp X st a w) (hl : ∀ t,(st t).er = (st' t).er ∧ (st t).ec = (st' t).ec ∧ LeT (st t).t (st' t).t) : Sim C S Fp X st' a w:={
 size:=h.size
 pin:=h.pin
 defers:=h.defers
 below:=h.below
 mine:=h.mine
 still:=h.still
 sinc:=h.sinc
 sbase:=h.sbase
 disj:=h.disj
 base:=h.base
 xn:=h.xn
 xd:=h.xd
 xb:=h.xb
 ent:=fun t => by
  have q:=h.ent t
  have ⟨_,_,l3⟩:=hl t
  unfold yx at q ⊢
  cases ht : (st t).t with
  | gone =>
   simp only [ht,LeT] at l3 q
   simp only [l3]; exact q
  | d x =>
   simp only [ht,LeT] at l3 q
   have ⟨z,e,l3⟩:=l3
   simp only [e]; exact ⟨l3.repV q.1,q.2⟩
  | own x =>
   simp only [ht,LeT] at l3 q
   have ⟨z,e,l3⟩:=l3
   simp only [e]
   have ⟨cs,q1,q2,q3⟩:=q
   exact ⟨cs,l3.conc _ _ _ _ q1,q2,by rw [← l3.val]; exact q3⟩
  | als r p er ec =>
   simp only [ht,LeT] at l3 q
   obtain ⟨rfl,e⟩:=l3
   simp only [e]
   refine ⟨q.1,?_⟩
   have ⟨q1,q2,q3⟩:=q.2
   have ⟨r1,r2,r3⟩:=hl r
   unfold Zu
   refine ⟨by rw [← r1]; exact q1,by rw [← r2]; exact q2,?_⟩
   cases hr : (st r).t with
   | own x =>
    simp only [hr,LeT] at q3 r3
    have ⟨z,e2,_⟩:=r3
    simp only [e2]
    intro g1 g2
    rcases q3 (by rw [r1]; exact g1) (.inl trivial) with g | g
    ·exact .inl g
    ·simp [Qn] at g
   | d x =>
    simp only [hr,LeT] at q3 r3
    have ⟨z,e2,_⟩:=r3
    simp only [e2]
    intro g1 _
    exact q3 (by rw [r1]; exact g1) trivial
   | gone => simp only [hr,LeT] at r3; simp only [r3]
   | als u p e1 e2 => simp only [hr,LeT] at r3; simp only [r3.2]
   | ptr u p e1 e2 => simp only [hr,LeT] at r3
  | ptr r p er ec => simp only [ht,LeT] at l3 }
variable {rs : List (Nat × Option Nat)}{fn : Func}{body : Code}{r : A}{keep : Bool}
section
variable {P : Program} {tt : TT} {ctr : Ctr} {n : Fr} {Q : Exit → St → Prop}
theorem zgm {l m : List (Nat × T)} (h : LeL l m) (k : AWP P n c (ofL m) Q) : AWP P n c (ofL l) Q :=
 h.or.elim (fun e => e ▸ k) fun h => fun rd mm df w0 S0 M S Fp a w hc hs => k rd mm df w0 S0 M S Fp a w hc (hs.le h.ent)
theorem zdN {X : Type} {c c' : Code} {fs : List Fm} {st0 : St} (e : c = .loop c') (live : List Nat) (Inv : X → Prop) (mu : X → Nat) (stOf : X → List (Nat × T)) (x0 : X) (l0 : List (Nat × T)) (hs : canon live st0 = ofL l0) (hl : LeL l0 (stOf x0)) (h0 : Inv x0)
  (round : ∀ x,Inv x → ∀ J : St → Prop,(∀ st' l' x',Inv x' → mu x' < mu x → canon live st' = ofL l' → LeL l' (stOf x') → J st') → AWP P n c' (ofL (stOf x)) (Qf P n (.pre J :: fs) Q)) : AWP P n c st0 (Qf P n fs Q):=by
 subst e
 refine AWP.loop live (fun k st => ∃ x l,Inv x ∧ mu x = k ∧ st = ofL l ∧ LeL l (stOf x)) (mu x0) ⟨x0,l0,h0,rfl,hs,hl⟩ ?_
 rintro k st ⟨x,l,hx,rfl,rfl,hl⟩
 refine zgm hl ?_
 exact round x hx _ fun st' l' x' h1 h2 h3 h4 => ⟨_,h2,x',l',h1,rfl,h3,h4⟩
theorem zdO {X : Type} {c x y : Code}  {st0 : St} (e : c = .seq x y) (live live0 : List Nat) (l0 : List (Nat × T)) (hs : canon live0 st0 = ofL l0) (Inv : X → Prop) (stJ : X → List (Nat × T)) (h1 : ∀ z,Inv z → AWP P n y (ofL (stJ z)) (Qf P n fs Q))
  (h2 : ∀ J : St → Prop,(∀ st' l' z,Inv z → canon live st' = ofL l' → LeL l' (stJ z) → J st') → AWP P n x (ofL l0) (Qf P n (.pre J :: fs) Q)) : AWP P n c st0 (Qf P n fs Q):=by
 subst e
 refine AWP.canon live0 ?_
 rw [hs]
 refine AWP.nextC live fun K hK => h2 K fun st' l' z hz he hl => hK st' ?_
 rw [he]
 exact zgm hl (h1 z hz)
def zae (tt : TT) (keep : Bool) (rs : List (Nat × Option Nat)) : SM A :=
 match keep,rs with
 | true,[(t,none)] => zhw tt true [t]
 | _,rs => zhv tt rs
def zcK (tt : TT) (keep : Bool) (rs : List (Nat × Option Nat)) : HM A :=
 match keep,rs with
 | true,[(t,none)] => zU (zhw tt true [t])
 | _,rs => qr tt (rs.map fun r => (.tmp r.1,0)) >>= fun xs =>
  match Zi tt rs xs with
  | some [y] => pure y
  | some ys => pure (.tup ys)
  | none => zE
theorem ze9 (tt : TT) (rs : List (Nat × Option Nat)) : Snd (zhv tt rs) (qr tt (rs.map fun r => (.tmp r.1,0)) >>= fun xs =>
  match Zi tt rs xs with
  | some [y] => pure y
  | some ys => pure (.tup ys)
  | none => zE):=by
 refine z9 (ZF _ _) fun xs => ?_
 cases Zi tt rs xs with
 | none => exact zj _
 | some ys => rcases ys with _ | ⟨y,_ | ⟨z,l⟩⟩ <;> exact wq _
theorem zhn (tt : TT) (keep : Bool) (rs : List (Nat × Option Nat)) : Snd (zae tt keep rs) (zcK tt keep rs):=by
 cases keep with
 | false => rcases rs with _ | ⟨⟨t,_ | ty⟩,_ | ⟨q,l⟩⟩ <;> exact ze9 _ _
 | true => rcases rs with _ | ⟨⟨t,_ | ty⟩,_ | ⟨q,l⟩⟩ <;> first | exact zf _ | exact ze9 _ _
theorem zdI {n : Fr}   {keep : Bool} {rs : List (Nat × Option Nat)} {ls : List A} {r : A} (hT : wR P tt) (hf : P.funcs[k]? = some fn) (hnm : (fn.name == "runtime.NumGoroutine") = false) (hb : fn.body = some body)
  (hn : n = ⟨fn.ntmps,[]⟩) (hr : fn.results = (rs.map zbV).toArray) (ha : ls.length ≤ fn.ntmps)
  (h : ∀ E : St → Prop,(∀ st x R U,zae tt keep rs st = some (x,R,U) → LeV x r → E st) → AWP P n body (ofL (z73 0 ls)) (Qf P n [] (zec E))) : z1a P k ls r:=by
 have h':=h (fun st => ∃ x R U,zae tt keep rs st = some (x,R,U) ∧ LeV x r) fun st x R U h1 h2 => ⟨x,R,U,h1,h2⟩
 refine ⟨⟨fn,hf,hnm,by rw [hb]; rfl⟩,?_⟩
 intro S w vs F hS hq hF
 have h2 : AWP P n body (ini ls) (fun ex st => (ex = .normal ∨ ex = .ret) ∧ ∃ x R U,zae tt keep rs st = some (x,R,U) ∧ LeV x r):=by
  rw [z6D]
  refine AWP.mono h' ?_
  intro e st q
  cases e with
  | normal => exact ⟨.inl rfl,q⟩
  | ret => exact ⟨.inr rfl,q⟩
  | _ => exact q.elim
 refine z4D (R:=fun w e w' => ∃ v' S' F',e = .returned v' ∧ Ui (fun k => w.heap.size ≤ k ∨ k ∈ F) w w' ∧ (∀ b o u,S b o = some u → S' b o = some u) ∧ (∀ b o,b < w.heap.size → b ∉ F → S' b o = S b o) ∧ w9 S' w' ∧ Has S' w'.heap r v' F' ∧ F'.Nodup ∧
   ∀ k ∈ F',w.heap.size ≤ k ∨ k ∈ F) hf hb (by rw [hn]) (by rw [hn]; simp) ha hS hq hF h2 ?_
 rintro ex st' ⟨hx,x,R,U,h3,h4⟩
 refine ⟨hx,?_⟩
 intro df S' Fp' a' w' h1
 have gcase : zhv tt rs st' = some (x,R,U) → ∃ v,(results fn a'.tmps).run P w' = .ok v w' ∧ ∃ v' S' F',Ending.returned v = .returned v' ∧ Ui (fun k => w.heap.size ≤ k ∨ k ∈ F) w w' ∧ (∀ b o u,S b o = some u → S' b o = some u) ∧ (∀ b o,b < w.heap.size → b ∉ F → S' b o = S b o) ∧ w9 S' w' ∧ Has S' w'.heap r v' F' ∧ F'.Nodup ∧
   ∀ k ∈ F',w.heap.size ≤ k ∨ k ∈ F:=by
  intro he
  have ⟨v,S2,hres,g1,g2,g3,g4⟩:=zft (P:=P) hT hr h1 he
  refine ⟨_,hres,_,S2,[],rfl,h1.below,fun b o u hu => g1 _ _ _ (h1.sinc _ _ _ hu),?_,g3,h4.has _ _ _ _ (.inl ⟨g4,rfl⟩),by simp,by simp⟩
  intro b o hb' hbF
  exact g2 b o (by rintro (hq | hq) <;> first | omega | exact hbF hq)
 cases keep with
 | false => exact gcase (by rcases rs with _ | ⟨⟨t,_ | ty⟩,_ | ⟨q,l⟩⟩ <;> exact h3)
 | true =>
  rcases rs with _ | ⟨⟨t,_ | ty⟩,_ | ⟨q,l⟩⟩
  ·exact gcase h3
  ·have h3' : zhw tt true [t] st' = some (x,R,U):=h3
   have ⟨hl,S2,F',g1,g2,g3,g4,g5,g6⟩:=zfu h1 h3'
   refine ⟨_,z7p (P:=P) (ts:=[t]) hr hl a' w',_,S2,F',rfl,h1.below,fun b o u hu => g1 _ _ _ (h1.sinc _ _ _ hu),?_,g3,h4.has _ _ _ _ g4,g5,g6⟩
   intro b o hb' hbF
   exact g2 b o (by rintro (hq | hq) <;> first | omega | exact hbF hq)
  ·exact gcase h3
  ·exact gcase h3
  ·exact gcase h3
def zgz (X : XH P) (tt : TT) (ctr : Ctr) (n : Fr) (keep : Bool) (rs : List (Nat × Option Nat)) (k : Nat) (c : Code) (fs : List Fm) (st : St) (hs : List H) : Option (A × List Prop) :=
 match zbI X tt ctr n k c fs st hs with
 | some (.fin .normal,st',hs',ob) => match zcK tt keep rs st' hs' with | some (x,_,_,[],ob') => some (x,ob ++ ob') | _ => none
 | some (.fin .ret,st',hs',ob) => match zcK tt keep rs st' hs' with | some (x,_,_,[],ob') => some (x,ob ++ ob') | _ => none
 | _ => none
theorem zeu (X : XH P) (hT : wR P tt) (hC : zr P ctr) (hm : P.follows .mixedOrders = true) {E : St → Prop}    (hE : ∀ st x R U,zae tt keep rs st = some (x,R,U) → LeV x r → E st) (k : Nat) {c : Code} {fs : List Fm} {st : St} {hs : List H} {x : A} (obs : List Ob)
  (e : zgz X tt ctr n keep rs k c fs st hs = some (x,obs.map Ob.p)) (hle : LeV x r) : AWP P n c st (Qf P n fs (zec E)):=by
 unfold zgz at e
 have fin : ∀ {st' hs' ob},(match zcK tt keep rs st' hs' with | some (x,_,_,[],ob') => some (x,ob ++ ob') | _ => none) = some (x,obs.map Ob.p) → z4d ob ∧ E st':=by
  intro st' hs' ob e
  split at e
  ·rename_i x1 R U ob' he
   simp [Option.some.injEq,Prod.mk.injEq] at e
   obtain ⟨rfl,e2⟩:=e
   have ha:=zau obs
   rw [← e2] at ha
   have ⟨o1,o2⟩:=yq ha
   exact ⟨o1,hE _ _ _ _ (zhn tt keep rs _ _ _ _ _ _ _ he o2) hle⟩
  ·cases e
 split at e
 ·rename_i st' hs' ob' he
  have ⟨h1,h2⟩:=fin e
  exact z7q X hT hC hm k c fs st hs _ _ _ _ he h1 h2
 ·rename_i st' hs' ob' he
  have ⟨h1,h2⟩:=fin e
  exact z7q X hT hC hm k c fs st hs _ _ _ _ he h1 h2
 ·cases e
end
abbrev w64 (x : Int) : Int:=IntKind.i64.wrap x
def idx {α : Type} (l : List α) : Int → Option α
 | .ofNat n => l[n]?
 | .negSucc _ => none
inductive LR (σ τ : Type) where
 | next (s : σ)
 | done (t : τ)
variable {σ τ : Type}
def QM (step : σ → Option (LR σ τ)) (n : Nat) : σ → Option τ :=
 Nat.rec (fun _ => none) (fun _ ih s => match step s with | none => none | some (.next s') => ih s' | some (.done t) => some t) n
def WJ : Nat:=18446744073709551616
def loop (step : σ → Option (LR σ τ)) (s : σ) : Option τ:=QM step WJ s
def zio (step : σ → Option (LR σ τ)) (m : Nat) (t : τ) : LR σ τ → Prop
 | .next s' => QM step m s' = some t
 | .done t' => t' = t
theorem ziO {step : σ → Option (LR σ τ)} {n : Nat} {s : σ} {t : τ} (h : QM step n s = some t) : ∃ m lr,n = m + 1 ∧ step s = some lr ∧ zio step m t lr:=by
 cases n with
 | zero => cases h
 | succ m =>
  have h' : (match step s with | none => none | some (.next s') => QM step m s' | some (.done t) => some t) = some t:=h
  cases hs : step s with
  | none => simp [hs] at h'
  | some lr =>
   refine ⟨m,lr,rfl,rfl,?_⟩
   cases lr with
   | next s' => simp [hs] at h'; exact h'
   | done t' => simp [hs,Option.some.injEq] at h'; exact h'
theorem z8 {α β : Type} {x : Option α} {f : α → Option β} {r : β} (h : Option.bind x f = some r) : ∃ u,x = some u ∧ f u = some r:=by
 cases x with
 | none => cases h
 | some u => exact ⟨u,rfl,h⟩
theorem zy {α : Type} {c : Bool} {x y : Option α} {r : α} (h : (bif c then x else y) = some r) : (c = true ∧ x = some r) ∨ (c = false ∧ y = some r):=by
 cases c
 ·exact .inr ⟨rfl,h⟩
 ·exact .inl ⟨rfl,h⟩
def gd {α : Type} (p : Prop) [Decidable p] (x : Option α) : Option α:=if p then x else none
theorem gdE {α : Type}  [Decidable p] {x : Option α} {r : α} (h : gd p x = some r) : p ∧ x = some r:=by
 unfold gd at h
 by_cases hp : p
 ·rw [if_pos hp] at h; exact ⟨hp,h⟩
 ·rw [if_neg hp] at h; cases h
theorem z7 {α : Type} {a b : α} (h : some a = some b) : a = b:=by cases h; rfl
variable {gives : List Bool}{α ρ : Type}{β : Type}{i : Int}{as_ : List A}
section
variable {α : Type}
def eI (k : IntKind) (x : Int) : A:=.atom (.int k x)
def eB (b : Bool) : A:=.atom (.bool b)
def eSl (sz : Nat) (t : Bool) (f : α → A) (l : List α) : A:=.sl sz t (l.map f)
def eOs (sz : Nat) (t : Bool) (f : α → A) (l : List α) : A:=.osl sz t (l.map f)
def eSp (f : α → A) (x : α) : A:=.sptr (f x)
def z3L (k : Nat) (f : α → A) (x : α) : A:=.fn k [f x]
def zkB (k : Nat) (f : α → A) (g : β → A) (x : α × β) : A:=.fn k [f x.1,g x.2]
def ziU (f : α → A) (g : β → A) (x : α × β) : A:=.agg [f x.1,g x.2]
def zkA {β γ : Type} (f : α → A) (g : β → A) (h : γ → A) (x : α × β × γ) : A:=.agg [f x.1,g x.2.1,h x.2.2]
class ze0 (f : α → A) : Prop where
 isD : ∀ x,(f x).isD = true
class zj4 (f : α → A) : Prop where
 no : ∀ x,(f x).isD = false
class Uj (f : α → A) (g : outParam (α → A)) : Prop where
 lo : ∀ x,(f x).loose = g x
class z92 (f : α → A) (g : outParam (α → A)) : Prop where
 live : ∀ x,(f x).live = true
 sh : ∀ x,(f x).shut = g x
class Yp (f : α → A) : Prop where
 inj : ∀ x y,f x = f y → x = y
instance (k : IntKind) : ze0 (eI k):=⟨fun _ => rfl⟩
instance (sz : Nat) (t : Bool) (f : α → A) : ze0 (eSl sz t f):=⟨fun _ => rfl⟩
instance (k : Nat) (f f' : α → A) [h : Uj f f'] : Uj (z3L k f) (z3L k f'):=⟨fun x => by simp [z3L,A.loose,A.looses,h.lo]⟩
instance (k : Nat) (f : α → A) [h : Yp f] : Yp (z3L k f):=⟨fun a b e => by simp [z3L,A.fn.injEq,List.cons.injEq,true_and,and_true] at e; exact h.inj _ _ e⟩
instance (sz : Nat) (t : Bool) (f : α → A) : zj4 (eOs sz t f):=⟨fun _ => rfl⟩
instance (k : IntKind) : Uj (eI k) (eI k):=⟨fun _ => rfl⟩
instance : Uj eB eB:=⟨fun _ => rfl⟩
instance (sz : Nat) (t : Bool) (f g : α → A) [h : Uj f g] : Uj (eSl sz t f) (eSl sz false g):=⟨fun l => by simp [eSl,A.loose,z4s,h.lo]⟩
instance (sz : Nat) (t : Bool) (f g : α → A) [h : Uj f g] : Uj (eOs sz t f) (eOs sz false g):=⟨fun l => by simp [eOs,A.loose,z4s,h.lo]⟩
instance (f g : α → A) [h : Uj f g] : Uj (eSp f) (eSp g):=⟨fun l => by simp [eSp,A.loose,h.lo]⟩
instance (k : IntKind) : z92 (eI k) (eI k):=⟨fun _ => rfl,fun _ => rfl⟩
instance : z92 eB eB:=⟨fun _ => rfl,fun _ => rfl⟩
instance (sz : Nat) (t : Bool) (f : α → A) : z92 (eSl sz t f) (eSl sz t f):=⟨fun _ => rfl,fun _ => rfl⟩
instance (sz : Nat) (t : Bool) (f g : α → A) [h : z92 f g] : z92 (eOs sz t f) (eSl sz t g):=⟨fun l => by simp [eOs,A.live]; exact JP f l h.live,fun l => by simp [eOs,eSl,A.shut,Uo,h.sh]⟩
instance (k : IntKind) : Yp (eI k):=⟨fun a b h => by simpa [eI] using h⟩
instance : Yp eB:=⟨fun a b h => by simpa [eB] using h⟩
theorem zaC {f : α → β} (hf : ∀ a b,f a = f b → a = b) : ∀ {l l' : List α},l.map f = l'.map f → l = l'
 | [],[],_ => rfl
 | [],_ :: _,h => by simp at h
 | _ :: _,[],h => by simp at h
 | a :: l,b :: l',h => by
  simp [List.map_cons,List.cons.injEq] at h
  rw [hf _ _ h.1,zaC hf h.2]
instance (sz : Nat) (t : Bool) (f : α → A) [h : Yp f] : Yp (eSl sz t f):=⟨fun a b e => by simp [eSl,A.sl.injEq,true_and] at e; exact zaC h.inj e⟩
instance (sz : Nat) (t : Bool) (f : α → A) [h : Yp f] : Yp (eOs sz t f):=⟨fun a b e => by simp [eOs,A.osl.injEq,true_and] at e; exact zaC h.inj e⟩
instance (f : α → A) [h : Yp f] : Yp (eSp f):=⟨fun a b e => by simp [eSp,A.sptr.injEq] at e; exact h.inj _ _ e⟩
instance (sz sz' : Nat) (t t' : Bool) (f g : α → A) (l l' : List α) : SzA (eSl sz t f l) (eSl sz' t' g l'):=⟨rfl⟩
instance (sz : Nat) (t : Bool) (f g : α → A) [h : ∀ x,LeA (f x) (g x)] [z : ∀ x,SzA (f x) (g x)] (l : List α) : LeA (eSl sz t f l) (eSl sz false g l):=LeA.sl sz t (l.map f) (l.map g)
instance (sz : Nat) (t : Bool) (f g : α → A) [h : ∀ x,LeA (f x) (g x)] [z : ∀ x,SzA (f x) (g x)] (l : List α) : LeA (eOs sz t f l) (eOs sz false g l):=LeA.osl sz t (l.map f) (l.map g)
theorem i0 {l : List α}  {u : α} (h : idx l i = some u) : 0 ≤ i:=by
 cases i with
 | ofNat n => exact Int.natCast_nonneg n
 | negSucc n => cases h
theorem iE {l : List α}  {u : α} (h : idx l i = some u) : l[i.toNat]? = some u:=by
 cases i with
 | ofNat n => exact h
 | negSucc n => cases h
theorem iM (f : α → A) {l : List α}  {u : α} (h : idx l i = some u) : (l.map f)[i.toNat]? = some (f u):=by rw [List.getElem?_map,iE h]; rfl
theorem iL (f : α → A) {l : List α}  {u : α} (h : idx l i = some u) : 0 ≤ i ∧ i.toNat < (l.map f).length:=⟨i0 h,by rw [List.length_map]; exact (List.getElem?_eq_some_iff.1 (iE h)).1⟩
theorem arJ {fs : List A} {j : Int} (h0 : z1n tt t fs 0 = true) (hj : 0 ≤ j) : z1n tt t fs j = true:=by
 unfold z1n at h0 ⊢
 split at h0
 ·simp [decide_true,Bool.and_true,Bool.and_eq_true] at h0
  simp [hj,decide_true,Bool.and_true,Bool.and_eq_true]
  exact h0
 ·cases h0
theorem sM (f : α → A) (l : List α) (i : Int) (v : α) : (l.map f).set i.toNat (f v) = (l.set i.toNat v).map f:=by rw [List.map_set]
theorem dM (f : α → A) [h : ze0 f] (l : List α) : A.areD (l.map f) = true:=z8W f l h.isD
theorem d1 (f : α → A) [h : ze0 f] (x : α) : A.areD [f x] = true:=by simp [A.areD,h.isD]
theorem o1 (f : α → A) [h : zj4 f] (x : α) : A.areD [f x] = false:=by simp [A.areD,h.no]
theorem shM (f g : α → A) [h : z92 f g] (l : List α) : A.lives (l.map f) = true ∧ A.shuts (l.map f) = l.map g:=⟨JP f l h.live,by rw [Uo]; simp [h.sh]⟩
theorem aM (f : α → A) (l m : List α) : l.map f ++ m.map f = (l ++ m).map f:=by rw [List.map_append]
theorem aL (f g : α → A) {l m : List α} (h : l.length + m.length ≤ 4294967296) : (l.map f).length + (m.map g).length ≤ lim:=by simpa [lim] using h
theorem rM (sz : Nat) (f : α → A) (n : Int) (z : α) : A.osl sz (decide (n = n)) (List.replicate n.toNat (f z)) = eOs sz true f (List.replicate n.toNat z):=by simp [eOs]
theorem rL {n : Int} (h : 0 ≤ n ∧ n ≤ 4294967296) : 0 ≤ n ∧ n ≤ n ∧ n ≤ ((lim : Nat) : Int):=⟨h.1,Int.le_refl _,h.2⟩
theorem lnM (f : α → A) (l : List α) : A.atom (.int .i64 (((l.map f).length : Nat) : Int)) = .atom (.int .i64 ((l.length : Nat) : Int)):=by rw [List.length_map]
theorem oC (f : α → A) [h : zj4 f] (x : α) (l : List α) : A.areD ((x :: l).map f) = false:=by simp [A.areD,h.no]
theorem aM0 (f : α → A) (m : List α) : ([] : List A) ++ m.map f = m.map f:=rfl
theorem slA {a : Int} {r : Prop} (h : 0 ≤ a ∧ r) : 0 ≤ a:=h.1
theorem slB {a b : Int} {r : Prop} (h : 0 ≤ a ∧ a ≤ b ∧ r) : 0 ≤ b:=Int.le_trans h.1 h.2.1
theorem slC {a b m : Int} {r : Prop} (h : 0 ≤ a ∧ a ≤ b ∧ r ∧ b ≤ m) : 0 ≤ m:=by omega
theorem zhl (f : α → A) {l : List α} {a : Int} (h : 0 ≤ a ∧ a ≤ ((l.length : Nat) : Int) ∧ ((l.length : Nat) : Int) ≤ ((l.length : Nat) : Int)) : a.toNat ≤ (l.map f).length ∧ (l.map f).length ≤ (l.map f).length:=by simp; omega
theorem ziy (f : α → A) {l : List α} {b : Int} (h : (0 : Int) ≤ 0 ∧ 0 ≤ b ∧ b ≤ ((l.length : Nat) : Int)) : 0 ≤ b.toNat ∧ b.toNat ≤ (l.map f).length:=by simp; omega
theorem zix (f : α → A) {l : List α} {a b : Int} (h : 0 ≤ a ∧ a ≤ b ∧ b ≤ ((l.length : Nat) : Int)) : a.toNat ≤ b.toNat ∧ b.toNat ≤ (l.map f).length:=by simp; omega
theorem zhm (f : α → A) {l : List α} {b m : Int} (h : (0 : Int) ≤ 0 ∧ 0 ≤ b ∧ m ≤ ((l.length : Nat) : Int) ∧ b ≤ m) : 0 ≤ b.toNat ∧ b.toNat ≤ m.toNat ∧ m.toNat ≤ (l.map f).length:=by simp; omega
theorem zjA (sz : Nat) (f : α → A) (l : List α) (a b : Nat) : A.sl sz (b == b) (((l.map f).drop a).take (b - a)) = eSl sz true f ((l.drop a).take (b - a)):=by simp [eSl]
theorem slE (sz : Nat) (t : Bool) (f : α → A) (l : List α) (a : Nat) : A.sl sz (t && (l.map f).length == (l.map f).length) (((l.map f).drop a).take ((l.map f).length - a)) = eSl sz t f (l.drop a):=by
 simp [eSl]
 rw [List.take_of_length_le (by simp)]
def mn (a b : Int) : Int:=if b < a then b else a
def mx (a b : Int) : Int:=if a < b then b else a
theorem cuB (f : α → A) {l : List α} {b : Int} (h : 0 ≤ b ∧ b ≤ ((l.length : Nat) : Int)) : b.toNat ≤ (l.map f).length:=by simp; omega
theorem cuM (f : α → A) (l : List α) (b : Int) : (l.map f).take b.toNat = (l.take b.toNat).map f:=by rw [List.map_take]
theorem slM (sz : Nat) (t : Bool) (f : α → A) (l : List α) (a b : Nat) : A.sl sz t (((l.map f).drop a).take (b - a)) = eSl sz t f ((l.drop a).take (b - a)):=by simp [eSl]
def spF (k : Nat)  (enc : α → List A) (encR : ρ → A) (F : α → Option ρ) (gives : List Bool) (inj : ∀ x y,enc x = enc y → x = y) : yK:={
 α:=α
 k:=k
 raw:=false
 gives:=gives
 enc:=enc
 pre:=fun x => ∃ r,F x = some r
 f:=fun x => match F x with | some r => encR r | none => .dead 0
 inj:=by
  intro x y h _ _
  rw [inj x y h] }
theorem z4y {c : Ctr}   {enc : α → List A} {encR : ρ → A} {F : α → Option ρ}  {inj : ∀ x y,enc x = enc y → x = y} (h : c.Has (spF k enc encR F gives inj)) {x : α} {r : ρ} (hr : F x = some r)  (ha : as_.map A.loose = enc x) :
  c.run k (c.norm k as_) = some (encR r):=by
 have h1:=h.run x ⟨r,hr⟩
 have h2 : c.raw k = false:=h.raw
 unfold Ctr.norm
 rw [h2]
 simp [Bool.false_eq_true]
 rw [ha]
 refine Eq.trans h1 ?_
 simp [spF,hr]
theorem z4x {c : Ctr}   {enc : α → List A} {encR : ρ → A} {F : α → Option ρ}  {inj : ∀ x y,enc x = enc y → x = y} (h : c.Has (spF k enc encR F gives inj)) : c.gives k = gives:=h.gives
theorem zp {enc : α → List A} {encR : ρ → A} {F : α → Option ρ}  {inj : ∀ x y,enc x = enc y → x = y} (h : ∀ x r,F x = some r → z1a P k (enc x) (encR r)) : (spF k enc encR F gives inj).Ok P:=by
 rintro x ⟨r,hr⟩
 have:=h x r hr
 simpa only [spF,hr] using this
theorem loN : ([] : List A).map A.loose = []:=rfl
theorem loC (f : α → A) {g : α → A} [h : Uj f g] (x : α) {as_ bs : List A} (k : as_.map A.loose = bs) : (f x :: as_).map A.loose = g x :: bs:=by simp [List.map_cons,h.lo,k]
end
section
variable {P : Program} {tt : TT} {ctr : Ctr} {n : Fr} {Q : Exit → St → Prop}
theorem zdP (X : XH P) (hT : wR P tt) (hC : zr P ctr) (hm : P.follows .mixedOrders = true) (live : List Nat) (k : Nat) {c : Code} {fs : List Fm} {st : St} (hs : List H) (c' : Code) (fs' : List Fm) (l' : List (Nat × T)) (obs : List Ob)
  (e : z5E X tt ctr n live k c fs st hs = some (.at c' fs',ofL l',obs.map Ob.p)) (h : ∀ st0,canon live st0 = ofL l' → AWP P n c' st0 (Qf P n fs' Q)) : AWP P n c st (Qf P n fs Q):=z7R X hT hC hm live k obs e h
theorem zgn (X : XH P) (hT : wR P tt) (hC : zr P ctr) (hm : P.follows .mixedOrders = true) (live : List Nat) (k : Nat) {c : Code} {fs : List Fm} {st : St} (hs : List H) (J : St → Prop) (l' : List (Nat × T)) (obs : List Ob)
  (e : z5E X tt ctr n live k c fs st hs = some (.back J,ofL l',obs.map Ob.p)) (h : ∀ st0,canon live st0 = ofL l' → J st0) : AWP P n c st (Qf P n fs Q):=z7R X hT hC hm live k obs e h
end
open Classical
def z5i : A → Option (List Value)
 | .atom (.int k x) => some [.int k x]
 | .atom (.string s) => some [.string s]
 | .agg fs => keyLs fs
 | _ => none
where keyLs : List A → Option (List Value)
 | [] => some []
 | a :: as_ => match z5i a,keyLs as_ with | some x,some y => some (x ++ y) | _,_ => none
def z2e (a : A) : Option Value:=(z5i a).map (zT a)
mutual
theorem z8D : ∀ {a : A} {cs l : List Value},Rep S a cs → z5i a = some l → cs = l
 | .atom v,cs,l,h,e => by
  cases v <;> simp only [z5i] at e <;> first | (cases e; done) | skip
  all_goals
   simp only [Rep] at h
   cases e
   exact h.1
 | .agg fs,cs,l,h,e => by
  simp only [Rep] at h
  simp only [z5i] at e
  exact z6z h e
 | .fn _ _,_,_,_,e => by cases e
 | .tup _,_,_,_,e => by cases e
 | .sl _ _ _,_,_,_,e => by cases e
 | .sptr _,_,_,_,e => by cases e
 | .dop _,_,_,_,e => by cases e
 | .osl _ _ _,_,_,_,e => by cases e
 | .box _,_,_,_,e => by cases e
 | .dead _,_,_,_,e => by cases e
 | .opq _,_,_,_,e => by cases e
theorem z6z : ∀ {as_ : List A} {cs l : List Value},y9 S as_ cs → z5i.keyLs as_ = some l → cs = l
 | [],cs,l,h,e => by
  simp only [y9] at h
  simp only [z5i.keyLs] at e
  cases e
  exact h
 | a :: as_,cs,l,h,e => by
  simp only [y9] at h
  obtain ⟨c1,c2,rfl,h1,h2⟩:=h
  simp only [z5i.keyLs] at e
  cases e1 : z5i a with
  | none => simp only [e1] at e; cases e
  | some x =>
   cases e2 : z5i.keyLs as_ with
   | none => simp only [e1,e2] at e; cases e
   | some y =>
    simp only [e1,e2] at e
    cases e
    rw [z8D h1 e1,z6z h2 e2]
end
theorem z8C {a : A} {v kv : Value} (h : ud S a v) (e : z2e a = some kv) : v = kv:=by
 obtain ⟨cs,h1,rfl⟩:=h
 unfold z2e at e
 obtain ⟨l,e1,rfl⟩:=Option.map_eq_some_iff.1 e
 rw [z8D h1 e1]
def z19 (S : zb) (es : List (A × A)) (ents : List MapEntry) : Prop:=WI (fun p (e : MapEntry) => z2e p.1 = some e.key ∧ ud S p.2 e.val) es ents
def z10 (es : List (A × A)) : Opq:={
 holds:=fun S h u F => ∃ b ents cl,u = .map (some b) ∧ F = [b] ∧ h[b]? = some (.map ents cl) ∧ (∀ o,S b o = none) ∧ z19 S es ents.toList
 one:=fun ⟨_,_,_,e,_⟩ => .inl (by rw [e]; rfl)
 frame:=fun hS hF ⟨b,ents,cl,e1,e2,e3,e4,e5⟩ => by
  subst e2
  have ⟨g1,g2⟩:=hF b (by simp)
  exact ⟨b,ents,cl,e1,rfl,g1.trans e3,g2,WI.mono (fun _ _ q => ⟨q.1,q.2.mono hS⟩) e5⟩
 own:=fun ⟨b,ents,cl,e1,e2,e3,e4,e5⟩ k hk => by
  subst e2
  simp [List.mem_cons,List.not_mem_nil,or_false] at hk
  subst hk
  exact ⟨(Array.getElem?_eq_some_iff.1 e3).1,e4⟩
 idx:=0 }
def VG (k : A) : List (A × A) → Nat → Option (Nat × A)
 | [],_ => none
 | p :: es,i => if z2e p.1 = z2e k then some (i,p.2) else VG k es (i + 1)
def z0a (k : Value) : List MapEntry → Nat → Option (Nat × Value)
 | [],_ => none
 | e :: es,i => if e.key = k then some (i,e.val) else z0a k es (i + 1)
variable {kv : Value}
theorem z5m {k : A}  (hk : z2e k = some kv) : ∀ {es : List (A × A)} {ents : List MapEntry} {i : Nat},z19 S es ents →
  (VG k es i = none ∧ z0a kv ents i = none) ∨ ∃ j y v,VG k es i = some (j,y) ∧ z0a kv ents i = some (j,v) ∧ ud S y v ∧ i ≤ j ∧ j < i + es.length ∧ (ents[j - i]?).map (·.key) = some kv
 | [],[],i,_ => .inl ⟨rfl,rfl⟩
 | p :: es,e :: ents,i,h => by
  simp only [VG,z0a]
  by_cases hp : z2e p.1 = z2e k
  ·have he : e.key = kv:=by
    have:=h.1.1.symm.trans (hp.trans hk)
    simpa using this
   rw [if_pos hp,if_pos he]
   exact .inr ⟨i,p.2,e.val,rfl,rfl,h.1.2,Nat.le_refl _,by simp,by simp [he]⟩
  ·have he : ¬ e.key = kv:=fun q => hp (by rw [h.1.1,hk,q])
   rw [if_neg hp,if_neg he]
   rcases z5m hk (i:=i + 1) h.2 with q | ⟨j,y,v,q1,q2,q3,q4,q5,q6⟩
   ·exact .inl q
   ·refine .inr ⟨j,y,v,q1,q2,q3,by omega,by simp only [List.length_cons]; omega,?_⟩
    rw [show j - i = (j - (i + 1)) + 1 by omega,List.getElem?_cons_succ]
    exact q6
 | [],_ :: _,_,h => h.elim
 | _ :: _,[],_,h => h.elim
structure zdY (P : Program) (t kt et : Nat) (ok : A → Bool) (z : A) : Prop where
 und : P.underlying t = some (.map kt et)
 zero : ∃ zv,(∀ w,(zeroValue et).run P w = .ok zv w) ∧ ∀ S,ud S z zv
 check : ∀ a kv e w,ok a = true → z2e a = some kv → (Instr.checkKey e 10000 kt kv).run P w = .ok () w
 find : ∀ a kv,ok a = true → z2e a = some kv → ∀ (ents : List MapEntry) (es : List (A × A)),(∀ p ∈ es,ok p.1 = true) → WI (fun p (e : MapEntry) => z2e p.1 = some e.key) es ents → ∀ w,(Instr.findKey kt kv ents).run P w = .ok (z0a kv ents 0) w
 bits : ∀ a kv,ok a = true → z2e a = some kv → Instr.sameBits 10000 kv kv = true
 key : ∀ a,ok a = true → ∃ kv,z2e a = some kv
 zd : z.isD = true
variable {es : List (A × A)}
section
variable {P : Program} {C : Ctx} {S : zb} {Fp : Nat → List Nat} {X : List Nat} {st : St} {a : Act} {w : World} {t kt et : Nat} {ok : A → Bool} {z : A}
def zd9 (n : Fr) (dst : Option Nat) (es : List (A × A)) (ok : A → Bool) (z : A) (x k : Operand) (two : Bool) : SM Unit:=do
 let tx ← opnd x
 let y ← peek tx
 let tk ← opnd k
 let vk ← val tk
 if y = .opq (z10 es) ∧ ok vk = true ∧ ∀ p ∈ es,ok p.1 = true then
  wrT n dst (.d (match VG vk es 0 with
   | some (_,v) => if two = true then .tup [v,.atom (.bool true)] else v
   | none => if two = true then .tup [z,.atom (.bool false)] else z))
 else zk
theorem z8w {q : Opq}  (h : xw S (.opq q) v ∨ ∃ cs F,zz S w.heap (.opq q) cs F ∧ v = zT (.opq q) cs) : ∃ F,q.holds S w.heap v F:=by
 rcases h with h | ⟨cs,F,h1,h2⟩
 ·simp [xw,ud,Rep,false_and] at h
 ·simp [zz] at h1
  obtain ⟨u,rfl,h1⟩:=h1
  exact ⟨F,by rw [h2]; exact h1⟩
theorem zd7 (mt : zdY P t kt et ok z)  {ents : Array MapEntry} {cl b : Nat} (hb : w.heap[b]? = some (.map ents cl)) (he : z19 S es ents.toList) (hok : ∀ p ∈ es,ok p.1 = true) {vk : A}  (hv : ok vk = true) (hk : z2e vk = some kv) (two : Bool) :
    ∃ v,(Instr.lookup t (.map (some b)) kv two).run P w = .ok v w ∧ xw S (match VG vk es 0 with
      | some (_,v) => if two = true then .tup [v,.atom (.bool true)] else v
      | none => if two = true then .tup [z,.atom (.bool false)] else z) v:=by
  have ⟨zv,z1,z2⟩:=mt.zero
  have hf:=mt.find vk kv hv hk ents.toList es hok (WI.mono (fun _ _ q => q.1) he) w
  have hc:=mt.check vk kv ents.isEmpty w hv hk
  have run : (Instr.lookup t (.map (some b)) kv two).run P w = (do
        let (v,b) ← match z0a kv ents.toList 0 with
          | some (_,v) => pure (v,true)
          | none => pure (← zeroValue et,false)
        pure (if two then .tuple #[v,.bool b] else v) : Sem Value).run P w:=by
    unfold Instr.lookup
    rw [Sem.run_bind,run_underlying mt.und,Result.andThen_ok]
    have hg : (getObj b).run P w = .ok (.map ents cl) w:=by simp [getObj,Sem.run,hb]
    simp only [Sem.run_bind,hg,Result.andThen_ok,Sem.run_pure,hc,hf]
    cases z0a kv ents.toList 0 <;> rfl
  rcases z5m hk (i:=0) he with ⟨q1,q2⟩ | ⟨j,y,v,q1,q2,q3,_⟩
  · rw [q1]
    refine ⟨if two = true then .tuple #[zv,.bool false] else zv,?_,?_⟩
    · rw [run,q2]; simp [z1]
    · cases two
      · exact (z2 S).repV
      · simp only [if_true,xw]
        exact ⟨[zv,.bool false],rfl,z2 S,vp.2 ⟨rfl,rfl⟩,trivial⟩
  · rw [q1]
    refine ⟨if two = true then .tuple #[v,.bool true] else v,?_,?_⟩
    · rw [run,q2]; simp
    · cases two
      · exact q3.repV
      · simp only [if_true,xw]
        exact ⟨[v,.bool true],rfl,q3,vp.2 ⟨rfl,rfl⟩,trivial⟩
theorem zd8 (mt : zdY P t kt et ok z) (h : Sim C S Fp [] st a w)   {x k : Operand} {two : Bool} (ho : o.op = .lookup t x k two)    (e : zd9 C.n o.dst es ok z x k two st = some (u,R,U)) : qo P C o a w (za U st):=by
 unfold zd9 at e
 have ⟨tx,_,hx,e1⟩:=bR (zD h) e
 have ⟨y,_,qx,e2⟩:=bR (z01 h hx) e1
 have ⟨tk,_,hk,e3⟩:=bR (zD h) e2
 have ⟨vk,_,qk,e4⟩:=bR (qe h hk) e3
 split at e4
 ·rename_i hc
  obtain ⟨rfl,c2,c3⟩:=hc
  have ⟨F,b,ents,cl,ev,_,g1,_,g3⟩:=z8w qx
  have ⟨kv,hkv⟩:=mt.key vk c2
  have hkd : a.eval k = kv:=by
   refine z8C (S:=S) ?_ hkv
   cases vk <;> first | exact qk | (simp only [z2e,z5i,Option.map_none] at hkv; cases hkv)
  have ⟨v,r1,r2⟩:=zd7 mt g1 g3 c3 c2 hkv two
  have ⟨Fp',hs⟩:=wI h e4 (x:=.d _) r2
  exact zl (by simp [execOp,ho,ev,hkd,r1]) hs
 ·cases e4
def zee (es : List (A × A)) (k v : A) : List (A × A) :=
 match VG k es 0 with
 | some (j,_) => es.set j (k,v)
 | none => es ++ [(k,v)]
def zgv (es : List (A × A)) (ok : A → Bool) (x k v : Operand) : SM Unit:=do
 let tx ← opnd x
 match tx with
 | .als r [] er ec => do
  let e ← rdE r
  let tk ← opnd k
  let vk ← val tk
  let tv ← opnd v
  let vv ← val tv
  if e.t = .own (.opq (z10 es)) ∧ e.er = er ∧ ok vk = true ∧ vv.isD = true ∧ ∀ p ∈ es,ok p.1 = true then
   wrE r ⟨.own (.opq (z10 (zee es vk vv))),e.er,e.ec + 1⟩
  else zk
 | _ => zk
theorem z86 : ∀ {es : List (A × A)} {ents : List MapEntry} {j : Nat} {p : A × A} {f : MapEntry → MapEntry},z19 S es ents → (∀ e,ents[j]? = some e → z2e p.1 = some (f e).key ∧ ud S p.2 (f e).val) → z19 S (es.set j p) (ents.modify j f)
 | [],[],j,p,f,_,_ => by simp [List.set_nil,List.modify_nil]; exact trivial
 | q :: es,e :: ents,0,p,f,h,hf => by
  have:=hf e (by simp)
  simp [List.set_cons_zero,List.modify_zero_cons]
  exact ⟨this,h.2⟩
 | q :: es,e :: ents,j + 1,p,f,h,hf => by
  simp [List.set_cons_succ,List.modify_succ_cons]
  exact ⟨h.1,z86 h.2 (fun e' he' => hf e' (by simpa using he'))⟩
 | [],_ :: _,_,_,_,h,_ => h.elim
 | _ :: _,[],_,_,_,h,_ => h.elim
theorem z9H (mt : zdY P t kt et ok z) (h : Sim C S Fp [] st a w)   {x k v : Operand} (ho : o.op = .mapUpdate t x k v ∨ o.op = .insert t x k v) (hd : o.dst = none)    (e : zgv es ok x k v st = some (u,R,U)) : qo P C o a w (za U st):=by
 unfold zgv at e
 have ⟨tx,_,hx,e1⟩:=bR (zD h) e
 split at e1
 ·rename_i r er ec
  have ⟨_,e2⟩:=bD e1
  have ⟨tk,_,hk,e3⟩:=bR (zD h) e2
  have ⟨vk,_,qk,e4⟩:=bR (qe h hk) e3
  have ⟨tv,_,hv,e5⟩:=bR (zD h) e4
  have ⟨vv,_,qv,e6⟩:=bR (qe h hv) e5
  split at e6
  ·rename_i hc
   have ⟨c1,c2,c3,c4,c5⟩:=hc
   cases e6
   have hr:=h.ent r
   unfold yx at hr
   simp only [c1] at hr
   have ⟨cs,k1,k2,k3⟩:=hr
   simp only [zz] at k1
   obtain ⟨v0,rfl,b,ents,cl,rfl,hF,g1,g2,g3⟩:=k1
   have hev : a.eval x = .map (some b):=by
    have:=hx.2.2
    simp only [c1] at this
    rcases this c2 (.inl trivial) with ⟨_,q⟩ | ⟨q,_⟩
    ·rw [q,k3]; rfl
    ·simp [Qn] at q
   have ⟨kv,hkv⟩:=mt.key vk c3
   have hkd : a.eval k = kv:=by
    refine z8C (S:=S) ?_ hkv
    cases vk <;> first | exact qk | (simp only [z2e,z5i,Option.map_none] at hkv; cases hkv)
   have hvd : ud S vv (a.eval v):=qv.rep1 c4
   have hf:=mt.find vk kv c3 hkv ents.toList es c5 (WI.mono (fun _ _ q => q.1) g3) w
   have hck:=mt.check vk kv false w c3 hkv
   have hget : (getObj b).run P w = .ok (.map ents cl) w:=by simp [getObj,Sem.run,g1]
   have hset : ∀ o',(setObj b o').run P w = .ok () (w.putObj b o'):=by intro o'; simp [setObj,Sem.run,g1,World.putObj]
   have hbM : C.M b:=h.base r b (by rw [hF]; simp)
   have hoth : ∀ k o',k ≠ b → (w.putObj b o').heap[k]? = w.heap[k]?:=fun k o' hk => World.putObj_heap_other hk
   have hlt : b < w.heap.size:=(Array.getElem?_eq_some_iff.1 g1).1
   have fin : ∀ ents' cl' es',z19 S es' ents'.toList → ∃ Fp',Sim C S Fp' [] (upd st r ⟨.own (.opq (z10 es')),(st r).er,(st r).ec + 1⟩) a (w.putObj b (.map ents' cl')):=by
    intro ents' cl' es' he'
    refine ⟨_,h.change r (.own (.opq (z10 es'))) _ _ [b] ?_ (fun _ _ _ q => q) ?_ h.sbase ?_ ⟨⟨[.map (some b)],?_,by simp,k3⟩,_,c1⟩ (.inl ⟨_,c1⟩) (Nat.le_refl _) (Nat.lt_succ_self _) ?_ ?_ (by simp) (by simp) (by simp) (by simp)⟩
    ·exact h.below.trans ⟨rfl,rfl,rfl,Nat.le_refl _,by simp [World.putObj],fun k hk => hoth k _ (by rintro rfl; exact hk hbM)⟩
    ·intro b' o' v' hs
     have:=h.still b' o' v' hs
     unfold zR at this ⊢
     rw [hoth b' _ (by rintro rfl; rw [g2] at hs; cases hs)]
     exact this
    ·intro t' k' ht' hk'
     exact ⟨hoth k' _ (by rintro rfl; exact ht' (h.disj t' r _ hk' (by rw [hF]; simp))),(h.free t' k' hk').2.1⟩
    ·simp only [zz]
     exact ⟨_,rfl,b,ents',cl',rfl,rfl,World.putObj_heap_same hlt,g2,he'⟩
    ·intro t' k' ht' hk' hk2
     simp only [List.mem_cons,List.not_mem_nil,or_false] at hk'
     subst hk'
     exact ht' (h.disj t' r _ hk2 (by rw [hF]; simp))
    ·intro k' hk'
     simp only [List.mem_cons,List.not_mem_nil,or_false] at hk'
     subst hk'
     exact hbM
   have run : (Instr.mapUpdate t (.map (some b)) kv (a.eval v)).run P w = (do
     match z0a kv ents.toList 0 with
     | some (i,_) => do
      let key ← Instr.keyThatStays (((ents[i]?).map (·.key)).getD kv) kv
      setObj b (.map (ents.modify i fun e => { e with key,val:=a.eval v }) cl)
     | none => setObj b (.map (ents.push { key:=kv,val:=a.eval v,born:=cl }) (cl + 1)) : Sem Unit).run P w:=by
    unfold Instr.mapUpdate
    rw [Sem.run_bind,run_underlying mt.und,Result.andThen_ok]
    simp only [Sem.run_bind,hget,Result.andThen_ok,hck,hf]
    cases z0a kv ents.toList 0 <;> rfl
   simp only [za]
   have good : ∀ w',(Instr.mapUpdate t (.map (some b)) kv (a.eval v)).run P w = .ok () w' → ∀ es' Fp',Sim C S Fp' [] (upd st r ⟨.own (.opq (z10 es')),(st r).er,(st r).ec + 1⟩) a w' → qo P C o a w (upd st r ⟨.own (.opq (z10 es')),(st r).er,(st r).ec + 1⟩):=by
    intro w' hw es' Fp' hs
    refine z6K (w':=w') ?_ hd hs
    rcases ho with ho | ho <;> simp [execOp,ho,hev,hkd,hw]
   rcases z5m hkv (i:=0) g3 with ⟨q1,q2⟩ | ⟨j,y,v',q1,q2,q3,q4,q5,q6⟩
   ·have he' : z19 S (zee es vk vv) (ents.push { key:=kv,val:=a.eval v,born:=cl }).toList:=by
     simp only [zee,q1,Array.toList_push]
     exact z5z g3 ⟨⟨hkv,hvd⟩,trivial⟩
    have ⟨Fp',hs⟩:=fin _ (cl + 1) _ he'
    exact good _ (by rw [run,q2]; exact hset _) _ _ hs
   ·have hkey : (ents[j]?).map (·.key) = some kv:=by
     simp only [Nat.sub_zero] at q6
     rw [← Array.getElem?_toList]; exact q6
    have he' : z19 S (zee es vk vv) (ents.modify j fun e => { e with key:=kv,val:=a.eval v }).toList:=by
     simp only [zee,q1]
     rw [Array.toList_modify]
     exact z86 g3 fun _ _ => ⟨hkv,hvd⟩
    have ⟨Fp',hs⟩:=fin _ cl _ he'
    refine good _ ?_ _ _ hs
    rw [run,q2]
    simp only [hkey,Option.getD_some,Instr.keyThatStays,mt.bits vk kv c3 hkv,if_true,Sem.run_bind,Sem.run_pure,Result.andThen_ok,hset]
  ·cases e6
 ·cases e1
end
variable {x : Operand}
section
variable {P : Program} {C : Ctx} {S : zb} {Fp : Nat → List Nat} {X : List Nat} {st : St} {a : Act} {w : World} {t kt et : Nat} {ok : A → Bool} {z : A}
def zaA (n : Fr) (dst : Option Nat) : SM Unit:=wrT n dst (.own (.opq (z10 [])))
theorem zaz (h : Sim C S Fp [] st a w)  (ho : o.op = .makeMap t none)    (e : zaA C.n o.dst st = some (u,R,U)) : qo P C o a w (za U st):=by
 have h2:=h.alloc (by simp) (.map #[] 0)
 have hc : zz S (w.alloc (.map #[] 0)).heap (.opq (z10 [])) [.map (some w.heap.size)] [w.heap.size]:=by
  simp only [zz]
  exact ⟨_,rfl,w.heap.size,#[],0,rfl,rfl,heap_alloc_new w _,fun o => h.free_new (Nat.le_refl _) o,trivial⟩
 have ⟨Fp'',hs⟩:=Ql (F:=[w.heap.size]) (X:=[]) h2 e hc (by simp)
 refine zl (v:=.map (some w.heap.size)) ?_ hs
 simp [execOp,ho,Instr.makeMap]
def zd4 (n : Fr) (dst : Option Nat) (es : List (A × A)) (x : Operand) : SM Unit:=do
 let tx ← opnd x
 let y ← peek tx
 if y = .opq (z10 es) then wrT n dst (.d (.atom (.int .i64 (es.length : Nat)))) else zk
theorem zd3 (mt : zdY P t kt et ok z) (h : Sim C S Fp [] st a w)   {x : Operand} (ho : o.op = .call ⟨.builtin .len,⟨[x]⟩,⟨[t]⟩⟩)    (e : zd4 C.n o.dst es x st = some (u,R,U)) : qo P C o a w (za U st):=by
 unfold zd4 at e
 have ⟨tx,_,hx,e1⟩:=bR (zD h) e
 have ⟨y,_,qx,e2⟩:=bR (z01 h hx) e1
 split at e2
 ·rename_i hc
  subst hc
  have ⟨F,b,ents,cl,ev,_,g1,_,g3⟩:=z8w qx
  have hl : es.length = ents.size:=by simpa using z2n g3
  have ⟨Fp',hs⟩:=wI h e2 (x:=.d _) (zo.2 ⟨rfl,rfl⟩)
  refine zl ?_ hs
  have hg : (getObj b).run P w = .ok (.map ents cl) w:=by simp [getObj,Sem.run,g1]
  simp [execOp,ho,resolve,invoke,builtin,Builtin.len_,ev,run_underlying mt.und,hg,goInt,hl]
 ·cases e2
end
def zen (n : Fr) (dst : Option Nat) (es : List (A × A)) (ok : A → Bool) (z : A) (x k : Operand) (two : Bool) : HM Unit :=
 zU (opnd x) >>= fun tx => z7w tx >>= fun y => zU (opnd k) >>= fun tk => z2D tk >>= fun vk =>
 WZ (y = .opq (z10 es) ∧ ok vk = true ∧ ∀ p ∈ es,ok p.1 = true) (eqA (match VG vk es 0 with
   | some (_,v) => if two = true then .tup [v,.atom (.bool true)] else v
   | none => if two = true then .tup [z,.atom (.bool false)] else z) >>= fun r => zU (wrT n dst (.d r)))
theorem zfk (n : Fr) (dst : Option Nat) (es : List (A × A)) (ok : A → Bool) (z : A) (x k : Operand) (two : Bool) : Snd (zd9 n dst es ok z x k two) (zen n dst es ok z x k two) :=
 z9 (zf _) fun _ => z9 (z4j _) fun _ => z9 (zf _) fun _ => z9 (XU _) fun _ => Y9 (KI (zN _ fun r => wrT n dst (.d r)).symm (z9 (z7o _) fun _ => zf _))
def ziu (es es' : List (A × A)) (ok : A → Bool) (x k v : Operand) : HM Unit:=zU (opnd x) >>= fun tx =>
 match tx with
 | .als r [] er ec => zU (rdE r) >>= fun e => zU (opnd k) >>= fun tk => z2D tk >>= fun vk => zU (opnd v) >>= fun tv => z2D tv >>= fun vv =>
  WZ (e.t = .own (.opq (z10 es)) ∧ e.er = er ∧ ok vk = true ∧ vv.isD = true ∧ ∀ p ∈ es,ok p.1 = true) (WZ (zee es vk vv = es') (zU (wrE r ⟨.own (.opq (z10 es')),e.er,e.ec + 1⟩)))
 | _ => zE
theorem ze8 (es es' : List (A × A)) (ok : A → Bool) (x k v : Operand) : Snd (zgv es ok x k v) (ziu es es' ok x k v):=by
 refine z9 (zf _) fun tx => ?_
 cases tx with
 | als r p er ec =>
  cases p with
  | nil =>
   refine z9 (zf _) fun e => z9 (zf _) fun tk => z9 (XU _) fun vk => z9 (zf _) fun tv => z9 (XU _) fun vv => Y9 ?_
   exact z58 fun hq => by rw [hq]; exact zf _
  | cons _ _ => exact zj _
 | _ => exact zj _
def zhG (n : Fr) (dst : Option Nat) (es : List (A × A)) (x : Operand) : HM Unit:=zU (opnd x) >>= fun tx => z7w tx >>= fun y => WZ (y = .opq (z10 es)) (eqA (.atom (.int .i64 (es.length : Nat))) >>= fun r => zU (wrT n dst (.d r)))
theorem zhr (n : Fr) (dst : Option Nat) (es : List (A × A)) (x : Operand) : Snd (zd4 n dst es x) (zhG n dst es x) :=
 z9 (zf _) fun _ => z9 (z4j _) fun _ => Y9 (KI (zN _ fun r => wrT n dst (.d r)).symm (z9 (z7o _) fun _ => zf _))
def zir (P : Program) (d : Nat) : XH P:={
 e:=fun n o => match o.op with | .makeMap _ none => if o.dst = some d then some (zaA n o.dst) else none | _ => none
 h:=fun n o => match o.op with | .makeMap _ none => if o.dst = some d then some (zU (zaA n o.dst)) else none | _ => none
 ok:=by
  refine ⟨?_,?_⟩
  ·intro C S Fp st a w o m u R U e h h2
   dsimp only at e
   split at e
   ·rename_i ho
    split at e
    ·cases e; exact zaz h ho h2
    ·cases e
   ·cases e
  ·intro n o m e
   dsimp only at e
   split at e
   ·split at e
    ·cases e; exact fun st st' a R U => Loc.wrT _ _ _ st st' a R U
    ·cases e
   ·cases e
 none:=by
  intro n o e
  skip
  split at e
  ·split at e
   ·cases e
   ·rename_i hd; rw [if_neg hd]
  ·rfl
 some:=by
  intro n o m e
  skip
  split at e
  ·split at e
   ·rename_i hd; cases e; exact ⟨_,by rw [if_pos hd],zf _⟩
   ·cases e
  ·cases e }
variable {z : A}
def zey {t kt et : Nat} {ok : A → Bool}  (mt : zdY P t kt et ok z) (d : Nat) (es : List (A × A)) : XH P:={
 e:=fun n o => match o.op with | .lookup t' x k two => if o.dst = some d ∧ t' = t then some (zd9 n o.dst es ok z x k two) else none | _ => none
 h:=fun n o => match o.op with | .lookup t' x k two => if o.dst = some d ∧ t' = t then some (zen n o.dst es ok z x k two) else none | _ => none
 ok:=by
  refine ⟨?_,?_⟩
  ·intro C S Fp st a w o m u R U e h h2
   dsimp only at e
   split at e
   ·rename_i t' x k two ho
    split at e
    ·rename_i hd
     obtain ⟨_,rfl⟩:=hd
     cases e; exact zd8 mt h ho h2
    ·cases e
   ·cases e
  ·intro n o m e
   dsimp only at e
   split at e
   ·split at e
    ·cases e
     refine Loc.bind (Loc.opnd _) fun _ => Loc.bind (Loc.peek _) fun _ => Loc.bind (Loc.opnd _) fun _ => Loc.bind (Loc.val _) fun _ => Loc.ite (Loc.wrT _ _ _) Loc.fail
    ·cases e
   ·cases e
 none:=by
  intro n o e
  skip
  split at e
  ·split at e
   ·cases e
   ·rename_i hd; rw [if_neg hd]
  ·rfl
 some:=by
  intro n o m e
  skip
  split at e
  ·split at e
   ·rename_i hd; cases e; exact ⟨_,by rw [if_pos hd],zfk _ _ _ _ _ _ _ _⟩
   ·cases e
  ·cases e }
def zis {t kt et : Nat} {ok : A → Bool}  (mt : zdY P t kt et ok z) (d : Nat) (es : List (A × A)) : XH P:={
 e:=fun n o => match o.op with | .call ⟨.builtin .len,⟨[x]⟩,⟨[t']⟩⟩ => if o.dst = some d ∧ t' = t then some (zd4 n o.dst es x) else none | _ => none
 h:=fun n o => match o.op with | .call ⟨.builtin .len,⟨[x]⟩,⟨[t']⟩⟩ => if o.dst = some d ∧ t' = t then some (zhG n o.dst es x) else none | _ => none
 ok:=by
  refine ⟨?_,?_⟩
  ·intro C S Fp st a w o m u R U e h h2
   dsimp only at e
   split at e
   ·rename_i x t' ho
    split at e
    ·rename_i hd
     obtain ⟨_,rfl⟩:=hd
     cases e; exact zd3 mt h ho h2
    ·cases e
   ·cases e
  ·intro n o m e
   dsimp only at e
   split at e
   ·split at e
    ·cases e
     exact Loc.bind (Loc.opnd _) fun _ => Loc.bind (Loc.peek _) fun _ => Loc.ite (Loc.wrT _ _ _) Loc.fail
    ·cases e
   ·cases e
 none:=by
  intro n o e
  skip
  split at e
  ·split at e
   ·cases e
   ·rename_i hd; rw [if_neg hd]
  ·rfl
 some:=by
  intro n o m e
  skip
  split at e
  ·split at e
   ·rename_i hd; cases e; exact ⟨_,by rw [if_pos hd],zhr _ _ _ _⟩
   ·cases e
  ·cases e }
def zkb {t kt et : Nat} {ok : A → Bool}  (mt : zdY P t kt et ok z) (q : Nat) (es es' : List (A × A)) : XH P:={
 e:=fun n o => match o.op with
  | .mapUpdate t' (.tmp x) k v => if x = q ∧ t' = t ∧ o.dst = none then some (zgv es ok (.tmp x) k v) else none
  | .insert t' (.tmp x) k v => if x = q ∧ t' = t ∧ o.dst = none then some (zgv es ok (.tmp x) k v) else none
  | _ => none
 h:=fun n o => match o.op with
  | .mapUpdate t' (.tmp x) k v => if x = q ∧ t' = t ∧ o.dst = none then some (ziu es es' ok (.tmp x) k v) else none
  | .insert t' (.tmp x) k v => if x = q ∧ t' = t ∧ o.dst = none then some (ziu es es' ok (.tmp x) k v) else none
  | _ => none
 ok:=by
  have loc : ∀ x k v,Loc (zgv es ok x k v):=by
   intro x k v
   refine Loc.bind (Loc.opnd _) fun tx => ?_
   split
   ·exact Loc.bind (Loc.rdE _) fun _ => Loc.bind (Loc.opnd _) fun _ => Loc.bind (Loc.val _) fun _ => Loc.bind (Loc.opnd _) fun _ => Loc.bind (Loc.val _) fun _ => Loc.ite (Loc.wrE _ _) Loc.fail
   ·exact Loc.fail
  refine ⟨?_,?_⟩
  ·intro C S Fp st a w o m u R U e h h2
   dsimp only at e
   split at e
   ·rename_i t' x k v ho
    split at e
    ·rename_i hd
     obtain ⟨_,rfl,hd⟩:=hd
     cases e; exact z9H mt h (.inl ho) hd h2
    ·cases e
   ·rename_i t' x k v ho
    split at e
    ·rename_i hd
     obtain ⟨_,rfl,hd⟩:=hd
     cases e; exact z9H mt h (.inr ho) hd h2
    ·cases e
   ·cases e
  ·intro n o m e
   dsimp only at e
   split at e
   ·split at e
    ·cases e; exact loc _ _ _
    ·cases e
   ·split at e
    ·cases e; exact loc _ _ _
    ·cases e
   ·cases e
 none:=by
  intro n o e
  skip
  split at e
  ·split at e
   ·cases e
   ·rename_i hd; rw [if_neg hd]
  ·split at e
   ·cases e
   ·rename_i hd; rw [if_neg hd]
  ·rfl
 some:=by
  intro n o m e
  skip
  split at e
  ·split at e
   ·rename_i hd; cases e; exact ⟨_,by rw [if_pos hd],ze8 _ _ _ _ _ _⟩
   ·cases e
  ·split at e
   ·rename_i hd; cases e; exact ⟨_,by rw [if_pos hd],ze8 _ _ _ _ _ _⟩
   ·cases e
  ·cases e }
variable {K V : Type}
def z0Z [BEq K] : List (K × V) → K → Option V
 | [],_ => none
 | p :: l,x => if p.1 == x then some p.2 else z0Z l x
def z9i [BEq K] : List (K × V) → K → V → List (K × V)
 | [],x,v => [(x,v)]
 | p :: l,x,v => if p.1 == x then (x,v) :: l else p :: z9i l x v
class zk7 {K : Type} [BEq K] (f : K → A) : Prop where
 eq : ∀ x y,(z2e (f x) = z2e (f y)) ↔ (x == y) = true
def Vd (f : K → A) (g : V → A) (l : List (K × V)) : List (A × A):=l.map fun p => (f p.1,g p.2)
theorem z8L {f : K → A} {g : V → A} (x : K) : ∀ (l : List (K × V)) (i j : Nat) (y : A),VG (f x) (Vd f g l) i = some (j,y) → i ≤ j
 | [],_,_,_,e => by cases e
 | p :: l,i,j,y,e => by
  simp [Vd,List.map_cons,VG] at e
  split at e
  ·cases e; exact Nat.le_refl _
  ·exact Nat.le_of_succ_le (z8L x l (i + 1) j y e)
section
variable {K V : Type} [BEq K] {f : K → A} {g : V → A} [hk : zk7 f]
theorem z5n (x : K) : ∀ (l : List (K × V)) (i : Nat),(VG (f x) (Vd f g l) i).map (·.2) = (z0Z l x).map g
 | [],_ => rfl
 | p :: l,i => by
  simp [Vd,List.map_cons,VG,z0Z]
  by_cases h : (p.1 == x) = true
  ·rw [if_pos ((hk.eq _ _).2 h),if_pos h]; rfl
  ·rw [if_neg (fun q => h ((hk.eq _ _).1 q)),if_neg h]; exact z5n x l (i + 1)
theorem zai (x : K) (v : V) : ∀ (l : List (K × V)) (i : Nat),(match VG (f x) (Vd f g l) i with | some (j,_) => (Vd f g l).set (j - i) (f x,g v) | none => Vd f g l ++ [(f x,g v)]) = Vd f g (z9i l x v)
 | [],_ => rfl
 | p :: l,i => by
  simp [Vd,List.map_cons,VG,z9i]
  by_cases h : (p.1 == x) = true
  ·rw [if_pos ((hk.eq _ _).2 h),if_pos h]
   simp
  ·rw [if_neg (fun q => h ((hk.eq _ _).1 q)),if_neg h]
   have ih:=zai x v l (i + 1)
   simp [List.map_cons]
   simp [Vd] at ih
   cases hf : VG (f x) (l.map fun p => (f p.1,g p.2)) (i + 1) with
   | none =>
    simp [hf] at ih ⊢
    simp [ih]
   | some q =>
    have ⟨j,y⟩:=q
    have hle:=z8L (f:=f) (g:=g) x l (i + 1) j y hf
    simp [hf] at ih ⊢
    rw [show j - i = (j - (i + 1)) + 1 by omega,List.set_cons_succ,ih]
theorem zfy (x : K) (v : V) (l : List (K × V)) : zee (Vd f g l) (f x) (g v) = Vd f g (z9i l x v):=by
 have:=zai (f:=f) (g:=g) x v l 0
 simpa only [Nat.sub_zero,zee] using this
theorem zkz {z0 : V}  (hz : g z0 = z) (x : K) (l : List (K × V)) : (match VG (f x) (Vd f g l) 0 with
      | some (_,v) => if false = true then A.tup [v,.atom (.bool true)] else v
      | none => if false = true then A.tup [z,.atom (.bool false)] else z) = g ((z0Z l x).getD z0):=by
  have:=z5n (f:=f) (g:=g) x l 0
  cases hf : VG (f x) (Vd f g l) 0 with
  | none => rw [hf] at this; cases hm : z0Z l x with | none => simp [hz] | some y => simp [hm] at this
  | some q => have ⟨j,y⟩:=q; rw [hf] at this; cases hm : z0Z l x with | none => simp [hm] at this | some y' => simp [hm] at this; simp [this]
theorem zky {z0 : V}  (hz : g z0 = z) (x : K) (l : List (K × V)) : (match VG (f x) (Vd f g l) 0 with
      | some (_,v) => if true = true then A.tup [v,.atom (.bool true)] else v
      | none => if true = true then A.tup [z,.atom (.bool false)] else z) = .tup [g ((z0Z l x).getD z0),.atom (.bool (z0Z l x).isSome)]:=by
  have:=z5n (f:=f) (g:=g) x l 0
  cases hf : VG (f x) (Vd f g l) 0 with
  | none => rw [hf] at this; cases hm : z0Z l x with | none => simp [hz] | some y => simp [hm] at this
  | some q => have ⟨j,y⟩:=q; rw [hf] at this; cases hm : z0Z l x with | none => simp [hm] at this | some y' => simp [hm] at this; simp [this]
end
theorem zb2 {f : K → A} {g : V → A} {ok : A → Bool} (h : ∀ x,ok (f x) = true) (l : List (K × V)) : ∀ p ∈ Vd f g l,ok p.1 = true:=by
 intro p hp
 obtain ⟨q,_,rfl⟩:=List.mem_map.1 hp
 exact h _
theorem zg2 (f : K → A) (g : V → A) (l : List (K × V)) : A.atom (.int .i64 (((Vd f g l).length : Nat) : Int)) = .atom (.int .i64 ((l.length : Nat) : Int)):=by simp [Vd]
def zaW : List IntKind → List Value → Bool
 | [],[] => true
 | k :: ks,.int k' _ :: vs => k' == k && zaW ks vs
 | _,_ => false
def z33 (ks : List IntKind) : A → Bool
 | .agg fs => match z5i.keyLs fs with | some l => zaW ks l | none => false
 | _ => false
variable {ks : List IntKind}
theorem WX {a : A} (h : z33 ks a = true) : ∃ l,z5i a = some l ∧ zaW ks l = true ∧ z2e a = some (.agg l.toArray):=by
 unfold z33 at h
 split at h
 ·rename_i fs
  cases e : z5i.keyLs fs with
  | none => simp [e] at h
  | some l =>
   simp [e] at h
   exact ⟨l,by simp [z5i,e],h,by simp [z2e,z5i,e,Option.map_some,zT]⟩
 ·cases h
theorem z2g : ∀ {ks : List IntKind} {l : List Value},zaW ks l = true → l.length = ks.length
 | [],[],_ => rfl
 | k :: ks,v :: l,h => by
  cases v <;> simp only [zaW] at h <;> first | (cases h; done) | skip
  simp only [Bool.and_eq_true] at h
  simp [z2g h.2]
 | [],_ :: _,h => by cases h
 | _ :: _,[],h => by cases h
theorem zaV : ∀ {ks : List IntKind} {l m : List Value},zaW ks l = true → zaW ks m = true → ∃ r,ym l m = some r ∧ (r = true ↔ m = l)
 | [],[],[],_,_ => ⟨true,rfl,by simp⟩
 | k :: ks,v :: l,u :: m,h1,h2 => by
  cases v <;> simp only [zaW] at h1 <;> first | (cases h1; done) | skip
  cases u <;> simp only [zaW] at h2 <;> first | (cases h2; done) | skip
  simp only [Bool.and_eq_true,beq_iff_eq] at h1 h2
  obtain ⟨rfl,h1⟩:=h1
  obtain ⟨rfl,h2⟩:=h2
  have ⟨r,q1,q2⟩:=zaV h1 h2
  rename_i a _ b
  refine ⟨(a == b) && r,by simp [ym,q1],?_⟩
  simp only [Bool.and_eq_true,beq_iff_eq,List.cons.injEq,Value.int.injEq,true_and,q2]
  constructor
  ·rintro ⟨rfl,rfl⟩; exact ⟨rfl,rfl⟩
  ·rintro ⟨rfl,rfl⟩; exact ⟨rfl,rfl⟩
 | [],_ :: _,_,h,_ => by cases h
 | [],[],_ :: _,_,h => by cases h
 | _ :: _,[],_,h,_ => by cases h
 | _ :: _,_ :: _,[],_,h => by cases h
section
variable {P : Program} {t kt et : Nat} {z : A}
theorem zd2 {i : Go.Ex.EI} (hu : P.underlying t = some (.map kt et)) (d : TypeDesc) (hk : P.underlying kt = some d) (hx : Go.Ex.zbP P kt i) (he : zbP P kt ks.length) (hn : i.size = ks.length) (hz : ∃ zv,(∀ w,(zeroValue et).run P w = .ok zv w) ∧ ∀ S,ud S z zv) (zd : z.isD = true) : zdY P t kt et (z33 ks) z:={
 und:=hu
 zero:=hz
 zd:=zd
 key:=fun a h => by have ⟨l,_,_,h3⟩:=WX h; exact ⟨_,h3⟩
 check:=fun a kv e w h hv => by
  have ⟨l,_,h2,h3⟩:=WX h
  rw [h3] at hv
  cases hv
  exact hx.key l e w (by rw [hn]; exact z2g h2)
 bits:=fun a kv h hv => by
  have ⟨l,_,h2,h3⟩:=WX h
  rw [h3] at hv
  cases hv
  have : ∀ {ks : List IntKind} {l : List Value},zaW ks l = true → (l.zip l).all (fun (x,y) => Instr.sameBits 9999 x y) = true:=by
   intro ks
   induction ks with
   | nil => intro l h; cases l <;> first | rfl | cases h
   | cons k ks ih =>
    intro l h
    cases l with
    | nil => rfl
    | cons v l =>
     cases v <;> simp only [zaW] at h <;> first | (cases h; done) | skip
     simp only [Bool.and_eq_true] at h
     simp only [List.zip_cons_cons,List.all_cons,Bool.and_eq_true]
     exact ⟨by simp [Instr.sameBits],ih h.2⟩
  simp only [Instr.sameBits,beq_self_eq_true,Bool.true_and]
  exact this h2
 find:=fun a kv h hv ents es hes hall w => by
  have ⟨l,_,h2,h3⟩:=WX h
  rw [h3] at hv
  cases hv
  have gen : ∀ (ents : List MapEntry) (es : List (A × A)) (i : Nat),(∀ p ∈ es,z33 ks p.1 = true) → WI (fun p (e : MapEntry) => z2e p.1 = some e.key) es ents → (Instr.findAsking kt (.agg l.toArray) ents i).run P w = .ok (z0a (.agg l.toArray) ents i) w:=by
   intro ents
   induction ents with
   | nil => intro es i _ _; simp [Instr.findAsking,z0a]
   | cons e ents ih =>
    intro es i h1 h2'
    cases es with
    | nil => exact h2'.elim
    | cons p es =>
     have ⟨m,_,g2,g3⟩:=WX (h1 p (by simp))
     have hk2 : e.key = .agg m.toArray:=by
      have : z2e p.1 = some e.key:=h2'.1
      rw [g3] at this
      exact (Option.some.inj this).symm
     have ⟨r,r1,r2⟩:=zaV h2 g2
     have hrun:=he.run l m r w (z2g h2) (z2g g2) r1
     simp only [Instr.findAsking,z0a,Sem.run_bind,show (Op.equal kt (Value.agg l.toArray) e.key).run P w = .ok r w by rw [hk2]; exact hrun,Result.andThen_ok]
     by_cases hlm : m = l
     ·have hr:=r2.2 hlm
      subst hlm
      rw [hr]; simp [hk2]
     ·have hr : r = false:=by
       cases r
       ·rfl
       ·exact absurd (r2.1 rfl) hlm
      have hne : ¬ e.key = Value.agg l.toArray:=by rw [hk2]; intro q; exact hlm (by simpa using q)
      simp only [hr,Bool.false_eq_true,if_false,if_neg hne]
      exact ih es (i + 1) (fun p hp => h1 p (by simp [hp])) h2'.2
  cases ents with
  | nil => simp [Instr.findKey,run_underlying hk,Instr.findNow,z0a]
  | cons e ents =>
   have hn : Instr.findNow d (.agg l.toArray) (e :: ents) 0 = none:=by
    simp only [Instr.findNow]
    cases d <;> rfl
   simp only [Instr.findKey,Sem.run_bind,run_underlying hk,Result.andThen_ok,hn]
   exact gen (e :: ents) es 0 hes hall }
end
theorem zbQ {f : TypeInfo}  (h : P.info? t = some f) (hz : f.zero = some v) (w : World) : (zeroValue t).run P w = .ok v w:=by simp [zeroValue,typeInfo,h,hz]
def zdZ (P : Program) (f : A)  (enc : β → Bool → Value → List A) (F : ∀ {σ : Type},(σ → β → Option (σ × Bool)) → σ → Option σ) : Prop :=
 ∀ (σ : Type) (yv : Value) (Y : σ → Qt) (y : σ → β → Option (σ × Bool)),(∀ s x s' b,y s x = some (s',b) → ∀ v,xx P (.atom yv) (enc x b v) [(yv,.opq (Y s).q)] (.atom (.bool b)) [.opq (Y s').q]) →
  ∀ s s',F y s = some s' → xx P f [.atom yv] [(yv,.opq (Y s).q)] (.tup []) [.opq (Y s').q]
def YOk (P : Program) (yv : Value) {σ β : Type} (Y : σ → Qt) (enc : β → Bool → Value → List A) (y : σ → β → Option (σ × Bool)) : Prop :=
 ∀ s x s' b,y s x = some (s',b) → ∀ v,xx P (.atom yv) (enc x b v) [(yv,.opq (Y s).q)] (.atom (.bool b)) [.opq (Y s').q]
def yOf {σ τ β : Type} (step : σ → β → Option (LR σ τ)) : LR σ τ → β → Option (LR σ τ × Bool)
 | .next s,x => match step s x with | some (.next s') => some (.next s',true) | some (.done t) => some (.done t,false) | none => none
 | .done _,_ => none
def zgB : LR σ τ → Bool
 | .next _ => true
 | .done _ => false
variable {b : Bool}
theorem z4K {σ τ β : Type} {step : σ → β → Option (LR σ τ)} {l l' : LR σ τ} {x : β}  (h : yOf step l x = some (l',b)) : ∃ s,l = .next s ∧ step s x = some l' ∧ b = zgB l':=by
 cases l with
 | done t => cases h
 | next s =>
  simp [yOf] at h
  cases hs : step s x with
  | none => simp [hs] at h
  | some r =>
   cases r with
   | _ => simp [hs,Option.some.injEq,Prod.mk.injEq] at h; obtain ⟨rfl,rfl⟩:=h; exact ⟨s,rfl,hs,rfl⟩
variable {caps : List A}{ps : List Nat}{g : Operand}
section
variable {σ τ β : Type}
def z2G (stF : σ → St) (stD : τ → St) : LR σ τ → St
 | .next s => stF s
 | .done t => stD t
def z9k (jc : τ → Code) : LR σ τ → Option Code
 | .next _ => none
 | .done t => some (jc t)
def WV (rec : Loop) (jc : τ → Code) (l : LR σ τ) : Loop:={ rec with state:=if (z9k jc l).isNone then .ready else .done,pending:=z9k jc l }
theorem AWP.iterG {P : Program} {n : Fr} {st : St} {Q : Exit → St → Prop} {g : Operand} {ps : List Nat} {assign body : Code} {K : Nat} {caps : List A} (live : List Nat) (stF : σ → St) (stD : τ → St) (jc : τ → Code) (enc : β → Bool → Value → List A)
  (step : σ → β → Option (LR σ τ)) (s0 : σ) (lr : LR σ τ)
  (hg : zih st g = some (.fn K caps)) (hnd : live.Nodup) (h0 : Own.canon live st = stF s0)
  (hcan : ∀ l,(∀ t,(z2G stF stD l t).t.plain = true) ∧ ∀ t,t ∉ live → (z2G stF stD l t).t = .gone)
  (hps : ∀ p ∈ ps,p < n.size ∧ p ∉ live ∧ pinned n.pin p = false) (hlen : ∀ x b v,ps.length = (enc x b v).length)
  (hit : ∀ (L : Nat) (rec : Loop) (tv : Nat → Value),YOk P (.func (.yield L) #[] #[]) (fun l => (QL L (WV rec jc l) tv (z2G stF stD l) (hcan l).1 0).single rfl) enc (yOf step) →
   xx P (.fn K caps) [.atom (.func (.yield L) #[] #[])] [(.func (.yield L) #[] #[],.opq (QL L (WV rec jc (LR.next s0 : LR σ τ)) tv (z2G stF stD (.next s0)) (hcan (.next s0)).1 0))] (.tup []) [.opq (QL L (WV rec jc lr) tv (z2G stF stD lr) (hcan lr).1 0)])
  (hround : ∀ (tv : Nat → Value) (s : σ) (x : β) (v : Value) (r : LR σ τ),step s x = some r → AWP P ⟨n.size,live.map (fun t => (t,tv t)) ++ n.pin⟩ assign (z6m (stF s) ps (enc x (zgB r) v)) (fun e st1 => e = .normal ∧ AWP P ⟨n.size,live.map (fun t => (t,tv t)) ++ n.pin⟩ body st1 (fun ex st2 => zaL ex = some (z9k jc r) ∧ Own.canon live st2 = z2G stF stD r)))
  (hend : ziT P n (z2G stF stD lr) Q (z9k jc lr)) : AWP P n (.rangeFunc g ps.toArray assign body) st Q:=by
 intro rd mm df w0 S0 M S Fp a w hc hs
 obtain ⟨us,hev,hreps⟩ : ∃ us : List Value,a.eval g = .func (.func K) #[] us.toArray ∧ ud S (.fn K caps) (a.eval g):=by
  unfold zih at hg
  split at hg
  ·rename_i t
   split at hg
   ·rename_i x ht
    cases hg
    have q:=hs.ent t
    unfold yx at q
    simp [ht] at q
    have q1 : ud S (.fn K caps) (Act.tv a t):=q.1
    have ⟨cs,c1,c2⟩:=q1
    have c1':=c1
    simp [Rep] at c1
    obtain ⟨us,_,_,rfl⟩:=c1
    exact ⟨us,c2,⟨_,c1',c2⟩⟩
   ·cases hg
  ·cases hg
 have ⟨Fp0,hs0,hd0⟩:=hs.canonD (hc.post hs) live
 rw [h0] at hs0
 refine wpIn_rangeFunc ?_
 intro fn hfn
 have ⟨df',wA,dq,en1,en2,en3⟩:=zhP (P:=P) hc hs0 hd0 fn ps.toArray assign body
 generalize (df'.map zgA).take (df'.length - df.length) = mk at en1 en2
 obtain ⟨rec,hrec⟩ : ∃ q : Loop,q = { state:=.ready,pending:=none,fn,tmps:=a.tmps,params:=ps.toArray,assign,body,defers:=dq }:=⟨_,rfl⟩
 rw [← hrec] at en1
 have hs1:=en2.newObj (.loop rec)
 have hl : (wA.alloc (.loop rec)).heap[wA.heap.size]? = some (.loop rec):=World.alloc_heap_new wA _
 have hfr : ∀ t k,k ∈ Fp0 t → k < wA.heap.size:=fun t k hk => (en2.free t k hk).1
 have hlF : ∀ t,wA.heap.size ∉ Fp0 t:=fun t hk => by have:=hfr t _ hk; omega
 have hSl : ∀ o,S wA.heap.size o = none:=by
  intro o
  cases hq : S wA.heap.size o with
  | none => rfl
  | some v => have:=en2.still_lt hq; omega
 have hrec0 : ∀ s,WV rec jc (LR.next s : LR σ τ) = rec:=by intro s; rw [hrec]; rfl
 have hY : ∀ (l : LR σ τ) (x : β) (l' : LR σ τ) (b : Bool),yOf step l x = some (l',b) → ∀ v,xx P (.atom (.func (.yield wA.heap.size) #[] #[])) (enc x b v) [(.func (.yield wA.heap.size) #[] #[],.opq (QL wA.heap.size (WV rec jc l) (XY a.tmps) (z2G stF stD l) (hcan l).1 0))] (.atom (.bool b))
   [.opq (QL wA.heap.size (WV rec jc l') (XY a.tmps) (z2G stF stD l') (hcan l').1 0)]:=by
  intro l x l' b hy v
  obtain ⟨s,rfl,hst,rfl⟩:=z4K hy
  have htm : (WV rec jc (LR.next s : LR σ τ)).tmps = a.tmps:=by rw [hrec0,hrec]
  have hb : zgB l' = (z9k jc l').isNone:=by cases l' <;> rfl
  have r:=zcI (P:=P) (n:=⟨n.size,live.map (fun t => (t,XY a.tmps t)) ++ n.pin⟩) (l:=wA.heap.size) (rec:=WV rec jc (LR.next s : LR σ τ)) (ps:=ps) (ys:=enc x (zgB l') v) (st0:=stF s) (st1:=z2G stF stD l') (i:=0) (i2:=0) (live:=live) (jc:=z9k jc l') (hcan (.next s)).1 (hcan l').1
   (by rw [hrec0,hrec]) (by rw [hrec0,hrec]) (by rw [htm]; exact hs.size)
   (by
    intro j u hj
    rw [htm]
    rcases List.mem_append.1 hj with hj | hj
    ·have ⟨t,ht,he⟩:=List.mem_map.1 hj
     cases he
     rfl
    ·exact hs.pin j u hj)
   (fun t ht => by rw [htm]; exact List.mem_append.2 (.inl (List.mem_map.2 ⟨t,ht,rfl⟩))) hnd
   (fun p hp => by
    have ⟨p1,p2,p3⟩:=hps p hp
    refine ⟨p1,(hcan (.next s)).2 p p2,?_⟩
    have gen : ∀ l : List Nat,p ∉ l → pinned (l.map (fun t => (t,XY a.tmps t)) ++ n.pin) p = false:=by
     intro l
     induction l with
     | nil => intro _; exact p3
     | cons t l ih =>
      intro hl
      simp [List.mem_cons,not_or] at hl
      simp [List.map_cons,List.cons_append,pinned,ih hl.2,Bool.or_false]
      simpa using Ne.symm hl.1
    exact gen live p2) (hlen x _ v)
   (by
    have:=hround (XY a.tmps) s x v l' hst
    rw [hrec0,hrec]
    exact this)
  have e : ({ WV rec jc (LR.next s : LR σ τ) with state:=if (z9k jc l').isNone then .ready else .done,pending:=z9k jc l' } : Loop) = WV rec jc l':=rfl
  rw [e] at r
  simp [htm] at r
  rw [← hb] at r
  exact r
 have hL:=hit wA.heap.size rec (XY a.tmps) hY S (wA.alloc (.loop rec)) (a.eval g) [.func (.yield wA.heap.size) #[] #[]] (wA.heap.size :: live.flatMap Fp0) hs1.still hreps ⟨vp.2 ⟨rfl,rfl⟩,trivial⟩
  ⟨_,[],rfl,QH ⟨rfl,by rw [hrec0]; exact hl,hSl,Fp0,(fun t => hs1.ent t),en2.disj,hlF,(fun k => by
   simp [List.mem_cons,List.mem_flatMap]
   constructor
   ·rintro (rfl | ⟨t,_,ht⟩)
    ·exact .inl rfl
    ·exact .inr ⟨t,ht⟩
   ·rintro (rfl | ⟨t,ht⟩)
    ·exact .inl rfl
    ·refine .inr ⟨t,?_,ht⟩
     apply Classical.byContradiction
     intro hn
     have q:=en2.ent t
     unfold yx at q
     have hg:=(hcan (.next s0)).2 t hn
     simp [z2G] at hg
     simp [hg] at q
     rw [q] at ht
     simp at ht)⟩ (z8t en2 hnd hlF),rfl⟩ (z8t en2 hnd hlF)
 rcases hL with ⟨k,cs,fn',a1,a2,a3,a4,a5⟩ | ⟨L,q,a1,_⟩
 rotate_left
 ·rw [hev] at a1; cases a1
 refine ⟨wA.heap.size,mk,wA.alloc (.loop rec),{ target:=.fn (.func k) cs,args:=#[.func (.yield wA.heap.size) #[] #[]] },wA.alloc (.loop rec),k,#[.func (.yield wA.heap.size) #[] #[]] ++ cs,wA.alloc (.loop rec),en1,?_,fun _ _ => trivial,?_,fun h => (by cases h),?_⟩
 ·simp [resolve,a1]
  simp [go_sem]
 ·simp [invoke]
  exact KX a2 a3 a4 _ _
 ·refine (JR a5 rd (mm - 1)).mono ?_
  rintro e w' ⟨v',rfl,S',F',G,b1,b2,b3,b4,_,b6,_,b8⟩
  have ⟨G1,G2,hGe,b6,hnil⟩:=b6
  have hG2 : G2 = []:=hnil
  subst hG2
  simp [List.nil_append] at hGe
  subst hGe
  have ⟨_,c2,c3,Fp',c4,c5,c6,c7⟩:=Ux b6
  have hnb : (WV rec jc lr).state ≠ .busy:=by
   simp [WV]
   cases lr <;> simp [z9k]
  have hpend : (WV rec jc lr).pending = z9k jc lr:=rfl
  refine ⟨_,_,run_endLoop c2 hnb,?_⟩
  rw [hpend]
  have hMl : M wA.heap.size:=en2.mine _ en2.below.size
  have hMn : ∀ k,((wA.alloc (.loop rec)).heap.size ≤ k ∨ k ∈ wA.heap.size :: live.flatMap Fp0) → M k:=by
   rintro k (hk | hk)
   ·exact hs1.mine k (Nat.le_trans hs1.below.size hk)
   ·rcases List.mem_cons.1 hk with rfl | hk
    ·exact hMl
    ·have ⟨t,_,ht⟩:=List.mem_flatMap.1 hk
     exact en2.base t k ht
  have hout : ∀ t k,k ∈ Fp' t → ((wA.alloc (.loop rec)).heap.size ≤ k ∨ k ∈ wA.heap.size :: live.flatMap Fp0):=fun t k hk => b8 k (List.mem_append.2 (.inl ((c7 k).2 (.inr ⟨t,hk⟩))))
  have hpf : ∀ o,Sim ⟨n,df',w0,S0,M⟩ S' Fp' [] (z2G stF stD lr) { a with defers:=mk ++ a.defers } (w'.putObj wA.heap.size o):=by
   intro o
   refine { size:=hs.size,pin:=hs.pin,defers:=en2.defers,below:=?_,mine:=hs.mine,still:=?_,sinc:=fun b o v q => b2 _ _ _ (en2.sinc _ _ _ q),sbase:=?_,ent:=?_,disj:=c5,base:=fun t k hk => hMn k (hout t k hk),xn:=by simp,xd:=by simp,xb:=by simp }
   ·exact (hs1.below.trans (b1.mono hMn)).trans ⟨rfl,rfl,rfl,Nat.le_refl _,by simp [World.putObj],fun k hk => World.putObj_heap_other (by rintro rfl; exact hk hMl)⟩
   ·refine ⟨?_,b4.gok,b4.blk.of (fun _ _ _ q => q) fun g x e => World.putObj_heap_other (by rintro rfl; exact b4.blk.ne (c3 0) x e)⟩
    intro b i v q
    have hne : b ≠ wA.heap.size:=by rintro rfl; rw [c3] at q; cases q
    have:=b4 b i v q
    unfold zR at this ⊢
    rw [World.putObj_heap_other hne]
    exact this
   ·intro b i hb
    rcases Nat.lt_or_ge b (wA.alloc (.loop rec)).heap.size with hlt | hge
    ·rw [b3 b i hlt (fun hF => hb (hMn b (.inr hF)))]
     exact en2.sbase b i hb
    ·exact absurd (hMn b (.inl hge)) hb
   ·intro t
    exact (c4 t).frame ((hcan lr).1 t) (fun _ _ _ q => q) (fun k hk => ⟨World.putObj_heap_other (by rintro rfl; exact c6 t hk),((c4 t).owns ((hcan lr).1 t) k hk).2⟩)
  have hdp : ∀ o,YI df M df' Fp' (w'.putObj wA.heap.size o):=by
   intro o
   have hlt : ∀ D ∈ df',D < wA.heap.size:=fun D hD => (Array.getElem?_eq_some_iff.1 (en3.ent D hD)).1
   have hno : ∀ D ∈ df',¬ ((wA.alloc (.loop rec)).heap.size ≤ D ∨ D ∈ wA.heap.size :: live.flatMap Fp0):=by
    rintro D hD (q | q)
    ·have:=hlt D hD
     have h3 : (wA.alloc (.loop rec)).heap.size = wA.heap.size + 1:=by simp
     omega
    ·rcases List.mem_cons.1 q with rfl | q
     ·have:=hlt _ hD; omega
     ·have ⟨t,_,ht⟩:=List.mem_flatMap.1 q
      exact en3.off D hD t ht
   refine ⟨en3.nodup,fun D hD => ?_,fun D hD t ht => hno D hD (hout t D ht),en3.old⟩
   rw [World.putObj_heap_other (by have:=hlt D hD; omega),b1.block D (hno D hD),World.alloc_old _ (hlt D hD)]
   exact en3.ent D hD
  cases lr with
  | next s => exact ⟨df',stF s,S',Fp',hpf _,hdp _,hend⟩
  | done t => exact AWP.go hend hc (hpf _) (hdp _)
end
def JL (live : List Nat) (l : List (Nat × T)) : Bool:=l.all fun q => live.contains q.1 && q.2.plain
theorem zat : ∀ (l : List (Nat × T)) (t : Nat),ofL l t = ⟨(ofL l t).t,0,0⟩
 | [],t => rfl
 | p :: l,t => by
  simp [ofL]
  split
  ·rfl
  ·exact zat l t
theorem z2X {live : List Nat} : ∀ {l : List (Nat × T)},JL live l = true → (∀ t,(ofL l t).t.plain = true) ∧ ∀ t,t ∉ live → (ofL l t).t = .gone
 | [],_ => ⟨fun _ => rfl,fun _ _ => rfl⟩
 | p :: l,h => by
  simp only [JL,List.all_cons,Bool.and_eq_true] at h
  obtain ⟨h1,h2⟩:=z2X (l:=l) (by simpa only [JL] using h.2)
  constructor
  ·intro t
   simp only [ofL]
   split
   ·exact h.1.2
   ·exact h1 t
  ·intro t ht
   simp only [ofL]
   split
   ·rename_i e
    subst e
    exact absurd (List.contains_iff_mem.1 h.1.1) ht
   ·exact h2 t ht
variable {l : List (Nat × T)}
theorem z3j {live : List Nat}  (h : JL live l = true) : Own.canon live (ofL l) = ofL l:=by
 have ⟨h1,h2⟩:=z2X h
 funext t
 rw [X5]
 by_cases ht : t ∈ live
 ·rw [if_pos ht]
  have h3:=h1 t
  rw [zat l t]
  unfold zbL
  cases hx : (ofL l t).t with
  | als r p er ec => rw [hx] at h3; cases h3
  | ptr r p er ec => rw [hx] at h3; cases h3
  | _ => rfl
 ·rw [if_neg ht,zat l t,h2 t ht]
  rfl
theorem AWP.weak {Q Q' : Exit → St → Prop} (h : AWP P n c st Q') (hq : ∀ e st,Q' e st → ∃ live l m,Own.canon live st = ofL l ∧ LeL l m ∧ Q e (ofL m)) : AWP P n c st Q:=by
 intro rd mm df w0 S0 M S Fp a w hc hs
 refine wpIn_mono (h rd mm df w0 S0 M S Fp a w hc hs) ?_
 rintro e a' w' ⟨df',st1,S1,Fp1,h1,h2,h3⟩
 have ⟨live,l,m,e1,e2,e3⟩:=hq _ _ h3
 have ⟨Fp2,g1,g2⟩:=Sim.canonD h1 h2 live
 rw [e1] at g1
 exact ⟨df',ofL m,S1,Fp2,e2.or.elim (fun e => e ▸ g1) fun h => g1.le h.ent,g2,e3⟩
def zid : List (Nat × T) → List Nat → List A → List (Nat × T)
 | l,p :: ps,y :: ys => zid ((p,.d y) :: l) ps ys
 | l,_,_ => l
theorem z8s : ∀ (ps : List Nat) (ys : List A) (l : List (Nat × T)),z6m (ofL l) ps ys = ofL (zid l ps ys)
 | [],_,l => by cases l <;> rfl
 | _ :: _,[],l => by cases l <;> rfl
 | p :: ps,y :: ys,l => z8s ps ys ((p,.d y) :: l)
def zjF (n : Fr) (ps live : List Nat) : Bool:=ps.all fun p => decide (p < n.size) && (!live.contains p && !pinned n.pin p)
section
variable {σ τ β : Type}
def zhk (stF : σ → List (Nat × T)) (stD : τ → List (Nat × T)) : LR σ τ → List (Nat × T)
 | .next s => stF s
 | .done t => stD t
def itQ (live : List Nat) (stF : σ → List (Nat × T)) (stD : τ → List (Nat × T)) (jc : τ → Code) (r : LR σ τ) (ex : Exit) (st : St) : Prop :=
 zaL ex = some (z9k jc r) ∧ ∃ l',Own.canon live st = ofL l' ∧ LeL l' (zhk stF stD r)
theorem z8U {P : Program} {n : Fr} {Q : Exit → St → Prop}  {fs : List Fm} {st0 : St}   {assign body : Code} {K : Nat} {caps : List A} (e : c = .rangeFunc g ps.toArray assign body) (live : List Nat) (stF : σ → List (Nat × T)) (stD : τ → List (Nat × T)) (jc : τ → Code) (enc : β → Bool → Value → List A)
  (step : σ → β → Option (LR σ τ)) (s0 : σ) (lr : LR σ τ) (l0 : List (Nat × T)) (hs : Own.canon live st0 = ofL l0) (hl : LeL l0 (stF s0)) (hg : zih (ofL (stF s0)) g = some (.fn K caps)) (hnd : live.Nodup) (hp : ∀ s,JL live (stF s) = true) (hp2 : ∀ t,JL live (stD t) = true)
  (hps : zjF n ps live = true) (hlen : ∀ x b v,ps.length = (enc x b v).length) (hit : ∀ (L : Nat) (rec : Loop) (tv : Nat → Value) (hp : ∀ l t,(z2G (fun s => ofL (stF s)) (fun t => ofL (stD t)) l t).t.plain = true),YOk P (.func (.yield L) #[] #[]) (fun l => (QL L (WV rec jc l) tv (z2G (fun s => ofL (stF s)) (fun t => ofL (stD t)) l) (hp l) 0).single rfl) enc (yOf step) →
   xx P (.fn K caps) [.atom (.func (.yield L) #[] #[])] [(.func (.yield L) #[] #[],.opq (QL L (WV rec jc (LR.next s0 : LR σ τ)) tv (z2G (fun s => ofL (stF s)) (fun t => ofL (stD t)) (.next s0)) (hp (.next s0)) 0))] (.tup []) [.opq (QL L (WV rec jc lr) tv (z2G (fun s => ofL (stF s)) (fun t => ofL (stD t)) lr) (hp lr) 0)])
  (hround : ∀ (tv : Nat → Value) (s : σ) (x : β) (v : Value) (r : LR σ τ),step s x = some r → AWP P ⟨n.size,live.map (fun t => (t,tv t)) ++ n.pin⟩ assign (ofL (zid (stF s) ps (enc x (zgB r) v)))
   (Qf P ⟨n.size,live.map (fun t => (t,tv t)) ++ n.pin⟩ [] (fun e st1 => e = .normal ∧ AWP P ⟨n.size,live.map (fun t => (t,tv t)) ++ n.pin⟩ body st1 (Qf P ⟨n.size,live.map (fun t => (t,tv t)) ++ n.pin⟩ [] (itQ live stF stD jc r)))))
  (hend : ziT P n (ofL (zhk stF stD lr)) (Qf P n fs Q) (z9k jc lr)) : AWP P n c st0 (Qf P n fs Q):=by
 subst e
 refine AWP.canon live ?_
 rw [hs]
 refine zgm hl ?_
 have hst : ∀ l : LR σ τ,z2G (fun s => ofL (stF s)) (fun t => ofL (stD t)) l = ofL (zhk stF stD l):=by intro l; cases l <;> rfl
 have hpl : ∀ l : LR σ τ,JL live (zhk stF stD l) = true:=by
  intro l
  cases l with
  | next s => exact hp s
  | done t => exact hp2 t
 refine AWP.iterG live (fun s => ofL (stF s)) (fun t => ofL (stD t)) jc enc step s0 lr hg hnd (z3j (hp s0)) (fun l => by rw [hst]; exact z2X (hpl l)) ?_ hlen (fun L rec tv hY => hit L rec tv _ hY) ?_ (by rw [hst]; exact hend)
 ·intro p hp
  have:=List.all_eq_true.1 hps p hp
  simp only [Bool.and_eq_true,decide_eq_true_eq,Bool.not_eq_true'] at this
  exact ⟨this.1,fun h => by rw [List.contains_iff_mem.2 h] at this; simp at this,this.2.2⟩
 ·intro tv s x v r hr
  rw [z8s]
  refine AWP.mono (hround tv s x v r hr) ?_
  rintro e st1 ⟨h1,h2⟩
  refine ⟨h1,AWP.weak h2 ?_⟩
  rintro ex st2 ⟨hj,l',q1,q2⟩
  refine ⟨live,l',_,q1,q2,hj,?_⟩
  rw [z3j (hpl r),hst]
theorem zbq {P : Program} {n : Fr} {Q : Exit → St → Prop}  {fs : List Fm} {st0 : St}   {assign body : Code} {K : Nat} {caps : List A} (e : c = .rangeFunc g ps.toArray assign body) (live : List Nat) (stF : σ → List (Nat × T)) (stD : τ → List (Nat × T)) (jc : τ → Code) (enc : β → Bool → Value → List A) {F : ∀ {σ : Type},(σ → β → Option (σ × Bool)) → σ → Option σ}
  (step : σ → β → Option (LR σ τ)) (s0 : σ) (lr : LR σ τ) (l0 : List (Nat × T)) (hs : Own.canon live st0 = ofL l0) (hl : LeL l0 (stF s0)) (hg : zih (ofL (stF s0)) g = some (.fn K caps)) (hnd : live.Nodup) (hp : ∀ s,JL live (stF s) = true) (hp2 : ∀ t,JL live (stD t) = true)
  (hps : zjF n ps live = true) (hlen : ∀ x b v,ps.length = (enc x b v).length) (hit : zdZ P (.fn K caps) enc F) (hF : F (yOf step) (.next s0) = some lr)
  (hround : ∀ (tv : Nat → Value) (s : σ) (x : β) (v : Value) (r : LR σ τ),step s x = some r → AWP P ⟨n.size,live.map (fun t => (t,tv t)) ++ n.pin⟩ assign (ofL (zid (stF s) ps (enc x (zgB r) v)))
   (Qf P ⟨n.size,live.map (fun t => (t,tv t)) ++ n.pin⟩ [] (fun e st1 => e = .normal ∧ AWP P ⟨n.size,live.map (fun t => (t,tv t)) ++ n.pin⟩ body st1 (Qf P ⟨n.size,live.map (fun t => (t,tv t)) ++ n.pin⟩ [] (itQ live stF stD jc r)))))
  (hend : ziT P n (ofL (zhk stF stD lr)) (Qf P n fs Q) (z9k jc lr)) : AWP P n c st0 (Qf P n fs Q) :=
 z8U e live stF stD jc enc step s0 lr l0 hs hl hg hnd hp hp2 hps hlen (fun L rec tv hp hY => hit _ _ _ _ hY _ _ hF) hround hend
end
variable {J : St → Prop}
section
variable {P : Program} {tt : TT} {ctr : Ctr} {n : Fr} {Q : Exit → St → Prop}
theorem zi3 (X : XH P) (hT : wR P tt) (hC : zr P ctr) (hm : P.follows .mixedOrders = true) (live : List Nat) (k : Nat) {c : Code} {fs : List Fm} {st : St} (hs : List H) (ex : Exit) (l' : List (Nat × T)) (obs : List Ob)
  (e : z5E X tt ctr n live k c fs st hs = some (.fin ex,ofL l',obs.map Ob.p)) (h : ∀ st0,canon live st0 = ofL l' → Q ex st0) : AWP P n c st (Qf P n fs Q):=z7R X hT hC hm live k obs e h
theorem JY : ∀ {fs : List Fm} {st : St},unw fs = .stop (.back J) → J st → Qf P n fs Q .normal st
 | [],_,e,_ => by cases e
 | .seq z :: fs,_,e,h => by cases e
 | .blk id :: fs,_,e,h => JY (fs:=fs) (by simpa only [unw] using e) h
 | .pre J :: fs,_,e,h => by
  simp [unw,Nxt.stop.injEq,z9y.back.injEq] at e
  subst e
  exact h
 | .rnd (m + 1) c :: fs,_,e,h => by cases e
 | .rnd 0 _ :: _,_,e,_ => by cases e
theorem zdM {live : List Nat} {st0 : St}  (h0 : canon live st0 = ofL l) (h : AWP P n c (ofL l) Q) : AWP P n c st0 Q:=by
 refine AWP.canon live ?_
 rw [h0]
 exact h
end
variable {yv : Value}{nt : Nat}
theorem z6A {tt : TT}    {nt : Nat} {caps : List A} {yv : Value} {o o' : Qt} (hT : wR P tt) (hf : P.funcs[k]? = some fn) (hnm : (fn.name == "runtime.NumGoroutine") = false) (hb : fn.body = some body)
  (hn : nt = fn.ntmps) (hr : fn.results = #[]) (ha : caps.length + 1 ≤ fn.ntmps)
  (h : ∀ E : Exit → St → Prop,(∀ ex st,(ex = .normal ∨ ex = .ret) → canon [0] st = ofL [(0,.own (.opq o'.q))] → E ex st) →
   AWP P ⟨nt,[(0,yv)]⟩ body (ofL (z73 0 (.opq o.q :: caps))) (Qf P ⟨nt,[(0,yv)]⟩ [] E)) : xx P (.fn k caps) [.atom yv] [(yv,.opq o.q)] (.tup []) [.opq o'.q]:=by
 subst hn
 refine z39 (tt:=tt) (rs:=[]) [0] (args:=[.atom yv]) (caps:=caps) (xs:=[.opq o.q]) (vals:=[yv]) hT hf hnm hb hr (by simpa using ha) (by simp) (by simp) rfl ?_
 rw [z6D]
 refine h _ ?_
 intro ex st hx hc
 refine ⟨hx,?_⟩
 have h0:=congrFun hc 0
 rw [X5] at h0
 simp only [List.mem_singleton,if_true,ofL,Ent.mk.injEq,and_true] at h0
 have h1 : (st 0).t = .own (.opq o'.q):=by
  unfold zbL at h0
  cases hx : (st 0).t with
  | own a => simpa only [hx] using h0
  | d a => simp only [hx] at h0; cases h0
  | gone => simp only [hx] at h0; cases h0
  | _ => simp only [hx] at h0; split at h0 <;> cases h0
 have h2 : z0Y [0] st = some ([.opq o'.q],[0],[]):=by
  simp only [z0Y]
  show SM.bind (rdE 0) _ st = _
  unfold SM.bind
  simp only [rdE,za,h1]
  rfl
 refine ⟨[0],[],?_⟩
 simp only [zhQ,List.map_nil]
 show SM.bind (shutArgs tt []) _ st = _
 unfold SM.bind
 simp only [shutArgs]
 simp only [pure,SM.pure,bind,SM.bind,za,h2]
 rfl
theorem zaN {nt : Nat} {caps : List A}  {enc : β → Bool → Value → List A} {F : ∀ {σ : Type},(σ → β → Option (σ × Bool)) → σ → Option σ} (hT : wR P tt) (hf : P.funcs[k]? = some fn) (hnm : (fn.name == "runtime.NumGoroutine") = false) (hb : fn.body = some body)
  (hn : nt = fn.ntmps) (hr : fn.results = #[]) (ha : caps.length + 1 ≤ fn.ntmps)
  (h : ∀ (σ : Type) (yv : Value) (Y : σ → Qt) (y : σ → β → Option (σ × Bool)),YOk P yv Y enc y → ∀ s s',F y s = some s' → ∀ E : Exit → St → Prop,(∀ ex st,(ex = .normal ∨ ex = .ret) → canon [0] st = ofL [(0,.own (.opq (Y s').q))] → E ex st) →
   AWP P ⟨nt,[(0,yv)]⟩ body (ofL (z73 0 (.opq (Y s).q :: caps))) (Qf P ⟨nt,[(0,yv)]⟩ [] E)) : zdZ P (.fn k caps) enc F:=fun σ yv Y y hy s s' hs => z6A hT hf hnm hb hn hr ha (h σ yv Y y hy s s' hs)
def zcN (tt : TT) (n : Fr) (ty : Nat) (x : T) : HM A :=
 match x with
 | .als r p er ec =>
  match z5e n.pin r with
  | some _ => zU (refT tt n ty (.als r p er ec))
  | none => z4f tt ty (.als r p er ec)
 | x => z4f tt ty x
theorem zho (tt : TT) (n : Fr) (ty : Nat) (x : T) : Snd (refT tt n ty x) (zcN tt n ty x):=by
 cases x with
 | als r p er ec =>
  cases hp : z5e n.pin r with
  | some v => simp [zcN,hp]; exact zf _
  | none => simp [zcN,refT,hp]; exact Uq tt ty (.als r p er ec)
 | d a => exact Uq tt ty (.d a)
 | own a => exact Uq tt ty (.own a)
 | ptr r p er ec => exact Uq tt ty (.ptr r p er ec)
 | gone => exact Uq tt ty .gone
def W4 (tt : TT) (n : Fr) : List (Operand × Nat) → HM (List A)
 | [] => pure []
 | (x,t) :: as_ => zU (opnd x) >>= fun y => zcN tt n t y >>= fun a => W4 tt n as_ >>= fun bs => pure (a :: bs)
theorem Xw (tt : TT) (n : Fr) : ∀ as_,Snd (refArgs tt n as_) (W4 tt n as_)
 | [] => wq _
 | (x,t) :: as_ => z9 (zf _) fun y => z9 (zho _ _ _ _) fun a => z9 (Xw tt n as_) fun bs => wq _
open Classical in
def zf7 (yv : Value) {σ β : Type} (Y : σ → Qt) (enc : β → Bool → Value → List A) (s : σ) (x : β) (s' : σ) (b : Bool) (v : Value) (f : A) (xs : List A) (ls : List (Value × A)) : Option (A × List A) :=
 if f = .atom yv ∧ ls = [(yv,.opq (Y s).q)] ∧ (∀ S vs,WI (ud S) xs vs → WI (ud S) (enc x b v) vs) then some (.atom (.bool b),[.opq (Y s').q]) else none
theorem zf6 {σ β : Type} {Y : σ → Qt} {enc : β → Bool → Value → List A} {y : σ → β → Option (σ × Bool)} (hy : YOk P yv Y enc y) {s : σ} {x : β} {s' : σ}  (v : Value) (h : y s x = some (s',b)) :
  ∀ f xs ls r ys,zf7 yv Y enc s x s' b v f xs ls = some (r,ys) → xx P f xs ls r ys:=by
 intro f xs ls r ys e
 unfold zf7 at e
 split at e
 ·rename_i hc
  obtain ⟨rfl,rfl,h3⟩:=hc
  cases e
  intro S w fv vs F hS hfv hvs
  exact hy s x s' b h v S w fv vs F hS hfv (h3 S vs hvs)
 ·cases e
theorem z9J {σ β : Type} {Y : σ → Qt} {enc : β → Bool → Value → List A} {s : σ} {x : β} {s' : σ}   (xs : List A) (h : z4I xs (enc x b v)) : zf7 yv Y enc s x s' b v (.atom yv) xs [(yv,.opq (Y s).q)] = some (.atom (.bool b),[.opq (Y s').q]):=by
 unfold zf7
 rw [if_pos ⟨rfl,rfl,h.all⟩]
def z8z (tt : TT) (tab : A → List A → List (Value × A) → Option (A × List A)) (r : A) (ys : List A) (n : Fr) (dst : Option Nat) (f : Operand) (as_ : List (Operand × Nat)) (L : List Nat) : HM Unit :=
 W4 tt n [(f,0)] >>= fun fs => W4 tt n as_ >>= fun xs => zU (lentsA n L) >>= fun ls =>
  match fs with
  | [fa] => zfC (tab fa xs ls = some (r,ys)) >>= fun _ => zU (backsA L ys >>= fun _ => wrT n dst (mkT r))
  | _ => zE
theorem za2 (tt : TT) (tab : A → List A → List (Value × A) → Option (A × List A)) (r : A) (ys : List A) (n : Fr) (dst : Option Nat) (f : Operand) (as_ : List (Operand × Nat)) (L : List Nat) : Snd (lentQ tt tab n dst f as_ L) (z8z tt tab r ys n dst f as_ L):=by
 unfold lentQ z8z
 refine z9 (Xw _ _ _) fun fs => z9 (Xw _ _ _) fun xs => z9 (zf _) fun ls => ?_
 rcases fs with _ | ⟨fa,_ | ⟨z,l⟩⟩
 ·exact zj _
 ·refine z58 fun h => ?_
  simp [h]
  exact zf _
 ·exact zj _
def z5G (tt : TT)  {σ β : Type} {Y : σ → Qt} {enc : β → Bool → Value → List A} {y : σ → β → Option (σ × Bool)} (hy : YOk P yv Y enc y) (d : Nat) {s : σ} {x : β} {s' : σ}  (v : Value) (h : y s x = some (s',b)) : XH P:={
 e:=VI tt (zf7 yv Y enc s x s' b v) d [0]
 h:=fun n o => match o.op with
  | .call ⟨.value f,args,tys⟩ => if o.dst = some d ∧ args.size = tys.size then some (z8z tt (zf7 yv Y enc s x s' b v) (.atom (.bool b)) [.opq (Y s').q] n o.dst f (args.toList.zip tys.toList) [0]) else none
  | _ => none
 ok:=z4B (zf6 hy v h) d [0]
 none:=by
  intro n o e
  unfold VI at e
  split at e
  ·rename_i ho
   split at e
   ·cases e
   ·rename_i hd; simp [ho,if_neg hd]
  ·rename_i hne
   split
   ·rename_i ho2; exact absurd ho2 (by intro h; exact hne _ _ _ h)
   ·rfl
 some:=by
  intro n o m e
  unfold VI at e
  split at e
  ·rename_i ho
   split at e
   ·rename_i hd; cases e
    refine ⟨_,?_,za2 tt (zf7 yv Y enc s x s' b v) (.atom (.bool b)) [.opq (Y s').q] n o.dst _ _ [0]⟩
    rw [ho]
    exact if_pos hd
   ·cases e
  ·cases e }
variable {M : Nat → Prop}{df : List Nat}{w0 : World}
theorem Sim.pinned {S0 : zb}        (h : Sim ⟨n,df,w0,S0,M⟩ S Fp X st a w) (k : Nat) : Sim ⟨⟨n.size,(k,Act.tv a k) :: n.pin⟩,df,w0,S0,M⟩ S Fp X st a w:={
 size:=h.size
 pin:=fun j u hj => by
  rcases List.mem_cons.1 hj with e | hj
  ·cases e; rfl
  ·exact h.pin j u hj
 defers:=h.defers
 below:=h.below
 mine:=h.mine
 still:=h.still
 sinc:=h.sinc
 sbase:=h.sbase
 ent:=h.ent
 disj:=h.disj
 base:=h.base
 xn:=h.xn
 xd:=h.xd
 xb:=h.xb }
theorem Sim.unpinned {S0 : zb}        (h : Sim ⟨⟨n.size,(k,v) :: n.pin⟩,df,w0,S0,M⟩ S Fp X st a w) : Sim ⟨n,df,w0,S0,M⟩ S Fp X st a w:={
 size:=h.size
 pin:=fun j u hj => h.pin j u (List.mem_cons_of_mem _ hj)
 defers:=h.defers
 below:=h.below
 mine:=h.mine
 still:=h.still
 sinc:=h.sinc
 sbase:=h.sbase
 ent:=h.ent
 disj:=h.disj
 base:=h.base
 xn:=h.xn
 xd:=h.xd
 xb:=h.xb }
theorem AWP.pin (k : Nat) (h : ∀ v,AWP P ⟨n.size,(k,v) :: n.pin⟩ c st Q) : AWP P n c st Q:=by
 intro rd m df w0 S0 M S Fp a w hc hs
 refine wpIn_mono (h (Act.tv a k) rd m df w0 S0 M S Fp a w ⟨hc.nodup,hc.df,hc.rd⟩ (hs.pinned k)) ?_
 rintro e a' w' ⟨df',st1,S1,Fp1,h1,h2,h3⟩
 exact ⟨df',st1,S1,Fp1,h1.unpinned,h2,h3⟩
theorem z6X (e : fs = []) (k : Nat) (h : ∀ v,AWP P ⟨n.size,(k,v) :: n.pin⟩ c st (Qf P ⟨n.size,(k,v) :: n.pin⟩ [] Q)) : AWP P n c st (Qf P n fs Q):=by
 subst e
 exact AWP.pin k h
def zjI (tt : TT) (n : Fr) (dst : Option Nat) (f : Nat) (caps : List Operand) : HM Unit :=
 W4 tt n (caps.map fun x => (x,0)) >>= fun xs => if xs.all z03 = true then zU (wrT n dst (.d (.fn f xs))) else zE
theorem ziA (tt : TT) (n : Fr) (dst : Option Nat) (f : Nat) (caps : List Operand) : Snd (mkQ tt n dst f caps) (zjI tt n dst f caps) :=
 z9 (Xw _ _ _) fun xs => u9 (zf _) (zj _)
def xMk (P : Program) (tt : TT) : XH P:={
 e:=z9o tt
 h:=fun n o => match o.op with
  | .makeFunc (.func f) ⟨[]⟩ caps => some (zjI tt n o.dst f caps.toList)
  | _ => none
 ok:=zdu P tt
 none:=by
  intro n o e
  unfold z9o at e
  split at e
  ·cases e
  ·rename_i hne
   split
   ·rename_i ho2; exact absurd ho2 (by intro h; exact hne _ _ h)
   ·rfl
 some:=by
  intro n o m e
  unfold z9o at e
  split at e
  ·rename_i ho; cases e
   refine ⟨_,?_,ziA tt n o.dst _ _⟩
   rw [ho]
  ·cases e }
open Classical in
def zf9 (f : A) (xs : List A) (ls : List (Value × A)) (r : A) (ys : List A) (f' : A) (xs' : List A) (ls' : List (Value × A)) : Option (A × List A) :=
 if f' = f ∧ ls' = ls ∧ (∀ S vs,WI (ud S) xs' vs → WI (ud S) xs vs) then some (r,ys) else none
variable {ls : List (Value × A)}{ys : List A}{f : A}
theorem zf8 (h : xx P f xs ls r ys) : ∀ f' xs' ls' r' ys',zf9 f xs ls r ys f' xs' ls' = some (r',ys') → xx P f' xs' ls' r' ys':=by
 intro f' xs' ls' r' ys' e
 unfold zf9 at e
 split at e
 ·rename_i hc
  obtain ⟨rfl,rfl,h3⟩:=hc
  cases e
  intro S w fv vs F hS hfv hvs
  exact h S w fv vs F hS hfv (h3 S vs hvs)
 ·cases e
theorem z54 (xs' : List A) (h : z4I xs' xs) : zf9 f xs ls r ys f xs' ls = some (r,ys):=by
 unfold zf9
 rw [if_pos ⟨rfl,rfl,h.all⟩]
def z9A (tt : TT) (L : List Nat)      (h : xx P f xs ls r ys) (dd : Nat) : XH P:={
 e:=VI tt (zf9 f xs ls r ys) dd L
 h:=fun n o => match o.op with
  | .call ⟨.value g,args,tys⟩ => if o.dst = some dd ∧ args.size = tys.size then some (z8z tt (zf9 f xs ls r ys) r ys n o.dst g (args.toList.zip tys.toList) L) else none
  | _ => none
 ok:=z4B (zf8 h) dd L
 none:=by
  intro n o e
  unfold VI at e
  split at e
  ·rename_i ho
   split at e
   ·cases e
   ·rename_i hd; simp [ho,if_neg hd]
  ·rename_i hne
   split
   ·rename_i ho2; exact absurd ho2 (by intro h; exact hne _ _ _ h)
   ·rfl
 some:=by
  intro n o m e
  unfold VI at e
  split at e
  ·rename_i ho
   split at e
   ·rename_i hd; cases e
    refine ⟨_,?_,za2 tt (zf9 f xs ls r ys) r ys n o.dst _ _ L⟩
    rw [ho]
    exact if_pos hd
   ·cases e
  ·cases e }
theorem z31 {st : St} : ∀ {is : List Nat} {ys : List A},is.length = ys.length → (∀ p ∈ is.zip ys,(st p.1).t = .own p.2) → z0Y is st = some (ys,is,[])
 | [],[],_,_ => rfl
 | i :: is,y :: ys,hl,h => by
  have h1 : (st i).t = .own y:=h (i,y) (by simp)
  have h2:=z31 (st:=st) (is:=is) (ys:=ys) (by simpa using hl) (fun p hp => h p (by simp [hp]))
  simp only [z0Y]
  show SM.bind (rdE i) _ st = _
  unfold SM.bind
  simp only [rdE,za,h1,bind,SM.bind,h2,pure,SM.pure]
  simp
 | [],_ :: _,hl,_ => by simp at hl
 | _ :: _,[],hl,_ => by simp at hl
theorem zdH {live : List Nat}    (h : zbL live st k = .own y) : (st k).t = .own y:=by
 unfold zbL at h
 cases hx : (st k).t with
 | own a => simpa only [hx] using h
 | d a => simp only [hx] at h; cases h
 | gone => simp only [hx] at h; cases h
 | _ => simp only [hx] at h; split at h <;> cases h
variable {vals : List Value}
theorem zdd {tt : TT}    {nt : Nat} (is : List Nat) {args caps xs : List A} {vals : List Value} {ys : List A} (hT : wR P tt) (hf : P.funcs[k]? = some fn) (hnm : (fn.name == "runtime.NumGoroutine") = false) (hb : fn.body = some body)
  (hn : nt = fn.ntmps) (hr : fn.results = #[]) (ha : (args ++ caps).length ≤ fn.ntmps) (hnd : is.Nodup) (hbase : is.map (fun i => (args ++ caps)[i]?) = vals.map (fun v => some (.atom v))) (hl : xs.length = vals.length)
  (h : ∀ E : Exit → St → Prop,(∀ ex st,(ex = .normal ∨ ex = .ret) → (∀ p ∈ is.zip ys,(st p.1).t = .own p.2) → E ex st) →
   AWP P ⟨nt,is.zip vals⟩ body (ofL (z73 0 (JI (args ++ caps) is xs))) (Qf P ⟨nt,is.zip vals⟩ [] E)) (hy : is.length = ys.length) : xx P (.fn k caps) args (vals.zip xs) (.tup []) ys:=by
 subst hn
 refine z39 (tt:=tt) (rs:=[]) is hT hf hnm hb hr ha hnd hbase hl ?_
 rw [z6D]
 refine h _ ?_
 intro ex st hx hc
 refine ⟨hx,is,[],?_⟩
 have h2:=z31 hy hc
 simp [zhQ,List.map_nil]
 show SM.bind (shutArgs tt []) _ st = _
 unfold SM.bind
 simp [shutArgs]
 simp [pure,SM.pure,bind,SM.bind,za,h2]
 show (match (match (SM.pure (A.tup [],ys) : SM (A × List A)) st with | none => none | some (b,R',U') => some (b,is ++ R',[] ++ U')) with | none => none | some (b,R',U') => some (b,[] ++ R',[] ++ U')) = _
 simp [SM.pure]
theorem zeh {live : List Nat}   (hc : canon live st = ofL l)   (hk : live.contains k = true) (hy : (ofL l k).t = .own y) : (st k).t = .own y:=by
 have:=congrFun hc k
 rw [X5,if_pos (List.contains_iff_mem.1 hk)] at this
 rw [← this] at hy
 exact zdH hy
def zex (live : List Nat) (l : List (Nat × T)) : List Nat → List A → Prop
 | i :: is,y :: ys => (live.contains i = true ∧ (ofL l i).t = .own y) ∧ zex live l is ys
 | _,_ => True
theorem z02 {live : List Nat}   (hc : canon live st = ofL l) : ∀ {is : List Nat} {ys : List A},zex live l is ys → ∀ p ∈ is.zip ys,(st p.1).t = .own p.2
 | [],_,_,p,hp => by simp at hp
 | _ :: _,[],_,p,hp => by simp at hp
 | i :: is,y :: ys,h,p,hp => by
  rcases List.mem_cons.1 hp with rfl | hp
  ·exact zeh hc h.1.1 h.1.2
  ·exact z02 hc h.2 p hp
theorem yrE {σ : Type} {y : Option (σ × Bool)} {r : σ × Bool}  (h : y = some r) (c : r.2 = b) : y = some (r.1,b):=by
 subst c; exact h
section
variable {C : Ctx} {S : zb} {Fp : Nat → List Nat} {st : St} {a : Act} {w : World}
open Classical in
def mvQ (n : Fr) (dst : Option Nat) (s : Nat) (v : Value) : SM Unit:=if z5e n.pin s = some v then wrT n dst (.d (.atom v)) else zk
open Classical in
theorem Loc.mvQ (n : Fr) (dst : Option Nat) (s : Nat) (v : Value) : Loc (mvQ n dst s v):=by
 unfold Go.Own.mvQ
 exact Loc.ite (Loc.wrT _ _ _) Loc.fail
def zjH (n : Fr) (dst : Option Nat) (s : Nat) (v : Value) : HM Unit:=WZ (z5e n.pin s = some v) (zU (wrT n dst (.d (.atom v))))
open Classical in
theorem zkm (n : Fr) (dst : Option Nat) (s : Nat) (v : Value) : Snd (mvQ n dst s v) (zjH n dst s v):=Y9 (zf _)
theorem zhD (h : Sim C S Fp [] st a w)  {s : Nat} {v : Value} (hv : v.oneCell' = true) (ho : o.op = .move (.tmp s))    (e : mvQ C.n o.dst s v st = some (u,R,U)) : qo P C o a w (za U st):=by
 unfold mvQ at e
 split at e
 ·rename_i hp
  have hs:=h.pin s v (We hp)
  have ⟨Fp',hs'⟩:=wI h e (x:=.d (.atom v)) (v:=v) (zo.2 ⟨rfl,hv⟩)
  refine zl ?_ hs'
  have ev : a.eval (.tmp s) = v:=hs
  simp [execOp,ho,ev]
 ·cases e
def xMv (P : Program) (d s : Nat) (v : Value) (hv : v.oneCell' = true) : XH P:={
 e:=fun n o => match o.op with | .move (.tmp t) => if o.dst = some d ∧ t = s then some (mvQ n o.dst s v) else none | _ => none
 h:=fun n o => match o.op with | .move (.tmp t) => if o.dst = some d ∧ t = s then some (zjH n o.dst s v) else none | _ => none
 ok:=by
  refine ⟨?_,?_⟩
  ·intro C S Fp st a w o m u R U e h h2
   dsimp only at e
   split at e
   ·rename_i t ho
    split at e
    ·rename_i hd
     obtain ⟨_,rfl⟩:=hd
     cases e; exact zhD h hv ho h2
    ·cases e
   ·cases e
  ·intro n o m e
   dsimp only at e
   split at e
   ·split at e
    ·cases e
     exact fun st st' a R U => Loc.mvQ _ _ _ _ st st' a R U
    ·cases e
   ·cases e
 none:=by
  intro n o e
  skip
  split at e
  ·split at e
   ·cases e
   ·rename_i hd; rw [if_neg hd]
  ·rfl
 some:=by
  intro n o m e
  skip
  split at e
  ·split at e
   ·rename_i hd; cases e; exact ⟨_,by rw [if_pos hd],zkm _ _ _ _⟩
   ·cases e
  ·cases e }
end
theorem zgl (e : fs = []) (k : Nat)  (hk : (st k).t = .own y) (ho : zcV y = true) (h : ∀ v,v.oneCell' = true → AWP P ⟨n.size,(k,v) :: n.pin⟩ c st (Qf P ⟨n.size,(k,v) :: n.pin⟩ [] Q)) : AWP P n c st (Qf P n fs Q):=by
 subst e
 intro rd m df w0 S0 M S Fp a w hc hs
 have hone : (Act.tv a k).oneCell' = true:=by
  have q:=hs.ent k
  unfold yx at q
  simp [hk] at q
  have ⟨cs,c1,_,hv⟩:=q
  have hcs:=UZ ho c1
  rw [hv]
  exact c1.one1 (z04 ho) _ (by have q:=List.mem_singleton_self (zT y cs); rwa [← hcs] at q)
 refine wpIn_mono (h (Act.tv a k) hone rd m df w0 S0 M S Fp a w ⟨hc.nodup,hc.df,hc.rd⟩ (hs.pinned k)) ?_
 rintro e a' w' ⟨df',st1,S1,Fp1,h1,h2,h3⟩
 exact ⟨df',st1,S1,Fp1,h1.unpinned,h2,h3⟩
def z91 (P : Program) (t i e off : Nat) : Prop:=∃ (fs : Array Field) (f : Field),P.underlying t = some (.struct fs) ∧ fs[i]? = some f ∧ f.type = e ∧ f.offset = off
theorem zaX {t i e off : Nat} {fs : Array Field} (h : P.underlying t = some (.struct fs)) (f : Field) (h1 : fs[i]? = some f) (h2 : f.type = e) (h3 : f.offset = off) : z91 P t i e off:=⟨fs,f,h,h1,h2,h3⟩
def fldO (tt : TT) (n : Fr) (dst : Option Nat) (i e off : Nat) (x : Operand) : SM Unit:=do
 let tx ← opnd x
 let vx ← val tx
 match vx with
 | .agg fs => match fs[i]? with
  | some y => if XL tt e y = true ∧ y.isD = true ∧ A.sizes (fs.take i) = off then wrT n dst (.d y) else zk
  | none => zk
 | _ => zk
def zjT (tt : TT) (n : Fr) (dst : Option Nat) (i e off : Nat) (x : Operand) : HM Unit:=zU (opnd x) >>= fun tx => z2D tx >>= fun vx =>
 zU (match vx with
 | .agg fs => match fs[i]? with
  | some y => if XL tt e y = true ∧ y.isD = true ∧ A.sizes (fs.take i) = off then wrT n dst (.d y) else zk
  | none => zk
 | _ => zk)
theorem ziB (tt : TT) (n : Fr) (dst : Option Nat) (i e off : Nat) (x : Operand) : Snd (fldO tt n dst i e off x) (zjT tt n dst i e off x) :=
 z9 (zf _) fun _ => z9 (XU _) fun _ => zf _
theorem Loc.fldO (tt : TT) (n : Fr) (dst : Option Nat) (i e off : Nat) (x : Operand) : Loc (fldO tt n dst i e off x):=by
 unfold Go.Own.fldO
 refine Loc.bind (Loc.opnd _) fun _ => Loc.bind (Loc.val _) fun _ => ?_
 split
 ·split
  ·exact Loc.ite (Loc.wrT _ _ _) Loc.fail
  ·exact Loc.fail
 ·exact Loc.fail
section
variable {C : Ctx} {S : zb} {Fp : Nat → List Nat} {st : St} {a : Act} {w : World}
theorem zhN {P : Program}  (hT : wR P tt) {t i e off : Nat} (hf : z91 P t i e off) (h : Sim C S Fp [] st a w)  {x : Operand} (ho : o.op = .field t x i)    (e0 : fldO tt C.n o.dst i e off x st = some (u,R,U)) : qo P C o a w (za U st):=by
 unfold fldO at e0
 have ⟨tx,_,hx,e1⟩:=bR (zD h) e0
 have ⟨vx,_,qx,e2⟩:=bR (qe h hx) e1
 split at e2
 ·rename_i fs
  cases hy : fs[i]? with
  | none => simp only [hy] at e2; cases e2
  | some y =>
   simp only [hy] at e2
   split at e2
   ·rename_i hc
    have ⟨c1,c2,c3⟩:=hc
    have ⟨fds,f,f1,f2,f3,f4⟩:=hf
    have ⟨cs,r1,r2⟩:=(qx : ud S (.agg fs) (a.eval x))
    simp only [Rep] at r1
    obtain ⟨d1,ci,d2,rfl,hl,hr⟩:=UV r1 hy
    have ⟨Fp',hs⟩:=wI h e2 (x:=.d y) (ud.repV ⟨ci,hr,rfl⟩)
    refine zl ?_ hs
    have hp:=z8c (P:=P) hT c1 (w:=w) (c1:=d1) (c2:=d2) hr.len
    rw [hl,c3] at hp
    have ex : a.eval x = .agg (d1 ++ ci ++ d2).toArray:=r2
    simp only [execOp,ho,Instr.field,ex,asAgg,Sem.run_bind,Sem.run_pure,Result.andThen_ok,run_underlying f1,f2,f3,f4,hp]
   ·cases e2
 ·cases e2
end
def zkc (hT : wR P tt) {t i e off : Nat} (hf : z91 P t i e off) : XH P:={
 e:=fun n o => match o.op with | .field t' x i' => if t' = t ∧ i' = i then some (fldO tt n o.dst i e off x) else none | _ => none
 h:=fun n o => match o.op with | .field t' x i' => if t' = t ∧ i' = i then some (zjT tt n o.dst i e off x) else none | _ => none
 ok:=by
  refine ⟨?_,?_⟩
  ·intro C S Fp st a w o m u R U e0 h h2
   dsimp only at e0
   split at e0
   ·rename_i t' x i' ho
    split at e0
    ·rename_i hd
     obtain ⟨rfl,rfl⟩:=hd
     cases e0; exact zhN hT hf h ho h2
    ·cases e0
   ·cases e0
  ·intro n o m e0
   dsimp only at e0
   split at e0
   ·split at e0
    ·cases e0
     exact fun st st' a R U => Loc.fldO _ _ _ _ _ _ _ st st' a R U
    ·cases e0
   ·cases e0
 none:=by
  intro n o e0
  skip
  split at e0
  ·split at e0
   ·cases e0
   ·rename_i hd; rw [if_neg hd]
  ·rfl
 some:=by
  intro n o m e0
  skip
  split at e0
  ·split at e0
   ·rename_i hd; cases e0; exact ⟨_,by rw [if_pos hd],ziB _ _ _ _ _ _ _⟩
   ·cases e0
  ·cases e0 }
theorem z9Q {enc : α → List A} {encR : ρ → A} {F : α → Option ρ}  {inj : ∀ x y,enc x = enc y → x = y} (h : (spF k enc encR F gives inj).Ok P) {x : α} {r : ρ} (hr : F x = some r) : z1a P k (enc x) (encR r):=by
 have:=h x ⟨r,hr⟩
 simpa only [spF,hr] using this
instance LeA.oslT (sz : Nat) (xs ys : List A) [h : z5C xs ys] : LeA (.osl sz true xs) (.osl sz true ys):={
 rep:=fun S cs q => by simp only [Rep] at q
 conc:=fun S hp cs F q => by
  simp only [zz] at q ⊢
  have ⟨p,c,e,h1,h2,h3,h4,h5⟩:=q
  refine ⟨p,c,by rw [← h.len]; exact e,fun _ => by rw [← h.len]; exact h1 trivial,by rw [← h.len]; exact h2,h3,h.size _ h4,?_⟩
  rcases h5 with ⟨q1,q2,q3,q4⟩ | ⟨b,arr,ty,l,F',e1,e2,e3,e4,e5,e6,e7⟩
  ·exact .inl ⟨UW (S:=S) h.len q1,q2,q3,q4⟩
  ·exact .inr ⟨b,arr,ty,l,F',e1,e2,e3,by rw [← h.len]; exact e4,h.conc _ _ _ _ e5,e6,e7⟩
 val:=fun _ => rfl
 tup:=fun _ e => by cases e }
instance {α : Type} (sz : Nat) (f g : α → A) [h : ∀ x,LeA (f x) (g x)] [z : ∀ x,SzA (f x) (g x)] (l : List α) : LeA (eOs sz true f l) (eOs sz true g l):=LeA.oslT sz (l.map f) (l.map g)
section
variable {C : Ctx} {S : zb} {Fp : Nat → List Nat} {st : St} {a : Act} {w : World}
theorem zam {r : Nat} {er ec : Nat} {u : Value} (ha : Zu w.heap st (Act.tv a) r [] er ec u) {x0 : A} (hr : (st r).t = .own x0) (e1 : (st r).er = er) : u = Act.tv a r:=by
 have a3:=ha.2.2
 simp [hr] at a3
 simp [Qn] at a3
 exact a3 e1
theorem zar (h : Sim C S Fp [] st a w) {r sz : Nat} {tg : Bool} {es : List A} (hr : (st r).t = .own (.osl sz tg es)) :
  ∃ p c,Act.tv a r = .slice p es.length c ∧ es.length ≤ c ∧ (∀ x ∈ es,x.size = sz) ∧ (0 < es.length → ∃ b,p = some ⟨b,0,none⟩):=by
 have hq:=h.ent r
 unfold yx at hq
 simp only [hr] at hq
 have ⟨cs,c1,c2,c3⟩:=hq
 simp only [zz] at c1
 obtain ⟨p,c,rfl,t1,t2,t3,t4,t5⟩:=c1
 refine ⟨p,c,by rw [c3]; rfl,t2,t4,fun hp => ?_⟩
 rcases t5 with ⟨rfl,_⟩ | ⟨b,arr,ty,l,F',rfl,_⟩
 ·simp at hp
 ·exact ⟨b,rfl⟩
end
def xAt (P : Program)  (p : Oper → Option β) (e : Fr → Oper → β → SM Unit) (h : Fr → Oper → β → HM Unit)
  (ok : ∀ (C : Ctx) (S : zb) (Fp : Nat → List Nat) (st : St) (a : Act) (w : World) (o : Oper) (b : β),p o = some b → Sim C S Fp [] st a w → ∀ u R U,e C.n o b st = some (u,R,U) → qo P C o a w (za U st))
  (loc : ∀ n o b,Loc (e n o b)) (sd : ∀ n o b,Snd (e n o b) (h n o b)) : XH P:={
 e:=fun n o => (p o).map (e n o)
 h:=fun n o => (p o).map (h n o)
 ok:=by
  refine ⟨?_,?_⟩
  ·intro C S Fp st a w o m u R U e0 h h2
   obtain ⟨b,hp,rfl⟩:=Option.map_eq_some_iff.1 e0
   exact ok C S Fp st a w o b hp h _ _ _ h2
  ·intro n o m e0
   obtain ⟨b,hp,rfl⟩:=Option.map_eq_some_iff.1 e0
   exact fun st st' a R U => loc n o b st st' a R U
 none:=by
  intro n o e0
  rw [Option.map_eq_none_iff] at e0 ⊢
  exact e0
 some:=by
  intro n o m e0
  obtain ⟨b,hp,rfl⟩:=Option.map_eq_some_iff.1 e0
  exact ⟨_,by rw [hp]; rfl,sd n o b⟩ }
theorem zbK {d : Nat}  {x : Option β} {b : β} (h : (if o.dst = some d then x else none) = some b) : x = some b:=by
 split at h
 ·exact h
 ·cases h
def zfF : Value → Option Bool
 | .slice none _ _ => some true
 | .slice (some _) _ _ => some false
 | _ => none
variable {sz : Nat}
theorem zgk {P : Program} {n : Fr} {c : Code}  {Q : Exit → St → Prop}  (e : fs = []) (k : Nat)  {t : Bool} {es : List A} (hk : (st k).t = .d (.sl sz t es))
  (h : ∀ v,v.oneCell' = true → (zfF v = some true ∧ es = []) ∨ zfF v = some false → AWP P ⟨n.size,(k,v) :: n.pin⟩ c st (Qf P ⟨n.size,(k,v) :: n.pin⟩ [] Q)) : AWP P n c st (Qf P n fs Q):=by
 subst e
 intro rd m df w0 S0 M S Fp a w hc hs
 have q:=hs.ent k
 unfold yx at q
 simp only [hk] at q
 have q1:=q.1
 simp only [xw] at q1
 have ⟨cs,r1,r2⟩:=q1
 simp only [Rep] at r1
 obtain ⟨p,c',rfl,r3,r4,r5,r6⟩:=r1
 have ev : Act.tv a k = .slice p es.length c':=r2
 have hcase : (zfF (Act.tv a k) = some true ∧ es = []) ∨ zfF (Act.tv a k) = some false:=by
  rw [ev]
  cases p with
  | none =>
   refine .inl ⟨rfl,?_⟩
   rcases r6 with r6 | ⟨b,o,l,e,_⟩
   ·exact r6
   ·cases e
  | some p => exact .inr rfl
 refine wpIn_mono (h (Act.tv a k) (by rw [ev]; rfl) hcase rd m df w0 S0 M S Fp a w ⟨hc.nodup,hc.df,hc.rd⟩ (hs.pinned k)) ?_
 rintro e a' w' ⟨df',st1,S1,Fp1,h1,h2,h3⟩
 exact ⟨df',st1,S1,Fp1,h1.unpinned,h2,h3⟩
open Classical in
def nilO (n : Fr) (dst : Option Nat) (v : Value) (b : Bool) (x y : Operand) : SM Unit:=do
 let tx ← opnd x
 let ty ← opnd y
 if tx = .d (.atom v) ∧ ty = .d (.atom (.slice none 0 0)) then wrT n dst (.d (.atom (.bool b))) else zk
def zjG (n : Fr) (dst : Option Nat) (v : Value) (b : Bool) (x y : Operand) : HM Unit:=zU (opnd x) >>= fun tx => zU (opnd y) >>= fun ty => WZ (tx = .d (.atom v) ∧ ty = .d (.atom (.slice none 0 0))) (zU (wrT n dst (.d (.atom (.bool b)))))
open Classical in
theorem ziz (n : Fr) (dst : Option Nat) (v : Value) (b : Bool) (x y : Operand) : Snd (nilO n dst v b x y) (zjG n dst v b x y):=z9 (zf _) fun _ => z9 (zf _) fun _ => Y9 (zf _)
open Classical in
theorem Loc.nilO (n : Fr) (dst : Option Nat) (v : Value) (b : Bool) (x y : Operand) : Loc (nilO n dst v b x y):=by
 unfold Go.Own.nilO
 exact Loc.bind (Loc.opnd _) fun _ => Loc.bind (Loc.opnd _) fun _ => Loc.ite (Loc.wrT _ _ _) Loc.fail
theorem zhC (hT : wR P tt)       (h : Sim C S Fp [] st a w)  {t yt : Nat}   {x y : Operand} (hty : Wf tt t = true) (hv : zfF v = some b) (ho : o.op = .binOp .eql t x y yt)    (e0 : nilO C.n o.dst v b x y st = some (u,R,U)) : qo P C o a w (za U st):=by
 unfold nilO at e0
 have ⟨tx,_,hx,e1⟩:=bR (zD h) e0
 have ⟨ty,_,hy,e2⟩:=bR (zD h) e1
 split at e2
 ·rename_i hc
  obtain ⟨rfl,rfl⟩:=hc
  have ex:=(zo.1 hx).1
  have ey:=(zo.1 hy).1
  have ⟨el,hel⟩:=QO hT hty
  have ⟨Fp',hs⟩:=wI h e2 (x:=.d (.atom (.bool b))) (zo.2 ⟨rfl,rfl⟩)
  refine zl ?_ hs
  have heq : (Op.equal t v (.slice none 0 0)).run P w = .ok b w:=by
   unfold Op.equal Op.maxDepth
   show (Op.equalIn (9999 + 1) t v _).run P w = _
   generalize 9999 = q
   unfold Op.equalIn
   simp [Sem.run_bind,run_underlying hel,Result.andThen_ok]
   cases v with
   | slice p l c => cases p <;> (simp [zfF,Option.some.injEq] at hv; subst hv; simp)
   | _ => cases hv
  cases v with
  | slice p l c => simp [execOp,ho,ex,ey,eqGuard,Go.binOp,heq]
  | _ => cases hv
 ·cases e2
def zhK (d t : Nat) (o : Oper) : Option (Operand × Operand):=match o.op with | .binOp .eql t' x y _ => if o.dst = some d then (if t' = t then some (x,y) else none) else none | _ => none
def zj7 (hT : wR P tt) (d t : Nat)   (hty : Wf tt t = true) (hv : zfF v = some b) : XH P :=
 xAt P (zhK d t) (fun n o q => nilO n o.dst v b q.1 q.2) (fun n o q => zjG n o.dst v b q.1 q.2)
  (by
   intro C S Fp st a w o q hp h u R U e
   unfold zhK at hp
   split at hp
   ·rename_i ho
    replace hp:=zbK hp
    split at hp
    ·rename_i ht; subst ht; cases hp; exact zhC hT h hty hv ho e
    ·cases hp
   ·cases hp)
  (fun n o q => Loc.nilO _ _ _ _ _ _) (fun n o q => ziz _ _ _ _ _ _)
open Classical in
def asO (n : Fr) (dst : Option Nat) (v : Value) (x : Operand) : SM Unit:=do
 let tx ← opnd x
 if tx = .d (.atom v) then wrT n dst (.d (.atom v)) else zk
def asH (n : Fr) (dst : Option Nat) (v : Value) (x : Operand) : HM Unit:=zU (opnd x) >>= fun tx => WZ (tx = .d (.atom v)) (zU (wrT n dst (.d (.atom v))))
open Classical in
theorem zkp (n : Fr) (dst : Option Nat) (v : Value) (x : Operand) : Snd (asO n dst v x) (asH n dst v x):=z9 (zf _) fun _ => Y9 (zf _)
open Classical in
theorem Loc.asO (n : Fr) (dst : Option Nat) (v : Value) (x : Operand) : Loc (asO n dst v x):=by
 unfold Go.Own.asO
 exact Loc.bind (Loc.opnd _) fun _ => Loc.ite (Loc.wrT _ _ _) Loc.fail
theorem ziX (h : Sim C S Fp [] st a w)  {v : Value} {x : Operand} (ho : o.op = .assign x)    (e0 : asO C.n o.dst v x st = some (u,R,U)) : qo P C o a w (za U st):=by
 unfold asO at e0
 have ⟨tx,_,hx,e1⟩:=bR (zD h) e0
 split at e1
 ·rename_i hc
  subst hc
  have hx' : xw S (.atom v) (a.eval x):=hx
  have ⟨Fp',hs⟩:=wI h e1 (x:=.d (.atom v)) (v:=a.eval x) hx'
  exact zl (by simp [execOp,ho]) hs
 ·cases e1
def zjS (d : Nat) (o : Oper) : Option Operand:=match o.op with | .assign x => if o.dst = some d then some x else none | _ => none
def xAs (P : Program) (d : Nat) (v : Value) : XH P :=
 xAt P (zjS d) (fun n o x => asO n o.dst v x) (fun n o x => asH n o.dst v x)
  (by
   intro C S Fp st a w o x hp h u R U e
   unfold zjS at hp
   split at hp
   ·rename_i ho; cases zbK hp; exact ziX h ho e
   ·cases hp)
  (fun n o x => Loc.asO _ _ _ _) (fun n o x => zkp _ _ _ _)
theorem Qp (hF : ∀ k ∈ F,∀ o,S k o = none) : ∀ b o u,S b o = some u → zF S h F b o = some u:=by
 intro b o u hs
 unfold zF
 rw [if_neg (fun q => by rw [hF b q o] at hs; cases hs)]
 exact hs
theorem z8A {tt : TT}    {nt t : Nat} (is : List Nat) {args caps xs : List A} {vals : List Value} {r : A} {ys : List A} (hT : wR P tt) (hf : P.funcs[k]? = some fn) (hnm : (fn.name == "runtime.NumGoroutine") = false) (hb : fn.body = some body)
  (hn : nt = fn.ntmps) (hr : fn.results = #[.tmp t]) (ha : (args ++ caps).length ≤ fn.ntmps) (hnd : is.Nodup) (hbase : is.map (fun i => (args ++ caps)[i]?) = vals.map (fun v => some (.atom v))) (hl : xs.length = vals.length) (hrd : r.isD = true) (hrn : WY tt 0 r = r)
  (h : ∀ E : Exit → St → Prop,(∀ ex st,(ex = .normal ∨ ex = .ret) → (∀ p ∈ is.zip ys,(st p.1).t = .own p.2) → (st t).t = .d r → E ex st) →
   AWP P ⟨nt,is.zip vals⟩ body (ofL (z73 0 (JI (args ++ caps) is xs))) (Qf P ⟨nt,is.zip vals⟩ [] E)) (hy : is.length = ys.length) : xx P (.fn k caps) args (vals.zip xs) r ys:=by
 subst hn
 refine z39 (tt:=tt) (rs:=[(t,none)]) is hT hf hnm hb hr ha hnd hbase hl ?_
 rw [z6D]
 refine h _ ?_
 intro ex st hx hc hrt
 refine ⟨hx,?_⟩
 have h2:=z31 hy hc
 have hop : opnd (.tmp t) st = some (.d r,[t],[]):=by
  simp [opnd,hrt,bind,SM.bind,rdE,pure,SM.pure,List.append_nil]
 have hsh : shutT tt 0 (.d r) st = some (r,[],[]):=by
  have : shutT tt 0 (.d r) = pure r:=by
   cases r <;> first | (simp [A.isD] at hrd; done) | (simp [shutT,hrn,A.shut_isD hrd]) | skip
  rw [this]; rfl
 have h1 : shutArgs tt [(Operand.tmp t,0)] st = some ([r],[t],[]):=by
  simp [shutArgs,bind,SM.bind,hop,za,hsh,pure,SM.pure,List.append_nil]
 refine ⟨[t] ++ (is ++ []),[],?_⟩
 simp [zhQ,List.map_cons,List.map_nil,bind,SM.bind,h1,za,h2,Zi,Option.map_some,pure,SM.pure,ziw,List.append_nil]
theorem zjU {live : List Nat}   (hc : canon live st = ofL l)   (hk : live.contains k = true) (hy : (ofL l k).t = .d y) : (st k).t = .d y:=by
 have:=congrFun hc k
 rw [X5,if_pos (List.contains_iff_mem.1 hk)] at this
 rw [← this] at hy
 unfold zbL at hy
 cases hx : (st k).t with
 | own a => simp only [hx] at hy; cases hy
 | d a => simpa only [hx] using hy
 | gone => simp only [hx] at hy; cases hy
 | _ => simp only [hx] at hy; split at hy <;> cases hy
mutual
def A.indep : A → Bool
 | .atom _ => true
 | .fn _ caps => A.indeps caps
 | .agg fs => A.indeps fs
 | .osl _ _ es => A.indeps es
 | .box x => x.indep
 | .dead _ => true
 | .sl _ _ xs => xs.isEmpty
 | _ => false
def A.indeps : List A → Bool
 | [] => true
 | a :: as_ => a.indep && A.indeps as_
end
mutual
theorem Rep.indep {S S' : zb} : ∀ {a : A} {cs : List Value},a.indep = true → Rep S a cs → Rep S' a cs
 | .atom _,_,_,r => by simpa only [Rep] using r
 | .fn _ caps,_,h,r => by
  simp only [A.indep] at h
  simp only [Rep] at r ⊢
  obtain ⟨vs,h1,h2,h3⟩:=r
  exact ⟨vs,y9.indep h h1,h2,h3⟩
 | .agg fs,_,h,r => by simp only [A.indep] at h; simp only [Rep] at r ⊢; exact y9.indep h r
 | .sl _ _ xs,_,h,r => by
  simp only [A.indep,List.isEmpty_iff] at h
  subst h
  simp only [Rep] at r ⊢
  obtain ⟨p,c,h1,h2,h3,h4,_⟩:=r
  exact ⟨p,c,h1,h2,h3,h4,.inl trivial⟩
 | .sptr _,_,h,_ => by simp [A.indep] at h
 | .dop _,_,h,_ => by simp [A.indep] at h
 | .tup _,_,_,r => by simp only [Rep] at r
 | .osl _ _ _,_,_,r => by simp only [Rep] at r
 | .box _,_,_,r => by simp only [Rep] at r
 | .dead _,_,_,r => by simp only [Rep] at r
 | .opq _,_,_,r => by simp only [Rep] at r
theorem y9.indep {S S' : zb} : ∀ {as_ : List A} {cs : List Value},A.indeps as_ = true → y9 S as_ cs → y9 S' as_ cs
 | [],_,_,r => by simpa only [y9] using r
 | a :: as_,_,h,r => by
  simp only [A.indeps,Bool.and_eq_true] at h
  simp only [y9] at r ⊢
  obtain ⟨c1,c2,e,r1,r2⟩:=r
  exact ⟨c1,c2,e,Rep.indep h.1 r1,y9.indep h.2 r2⟩
end
mutual
theorem zz.indep {S S' : zb}  : ∀ {a : A} {cs : List Value} {F : List Nat},a.indep = true → zz S h a cs F → (∀ k ∈ F,∀ o,S' k o = none) → zz S' h a cs F
 | .osl sz t es,_,_,hi,r,hF => by
  simp only [A.indep] at hi
  simp only [zz] at r ⊢
  obtain ⟨p,c,e,h1,h2,h3,h4,h5⟩:=r
  refine ⟨p,c,e,h1,h2,h3,h4,?_⟩
  rcases h5 with h5 | ⟨b,arr,ty,l,F',e1,e2,e3,e4,e5,rfl,e7⟩
  ·exact .inl h5
  ·exact .inr ⟨b,arr,ty,l,F',e1,e2,e3,e4,zA.indep hi e5 (fun k hk => hF k (by simp [hk])),rfl,hF b (by simp)⟩
 | .box x,_,_,hi,r,hF => by
  simp only [A.indep] at hi
  simp only [zz] at r ⊢
  obtain ⟨b,ty,l,F',e,e1,e2,rfl,e4⟩:=r
  exact ⟨b,ty,l,F',e,e1,zz.indep hi e2 (fun k hk => hF k (by simp [hk])),rfl,hF b (by simp)⟩
 | .agg fs,_,_,hi,r,hF => by simp only [A.indep] at hi; simp only [zz] at r ⊢; exact zA.indep hi r hF
 | .dead _,_,_,_,r,_ => by simpa only [zz] using r
 | .opq _,_,_,hi,_,_ => by simp [A.indep] at hi
 | .atom _,_,_,hi,r,_ => by simp only [zz] at r ⊢; exact ⟨Rep.indep hi r.1,r.2⟩
 | .fn _ _,_,_,hi,r,_ => by simp only [zz] at r ⊢; exact ⟨Rep.indep hi r.1,r.2⟩
 | .sl _ _ _,_,_,hi,r,_ => by simp only [zz] at r ⊢; exact ⟨Rep.indep hi r.1,r.2⟩
 | .sptr _,_,_,hi,_,_ => by simp [A.indep] at hi
 | .dop _,_,_,hi,_,_ => by simp [A.indep] at hi
 | .tup _,_,_,_,r,_ => by simp only [zz] at r
theorem zA.indep {S S' : zb}  : ∀ {as_ : List A} {cs : List Value} {F : List Nat},A.indeps as_ = true → zA S h as_ cs F → (∀ k ∈ F,∀ o,S' k o = none) → zA S' h as_ cs F
 | [],_,_,_,r,_ => by simpa only [zA] using r
 | a :: as_,_,_,hi,r,hF => by
  simp only [A.indeps,Bool.and_eq_true] at hi
  simp only [zA] at r ⊢
  obtain ⟨c1,c2,F1,F2,e1,rfl,r1,r2⟩:=r
  exact ⟨c1,c2,F1,F2,e1,rfl,zz.indep hi.1 r1 (fun k hk => hF k (by simp [hk])),zA.indep hi.2 r2 (fun k hk => hF k (by simp [hk]))⟩
end
section
variable {α : Type}
instance SzA.opS {β : Type} (s s' : Nat) (b b' : Bool) (f : α → A) (g : β → A) (l : List α) (l' : List β) : SzA (eOs s b f l) (eOs s' b' g l'):=⟨rfl⟩
end
theorem Sim.retag (h : Sim C S Fp [] st a w) (k : Nat) (x y : A) (hx : (st k).t = .own x) (hl : LeA x y) : Sim C S Fp [] (upd st k ⟨.own y,(st k).er + 1,(st k).ec + 1⟩) a w:=by
 refine { size:=h.size,pin:=h.pin,defers:=h.defers,below:=h.below,mine:=h.mine,still:=h.still,sinc:=h.sinc,sbase:=h.sbase,ent:=?_,disj:=h.disj,base:=h.base,xn:=h.xn,xd:=h.xd,xb:=h.xb }
 intro t
 have q:=h.ent t
 by_cases ht : t = k
 ·subst ht
  rw [wa]
  unfold yx at q ⊢
  simp [hx] at q ⊢
  have ⟨cs,q1,q2,q3⟩:=q
  exact ⟨cs,hl.conc _ _ _ _ q1,q2,by rw [← hl.val]; exact q3⟩
 ·rw [Y8 _ _ ht]
  unfold yx at q ⊢
  have als : ∀ {r p er' ec' v},Zu w.heap st (Act.tv a) r p er' ec' v → Zu w.heap (upd st k ⟨.own y,(st k).er + 1,(st k).ec + 1⟩) (Act.tv a) r p er' ec' v:=by
   intro r p er' ec' v q
   by_cases hr : r = k
   ·subst hr
    have ⟨q1,q2,q3⟩:=q
    unfold Zu
    rw [wa]
    refine ⟨Nat.le_succ_of_le q1,Nat.le_succ_of_le q2,?_⟩
    simp only
    intro e1
    omega
   ·unfold Zu
    rw [Y8 _ _ hr]
    exact q
  have ptr : ∀ {r p er' ec' v},qG w.heap st (Act.tv a) r p er' ec' v → qG w.heap (upd st k ⟨.own y,(st k).er + 1,(st k).ec + 1⟩) (Act.tv a) r p er' ec' v:=by
   intro r p er' ec' v q
   by_cases hr : r = k
   ·subst hr
    have ⟨q1,q2,q3⟩:=q
    unfold qG
    rw [wa]
    refine ⟨Nat.le_succ_of_le q1,Nat.le_succ_of_le q2,?_⟩
    simp only
    intro e1
    omega
   ·unfold qG
    rw [Y8 _ _ hr]
    exact q
  cases hz : (st t).t with
  | als r p er' ec' => simp [hz] at q ⊢; exact ⟨q.1,als q.2⟩
  | ptr r p er' ec' => simp [hz] at q ⊢; exact ⟨q.1,ptr q.2⟩
  | _ => simp [hz] at q ⊢; exact q
theorem qo.retag {st1 : St} (hg : qo P C o a w st1) (k : Nat) (x y : A) (hx : (st1 k).t = .own x) (hl : LeA x y) : qo P C o a w (upd st1 k ⟨.own y,(st1 k).er + 1,(st1 k).ec + 1⟩) :=
 fun r m K Q hk => hg r m K Q fun S Fp a' w' hs => hk S Fp a' w' (hs.retag k x y hx hl)
def rtM (y : T) : Option (Nat × Bool × Nat × List A):=match y with | .own (.osl z b [.osl s true l]) => some (z,b,s,l) | _ => none
theorem zcF {y : T} {q : Nat × Bool × Nat × List A} (h : rtM y = some q) : y = .own (.osl q.1 q.2.1 [.osl q.2.2.1 true q.2.2.2]):=by
 unfold rtM at h
 split at h
 ·cases h; rfl
 ·cases h
def nbO (tt : TT) (n : Fr) (dst : Option Nat) (d t len : Nat) (ps : List (Nat × Operand)) : SM Unit :=
 jA tt n dst t len ps >>= fun _ => rdE d >>= fun e => ofO (rtM e.t) >>= fun q => wrE d ⟨.own (.osl q.1 false [.osl q.2.2.1 false q.2.2.2]),e.er + 1,e.ec + 1⟩
def nbH (tt : TT) (n : Fr) (dst : Option Nat) (d t len : Nat) (ps : List (Nat × Operand)) : HM Unit :=
 VL tt n dst t len ps >>= fun _ => zU (rdE d) >>= fun e => zU (ofO (rtM e.t)) >>= fun q => zU (wrE d ⟨.own (.osl q.1 false [.osl q.2.2.1 false q.2.2.2]),e.er + 1,e.ec + 1⟩)
theorem zkl (tt : TT) (n : Fr) (dst : Option Nat) (d t len : Nat) (ps : List (Nat × Operand)) : Snd (nbO tt n dst d t len ps) (nbH tt n dst d t len ps) :=
 z9 (z0V _ _ _ _ _ _) fun _ => z9 (zf _) fun _ => z9 (zf _) fun _ => zf _
theorem Loc.nbO (tt : TT) (n : Fr) (dst : Option Nat) (d t len : Nat) (ps : List (Nat × Operand)) : Loc (nbO tt n dst d t len ps) :=
 Loc.bind (by have q:=Loc.stepO tt zg6 n ⟨dst,.buildSlice t len ⟨ps⟩,0,default,default,none⟩; exact q) fun _ => Loc.bind (Loc.rdE _) fun _ => Loc.bind (Loc.ofO _) fun _ => Loc.wrE _ _
section
variable {C : Ctx} {S : zb} {Fp : Nat → List Nat} {st : St} {a : Act} {w : World}
theorem ziK (hT : wR P tt) (h : Sim C S Fp [] st a w)  {d t len : Nat} {ps : Array (Nat × Operand)} (ho : o.op = .buildSlice t len ps)    (e0 : nbO tt C.n o.dst d t len ps.toList st = some (u,R,U)) : qo P C o a w (za U st):=by
 obtain ⟨y,R1,U1,R2,U2,h1,e1,rfl,rfl⟩:=bind_some e0
 have g:=JS hT h ho h1
 rw [zi]
 generalize za U1 st = s1 at g e1 ⊢
 have ⟨_,e4⟩:=bD e1
 have ⟨q,_,hq,e5⟩:=bO e4
 cases e5
 have ht:=zcF hq
 exact g.retag d _ _ ht (@LeA.osl _ _ _ _ (@z5C.cons _ _ _ _ (LeA.osl _ _ _ _) ⟨rfl⟩ z5C.nil))
end
def zjN (d : Nat) (o : Oper) : Option (Nat × Nat × Array (Nat × Operand)):=match o.op with | .buildSlice t len ps => if o.dst = some d then some (t,len,ps) else none | _ => none
def xNb (hT : wR P tt) (d : Nat) : XH P :=
 xAt P (zjN d) (fun n o b => nbO tt n o.dst d b.1 b.2.1 b.2.2.toList) (fun n o b => nbH tt n o.dst d b.1 b.2.1 b.2.2.toList)
  (by
   intro C S Fp st a w o b hp h u R U e
   unfold zjN at hp
   split at hp
   ·rename_i ho; cases zbK hp; exact ziK hT h ho e
   ·cases hp)
  (fun n o b => Loc.nbO _ _ _ _ _ _ _) (fun n o b => zkl _ _ _ _ _ _ _)
abbrev HO:=List H × List Ob
def hoH (l : List HO) : List H:=List.rec [] (fun x _ r => x.1 ++ r) l
def hoO (l : List HO) : List Prop:=List.rec [] (fun x _ r => x.2.map Ob.p ++ r) l
def hoB (l : List HO) : List Ob:=List.rec [] (fun x _ r => x.2 ++ r) l
theorem z13 (l : List HO) : hoO l = (hoB l).map Ob.p:=by
 induction l with
 | nil => rfl
 | cons x l ih =>
  show x.2.map Ob.p ++ hoO l = (x.2 ++ hoB l).map Ob.p
  rw [List.map_append,ih]
def Hq {t b : Bool} (h : t = b) : HO:=([.b b],[ob h])
abbrev qT : HO:=Hq (Eq.refl true)
abbrev qF : HO:=Hq (Eq.refl false)
def Ha {x y : A} (h : x = y) : HO:=([.a y],[ob h])
def Hs {x : Option A}  (h : x = some y) : HO:=([.a y],[ob h])
def Hl {x y : List A} (h : x = y) : HO:=([.l y],[ob h])
def Hm {x y : List A} (h : p ∧ x = y) : HO:=([.l y],[ob h])
def Hx (a : H)  (h : p) : HO:=([a],[ob h])
def Hn (h : p) : HO:=([],[ob h])
def Hh (a : H) : HO:=([a],[])
def Hi {α : Type} (f : α → A) {l : List α}  {u : α} (h : idx l i = some u) : HO:=([.a (f u)],[ob (i0 h),ob (iM f h)])
def Hc {c : Ctr}   {enc : α → List A} {encR : ρ → A} {F : α → Option ρ}  {inj : ∀ x y,enc x = enc y → x = y} (h : c.Has (spF k enc encR F gives inj)) {x : α} {r : ρ} (hr : F x = some r)  (ha : as_.map A.loose = enc x) : HO :=
 ([.g gives,.a (encR r)],[ob (z4x h),ob (z4y h hr ha)])
def Hg {c : Ctr}   (h : c.gives k = gives) : HO:=([.g gives],[ob h])
def QN (l : List (Nat × T)) : List Nat:=l.map (·.1)
section
variable {P : Program} {tt : TT} {ctr : Ctr} {n : Fr} {Q : Exit → St → Prop}
theorem yE6 (X : XH P) (hT : wR P tt) (hC : zr P ctr) (hm : P.follows .mixedOrders = true) {E : St → Prop}    (hE : ∀ st x R U,zae tt keep rs st = some (x,R,U) → LeV x r → E st) {c : Code} {fs : List Fm} {st : St} (L : List HO)
  (e : zgz X tt ctr n keep rs 4000 c fs st (hoH L) = some (r,hoO L)) : AWP P n c st (Qf P n fs (zec E)) :=
 zeu X hT hC hm hE 4000 (hoB L) (by rw [← z13]; exact e) (LeV.refl _)
theorem zk9 (X : XH P) (hT : wR P tt) (hC : zr P ctr) (hm : P.follows .mixedOrders = true) {E : St → Prop}    (hE : ∀ st x R U,zae tt keep rs st = some (x,R,U) → LeV x r → E st) {c : Code} {fs : List Fm} {st : St} (L : List HO) (x : A) (hle : LeV x r)
  (e : zgz X tt ctr n keep rs 4000 c fs st (hoH L) = some (x,hoO L)) : AWP P n c st (Qf P n fs (zec E)) :=
 zeu X hT hC hm hE 4000 (hoB L) (by rw [← z13]; exact e) hle
theorem yB6 (X : XH P) (hT : wR P tt) (hC : zr P ctr) (hm : P.follows .mixedOrders = true) {τ : Type}  {live : List Nat} {S : τ → List (Nat × T)} {Inv : τ → Prop} (hJ : ∀ st' l' z,Inv z → canon live st' = ofL l' → LeL l' (S z) → J st') (z : τ) (hz : Inv z) {c : Code} {fs : List Fm} {st : St} (L : List HO)
  (e : z5E X tt ctr n live 4000 c fs st (hoH L) = some (.back J,ofL (S z),hoO L)) : AWP P n c st (Qf P n fs Q) :=
 zgn X hT hC hm live 4000 (hoH L) J (S z) (hoB L) (by rw [← z13]; exact e) fun st0 h0 => hJ st0 _ z hz h0 (LeL.refl _)
theorem yA6 (X : XH P) (hT : wR P tt) (hC : zr P ctr) (hm : P.follows .mixedOrders = true) {c : Code} {fs : List Fm} {st : St} (bd : Code) (path : List Nat) (Js : List (St → Prop)) (l : List (Nat × T)) (L : List HO)
  (e : z5E X tt ctr n (QN l) 4000 c fs st (hoH L) = some (.at (sub path bd) (frs path Js bd []),ofL l,hoO L)) (h : AWP P n (sub path bd) (ofL l) (Qf P n (frs path Js bd []) Q)) : AWP P n c st (Qf P n fs Q) :=
 zdP X hT hC hm (QN l) 4000 (hoH L) _ _ l (hoB L) (by rw [← z13]; exact e) fun st0 h0 => zdM h0 h
theorem yL6 (X : XH P) (hT : wR P tt) (hC : zr P ctr) (hm : P.follows .mixedOrders = true) {c : Code} {fs : List Fm} {st : St} (bd : Code) (path : List Nat) (Js : List (St → Prop))  (f : σ → Option (LR σ τ)) (S : σ → List (Nat × T)) (x0 : σ) {t : τ} (ht : loop f x0 = some t) (l : List (Nat × T)) (hl : LeL l (S x0)) (L : List HO)
  (hk : ∀ x,QN (S x) = QN l)
  (e : z5E X tt ctr n (QN l) 4000 c fs st (hoH L) = some (.at (sub path bd) (frs path Js bd []),ofL l,hoO L))
  (e2 : sub path bd = .loop (sub (path ++ [0]) bd))
  (round : ∀ x m lr,f x = some lr → zio f m t lr → ∀ J : St → Prop,(∀ st' l' x',QM f m x' = some t → canon (QN l) st' = ofL l' → LeL l' (S x') → J st') → AWP P n (sub (path ++ [0]) bd) (ofL (S x)) (Qf P n (.pre J :: frs path Js bd []) Q)) : AWP P n c st (Qf P n fs Q):=by
 refine zdP X hT hC hm (QN l) 4000 (hoH L) _ _ l (hoB L) (by rw [← z13]; exact e) fun st0 h0 => ?_
 refine zdN (X:=σ × Nat) e2 (QN l) (fun x => QM f x.2 x.1 = some t) (fun x => x.2) (fun x => S x.1) (x0,WJ) _ h0 hl ht ?_
 rintro ⟨x,k⟩ hx J hJ
 obtain ⟨m,lr,rfl,hf,hr⟩:=ziO hx
 exact round x m lr hf hr J fun st' l' x' h1 h2 h3 => hJ st' l' (x',m) h1 (Nat.lt_succ_self m) h2 h3
theorem yJ6 (X : XH P) (hT : wR P tt) (hC : zr P ctr) (hm : P.follows .mixedOrders = true) {c : Code} {fs : List Fm} {st : St} (bd : Code) (path : List Nat) (Js : List (St → Prop)) {σ : Type} (live : List Nat) (Inv : σ → Prop) (S : σ → List (Nat × T)) (l : List (Nat × T)) (L : List HO)
  (e : z5E X tt ctr n (QN l) 4000 c fs st (hoH L) = some (.at (sub path bd) (frs path Js bd []),ofL l,hoO L))
  (e2 : sub path bd = .seq (sub (path ++ [2]) bd) (sub (path ++ [1]) bd))
  (h1 : ∀ z,Inv z → AWP P n (sub (path ++ [1]) bd) (ofL (S z)) (Qf P n (frs path Js bd []) Q))
  (h2 : ∀ J : St → Prop,(∀ st' l' z,Inv z → canon live st' = ofL l' → LeL l' (S z) → J st') → AWP P n (sub (path ++ [2]) bd) (ofL l) (Qf P n (.pre J :: frs path Js bd []) Q)) : AWP P n c st (Qf P n fs Q):=by
 refine zdP X hT hC hm (QN l) 4000 (hoH L) _ _ l (hoB L) (by rw [← z13]; exact e) fun st0 h0 => ?_
 exact zdO e2 live (QN l) _ h0 Inv S h1 h2
theorem yF6 (X : XH P) (hT : wR P tt) (hC : zr P ctr) (hm : P.follows .mixedOrders = true) {c : Code} {fs : List Fm} {st : St} (ex : Exit) (l : List (Nat × T)) (L : List HO)
  (e : z5E X tt ctr n (QN l) 4000 c fs st (hoH L) = some (.fin ex,ofL l,hoO L)) (h : ∀ st0,canon (QN l) st0 = ofL l → Q ex st0) : AWP P n c st (Qf P n fs Q) :=
 zi3 X hT hC hm (QN l) 4000 (hoH L) ex l (hoB L) (by rw [← z13]; exact e) h
theorem zka (X : XH P) (hT : wR P tt) (hC : zr P ctr) (hm : P.follows .mixedOrders = true) {c : Code} {fs : List Fm} {st : St} (c' : Code) (fs' : List Fm) (l : List (Nat × T)) (L : List HO)
  (e : z5E X tt ctr n (QN l) 4000 c fs st (hoH L) = some (.at c' fs',ofL l,hoO L)) (h : ∀ st0,canon (QN l) st0 = ofL l → AWP P n c' st0 (Qf P n fs' Q)) : AWP P n c st (Qf P n fs Q) :=
 zdP X hT hC hm (QN l) 4000 (hoH L) _ _ l (hoB L) (by rw [← z13]; exact e) h
theorem yO6 {r : A} {ls : List A} (hT : wR P tt) (keep : Bool) (rs : List (Nat × Option Nat)) (body : Code) (nt : Nat) (hf : P.funcs[k]? = some fn) (hb : fn.body = some body) (hn : nt = fn.ntmps) (hr : fn.results = (rs.map zbV).toArray) (hnm : (fn.name == "runtime.NumGoroutine") = false) (ha : Nat.ble ls.length nt = true)
  (h : ∀ E : St → Prop,(∀ st x R U,zae tt keep rs st = some (x,R,U) → LeV x r → E st) → AWP P ⟨nt,[]⟩ body (ofL (z73 0 ls)) (Qf P ⟨nt,[]⟩ [] (zec E))) : z1a P k ls r:=by
 subst hn
 exact zdI (tt:=tt) (keep:=keep) (rs:=rs) (n:=⟨fn.ntmps,[]⟩) (body:=body) hT hf hnm hb rfl hr (Nat.le_of_ble_eq_true ha) h
end
section
variable {α β γ δ ε ζ η : Type} {f0 : α → A} {f1 : β → A} {f2 : γ → A} {f3 : δ → A} {f4 : ε → A} {f5 : ζ → A} {f6 : η → A}
theorem VY [h0 : Yp f0] (x y : α) (h : [f0 x] = [f0 y]) : x = y:=by simp only [List.cons.injEq,and_true] at h; exact h0.inj _ _ h
theorem Uv [h0 : Yp f0] [h1 : Yp f1] (x y : α × β) (h : [f0 x.1,f1 x.2] = [f0 y.1,f1 y.2]) : x = y:=by
 simp only [List.cons.injEq,and_true] at h
 exact Prod.ext (h0.inj _ _ h.1) (h1.inj _ _ h.2)
theorem z72 [h0 : Yp f0] [h1 : Yp f1] [h2 : Yp f2] (x y : α × β × γ) (h : [f0 x.1,f1 x.2.1,f2 x.2.2] = [f0 y.1,f1 y.2.1,f2 y.2.2]) : x = y:=by
 simp only [List.cons.injEq,and_true] at h
 exact Prod.ext (h0.inj _ _ h.1) (Prod.ext (h1.inj _ _ h.2.1) (h2.inj _ _ h.2.2))
theorem zkx [h0 : Yp f0] [h1 : Yp f1] [h2 : Yp f2] [h3 : Yp f3] (x y : α × β × γ × δ) (h : [f0 x.1,f1 x.2.1,f2 x.2.2.1,f3 x.2.2.2] = [f0 y.1,f1 y.2.1,f2 y.2.2.1,f3 y.2.2.2]) : x = y:=by
 simp only [List.cons.injEq,and_true] at h
 exact Prod.ext (h0.inj _ _ h.1) (Prod.ext (h1.inj _ _ h.2.1) (Prod.ext (h2.inj _ _ h.2.2.1) (h3.inj _ _ h.2.2.2)))
end
theorem zep [Decidable p]   {q : Unit × List Nat × List (Nat × Ent)} (h : (if p then m else zk) st = some q) : p ∧ m st = some q:=by
 by_cases hp : p
 ·rw [if_pos hp] at h; exact ⟨hp,h⟩
 ·rw [if_neg hp] at h; cases h
section
variable {C : Ctx} {S : zb} {Fp : Nat → List Nat} {X : List Nat} {st : St} {a : Act} {w : World}
def KZ (sz : Nat) (v : Value) (j : Int) : Value :=
 match v with
 | .slice (some p) _ _ => .pointer (some (p.add (j.toNat * sz)))
 | _ => .pointer none
theorem zcQ {j : Int} : (KZ sz v j).oneCell' = true:=by
 unfold KZ; split <;> rfl
end
def zfc (i : TI) : TI:=match i.zero with
 | some (.osl sz true []) => { i with zero:=some (.sl sz true []) }
 | _ => i
def ttS (tt : TT) (e : Nat) : TT:=fun t => if t = e then (tt t).map zfc else tt t
theorem zcl {i : TI} (h : jC P t i) : jC P t (zfc i):=by
 unfold zfc
 split
 ·rename_i sz hz
  have ⟨f,f1,f2,f3,f4⟩:=h.info
  refine ⟨⟨f,f1,f2,f3,?_⟩,h.kind,h.eqn⟩
  intro z hz'
  cases hz'
  have ⟨zv,v1,v2,v3⟩:=f4 _ hz
  refine ⟨zv,v1,by simpa [A.size] using v2,fun S hp => ?_⟩
  have q:=v3 S hp
  simp only [zz] at q ⊢
  have ⟨p,c,e,h1,h2,h3,h4,h5⟩:=q
  rcases h5 with ⟨_,rfl,rfl,_⟩ | ⟨b,arr,ty,l,F',_,_,_,_,_,hF,_⟩
  ·refine ⟨?_,trivial⟩
   simp only [Rep]
   exact ⟨none,0,e,by simp,by simp,by simp,.inl trivial⟩
  ·cases hF
 ·exact h
theorem zgL (hT : wR P tt) (e : Nat) : wR P (ttS tt e):=by
 intro t i h
 unfold ttS at h
 split at h
 ·cases ht : tt t with
  | none => rw [ht] at h; cases h
  | some j =>
   rw [ht] at h
   cases h
   exact zcl (hT _ _ ht)
 ·exact hT _ _ h
def zjO (d : Nat) (o : Oper) : Option (Nat × Operand × Operand):=match o.op with | .makeSlice t l c => if o.dst = some d then some (t,l,c) else none | _ => none
def xMs (hT : wR P tt) (d e : Nat) : XH P :=
 xAt P (zjO d) (fun n o b => Xe (ttS tt e) n o.dst b.1 b.2.1 b.2.2) (fun n o b => z05 (ttS tt e) n o.dst b.1 b.2.1 b.2.2)
  (by
   intro C S Fp st a w o b hp h u R U q
   unfold zjO at hp
   split at hp
   ·rename_i ho; cases zbK hp; exact z11 (zgL hT e) h ho q
   ·cases hp)
  (fun n o b => by have q:=Loc.stepO (ttS tt e) zg6 n ⟨o.dst,.makeSlice b.1 b.2.1 b.2.2,0,default,default,none⟩; exact q) (fun n o b => z2K _ _ _ _ _ _)
theorem zgu.mono {fv : Value} {vs : List Value}  {R R' : Value → World → Prop} (h : zgu P fv vs w R) (hr : ∀ v w',R v w' → R' v w') : zgu P fv vs w R':=by
 rcases h with ⟨k,caps,fn,h1,h2,h3,h4,h5⟩ | ⟨L,q,h1,h2,h3,h4⟩
 ·exact .inl ⟨k,caps,fn,h1,h2,h3,h4,Calls.mono h5 fun e w' ⟨v,e1,e2⟩ => ⟨v,e1,hr _ _ e2⟩⟩
 ·exact .inr ⟨L,q,h1,h2,h3,fun rd m => RoundIn.mono (h4 rd m) fun e w' ⟨v,e1,e2⟩ => ⟨v,e1,hr _ _ e2⟩⟩
def nlQ (sz : Nat) (l : List A) : Dpq:={
 holds:=fun S v => Rep S (.sl sz false l) [v] ∧ (l = [] → v = .slice none 0 0)
 one:=fun h => h.1.one _ (List.mem_singleton.2 rfl)
 mono:=fun k h => ⟨h.1.mono k,h.2⟩ }
theorem zfE {l : List A}   : (nlQ sz l).holds S v ↔ (Rep S (.sl sz false l) [v] ∧ (l = [] → v = .slice none 0 0)):=Iff.rfl
theorem Sim.retagD (h : Sim C S Fp [] st a w) (k : Nat) (x y : A) (hx : (st k).t = .d x) (hl : LeA x y) : Sim C S Fp [] (upd st k ⟨.d y,(st k).er + 1,(st k).ec + 1⟩) a w:=by
 refine { size:=h.size,pin:=h.pin,defers:=h.defers,below:=h.below,mine:=h.mine,still:=h.still,sinc:=h.sinc,sbase:=h.sbase,ent:=?_,disj:=h.disj,base:=h.base,xn:=h.xn,xd:=h.xd,xb:=h.xb }
 intro t
 have q:=h.ent t
 by_cases ht : t = k
 ·subst ht
  rw [wa]
  unfold yx at q ⊢
  simp [hx] at q ⊢
  exact ⟨hl.repV q.1,q.2⟩
 ·rw [Y8 _ _ ht]
  unfold yx at q ⊢
  have als : ∀ {r p er' ec' v},Zu w.heap st (Act.tv a) r p er' ec' v → Zu w.heap (upd st k ⟨.d y,(st k).er + 1,(st k).ec + 1⟩) (Act.tv a) r p er' ec' v:=by
   intro r p er' ec' v q
   by_cases hr : r = k
   ·subst hr
    have ⟨q1,q2,q3⟩:=q
    unfold Zu
    rw [wa]
    refine ⟨Nat.le_succ_of_le q1,Nat.le_succ_of_le q2,?_⟩
    simp only
    intro e1
    omega
   ·unfold Zu
    rw [Y8 _ _ hr]
    exact q
  have ptr : ∀ {r p er' ec' v},qG w.heap st (Act.tv a) r p er' ec' v → qG w.heap (upd st k ⟨.d y,(st k).er + 1,(st k).ec + 1⟩) (Act.tv a) r p er' ec' v:=by
   intro r p er' ec' v q
   by_cases hr : r = k
   ·subst hr
    have ⟨q1,q2,q3⟩:=q
    unfold qG
    rw [wa]
    refine ⟨Nat.le_succ_of_le q1,Nat.le_succ_of_le q2,?_⟩
    trivial
   ·unfold qG
    rw [Y8 _ _ hr]
    exact q
  cases hz : (st t).t with
  | als r p er' ec' => simp [hz] at q ⊢; exact ⟨q.1,als q.2⟩
  | ptr r p er' ec' => simp [hz] at q ⊢; exact ⟨q.1,ptr q.2⟩
  | _ => simp [hz] at q ⊢; exact q
theorem qo.retagD {st1 : St} (hg : qo P C o a w st1) (k : Nat) (x y : A) (hx : (st1 k).t = .d x) (hl : LeA x y) : qo P C o a w (upd st1 k ⟨.d y,(st1 k).er + 1,(st1 k).ec + 1⟩) :=
 fun r m K Q hk => hg r m K Q fun S Fp a' w' hs => hk S Fp a' w' (hs.retagD k x y hx hl)
open Classical in
def lsO (tt : TT) (n : Fr) (dst : Option Nat) (d : Nat) (y0 y1 : A) (t : Nat) (x : Operand) : SM Unit :=
 zda tt n dst t x >>= fun _ => rdE d >>= fun e => if e.t = .d y0 then wrE d ⟨.d y1,e.er + 1,e.ec + 1⟩ else zk
def lsH (tt : TT) (n : Fr) (dst : Option Nat) (d : Nat) (y0 y1 : A) (t : Nat) (x : Operand) : HM Unit :=
 (zU (opnd x) >>= fun y => zaE tt n dst t y) >>= fun _ => zU (rdE d) >>= fun e => WZ (e.t = .d y0) (zU (wrE d ⟨.d y1,e.er + 1,e.ec + 1⟩))
open Classical in
theorem zkn (tt : TT) (n : Fr) (dst : Option Nat) (d : Nat) (y0 y1 : A) (t : Nat) (x : Operand) : Snd (lsO tt n dst d y0 y1 t x) (lsH tt n dst d y0 y1 t x) :=
 z9 (z9 (zf _) fun y => za1 _ _ _ _ _) fun _ => z9 (zf _) fun _ => Y9 (zf _)
open Classical in
theorem Loc.lsO (tt : TT) (n : Fr) (dst : Option Nat) (d : Nat) (y0 y1 : A) (t : Nat) (x : Operand) : Loc (lsO tt n dst d y0 y1 t x):=by
 unfold Go.Own.lsO
 exact Loc.bind (by have q:=Loc.stepO tt zg6 n ⟨dst,.load t x,0,default,default,none⟩; exact q) fun _ => Loc.bind (Loc.rdE _) fun _ => Loc.ite (Loc.wrE _ _) Loc.fail
theorem ziN (hT : wR P tt)       (h : Sim C S Fp [] st a w)  {d t : Nat} {y0 y1 : A} (hl : LeA y0 y1)  (ho : o.op = .load t x)    (e0 : lsO tt C.n o.dst d y0 y1 t x st = some (u,R,U)) : qo P C o a w (za U st):=by
 unfold lsO at e0
 obtain ⟨y,R1,U1,R2,U2,h1,e1,rfl,rfl⟩:=bind_some e0
 have g:=zaD hT h ho h1
 rw [zi]
 generalize za U1 st = s1 at g e1 ⊢
 have ⟨_,e4⟩:=bD e1
 split at e4
 ·rename_i hc
  cases e4
  exact g.retagD d y0 y1 hc hl
 ·cases e4
def zjP (d : Nat) (o : Oper) : Option (Nat × Operand):=match o.op with | .load t x => if o.dst = some d then some (t,x) else none | _ => none
def xLs (hT : wR P tt) (d : Nat) (y0 y1 : A) (hl : LeA y0 y1) : XH P :=
 xAt P (zjP d) (fun n o b => lsO tt n o.dst d y0 y1 b.1 b.2) (fun n o b => lsH tt n o.dst d y0 y1 b.1 b.2)
  (by
   intro C S Fp st a w o b hp h u R U e
   unfold zjP at hp
   split at hp
   ·rename_i ho; cases zbK hp; exact ziN hT h hl ho e
   ·cases hp)
  (fun n o b => Loc.lsO _ _ _ _ _ _ _ _) (fun n o b => zkn _ _ _ _ _ _ _ _)
variable {cs : List Frame}
section
variable {P : Program}
theorem qW {b : Frame} {k : List Item}   : step P (lone (b.atR a (.code (.scope c) :: k)) cs w) = .next (lone (b.atR a (.code c :: .inScope c :: k)) cs w) :=
 step_lone_go (by simp [Go.stepG,Go.stepG.exec,Frame.atR])
theorem JD {b : Frame} {k : List Item}   : step P (lone (b.atR a (.inScope c :: k)) cs w) = .next (lone (b.atR a k) cs w) :=
 step_lone_go (by simp [Go.stepG,Go.stepG.exec,Frame.atR])
variable {n : Fr}
end
end Go.Own
end
