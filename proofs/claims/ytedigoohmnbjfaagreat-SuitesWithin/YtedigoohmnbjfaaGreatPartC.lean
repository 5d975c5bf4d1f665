/- -/
import Derived.Test.YtedigoohmnbjfaaGreatPartB
import Derived.LoopNIn
import Derived.IntWalk
import Derived.Shelf.SlSortCmp.NoneTotal
noncomputable section
set_option linter.unusedVariables false
set_option linter.defProp false
set_option linter.unusedSimpArgs false
namespace Go.Own
def zl3 (tt:TT)(n:Fr)(dst:TD)(op:BinOp)(xt:Nat)(vx vy:A):HM Unit :=
 match op with
 | .quo|.rem=>
  match vx,vy with
  | .atom (.int k a),.atom (.int k' b)=>if k=k' then kG (b≠0) (y7 (wrT n dst (.d (.atom (.int k (match op with|.quo=>k.wrap (a.tdiv b)|_=>a.tmod b)))))) else zL
  | _,_=>zL
 | _=>y7 (ofO (zhT tt op xt vx vy) >>= λr=>wrT n dst (.d r))
def zjU (tt:TT)(n:Fr)(dst:TD)(op:BinOp)(xt:Nat)(vx vy:A):Snd (ofO (zhT tt op xt vx vy) >>= λr=>wrT n dst (.d r)) (zl3 tt n dst op xt vx vy):=by
 have main:∀op,op=.quo\/op=.rem->Snd (ofO (zhT tt op xt vx vy) >>= λr=>wrT n dst (.d r)) (match vx,vy with
  | .atom (.int k a),.atom (.int k' b)=>if k=k' then kG (b≠0) (y7 (wrT n dst (.d (.atom (.int k (match op with|.quo=>k.wrap (a.tdiv b)|_=>a.tmod b)))))) else zL
  | _,_=>zL):=by
  intro op hop;cases vx with
  | atom v=>
   cases v with
   | int k a=>
    cases vy with
    | atom u=>
     cases u with
     | int k' b=>
      dsimp only
      by_cases hk:k=k'
      ·rw[if_pos hk];refine KX λhb=>?_;refine Qq ?_ (zk _);rcases hop with rfl|rfl <;> simp[zhT,if_pos hk,zep,if_neg hb] <;> exact zZ _ _
      rw[if_neg hk];exact zr _
     | _=>exact zr _
    | _=>exact zr _
   | _=>exact zr _
  | _=>exact zr _
 cases op with
 | quo=>exact main _ (.inl rfl)
 | rem=>exact main _ (.inr rfl)
 | _=>exact zk _
def zk9 (n:Fr)(dst:TD)(c x y:Operand):HM Unit:=y7 (opnd c) >>= λtc=>Jv tc >>= λvc=>
 match vc with
 | .atom (.bool b)=>zl6 b >>= λb=>match b with|true=>y7 (opnd x >>= λt=>wrT n dst t)|false=>y7 (opnd y >>= λt=>wrT n dst t)
 | _=>zL
def zjP (n:Fr)(dst:TD)(c x y:Operand):Snd (zaq n dst c x y) (zk9 n dst c x y):=by
 refine zh (zk _) λtc=>zh (kH _) λvc=>?_;cases vc with
 | atom v=>
  cases v with
  | bool b=>
   refine Qq (m':=pure b >>= λb=>match b with|true=>(opnd x >>= λt=>wrT n dst t)|false=>(opnd y >>= λt=>wrT n dst t)) ?_ (zh (za2 _) λb=>?_)
   ·rw[zZ];cases b <;> rfl
   cases b <;> exact zk _
  | _=>exact zr _
 | _=>exact zr _
def z5U (n:Fr)(dst:TD)(x:Operand):HM Unit:=y7 (opnd x) >>= λy=>
 match y with
 | .d (.fn f cs)=>y7 (wrT n dst (.d (.fn f cs)))
 | y=>z1O y >>= λq=>
  match q with
  | .inl _=>y7 (wrT n dst y)
  | .inr (r,p,er,ec)=>z3q r p er ec >>= λ_=>y7 (wrT n dst y)
def z91 (n:Fr)(dst:TD)(x:Operand):Snd (nilCheckO n dst x) (z5U n dst x):=by
 refine zh (zk _) λy=>?_;have main:∀y:T,Snd (ptrOf y >>= λq=>match q with
  | .inl _=>wrT n dst y
  | .inr (r,p,er,ec)=>lookP r p er ec >>= λ_=>wrT n dst y) (z1O y >>= λq=>
  match q with
  | .inl _=>y7 (wrT n dst y)
  | .inr (r,p,er,ec)=>z3q r p er ec >>= λ_=>y7 (wrT n dst y)):=by
  intro y;refine zh (z1B _) λq=>?_;rcases q with z|⟨r,p,er,ec⟩
  ·exact zk _
  exact zh (z4i _ _ _ _) λ_=>zk _
 cases y with
 | d a=>
  cases a with
  | fn f cs=>exact zk _
  | _=>exact main _
 | _=>exact main _
def z2t (dflt:Nat):Option Operand->HM Nat
 | none=>pure dflt
 | some x=>y7 (opnd x) >>= λt=>Jv t >>= λv=>
  match v with
  | .atom (.int _ j)=>kG (0<=j) (pure j.toNat)
  | _=>zL
def KY (dflt:Nat)(x:Option Operand):Snd (bound dflt x) (z2t dflt x):=by
 cases x with
 | none=>exact w8 _
 | some x=>
  refine zh (zk _) λt=>zh (kH _) λv=>?_;cases v with
  | atom v=>
   cases v with
   | int k j=>exact we (w8 _)
   | _=>exact zr _
  | _=>exact zr _
def zfn (tt:TT)(n:Fr)(dst:TD)(t:Nat)(x:Operand)(lo hi mx:Option Operand):HM Unit:=y7 (opnd x) >>= λy=>
 match y with
 | .d (.sl sz tg xs)=>
  if xD tt t=some sz then z2t 0 lo >>= λl=>z2t xs.length hi >>= λh=>
   match mx with
   | none=>kG (l<=h/\h<=xs.length) (eqA (.sl sz (tg&&h==xs.length) ((xs.drop l).take (h - l))) >>= λz=>y7 (wrT n dst (.d z)))
   | some _=>z2t 0 mx >>= λm=>if hi.isSome=true then kG (l<=h/\h<=m/\m<=xs.length) (eqA (.sl sz (m==h) ((xs.drop l).take (h - l))) >>= λz=>y7 (wrT n dst (.d z))) else zL
  else zL
 | _=>zL
def zgH (tt:TT)(n:Fr)(dst:TD)(t:Nat)(x:Operand)(lo hi mx:Option Operand):Snd (sliceO tt n dst t x lo hi mx) (zfn tt n dst t x lo hi mx):=by
 refine zh (zk _) λy=>?_;cases y with
 | d a=>
  cases a with
  | sl sz tg xs=>
   refine vO (zh (KY _ _) λl=>zh (KY _ _) λh=>?_) (zr _);cases mx with
   | none=>refine we ?_;exact Qq (zZ _ λz=>wrT n dst (.d z)).symm (zh (z2Z _) λ_=>zk _)
   | some m=>refine zh (KY _ _) λm=>z0N (λh1 h2=>⟨h2.1,h2.2.1,h2.2.2,h1⟩) ?_;exact Qq (zZ _ λz=>wrT n dst (.d z)).symm (zh (z2Z _) λ_=>zk _)
  | _=>exact zr _
 | _=>exact zr _
def z02 (tt:TT)(n:Fr)(dst:TD)(t:Nat)(l c:Operand):HM Unit:=y7 (opnd l) >>= λtl=>Jv tl >>= λvl=>y7 (opnd c) >>= λtc=>Jv tc >>= λvc=>
 match vl,vc with
 | .atom (.int _ x),.atom (.int _ y)=>
  match tt t with
  | some ⟨.slice e,_,_,_,_⟩=>
   match tt e with
   | some i=>
    match i.zero with
    | some z=>if i.bytes<=4096 then kG (0<=x/\x<=y/\y<=lim) (eqA (.osl i.size (decide (x=y)) (List.replicate x.toNat z)) >>= λr=>y7 (wrT n dst (.own r))) else zL
    | none=>zL
   | none=>zL
  | _=>zL
 | _,_=>zL
def z1C (tt:TT)(n:Fr)(dst:TD)(t:Nat)(l c:Operand):Snd (Xi tt n dst t l c) (z02 tt n dst t l c):=by
 refine zh (zk _) λtl=>zh (kH _) λvl=>zh (zk _) λtc=>zh (kH _) λvc=>?_;cases vl with
 | atom v=>
  cases v with
  | int k x=>
   cases vc with
   | atom u=>
    cases u with
    | int k' y=>
     dsimp only
     generalize tt t=q;rcases q with _|⟨k,a1,a2,a3,a4⟩
     ·exact zr _
     cases k with
     | slice e=>
      dsimp only
      generalize tt e=q;cases q with
      | none=>exact zr _
      | some i=>
       dsimp only
       cases i.zero with
       | none=>exact zr _
       | some z=>refine z0N (λh1 h2=>⟨h2.1,h2.2.1,h2.2.2,h1⟩) ?_;exact Qq (zZ _ λz=>wrT n dst (.own z)).symm (zh (z2Z _) λ_=>zk _)
     | _=>exact zr _
    | _=>exact zr _
   | _=>exact zr _
  | _=>exact zr _
 | _=>exact zr _
def VW (tt:TT)(n:Fr)(dst:TD)(t len:Nat)(ps:List (Nat×Operand)):HM Unit :=
 match tt t with
 | some ⟨.slice e,_,_,_,_⟩=>
  match tt e with
  | some i=>
   match i.zero with
   | some z=>z7y (ps.map λp=>(p.2,e)) tt >>= λxs=>
    if z1X (List.replicate len z) ((ps.map (·.1)).zip xs)=true/\len*i.size<=16777216/\len<=lim then
     y7 (wrT n dst (.own (.osl i.size true (KV (List.replicate len z) ((ps.map (·.1)).zip xs)))))
    else zL
   | none=>zL
  | none=>zL
 | _=>zL
def z0m (tt:TT)(n:Fr)(dst:TD)(t len:Nat)(ps:List (Nat×Operand)):Snd (ki tt n dst t len ps) (VW tt n dst t len ps):=by
 unfold ki VW;generalize tt t=q;rcases q with _|⟨k,a1,a2,a3,a4⟩
 ·exact zr _
 cases k with
 | slice e=>
  dsimp only
  generalize tt e=q;cases q with
  | none=>exact zr _
  | some i=>
   dsimp only
   cases i.zero with
   | none=>exact zr _
   | some z=>exact zh (z6M _ _) λxs=>vO (zk _) (zr _)
 | _=>exact zr _
def zbI (tt:TT)(n:Fr)(dst:TD)(t:Nat)(ps:List (Nat×Operand)):HM Unit :=
 match tt t with
 | some i=>
  match i.zero with
  | some (.agg zs)=>z7y (ps.map λp=>(p.2,0)) tt >>= λxs=>
   if z1X zs ((ps.map (·.1)).zip xs)=true/\z80 tt t zs ((ps.map (·.1)).zip xs)=true/\i.kind.isAgg=true/\((XM tt t 0).isSome=true\/z2b i.kind=true) then
    y7 (wrT n dst (mkT (.agg (KV zs ((ps.map (·.1)).zip xs)))))
   else zL
  | _=>zL
 | none=>zL
def zgS (tt:TT)(n:Fr)(dst:TD)(t:Nat)(ps:List (Nat×Operand)):Snd (z3E tt n dst t ps) (zbI tt n dst t ps):=by
 unfold z3E zbI;generalize tt t=q;cases q with
 | none=>exact zr _
 | some i=>
  dsimp only
  cases i.zero with
  | none=>exact zr _
  | some z=>
   cases z with
   | agg zs=>exact zh (z6M _ _) λxs=>vO (zk _) (zr _)
   | _=>exact zr _
def z5s (tt:TT)(ctr:Ctr)(n:Fr)(o:Oper):HM Unit :=
 match o.op with
 | .assign x=>y7 (opnd x) >>= λy=>
  match y with
  | .ptr r p er ec=>y7 (wrT n o.dst (.ptr r p er ec))
  | y=>K1 tt o.type y >>= λz=>y7 (wrT n o.dst (mkT z))
 | .binOp op xt x y _=>y7 (opnd x) >>= λtx=>Jv tx >>= λvx=>y7 (opnd y) >>= λty=>Jv ty >>= λvy=>zl3 tt n o.dst op xt vx vy
 | .unOp op _ x=>y7 (opnd x) >>= λt=>Jv t >>= λy=>y7 (ofO (unA op y) >>= λr=>wrT n o.dst (.d r))
 | .convert s t x=>y7 (opnd x) >>= λy=>Jv y >>= λv=>
  match v with
  | .atom (.int _ m)=>
   match tt s with
   | some _=>
    match tt t with
    | some ⟨.int k,_,_,_,_⟩=>y7 (wrT n o.dst (.d (.atom (.int k (k.wrap m)))))
    | _=>zL
   | none=>zL
  | _=>zL
 | .pick c x y=>zk9 n o.dst c x y
 | .nilCheck x=>z5U n o.dst x
 | .slice t x lo hi mx=>zfn tt n o.dst t x lo hi mx
 | .load t x=>y7 (opnd x) >>= λy=>zaS tt n o.dst t y
 | .store t x v=>if o.dst=none then y7 (opnd x) >>= λy=>y7 (opnd v) >>= λz=>z9K tt t y z else zL
 | .fieldAddr t x i=>y7 (opnd x) >>= λy=>z2i tt n o.dst t i y
 | .indexAddr t x i=>y7 (opnd x) >>= λy=>y7 (opnd i) >>= λti=>Jv ti >>= λvi=>if(z7o tt t).isSome=true then z06 tt n o.dst t y vi else z2f tt n o.dst t y vi
 | .box t x=>y7 (opnd x) >>= λy=>K1 tt t y >>= λz=>
  match z with
  | .tup _=>zL
  | z=>if z.isAgg=true\/z.size=1 then y7 (wrT n o.dst (.own (.box z))) else zL
 | .makeSlice t l c=>z02 tt n o.dst t l c
 | .buildSlice t len ps=>VW tt n o.dst t len ps.toList
 | .build t ps=>zbI tt n o.dst t ps.toList
 | .makeFunc (.func f) ⟨[]⟩ caps=>qB tt (caps.toList.map λx=>(x,0)) >>= λxs=>if xs.all z00=true then y7 (wrT n o.dst (.d (.fn f xs))) else zL
 | .call ⟨.builtin .len,⟨[x]⟩,⟨[t]⟩⟩=>y7 (opnd x) >>= λy=>z32 y >>= λz=>y7 (ofO (lenOf z)) >>= λm=>if ul tt t=true then eqA (.atom (.int .i64 m)) >>= λr=>y7 (wrT n o.dst (.d r)) else zL
 | .call ⟨.builtin .cap,⟨[x]⟩,⟨[t]⟩⟩=>y7 (opnd x) >>= λy=>z32 y >>= λz=>y7 (ofO (zeN z)) >>= λm=>if ul tt t=true then eqA (.atom (.int .i64 m)) >>= λr=>y7 (wrT n o.dst (.d r)) else zL
 | .call ⟨.builtin .append,⟨[s,x]⟩,⟨[t,t']⟩⟩=>if t=t' then y7 (opnd s) >>= λts=>y7 (opnd x) >>= λtx=>z32 tx >>= λy=>
   match y with
   | .osl _ _ ys=>zl6 (A.areD ys) >>= λb=>match b with|true=>z17 tt n o.dst t ts tx|false=>JM tt n o.dst t s x
   | _=>z17 tt n o.dst t ts tx
  else zL
 | .call ⟨.value f,args,tys⟩=>if args.size=tys.size then y7 (opnd f) >>= λtf=>Jv tf >>= λvf=>zbH tt ctr n o.dst vf (args.toList.zip tys.toList) else zL
 | _=>y7 (stepO tt ctr n o)
def zjT (tt:TT)(n:Fr)(dst:TD)(s t:Nat)(v:A):Snd (match v with
  | .atom (.int _ m)=>
   match tt s with
   | some _=>
    match tt t with
    | some ⟨.int k,_,_,_,_⟩=>wrT n dst (.d (.atom (.int k (k.wrap m))))
    | _=>zt
   | none=>zt
  | _=>zt:SM Unit) (match v with
  | .atom (.int _ m)=>
   match tt s with
   | some _=>
    match tt t with
    | some ⟨.int k,_,_,_,_⟩=>y7 (wrT n dst (.d (.atom (.int k (k.wrap m)))))
    | _=>zL
   | none=>zL
  | _=>zL):=by
 cases v with
 | atom u=>
  cases u with
  | int k m=>
   dsimp only
   generalize tt s=q;cases q with
   | none=>exact zr _
   | some _=>
    dsimp only
    generalize tt t=q;rcases q with _|⟨k,a1,a2,a3,a4⟩
    ·exact zr _
    cases k <;> first|exact zk _|exact zr _
  | _=>exact zr _
 | _=>exact zr _
def z6N (tt:TT)(ctr:Ctr)(n:Fr)(o:Oper):Snd (stepO tt ctr n o) (z5s tt ctr n o):=by
 unfold stepO z5s;cases ho:o.op with
 | move x=>exact sdLift' ho
 | assign x=>
  refine zh (zk _) λy=>?_;cases y with
  | ptr r p er ec=>exact zk _
  | _=>exact zh (Jy _ _ _) λz=>zk _
 | binOp op xt x y yt=>exact zh (zk _) λtx=>zh (kH _) λvx=>zh (zk _) λty=>zh (kH _) λvy=>zjU _ _ _ _ _ _ _
 | unOp op xt x=>exact zh (zk _) λt=>zh (kH _) λy=>zk _
 | convert s t x=>exact zh (zk _) λy=>zh (kH _) λv=>zjT _ _ _ _ _ _
 | pick c x y=>exact zjP _ _ _ _ _
 | extract x i=>exact sdLift' ho
 | nilCheck x=>exact z91 _ _ _
 | slice t x lo hi mx=>exact zgH _ _ _ _ _ _ _ _
 | load t x=>exact zh (zk _) λy=>z9Z _ _ _ _ _
 | store t x v=>exact vO (zh (zk _) λy=>zh (zk _) λz=>zdA _ _ _ _) (zr _)
 | fieldAddr t x i=>exact zh (zk _) λy=>z5A _ _ _ _ _ _
 | indexAddr t x i=>exact zh (zk _) λy=>zh (zk _) λti=>zh (kH _) λvi=>vO (z1D _ _ _ _ _ _) (z5z _ _ _ _ _ _)
 | alloc t=>exact sdLift' ho
 | box t x=>refine zh (zk _) λy=>zh (Jy _ _ _) λz=>?_;cases z <;> first|exact zr _|exact vO (zk _) (zr _)
 | makeSlice t l c=>exact z1C _ _ _ _ _ _
 | buildSlice t len ps=>exact z0m _ _ _ _ _ _
 | build t ps=>exact zgS _ _ _ _ _
 | makeFunc fn first caps=>
  cases fn with
  | func f=>
   have ⟨l⟩:=first;cases l with
   | nil=>exact zh (kD _ _) λxs=>vO (zk _) (zr _)
   | cons _ _=>exact sdLift' ho
  | _=>exact sdLift' ho
 | call c=>
  have ⟨callee,⟨args⟩,⟨tys⟩⟩:=c;cases callee with
  | value f=>exact vO (zh (zk _) λtf=>zh (kH _) λvf=>zgR _ _ _ _ _ _) (zr _)
  | invoke r m=>exact sdLift' ho
  | builtin b=>
   cases b with
   | len=>rcases args with _|⟨x,_|⟨y,l⟩⟩ <;> rcases tys with _|⟨t,_|⟨t',l'⟩⟩ <;> first|exact sdLift' ho|exact zh (zk _) λy=>zh (Ka _) λz=>zh (zk _) λm=>vO (Qq (zZ _ λr=>wrT n o.dst (.d r)).symm (zh (z2Z _) λr=>zk _)) (zr _)
   | cap=>rcases args with _|⟨x,_|⟨y,l⟩⟩ <;> rcases tys with _|⟨t,_|⟨t',l'⟩⟩ <;> first|exact sdLift' ho|exact zh (zk _) λy=>zh (Ka _) λz=>zh (zk _) λm=>vO (Qq (zZ _ λr=>wrT n o.dst (.d r)).symm (zh (z2Z _) λr=>zk _)) (zr _)
   | append=>
    rcases args with _|⟨x,_|⟨y,_|⟨z,l⟩⟩⟩ <;> rcases tys with _|⟨t,_|⟨t',_|⟨t'',l'⟩⟩⟩ <;> first|exact sdLift' ho|skip
    refine vO (zh (zk _) λts=>zh (zk _) λtx=>zh (Ka _) λw=>?_) (zr _);cases w with
    | osl sz tg ys=>
     dsimp only
     refine Qq (m':=pure (A.areD ys) >>= λb=>match b with|true=>appendA tt n o.dst t ts tx|false=>appendOwnA tt n o.dst t x y) ?_ (zh (za2 _) λb=>?_)
     ·rw[zZ];cases A.areD ys <;> rfl
     cases b
     ·exact z5B _ _ _ _ _ _
     exact z5C _ _ _ _ _ _
    | _=>exact z5C _ _ _ _ _ _
   | _=>exact sdLift' ho
 | _=>exact sdLift' ho
where sdLift' {op:Op} {tt:TT} {ctr:Ctr} {n:Fr} {o:Oper} {m:SM Unit} (ho:o.op=op) (e:stepO tt ctr n o=m:=by first|rfl|(unfold stepO;simp[ho])):Snd m (y7 (stepO tt ctr n o)):=e ▸ zk _
def zmi (mx:Bool):A->A->Option A
 | .atom (.int k a),.atom (.int k' b)=>if k=k' then some (.atom (.int k (if mx=true then(if a<b then b else a) else(if b<a then b else a)))) else none
 | _,_=>none
def minO (n:Fr)(dst:TD)(mx:Bool)(x y:Operand):SM Unit:=do
 let tx <-opnd x;let vx <-val tx;let ty <-opnd y;let vy <-val ty;let r <-ofO (zmi mx vx vy)
 wrT n dst (.d r)
def cutO (tt:TT)(n:Fr)(dst:TD)(t:Nat)(x hi:Operand):SM Unit:=do
 let y <-opnd x;let z <-take y;match z with
 | .osl sz _ es=>
  if xD tt t=some sz then(bound es.length (some hi) >>= λh=>if h<=es.length then wrT n dst (.own (.osl sz false (es.take h))) else zt)
  else zt
 | _=>zt
variable {P:Program}{U:List (Nat×Ent)}{R:TC}{S:zm}{tt:TT}{u:Unit}{o:Oper}{h:Array Obj}{t:Nat}{xs:List A}
section
variable {C:Ctx}{S:zm}{Fp:Nat->TC}{X:TC}{st:St}{a:Act}{w:World}
def zfF (h:Sim C S Fp [] st a w)  {mx:Bool}{x y:Operand}{t1 t2:Nat}(ho:o.op=.call ⟨.builtin (if mx=true then .max else .min),⟨[x,y]⟩,⟨[t1,t2]⟩⟩)    (e:minO C.n o.dst mx x y st=some (u,R,U)):vB P C o a w (zi U st):=by
 unfold minO at e;have ⟨tx,_,hx,e1⟩:=bR (zF h) e;have ⟨vx,_,qx,e2⟩:=bR (vA h hx) e1;have ⟨ty,_,hy,e3⟩:=bR (zF h) e2;have ⟨vy,_,qy,e4⟩:=bR (vA h hy) e3;have ⟨r,_,hr,e5⟩:=bO e4;unfold zmi at hr;split at hr
 ·split at hr
  ·rename_i hk;simp[Option.some.injEq]at hr;subst hr hk;have ⟨ex,_⟩:=zu.1 qx;have ⟨ey,_⟩:=zu.1 qy;have ⟨Fp',hs⟩:=xM h e5 (x:=.d _) (zu.2 ⟨rfl,rfl⟩);refine zo ?_ hs;cases mx
   ·simp[execOp,ho,resolve,invoke,builtin,ex,ey,Builtin.min_,Builtin.min2]
   simp[execOp,ho,resolve,invoke,builtin,ex,ey,Builtin.max_,Builtin.max2]
  cases hr
 cases hr
def z3B {cs:TE}{F:TC}(q:zQ S h xs cs F)(k:Nat):∃F',zQ S h (xs.take k) (cs.take (A.sizes (xs.take k))) F'/\(∀b∈F',b∈F)/\(F.Nodup->F'.Nodup):=by
 induction xs generalizing cs F k with
 | nil=>simp only[zQ]at q;obtain⟨rfl,rfl⟩:=q;exact⟨[],by simp[zQ],by simp,by simp⟩
 | cons x xs ih=>
  cases k with
  | zero=>exact⟨[],by simp[zQ,A.sizes],by simp,by simp⟩
  | succ k=>
   simp only[zQ]at q;obtain⟨c1,c2,F1,F2,rfl,rfl,q1,q2⟩:=q;have ⟨F',g1,g2,g3⟩:=ih q2 k;refine⟨F1++F',?_,?_,?_⟩
   ·simp only[rq,zQ,A.sizes];refine⟨c1,c2.take (A.sizes (xs.take k)),F1,F',?_,rfl,q1,g1⟩;rw[List.take_append,q1.len,mR (by rw[q1.len];omega)];simp
   ·intro b hb;rcases pg.1 hb with hb|hb
    ·simp[hb]
    simp[g2 b hb]
   intro hn;rw[pI]at hn ⊢;refine⟨hn.1,g3 hn.2.1,?_⟩;intro k hk k' hk';exact hn.2.2 k hk k' (g2 k' hk')
def zkW {P:Program}  (hT:xW P tt)(h:Sim C S Fp [] st a w)   {x hi:Operand}(ho:o.op=.slice t x none (some hi) none)    (e:cutO tt C.n o.dst t x hi st=some (u,R,U)):vB P C o a w (zi U st):=by
 unfold cutO at e;have ⟨y,_,hx,e1⟩:=bR (zF h) e;obtain⟨z,R3,U3,R4,U4,h3,e2,rfl,rfl⟩:=bind_some e1;have ⟨Fp',F,g1,g2⟩:=KT h hx h3;rw[zz];cases z with
 | osl sz tg es=>
  simp only at e2;split at e2
  ·rename_i hel;have ⟨hh,_,b2,e3⟩:=bR (QJ g1) e2;split at e3
   ·rename_i hle;have ⟨el,he,hsz⟩:=wB hT hel w;obtain⟨cs,k1,k2,k3⟩:∃cs,zK S w.heap (.osl sz tg es) cs F/\F.Nodup/\a.eval x=zU (.osl sz tg es) cs:=by
     rcases g2 with⟨q,_⟩|q
     ·simp only[xg,wW,Rep,false_and,exists_false]at q
     exact q
    simp only[zK]at k1;obtain⟨p,c,rfl,t1,t2,t3,t4,t5⟩:=k1;have ev:a.eval x=.slice p es.length c:=k3;have hrun:=ZN (P:=P) (w:=w) he hsz (p:=p) (len:=es.length) (c:=c) (lo:=none) (mx:=none) (.inl ⟨rfl,rfl⟩) (QK b2) (.inl ⟨rfl,rfl⟩) (pO _) (by omega) (pi c) (by simp);have hp:(if c=0 then p else p.map (·.add (0*sz)))=p:=by
     split
     ·rfl
     cases p <;> simp[Addr.add]
    rw[hp]at hrun;have hlen:(es.take hh).length=hh:=by simp;omega
    have ht4:∀x∈es.take hh,x.size=sz:=λx hx=>t4 x (gG hx);obtain⟨F2,cs2,m1,m2,m3,m4⟩:∃F2 cs2,zK S w.heap (.osl sz false (es.take hh)) cs2 F2/\F2.Nodup/\(∀k∈F2,k∈F)/\zU (.osl sz false (es.take hh)) cs2=.slice p hh c:=by
     rcases t5 with⟨rfl,rfl,rfl,rfl⟩|⟨b,arr,ty,l,F',rfl,e1,e2,e3,e4,rfl,e5⟩
     ·have:hh=0:=by simp at hle;omega
      subst this;refine⟨[],[.slice none 0 0],?_,by simp,by simp,rfl⟩;simp only[zK];exact⟨none,0,by simp,by simp,by simp,pO _,by simp,.inl (by simp)⟩
     have ⟨F3,q1,q2,q3⟩:=z3B e4 hh;have hn:=pR.1 k2;refine⟨b::F3,[.slice (some ⟨b,0,none⟩) hh c],?_,pR.2 ⟨λq=>hn.1 (q2 b q),q3 hn.2⟩,?_,rfl⟩
     ·simp only[zK];refine⟨some ⟨b,0,none⟩,c,by rw[hlen],by simp,by rw[hlen];omega,t3,ht4,.inr ⟨b,arr,ty,_,F3,rfl,e1,e2,?_,q1,rfl,e5⟩⟩;rw[<-e3,mZ,A.sizes_const ht4,hlen];congr 1;have:=gH sz hle;omega
     intro k hk;rcases pm.1 hk with rfl|hk
     ·simp
     simp[q2 k hk]
    have g1':Sim C S Fp' (F2++[]) (zi U3 st) a w:=g1.mem g1.below (λ_ _ _ h=>h) g1.still.cell g1.sbase (λt' k hk=>⟨rfl,(g1.free t' k hk).2.1⟩) (by simpa using m2) (λt' k hk=>g1.xd t' k (by simp at hk ⊢;exact m3 k hk)) (λk hk=>g1.xb k (by simp at hk ⊢;exact m3 k hk));have ⟨Fp'',hs⟩:=W9 g1' e3 m1 m2;rw[m4]at hs;refine zo ?_ hs;simp only[mY]at hrun;simp only[gE]at hrun;simp[execOp,ho,ev,hrun]
   cases e3
  cases e2
 | _=>cases e2
end
variable {w:World}{y:A}
def z7N (hT:xW P tt)   (hf:qX tt t y=true){w:World}{c1 cs c2:TE}(hl:cs.length=y.size) :
  (part t (c1++cs++c2).toArray c1.length).run P w=.ok (zU y cs) w:=by
 unfold qX at hf;split at hf
 ·rename_i i hi;simp only[pE,beq_iff_eq,ma]at hf;have ⟨⟨h1,h2⟩,h3⟩:=hf;have hk:=UW (hT t i hi).kind w;unfold part;simp only[Sem.run_bind,hk,Result.andThen_ok,Sem.run_ite];by_cases ha:i.kind.isAgg=true
  ·rw[if_pos ha];rw[h1]at ha;cases y <;> simp[A.isAgg]at ha;simp only[qN hT hi,Result.andThen_ok,h2,<-hl,Sem.run_pure,zU];congr 2;simp[List.extract_eq_take_drop]
  rw[if_neg ha];have h4:i.size=1:=by simpa[ha] using h3
  have hlen:cs.length=1:=by omega
  obtain⟨c,rfl⟩:=gZ.1 hlen;rw[h1]at ha;have:((c1++[c]++c2).toArray)[c1.length]?=some c:=by simp
  rw[this];cases y <;> simp_all [A.isAgg,zU]
 cases hf
def zfR (tt:TT)(t:Nat):Option (Nat×Nat) :=
 match tt t with
 | some ⟨.array n e,_,_,_,_⟩=>some (n,e)
 | _=>none
def indexO (tt:TT)(n:Fr)(dst:TD)(t:Nat)(x i:Operand):SM Unit:=do
 let tx <-opnd x;let vx <-val tx;let ti <-opnd i;let vi <-val ti;match vx,vi with
 | .agg fs,.atom (.int _ j)=>
  match zfR tt t with
  | some (m,e)=>match fs[j.toNat]? with
   | some y=>if 0<=j/\j<(m:Int)/\qX tt e y=true/\y.isD=true/\(fs.take j.toNat).all (λz=>z.size==y.size)=true then wrT n dst (.d y) else zt
   | none=>zt
  | none=>zt
 | _,_=>zt
variable {st:St}{Fp:Nat->TC}{a:Act}{C:Ctx}
def z8l {P:Program}  (hT:xW P tt)      {w:World}(h:Sim C S Fp [] st a w)   {x i:Operand}(ho:o.op=.index t x i)    (e:indexO tt C.n o.dst t x i st=some (u,R,U)):vB P C o a w (zi U st):=by
 unfold indexO at e;have ⟨tx,_,hx,e1⟩:=bR (zF h) e;have ⟨vx,_,qx,e2⟩:=bR (vA h hx) e1;have ⟨ty,_,hy,e3⟩:=bR (zF h) e2;have ⟨vy,_,qy,e4⟩:=bR (vA h hy) e3;split at e4
 ·rename_i fs k j;cases ha:zfR tt t with
  | none=>simp only[ha]at e4;cases e4
  | some q=>
   have ⟨m,el⟩:=q;simp only[ha]at e4;cases hf:fs[j.toNat]? with
   | none=>simp only[hf]at e4;cases e4
   | some y=>
    simp only[hf]at e4;split at e4
    ·rename_i hc;have ⟨c1,c2,c3,c4,c5⟩:=hc;have hk:P.underlying t=some (.array m el):=by
      unfold zfR at ha;split at ha
      ·rename_i ht;cases ha;exact(hT _ _ ht).kind
      cases ha
     obtain⟨i',hi⟩:∃i',tt el=some i':=by
      unfold qX at c3;split at c3
      ·exact⟨_,by assumption⟩
      cases c3
     have ⟨cs,r1,r2⟩:=(qx:wW S (.agg fs) (a.eval x));simp only[Rep]at r1;obtain⟨d1,ci,d2,rfl,hl,hr⟩:=Vr r1 hf;have ei:=(zu.1 qy).1;have hsz:i'.size=y.size:=by unfold qX at c3;rw[hi]at c3;simp only[pE,beq_iff_eq]at c3;exact c3.1.2
     have hoff:d1.length=j.toNat*i'.size:=by rw[hl,A.sizes_const (sz:=y.size) (λz hz=>by simpa using gD.1 c5 z hz),pP,hsz];congr 1;have:=(pf.1 hf).1;omega
     have ⟨Fp',hs⟩:=xM h e4 (x:=.d y) (wW.repV ⟨ci,hr,rfl⟩);refine zo ?_ hs;have hp:=z7N (P:=P) hT c3 (w:=w) (c1:=d1) (c2:=d2) hr.len;rw[hoff]at hp;have ex:a.eval x=.agg (d1++ci++d2).toArray:=r2;simp only[execOp,ho,Instr.index,asIntOf,ei,ex,Sem.run_bind,Sem.run_pure,Result.andThen_ok,run_underlying hk,c1,c2,and_self,if_true,qN hT hi,hp]
    cases e4
 cases e4
def zih (tt:TT)(n:Fr)(o:Oper):Option (SM Unit) :=
 match o.op with
 | .call ⟨.builtin .min,⟨[x,y]⟩,⟨[_,_]⟩⟩=>some (minO n o.dst false x y)
 | .call ⟨.builtin .max,⟨[x,y]⟩,⟨[_,_]⟩⟩=>some (minO n o.dst true x y)
 | .index t x i=>some (indexO tt n o.dst t x i)
 | _=>none
def Loc.indexO (tt:TT)(n:Fr)(dst:TD)(t:Nat)(x i:Operand):Loc (indexO tt n dst t x i):=by
 unfold Go.Own.indexO;refine Loc.bind (Loc.opnd _) λ_=>Loc.bind (Loc.val _) λ_=>Loc.bind (Loc.opnd _) λ_=>Loc.bind (Loc.val _) λ_=>?_;split
 ·split
  ·split
   ·exact Loc.ite (Loc.wrT _ _ _) Loc.fail
   exact Loc.fail
  exact Loc.fail
 exact Loc.fail
def Loc.minO (n:Fr)(dst:TD)(mx:Bool)(x y:Operand):Loc (minO n dst mx x y):=by unfold Go.Own.minO;exact Loc.bind (Loc.opnd _) λ_=>Loc.bind (Loc.val _) λ_=>Loc.bind (Loc.opnd _) λ_=>Loc.bind (Loc.val _) λ_=>Loc.bind (Loc.ofO _) λ_=>Loc.wrT _ _ _
def Loc.cutO (tt:TT)(n:Fr)(dst:TD)(t:Nat)(x hi:Operand):Loc (cutO tt n dst t x hi):=by
 unfold Go.Own.cutO;refine Loc.bind (Loc.opnd _) λ_=>Loc.bind (Loc.take _) λz=>?_;cases z with
 | osl sz tg es=>exact Loc.ite (Loc.bind (Loc.bound _ _) λ_=>Loc.ite (Loc.wrT _ _ _) Loc.fail) Loc.fail
 | _=>exact Loc.fail
def zhD (hT:xW P tt):z2z P (zih tt):=by
 refine⟨?_,?_⟩
 ·intro C S Fp st a w o m u R U e h h2;unfold zih at e;split at e
  ·rename_i ho;cases e;exact zfF (mx:=false) h ho h2
  ·rename_i ho;cases e;exact zfF (mx:=true) h ho h2
  ·rename_i ho;cases e;exact z8l hT h ho h2
  cases e
 intro n o m e;unfold zih at e;split at e
 ·cases e;exact λst st' a R U=>Loc.minO _ _ _ _ _ st st' a R U
 ·cases e;exact λst st' a R U=>Loc.minO _ _ _ _ _ st st' a R U
 ·cases e;exact λst st' a R U=>Loc.indexO _ _ _ _ _ _ st st' a R U
 cases e
def z3A (tt:TT)(d:Nat)(n:Fr)(o:Oper):Option (SM Unit) :=
 match o.op with
 | .slice t x none (some hi) none=>if o.dst=some d then some (cutO tt n o.dst t x hi) else none
 | _=>none
def zbo (hT:xW P tt)(d:Nat):z2z P (z3A tt d):=by
 refine⟨?_,?_⟩
 ·intro C S Fp st a w o m u R U e h h2;unfold z3A at e;split at e
  ·rename_i ho;split at e
   ·cases e;exact zkW hT h ho h2
   cases e
  cases e
 intro n o m e;unfold z3A at e;split at e
 ·split at e
  ·cases e;exact λst st' a R U=>Loc.cutO _ _ _ _ _ _ st st' a R U
  cases e
 cases e
structure XH (P:Program) where
 e:Fr->Oper->Option (SM Unit)
 h:Fr->Oper->Option (HM Unit)
 ok:z2z P e
 none:∀n o,e n o=none->h n o=none
 some:∀n o m,e n o=some m->∃q,h n o=some q/\Snd m q
def XH.or (x y:XH P):XH P:={
 e:=λn o=>match x.e n o with|.some m=>.some m|.none=>y.e n o
 h:=λn o=>match x.h n o with|.some m=>.some m|.none=>y.h n o
 ok:=by
  refine⟨?_,?_⟩
  ·intro C S Fp st a w o m u R U e;cases hx:x.e C.n o with
   | some m'=>simp only[hx]at e;cases e;exact x.ok.1 C S Fp st a w o _ u R U hx
   | none=>simp only[hx]at e;exact y.ok.1 C S Fp st a w o _ u R U e
  intro n o m e;cases hx:x.e n o with
  | some m'=>simp only[hx]at e;cases e;exact x.ok.2 n o _ hx
  | none=>simp only[hx]at e;exact y.ok.2 n o _ e
 none:=by
  intro n o e;cases hx:x.e n o with
  | some m'=>simp only[hx]at e;cases e
  | none=>simp only[hx]at e;simp only[x.none n o hx];exact y.none n o e
 some:=by
  intro n o m e;cases hx:x.e n o with
  | some m'=>simp only[hx]at e;cases e;have ⟨q,h1,h2⟩:=x.some n o _ hx;exact⟨q,by simp only[h1],h2⟩
  | none=>simp only[hx]at e;have ⟨q,h1,h2⟩:=y.some n o _ e;exact⟨q,by simp only[x.none n o hx];exact h1,h2⟩ }
def zmh (n:Fr)(dst:TD)(mx:Bool)(x y:Operand):HM Unit:=y7 (opnd x) >>= λtx=>Jv tx >>= λvx=>y7 (opnd y) >>= λty=>Jv ty >>= λvy=>y7 (ofO (zmi mx vx vy) >>= λr=>wrT n dst (.d r))
def zjQ (n:Fr)(dst:TD)(mx:Bool)(x y:Operand):Snd (minO n dst mx x y) (zmh n dst mx x y) :=
 zh (zk _) λ_=>zh (kH _) λ_=>zh (zk _) λ_=>zh (kH _) λ_=>zk _
def zo3 (tt:TT)(n:Fr)(dst:TD)(t:Nat)(x hi:Operand):HM Unit:=y7 (opnd x) >>= λy=>z6H y >>= λz=>
 match z with
 | .osl sz _ es=>if xD tt t=some sz then z2t es.length (some hi) >>= λh=>kG (h<=es.length) (eqL (es.take h) >>= λxs=>y7 (wrT n dst (.own (.osl sz false xs)))) else zL
 | _=>zL
def zm4 (tt:TT)(n:Fr)(dst:TD)(t:Nat)(x hi:Operand):Snd (cutO tt n dst t x hi) (zo3 tt n dst t x hi):=by
 refine zh (zk _) λy=>zh (z3e _) λz=>?_;cases z with
 | osl sz tg es=>refine vO (zh (KY _ _) λh=>we ?_) (zr _);exact Qq (zZ _ λxs=>wrT n dst (.own (.osl sz false xs))).symm (zh (z92 _) λ_=>zk _)
 | _=>exact zr _
def zfK (tt:TT)(n:Fr)(dst:TD)(t:Nat)(x i:Operand):HM Unit:=y7 (opnd x) >>= λtx=>Jv tx >>= λvx=>y7 (opnd i) >>= λti=>Jv ti >>= λvi=>
 y7 (match vx,vi with
 | .agg fs,.atom (.int _ j)=>
  match zfR tt t with
  | some (m,e)=>match fs[j.toNat]? with
   | some y=>if 0<=j/\j<(m:Int)/\qX tt e y=true/\y.isD=true/\(fs.take j.toNat).all (λz=>z.size==y.size)=true then wrT n dst (.d y) else zt
   | none=>zt
  | none=>zt
 | _,_=>zt)
def zgP (tt:TT)(n:Fr)(dst:TD)(t:Nat)(x i:Operand):Snd (indexO tt n dst t x i) (zfK tt n dst t x i) :=
 zh (zk _) λ_=>zh (kH _) λ_=>zh (zk _) λ_=>zh (kH _) λ_=>zk _
def xB (hT:xW P tt):XH P:={
 e:=zih tt
 h:=λn o=>match o.op with
  | .call ⟨.builtin .min,⟨[x,y]⟩,⟨[_,_]⟩⟩=>some (zmh n o.dst false x y)
  | .call ⟨.builtin .max,⟨[x,y]⟩,⟨[_,_]⟩⟩=>some (zmh n o.dst true x y)
  | .index t x i=>some (zfK tt n o.dst t x i)
  | _=>none
 ok:=zhD hT
 none:=by
  intro n o e;unfold zih at e;split at e
  ·cases e
  ·cases e
  ·cases e
  rfl
 some:=by
  intro n o m e;unfold zih at e;split at e
  ·rename_i ho;cases e;exact⟨_,by simp only,zjQ _ _ _ _ _⟩
  ·rename_i ho;cases e;exact⟨_,by simp only,zjQ _ _ _ _ _⟩
  ·rename_i ho;cases e;exact⟨_,by simp only,zgP _ _ _ _ _ _⟩
  cases e }
def zn9 (hT:xW P tt)(d:Nat):XH P:={
 e:=z3A tt d
 h:=λn o=>match o.op with
  | .slice t x none (some hi) none=>if o.dst=some d then some (zo3 tt n o.dst t x hi) else none
  | _=>none
 ok:=zbo hT d
 none:=by
  intro n o e;unfold z3A at e;split at e
  ·rename_i ho;split at e
   ·cases e
   rename_i hd;simp[if_neg hd]
  rfl
 some:=by
  intro n o m e;unfold z3A at e;split at e
  ·rename_i ho;split at e
   ·rename_i hd;cases e;exact⟨_,by simp[if_pos hd],zm4 _ _ _ _ _ _⟩
   cases e
  cases e }
def zbc {ks:TC}{m:SM Unit}(hm:∀S Fp st,Sim C S Fp [] st a w->∀u R U,m st=some (u,R,U)->vB P C o a w (zi U st))(h:Sim C S Fp [] st a w){u:Unit}{R:TC}{U:List (Nat×Ent)}
  (e:(shutArgs (λ_=>none) (ks.map λk=>(.tmp k,0)) >>= λ_=>m) st=some (u,R,U)):vB P C o a w (zi U st):=by
 obtain⟨xs,R1,U1,R2,U2,h1,e1,rfl,rfl⟩:=bind_some e;have ⟨S1,Fp1,g1,_⟩:=vw h h1;rw[zz];exact hm _ _ _ g1 _ _ _ e1
def znX (d:Nat⊕Nat)(o:Oper):Bool :=
 match d with
 | .inl d=>o.dst==some d
 | .inr p=>match o.op with|.store _ (.tmp q) _=>q==p|_=>false
def z2j (tt:TT)(d:Nat⊕Nat)(ks:TC)(n:Fr)(o:Oper):Option (SM Unit) :=
 if znX d o=true then some (shutArgs (λ_=>none) (ks.map λk=>(.tmp k,0)) >>= λ_=>stepO tt Jl n o) else none
def xL (hT:xW P tt)(d:Nat⊕Nat)(ks:TC):XH P:={
 e:=z2j tt d ks
 h:=λn o=>if znX d o=true then some (qB (λ_=>none) (ks.map λk=>(.tmp k,0)) >>= λ_=>z5s tt Jl n o) else none
 ok:=by
  refine⟨?_,?_⟩
  ·intro C S Fp st a w o m u R U e h h2;unfold z2j at e;split at e
   ·cases e;exact zbc (λS Fp st h u R U e=>z4c hT (z7i P) h e) h h2
   cases e
  intro n o m e;unfold z2j at e;split at e
  ·cases e;exact λst st' a R U=>Loc.bind (Loc.shutArgs _ _) (λ_=>Loc.stepO _ _ _ _) st st' a R U
  cases e
 none:=by
  intro n o e;unfold z2j at e;split at e
  ·cases e
  rename_i hd;rw[if_neg hd]
 some:=by
  intro n o m e;unfold z2j at e;split at e
  ·rename_i hd;cases e;exact⟨_,by rw[if_pos hd],zh (kD _ _) λ_=>z6N _ _ _ _⟩
  cases e }
def z7F (X:XH P)(tt:TT)(ctr:Ctr)(n:Fr)(o:Oper):HM Unit :=
 match X.h n o with
 | some q=>q
 | none=>z5s tt (ctr.withE X.e) n o
def z9W (X:XH P)(tt:TT)(ctr:Ctr)(n:Fr)(o:Oper):Snd (stepX tt (ctr.withE X.e) n o) (z7F X tt ctr n o):=by
 unfold stepX z7F;cases he:X.e n o with
 | none=>rw[X.none n o he];exact Qq (by simp[he]) (z6N _ _ _ _)
 | some m=>have ⟨q,h1,h2⟩:=X.some n o m he;rw[h1];exact Qq (by simp[he]) h2
def z6K (X:XH P)(tt:TT)(ctr:Ctr)(n:Fr)(ops:Array Oper)(o:Oper):HM Unit :=
 match o.guard with
 | none=>z7F X tt ctr n o
 | some (j,want)=>
  match (ops[j]?).bind (·.dst) with
  | some g=>y7 (rdE g) >>= λe=>
   match e.t with
   | .d (.atom (.bool b))=>zl6 b >>= λb=>if b=want then z7F X tt ctr n o else y7 (wrT n o.dst (.d (.tup [])))
   | .d (.tup [])=>y7 (wrT n o.dst (.d (.tup [])))
   | _=>zL
  | none=>zL
def zfB:List H->List H
 | .op 0::hs=>hs
 | .op (m+1)::hs=>.op m::hs
 | hs=>hs
def z7G (X:XH P)(tt:TT)(ctr:Ctr)(n:Fr)(ops:Array Oper)(o:Oper):HM Unit:=λst hs=>z6K X tt ctr n ops o st (zfB hs)
def zdB (X:XH P)(tt:TT)(ctr:Ctr)(n:Fr)(ops:Array Oper)(o:Oper):Snd (stepG tt (ctr.withE X.e) n ops o) (z6K X tt ctr n ops o):=by
 unfold stepG z6K;cases o.guard with
 | none=>exact z9W _ _ _ _ _
 | some q=>
  have ⟨j,want⟩:=q;dsimp only
  cases (ops[j]?).bind (·.dst) with
  | none=>exact zr _
  | some g=>
   refine zh (zk _) λe=>?_;have ⟨t,a,b⟩:=e;cases t with
   | d x=>
    cases x with
    | atom v=>
     cases v with
     | bool b=>refine Qq (m':=pure b >>= λb=>if b=want then stepX tt (ctr.withE X.e) n o else wrT n o.dst (.d (.tup []))) (zZ _ _).symm ?_;exact zh (za2 _) λb=>vO (z9W _ _ _ _ _) (zk _)
     | _=>exact zr _
    | tup l=>
     cases l with
     | nil=>exact zk _
     | cons _ _=>exact zr _
    | _=>exact zr _
   | _=>exact zr _
def z9X (X:XH P)(tt:TT)(ctr:Ctr)(n:Fr)(ops:Array Oper)(o:Oper):Snd (stepG tt (ctr.withE X.e) n ops o) (z7G X tt ctr n ops o) :=
 λst hs a R U hs' ob e ho=>zdB X tt ctr n ops o st (zfB hs) a R U hs' ob e ho
abbrev Lg:=List (TC×TC)
def z90 (X:XH P)(tt:TT)(ctr:Ctr)(n:Fr)(ops:Array Oper):List Oper->St->List H->Option (St×List H×List Prop×Lg)
 | [],st,hs=>some (st,hs,[],[])
 | o::os,st,hs=>
  match z7G X tt ctr n ops o st hs with
  | none=>none
  | some (_,R,U,hs',ob)=>
   match z90 X tt ctr n ops os (zi U st) hs' with
   | none=>none
   | some (st',hs'',ob',lg)=>some (st',hs'',ob++ob',(R,U.map (·.1))::lg)
variable {ops:Array Oper}
section
variable {P:Program}{X:XH P}{tt:TT}{ctr:Ctr}{n:Fr}
def z0V {K:St->Prop}:∀(l:List Oper) (st:St) (hs:List H) {st':St} {hs':List H} {ob:List Prop} {lg:Lg},z90 X tt ctr n ops l st hs=some (st',hs',ob,lg)->z1b ob->K st'->zgG tt (ctr.withE X.e) n ops l st K
 | [],st,hs,st',hs',ob,lg,e,ho,hk=>by simp only[z90,Option.some.injEq,Prod.mk.injEq]at e;obtain⟨rfl,_⟩:=e;exact hk
 | o::os,st,hs,st',hs',ob,lg,e,ho,hk=>by
  simp only[z90]at e;cases e1:z7G X tt ctr n ops o st hs with
  | none=>simp only[e1]at e;cases e
  | some q=>
   have ⟨u,R,U,hs1,ob1⟩:=q;simp only[e1]at e;cases e2:z90 X tt ctr n ops os (zi U st) hs1 with
   | none=>simp only[e2]at e;cases e
   | some q=>have ⟨st2,hs2,ob2,lg2⟩:=q;simp only[e2,Option.some.injEq,Prod.mk.injEq]at e;obtain⟨rfl,rfl,rfl,rfl⟩:=e;have ⟨o1,o2⟩:=yw ho;simp only[zgG,zid];rw[z9X X tt ctr n ops o _ _ _ _ _ _ _ e1 o1];exact z0V os _ _ e2 o2 hk
def z5x {K:St->Prop}:∀(l:List Oper) (st:St) (hs:List H) (logs:Lg) {st':St} {hs':List H} {ob:List Prop} {lg:Lg},z90 X tt ctr n ops l st hs=some (st',hs',ob,lg)->z1b ob->z2m ops.toList (logs++lg)=true->K st'->z9j tt (ctr.withE X.e) n ops l st logs K
 | [],st,hs,logs,st',hs',ob,lg,e,ho,hd,hk=>by simp only[z90,Option.some.injEq,Prod.mk.injEq]at e;obtain⟨rfl,_,_,rfl⟩:=e;exact⟨by simpa using hd,hk⟩
 | o::os,st,hs,logs,st',hs',ob,lg,e,ho,hd,hk=>by
  simp only[z90]at e;cases e1:z7G X tt ctr n ops o st hs with
  | none=>simp only[e1]at e;cases e
  | some q=>
   have ⟨u,R,U,hs1,ob1⟩:=q;simp only[e1]at e;cases e2:z90 X tt ctr n ops os (zi U st) hs1 with
   | none=>simp only[e2]at e;cases e
   | some q=>have ⟨st2,hs2,ob2,lg2⟩:=q;simp only[e2,Option.some.injEq,Prod.mk.injEq]at e;obtain⟨rfl,rfl,rfl,rfl⟩:=e;have ⟨o1,o2⟩:=yw ho;simp only[z9j,zid];rw[z9X X tt ctr n ops o _ _ _ _ _ _ _ e1 o1];exact z5x os _ _ _ e2 o2 (by simpa using hd) hk
end
inductive Fm where
 | seq (y:Code)
 | blk (id:Nat)
 | pre (J:St->Prop)
 | rnd (m:Nat) (c:Code)
def zir (P:Program)(n:Fr)(c:Code):Nat->St->(Exit->St->Prop)->Prop
 | 0,_,_=>False
 | m+1,st,Q=>AWP P n c st (z6F (λst'=>zir P n c m st' Q) Q)
variable {Q:Exit->St->Prop}{c:Code}{n:Fr}
def zir.loop:∀(m:Nat) (st:St),zir P n c m st Q->AWP P n (.loop c) st Q:=by
 intro m st h rd mm df w0 S0 M S Fp a w hc hs;refine wpIn_loop_rounds m ?_;have gen:∀(m:Nat) (st:St) (df':TC) (S:zm) (Fp:Nat->TC) (a:Act) (w:World),zir P n c m st Q->Sim ⟨n,df',w0,S0,M⟩ S Fp [] st a w->YT df M df' Fp w->Code.roundsIn (fen rd) mm P c (zch n df w0 S0 M Q) m a w:=by
  intro m;induction m with
  | zero=>intro st df' S Fp a w h _ _;exact h.elim
  | succ m ih=>
   intro st df' S Fp a w h hs hd;refine wpIn_mono (AWP.go h hc hs hd) ?_;intro e a' w' hp;cases e with
   | normal=>have ⟨df2,st2,S2,Fp2,h1,h2,h3⟩:=hp;exact ih st2 df2 S2 Fp2 a' w' h3 h1 h2
   | _=>exact hp.next λ_ q=>q
 exact gen m st df S Fp a w h hs (hc.post hs)
def Qf (P:Program)(n:Fr):List Fm->(Exit->St->Prop)->Exit->St->Prop
 | [],Q=>Q
 | .seq y::fs,Q=>z6F (λst=>AWP P n y st (Qf P n fs Q)) (Qf P n fs Q)
 | .blk id::fs,Q=>z3F id (Qf P n fs Q)
 | .pre J::fs,Q=>z6F J (Qf P n fs Q)
 | .rnd m c::fs,Q=>z6F (λst=>zir P n c m st (Qf P n fs Q)) (Qf P n fs Q)
inductive z8J where
 | fin (e:Exit)
 | back (J:St->Prop)
 | at(c:Code) (fs:List Fm)
def z8J.sem (P:Program)(n:Fr)(Q:Exit->St->Prop):z8J->St->Prop
 | .fin e,st=>Q e st
 | .back J,st=>J st
 | .at c fs,st=>AWP P n c st (Qf P n fs Q)
inductive Nxt where
 | go (y:Code) (fs:List Fm)
 | stop (s:z8J)
 | none
def unw:List Fm->Nxt
 | []=>.stop (.fin .normal)
 | .seq y::fs=>.go y fs
 | .blk _::fs=>unw fs
 | .pre J::_=>.stop (.back J)
 | .rnd (m+1) c::fs=>.go c (.rnd m c::fs)
 | .rnd 0 _::_=>.none
def z6t (id:Nat):List Fm->Option (List Fm)
 | []=>none
 | .blk i::fs=>if id=i then some fs else z6t id fs
 | .seq _::fs=>z6t id fs
 | .pre _::fs=>z6t id fs
 | .rnd _ _::fs=>z6t id fs
abbrev zcg:=Option (z8J×St×List H×List Prop)
def zij (ob:List Prop):zcg->zcg
 | none=>none
 | some (s,st,hs,ob')=>some (s,st,hs,ob++ob')
def goN (rec:Code->List Fm->St->List H->zcg)(x:Nxt)(st:St)(hs:List H):zcg :=
 match x with
 | .go y fs=>rec y fs st hs
 | .stop s=>some (s,st,hs,[])
 | .none=>none
def zdz (k:Nat):SM Unit:=do
 let y <-opnd (.tmp k);let q <-ptrOf y;match q with
 | .inr (r,p,er,ec)=>do
  let _ <-lookP r p er ec;let _ <-shutT (λ_=>none) 0 (.als r p er ec)
  pure ()
 | .inl _=>zt
def zdx (k:Nat):SM Unit:=do
 let e <-rdE k;match e.t with
 | .own (.osl sz t es)=>if A.lives es=true then wrE k ⟨.own (.osl sz t (A.shuts es)),e.er,e.ec+1⟩ else zt
 | _=>zt
def zeo:T->Bool
 | .own (.osl _ _ _)=>true
 | _=>false
def sealX (k:Nat):SM Unit:=do
 let e <-rdE k
 if zeo e.t=true then zdx k else zdz k
def z7K:TC->SM Unit
 | []=>pure ()
 | k::ks=>do
  sealX k
  z7K ks
def zfq (k:Nat):HM Unit :=
 y7 (opnd (.tmp k)) >>= λy=>y7 (ptrOf y) >>= λq=>
 match q with
 | .inr (r,p,er,ec)=>y7 (lookP r p er ec) >>= λ_=>z3b (λ_=>none) 0 (.als r p er ec) >>= λ_=>pure ()
 | .inl _=>zL
def zfp (k:Nat):HM Unit :=
 y7 (rdE k) >>= λe=>
 match e.t with
 | .own (.osl sz t es)=>zeq >>= λes'=>kG (A.lives es=true/\A.shuts es=es') (y7 (wrE k ⟨.own (.osl sz t es'),e.er,e.ec+1⟩))
 | _=>zL
def zfo (k:Nat):HM Unit:=y7 (rdE k) >>= λe=>if zeo e.t=true then zfp k else zfq k
def z4h:TC->HM Unit
 | []=>pure ()
 | k::ks=>zfo k >>= λ_=>z4h ks
def zgM (k:Nat):Snd (zdz k) (zfq k) :=
 zh (zk _) λy=>zh (zk _) λq=>by
  cases q with
  | inl _=>exact zr _
  | inr q=>have ⟨r,p,er,ec⟩:=q;exact zh (zk _) λ_=>zh (UV _ _ _) λ_=>w8 _
def zgL (k:Nat):Snd (zdx k) (zfp k):=by
 refine zh (zk _) λe=>?_;have ⟨t,er,ec⟩:=e;cases t with
 | own x=>
  cases x with
  | osl sz tg es=>
   intro st hs b R U hs' ob e ho;obtain⟨es',R1,U1,hs1,ob1,R2,U2,ob2,e1,e2,rfl,rfl,rfl⟩:=Qb e;unfold zeq at e1;split at e1
   ·cases e1;have ⟨⟨q1,q2⟩,ob',e3,o3⟩:=z4v e2 (yw ho).2;subst q2;dsimp only
    rw[if_pos q1];exact zk _ _ _ _ _ _ _ _ e3 o3
   cases e1
  | _=>exact zr _
 | _=>exact zr _
def zgK (k:Nat):Snd (sealX k) (zfo k):=zh (zk _) λe=>vO (zgL k) (zgM k)
def z7L:∀ks,Snd (z7K ks) (z4h ks)
 | []=>w8 _
 | k::ks=>zh (zgK k) λ_=>z7L ks
variable {k:Nat}
def zdw (h:Sim C S Fp [] st a w)     (e:zdx k st=some (u,R,U)):∃S' Fp',Sim C S' Fp' [] (zi U st) a w:=by
 unfold zdx at e;have ⟨_,e1⟩:=bD e;have hno:∀x,(st k).t=x->zeo x=false->False:=by
  intro x hx hn;rw[hx]at e1;cases x with
  | own y=>cases y <;> first|exact kC e1|(simp[zeo]at hn)
  | _=>exact kC e1
 have hyes:∃sz t es,(st k).t=.own (.osl sz t es):=by
  cases hx:(st k).t with
  | own y=>cases y <;> first|exact⟨_,_,_,rfl⟩|exact(hno _ hx rfl).elim
  | _=>exact(hno _ hx rfl).elim
 have ⟨sz,t,es,ht⟩:=hyes;rw[ht]at e1;dsimp only at e1;split at e1
 ·rename_i hl;cases e1;have hr:=h.ent k;unfold xm at hr;simp only[ht]at hr;have ⟨cs,q,q1,q2⟩:=hr;simp only[zK]at q;obtain⟨p,c,rfl,d1,d2,d3,d4,d5⟩:=q;simp only[zi];rcases d5 with⟨rfl,rfl,rfl,hF0⟩|⟨b,arr,ty,l,F1,rfl,e1,e2,e3,e4,hF0,e5⟩
  ·exact⟨S,QR Fp k [],h.change k (.own (.osl sz t (A.shuts []))) _ _ [] h.below (λ_ _ _ q=>q) h.still.cell h.sbase (λt' k' hk hk'=>⟨rfl,(h.free t' k' hk').2.1⟩)
    ⟨⟨_,by simp only[zK];exact⟨none,0,rfl,λ_=>rfl,pi _,pO _,by simp[A.shuts],.inl (by simp[A.shuts])⟩,by simp,by rw[q2];rfl⟩,_,ht⟩ (.inl ⟨_,ht⟩) (pi _) (gF _) (by simp) (by simp) h.xn (λt k _ hk=>h.xd t k hk) (by simp) h.xb⟩
  have hF7:∀q∈F1,q∈Fp k:=λq hq=>by rw[hF0];exact mX _ hq
  have ⟨m1,m2,m3,m4⟩:=Q6 h hF7;have hrs:=zQ.shut (S':=y4 S w.heap F1) m1 e4 hl (λk hk o=>by unfold y4;rw[if_pos hk]);have hlen:(A.shuts es).length=es.length:=by simp[A.shuts_eq]
  have hb:b∉F1:=by rw[hF0]at q1;exact(pR.1 q1).1
  have hbk:b∈Fp k:=by rw[hF0];exact rt
  refine⟨y4 S w.heap F1,QR Fp k [b],h.change k (.own (.osl sz t (A.shuts es))) _ _ [b] h.below m1 m2 m3 ?_ ⟨⟨_,?_,by simp,by rw[q2];rfl⟩,_,ht⟩ (.inl ⟨_,ht⟩) (pi _) (gF _) ?_ ?_ h.xn (λt k _ hk=>h.xd t k hk) (by simp) h.xb⟩
  ·intro t' k' hk hk';refine⟨rfl,λo=>?_⟩;rw[m4 k' (λhF=>hk (h.disj t' k k' hk' (hF7 k' hF)))];exact(h.free t' k' hk').2.1 o
  ·simp only[zK];refine⟨some ⟨b,0,none⟩,c,by rw[hlen],λht=>by rw[hlen];exact d1 ht,by rw[hlen];exact d2,d3,?_,.inr ⟨b,arr,ty,_,[],rfl,e1,e2,by rw[hlen];exact e3,yb.concs _ hrs,rfl,?_⟩⟩
   ·intro x hx;rw[A.shuts_eq]at hx;obtain⟨y,hy,rfl⟩:=pX.1 hx;rw[A.size_shut];exact d4 y hy
   intro o;rw[m4 b hb];exact e5 o
  ·intro t' k' hk hk' hk2;simp only[pm,pY,or_false]at hk';subst hk';exact hk (h.disj t' k _ hk2 hbk)
  intro k' hk';simp only[pm,pY,or_false]at hk';subst hk';exact h.base k _ hbk
 cases e1
def zdy (h:Sim C S Fp [] st a w)     (e:zdz k st=some (u,R,U)):∃S' Fp',Sim C S' Fp' [] (zi U st) a w:=by
 unfold zdz at e;obtain⟨y,R1,U1,R2,U2,h1,e1,rfl,rfl⟩:=bind_some e;obtain⟨rfl,hx⟩:=zF h h1;obtain⟨q,R3,U3,R4,U4,h3,e2,rfl,rfl⟩:=bind_some e1;obtain⟨rfl,hq⟩:=Qx h hx h3;simp only[zi,pN]at e2 ⊢;split at e2
 ·rename_i r p er ec;obtain⟨z,R7,U7,R8,U8,h7,e4,rfl,rfl⟩:=bind_some e2;obtain⟨rfl,x0,k1,k2,k3,k4⟩:=QC h7;simp only[zi,pN]at e4 ⊢;obtain⟨z2,R9,U9,R10,U10,h9,e5,rfl,rfl⟩:=bind_some e4;obtain⟨_,_,rfl⟩:=uA e5;have ⟨b,o',arr,ty,csy,Fy,cs,ev,o1,f2,f3,f4,f5,f6,f7,f8,f9,f10,f11,_⟩:=z1N h hq k1 k2 k3 k4;have hals:TOk S w.heap st (Act.tv a) (.als r p er ec) (zU z csy):=⟨by omega,by omega,by simp only[k1];exact λ_ _=>.inr ⟨o1,z,b,o',csy,k4,f11,f4.len,z4f f2 f3,rfl⟩⟩
  have ⟨S',Fp',g1,_⟩:=K7 h hals h9;exact⟨S',Fp',by simpa using g1⟩
 cases e2
def zdv (h:Sim C S Fp [] st a w)     (e:sealX k st=some (u,R,U)):∃S' Fp',Sim C S' Fp' [] (zi U st) a w:=by
 unfold sealX at e;have ⟨_,e1⟩:=bD e;split at e1
 ·exact zdw h e1
 exact zdy h e1
def z5y:∀{ks:TC} {S:zm} {Fp:Nat->TC} {st:St},Sim C S Fp [] st a w->∀{u:Unit} {R:TC} {U:List (Nat×Ent)},z7K ks st=some (u,R,U)->∃S' Fp',Sim C S' Fp' [] (zi U st) a w
 | [],S,Fp,st,h,u,R,U,e=>by obtain⟨_,rfl,rfl⟩:=uA e;exact⟨S,Fp,h⟩
 | k::ks,S,Fp,st,h,u,R,U,e=>by simp[z7K]at e;obtain⟨_,R1,U1,R2,U2,h1,e1,rfl,rfl⟩:=bind_some e;have ⟨S1,Fp1,g1⟩:=zdv h h1;rw[zz];exact z5y g1 e1
def zow:List H->List H
 | .n (m+1) ks::hs=>.n m ks::hs
 | .v (m+1) ks::hs=>.v m ks::hs
 | .stp (m+1)::hs=>.stp m::hs
 | hs=>hs
def z4e (rec:Code->List Fm->St->List H->zcg)(X:XH P)(tt:TT)(ctr:Ctr)(n:Fr)(c:Code)(fs:List Fm)(st:St)(hs:List H):zcg :=
  match c with
  | .skip=>goN rec (unw fs) st hs
  | .label _=>goN rec (unw fs) st hs
  | .ret=>some (.fin .ret,st,hs,[])
   | .exit id=>match z6t id fs with|some fs'=>goN rec (unw fs') st hs|none=>some (.fin (.exit id),st,hs,[])
  | .region _ ops d=>
   match z90 X tt ctr n ops ops.toList st hs with
   | some (st',hs',ob,lg)=>if d=false\/z2m ops.toList lg=true then zij ob (goN rec (unw fs) st' hs') else none
   | none=>none
  | .seq x y=>
   match hs with
   | .cut 0::hs'=>some (.at (.seq x y) fs,st,hs',[])
   | .cut (m+1)::hs'=>rec x (.seq y::fs) st (.cut m::hs')
   | hs=>rec x (.seq y::fs) st hs
  | .cond o x y=>
   match z7k st o with
   | some b=>
    match hs with
    | .b b' :: hs'=>zij [b=b'] (rec (match b' with|true=>x|false=>y) fs st hs')
    | _=>none
   | none=>none
  | .block id c=>rec c (.blk id::fs) st hs
  | .loop c=>
   match hs with
   | .u m::hs'=>rec c (.rnd m c::fs) st hs'
   | hs=>some (.at (.loop c) fs,st,hs,[])
  | c=>some (.at c fs,st,hs,[])
def za8 (X:XH P)(tt:TT)(ctr:Ctr)(n:Fr):Nat->Code->List Fm->St->List H->zcg
 | 0,_,_,_,_=>none
 | k+1,c,fs,st,hs=>
  match hs with
  | .n 0 ks::hs=>
   match qB (λ_=>none) (ks.map λi=>(.tmp i,0)) st hs with
   | some (_,_,U,hs',ob)=>zij ob (za8 X tt ctr n k c fs (zi U st) hs')
   | none=>none
  | .v 0 ks::hs=>
   match z4h ks st hs with
   | some (_,_,U,hs',ob)=>zij ob (za8 X tt ctr n k c fs (zi U st) hs')
   | none=>none
  | .stp 0::hs=>some (.at c fs,st,hs,[])
  | hs=>z4e (za8 X tt ctr n k) X tt ctr n c fs st (zow hs)
variable {fs:List Fm}{rec:Code->List Fm->St->List H->zcg}{hs:List H}
section
variable {P:Program}{tt:TT}{ctr:Ctr}{n:Fr}{Q:Exit->St->Prop}
theorem z5n {k:Nat}  (hrec:∀c fs st hs s st' hs' ob,rec c fs st hs=some (s,st',hs',ob)->z1b ob->s.sem P n Q st'->AWP P n c st (Qf P n fs Q)) :
  ∀(fs:List Fm) {st:St} {hs:List H} {s:z8J} {st':St} {hs':List H} {ob:List Prop},goN rec (unw fs) st hs=some (s,st',hs',ob)->z1b ob->s.sem P n Q st'->Qf P n fs Q .normal st
 | [],st,hs,s,st',hs',ob,e,ho,h=>by simp only[unw,goN,Option.some.injEq,Prod.mk.injEq]at e;obtain⟨rfl,rfl,_⟩:=e;exact h
 | .seq y::fs,st,hs,s,st',hs',ob,e,ho,h=>by simp only[unw,goN]at e;exact hrec _ _ _ _ _ _ _ _ e ho h
 | .blk id::fs,st,hs,s,st',hs',ob,e,ho,h=>by simp only[unw]at e;exact z5n (k:=k) hrec fs e ho h
 | .pre J::fs,st,hs,s,st',hs',ob,e,ho,h=>by simp only[unw,goN,Option.some.injEq,Prod.mk.injEq]at e;obtain⟨rfl,rfl,_⟩:=e;exact h
 | .rnd (m+1) c::fs,st,hs,s,st',hs',ob,e,ho,h=>by simp only[unw,goN]at e;exact hrec _ _ _ _ _ _ _ _ e ho h
 | .rnd 0 c::fs,st,hs,s,st',hs',ob,e,ho,h=>by simp only[unw,goN]at e;cases e
theorem z1t {id:Nat}  : ∀(fs:List Fm) {fs':List Fm},z6t id fs=some fs'->Qf P n fs' Q .normal st->Qf P n fs Q (.exit id) st
 | [],fs',e,h=>by cases e
 | .blk i::fs,fs',e,h=>by
  simp[z6t]at e;simp[Qf,z3F];split at e
  ·rename_i hi;cases e;rw[if_pos hi];exact h
  rename_i hi;rw[if_neg hi];exact z1t fs e h
 | .seq y::fs,fs',e,h=>z1t fs (by simpa only[z6t] using e) h
 | .pre J::fs,fs',e,h=>z1t fs (by simpa only[z6t] using e) h
 | .rnd _ _::fs,fs',e,h=>z1t fs (by simpa only[z6t] using e) h
def z5K:∀(fs:List Fm),Q .ret st->Qf P n fs Q .ret st
 | [],h=>h
 | .seq _::fs,h=>z5K fs h
 | .blk _::fs,h=>z5K fs h
 | .pre _::fs,h=>z5K fs h
 | .rnd _ _::fs,h=>z5K fs h
theorem z1M {id:Nat}  : ∀(fs:List Fm),z6t id fs=none->Q (.exit id) st->Qf P n fs Q (.exit id) st
 | [],_,h=>h
 | .blk i::fs,e,h=>by
  simp[z6t]at e;simp[Qf,z3F];split at e
  ·cases e
  rename_i hi;rw[if_neg hi];exact z1M fs e h
 | .seq y::fs,e,h=>z1M fs (by simpa only[z6t] using e) h
 | .pre J::fs,e,h=>z1M fs (by simpa only[z6t] using e) h
 | .rnd _ _::fs,e,h=>z1M fs (by simpa only[z6t] using e) h
def Kv {ob:List Prop}{x:zcg}{s:z8J}   {ob':List Prop}(e:zij ob x=some (s,st,hs,ob')):∃ob2,x=some (s,st,hs,ob2)/\ob'=ob++ob2:=by
 cases x with
 | none=>cases e
 | some q=>have ⟨s1,st1,hs1,ob1⟩:=q;simp[zij,Option.some.injEq,Prod.mk.injEq]at e;obtain⟨rfl,rfl,rfl,rfl⟩:=e;exact⟨ob1,rfl,rfl⟩
def AWP.label {l:Nat}   (h:Q .normal st):AWP P n (.label l) st Q:=λ_ _ _ _ _ _ _ _ _ _ hc hs=>wpIn_label (hc.fin hs h)
theorem zdo (X:XH P)(hT:xW P tt)(hC:Zr P ctr)(hm:P.follows .mixedOrders=true)  (ih:∀c fs st hs s st' hs' ob,rec c fs st hs=some (s,st',hs',ob)->z1b ob->s.sem P n Q st'->AWP P n c st (Qf P n fs Q))(c:Code)(fs:List Fm)(st:St)(hs:List H)(s:z8J)(st':St)(hs':List H)(ob:List Prop)
  (e:z4e rec X tt ctr n c fs st hs=some (s,st',hs',ob)) (ho:z1b ob) (h:s.sem P n Q st'):AWP P n c st (Qf P n fs Q):=by
 cases c with
 | skip=>exact AWP.skip (z5n (k:=0) ih fs e ho h)
 | label l=>exact AWP.label (z5n (k:=0) ih fs e ho h)
 | ret=>simp only[z4e,Option.some.injEq,Prod.mk.injEq]at e;obtain⟨rfl,rfl,_⟩:=e;exact AWP.ret (z5K fs h)
 | exit id=>
  simp only[z4e]at e;cases hx:z6t id fs with
  | none=>simp only[hx,Option.some.injEq,Prod.mk.injEq]at e;obtain⟨rfl,rfl,_⟩:=e;exact AWP.exit (z1M fs hx h)
  | some fs'=>simp only[hx]at e;exact AWP.exit (z1t fs hx (z5n (k:=0) ih fs' e ho h))
 | region id ops d=>
  simp only[z4e]at e;cases hx:z90 X tt ctr n ops ops.toList st hs with
  | none=>simp only[hx]at e;cases e
  | some q=>
   have ⟨st1,hs1,ob1,lg⟩:=q;simp only[hx]at e;by_cases hd:d=false\/z2m ops.toList lg=true
   ·rw[if_pos hd]at e;obtain⟨ob2,e2,rfl⟩:=Kv e;have ⟨o1,o2⟩:=yw ho;have hq:=z5n (k:=0) ih fs e2 o2 h;cases d with
    | false=>exact AWP.region hT (hC.withE X.ok) (z0V _ _ _ hx o1 hq)
    | true=>exact AWP.drawn hT (hC.withE X.ok) hm (z5x _ _ _ [] hx o1 (by simpa using hd) hq)
   rw[if_neg hd]at e;cases e
 | seq x y=>
  have gen:∀hs,rec x (.seq y::fs) st hs=some (s,st',hs',ob)->AWP P n (.seq x y) st (Qf P n fs Q):=λhs e=>AWP.seq (ih _ _ _ _ _ _ _ _ e ho h);rcases hs with _|⟨q,hs⟩
  ·exact gen _ e
  cases q with
  | cut m=>
   cases m with
   | zero=>simp only[z4e,Option.some.injEq,Prod.mk.injEq]at e;obtain⟨rfl,rfl,_⟩:=e;exact h
   | succ m=>exact gen _ e
  | _=>exact gen _ e
 | cond o x y=>
  simp only[z4e]at e;cases hb:z7k st o with
  | none=>simp only[hb]at e;cases e
  | some b=>
   simp only[hb]at e;rcases hs with _|⟨q,hs⟩
   ·cases e
   cases q with
   | b b'=>
    obtain⟨ob2,e2,rfl⟩:=Kv e;have h1:b=b':=ho.1;subst h1;cases b with
    | true=>exact AWP.condT hb (ih _ _ _ _ _ _ _ _ e2 ho.2 h)
    | false=>exact AWP.condF hb (ih _ _ _ _ _ _ _ _ e2 ho.2 h)
   | _=>cases e
 | block id c=>exact AWP.block (ih _ _ _ _ _ _ _ _ e ho h)
 | loop c=>
  have gen:some (z8J.at (.loop c) fs,st,hs,([]:List Prop))=some (s,st',hs',ob)->AWP P n (.loop c) st (Qf P n fs Q):=by intro e;cases e;exact h
  rcases hs with _|⟨q,hs⟩
  ·exact gen e
  cases q with
  | u m=>exact zir.loop (m+1) st (ih _ _ _ _ _ _ _ _ e ho h)
  | _=>exact gen e
 | _=>simp only[z4e,Option.some.injEq,Prod.mk.injEq]at e;obtain⟨rfl,rfl,_⟩:=e;exact h
def z1G (X:XH P)(hT:xW P tt)(hC:Zr P ctr)(hm:P.follows .mixedOrders=true):∀(k:Nat) (c:Code) (fs:List Fm) (st:St) (hs:List H) (s:z8J) (st':St) (hs':List H) (ob:List Prop),
  za8 X tt ctr n k c fs st hs=some (s,st',hs',ob)->z1b ob->s.sem P n Q st'->AWP P n c st (Qf P n fs Q):=by
 intro k;induction k with
 | zero=>intro c fs st hs s st' hs' ob e;cases e
 | succ k ih=>
  intro c fs st hs s st' hs' ob e ho h;have gen:∀hs,z4e (za8 X tt ctr n k) X tt ctr n c fs st hs=some (s,st',hs',ob)->AWP P n c st (Qf P n fs Q):=λhs e=>zdo X hT hC hm ih c fs st hs s st' hs' ob e ho h;rcases hs with _|⟨q,hs⟩
  ·exact gen _ e
  cases q with
  | v m ks=>
   cases m with
   | zero=>
    simp only[za8]at e;cases hx:z4h ks st hs with
    | none=>simp only[hx]at e;cases e
    | some q=>have ⟨xs,R,U,hs1,ob1⟩:=q;simp only[hx]at e;obtain⟨ob2,e2,rfl⟩:=Kv e;have ⟨o1,o2⟩:=yw ho;have h1:=z7L _ _ _ _ _ _ _ _ hx o1;have h2:=ih c fs _ _ _ _ _ _ e2 o2 h;intro rd m df w0 S0 M S Fp a w hc hs;have ⟨S',Fp',g1⟩:=z5y hs h1;exact h2 rd m df w0 S0 M S' Fp' a w hc g1
   | succ m=>exact gen _ e
  | n m ks=>
   cases m with
   | zero=>
    simp only[za8]at e;cases hx:qB (λ_=>none) (ks.map λi=>(.tmp i,0)) st hs with
    | none=>simp only[hx]at e;cases e
    | some q=>have ⟨xs,R,U,hs1,ob1⟩:=q;simp only[hx]at e;obtain⟨ob2,e2,rfl⟩:=Kv e;have ⟨o1,o2⟩:=yw ho;have h1:=kD (λ_=>none) _ _ _ _ _ _ _ _ hx o1;have h2:=ih c fs _ _ _ _ _ _ e2 o2 h;intro rd m df w0 S0 M S Fp a w hc hs;have ⟨S',Fp',g1,_⟩:=vw hs h1;exact h2 rd m df w0 S0 M S' Fp' a w hc g1
   | succ m=>exact gen _ e
  | stp m=>
   cases m with
   | zero=>simp only[za8,Option.some.injEq,Prod.mk.injEq]at e;obtain⟨rfl,rfl,_⟩:=e;exact h
   | succ m=>exact gen _ e
  | _=>exact gen _ e
structure Ob where
 p:Prop
 h:p
def ob {p:Prop}(h:p):Ob:=⟨p,h⟩
def z3m:∀(l:List Ob),z1b (l.map Ob.p)
 | []=>trivial
 | o::l=>⟨o.h,z3m l⟩
def zm5 (X:XH P)(tt:TT)(ctr:Ctr)(n:Fr)(live:TC)(k:Nat)(c:Code)(fs:List Fm)(st:St)(hs:List H):Option (z8J×St×List Prop) :=
 match za8 X tt ctr n k c fs st hs with
 | some (s,st',[],ob)=>some (s,canon live st',ob)
 | _=>none
def zhW (X:XH P)(hT:xW P tt)(hC:Zr P ctr)(hm:P.follows .mixedOrders=true)(live:TC)(k:Nat){c:Code}{fs:List Fm}{st:St}{hs:List H}{s:z8J}{st':St}(obs:List Ob)
  (e:zm5 X tt ctr n live k c fs st hs=some (s,st',obs.map Ob.p)) (h:∀st0,canon live st0=st'->s.sem P n Q st0):AWP P n c st (Qf P n fs Q):=by
 unfold zm5 at e;split at e
 ·rename_i s1 st1 ob1 e1;simp[Option.some.injEq,Prod.mk.injEq]at e;obtain⟨rfl,h1,rfl⟩:=e;exact z1G X hT hC hm k c fs st hs _ _ _ _ e1 (z3m obs) (h _ h1)
 cases e
def sub:TC->Code->Code
 | [],c=>c
 | 0::p,.seq x _=>sub p x
 | 1::p,.seq _ y=>sub p y
 | 2::p,.seq x _=>sub p x
 | 0::p,.cond _ x _=>sub p x
 | 1::p,.cond _ _ y=>sub p y
 | _::p,.block _ c=>sub p c
 | _::p,.loop c=>sub p c
 | _::p,.scope c=>sub p c
 | 0::p,.rangeFunc _ _ c _=>sub p c
 | 1::p,.rangeFunc _ _ _ c=>sub p c
 | _::_,c=>c
def frs:TC->List (St->Prop)->Code->List Fm->List Fm
 | [],_,_,fs=>fs
 | 0::p,Js,.seq x y,fs=>frs p Js x (.seq y::fs)
 | 1::p,Js,.seq _ y,fs=>frs p Js y fs
 | 2::p,J::Js,.seq x _,fs=>frs p Js x (.pre J::fs)
 | 0::p,Js,.cond _ x _,fs=>frs p Js x fs
 | 1::p,Js,.cond _ _ y,fs=>frs p Js y fs
 | _::p,Js,.block id c,fs=>frs p Js c (.blk id::fs)
 |(m+3)::p,Js,.loop c,fs=>frs p Js c (.rnd m c::fs)
 | _::p,J::Js,.loop c,fs=>frs p Js c (.pre J::fs)
 | _::p,Js,.scope c,fs=>frs p Js c fs
 | 0::p,Js,.rangeFunc _ _ c _,_=>frs p Js c []
 | 1::p,Js,.rangeFunc _ _ _ c,_=>frs p Js c []
 | _::_,_,_,fs=>fs
end
class LeA (x y:A):Prop where
 rep:∀S cs,Rep S x cs->Rep S y cs
 conc:∀S h cs F,zK S h x cs F->zK S h y cs F
 val:∀cs,zU x cs=zU y cs
 tup:∀fs,x=.tup fs->y=x
class z52 (xs ys:List A):Prop where
 rep:∀S cs,yb S xs cs->yb S ys cs
 conc:∀S h cs F,zQ S h xs cs F->zQ S h ys cs F
 len:xs.length=ys.length
 size:∀sz,(∀x∈xs,x.size=sz)->∀y∈ys,y.size=sz
instance (priority:=2000) LeA.refl (x:A):LeA x x:=⟨λ_ _ h=>h,λ_ _ _ _ h=>h,λ_=>rfl,λ_ _=>rfl⟩
instance (priority:=2000) z52.refl (x:List A):z52 x x:=⟨λ_ _ h=>h,λ_ _ _ _ h=>h,rfl,λ_ h=>h⟩
def Qt {S:zm}{xs ys:List A}(hl:xs.length=ys.length)(h:xs=[]):ys=[]:=by subst h;exact List.length_eq_zero_iff.1 hl.symm
instance LeA.osl (sz:Nat)(t:Bool)(xs ys:List A)[h:z52 xs ys]:LeA (.osl sz t xs) (.osl sz false ys):={
 rep:=λS cs q=>by simp only[Rep]at q
 conc:=λS hp cs F q=>by
  simp only[zK]at q ⊢;have ⟨p,c,e,h1,h2,h3,h4,h5⟩:=q;refine⟨p,c,by rw[<-h.len];exact e,by simp,by rw[<-h.len];exact h2,h3,h.size _ h4,?_⟩;rcases h5 with⟨q1,q2,q3,q4⟩|⟨b,arr,ty,l,F',e1,e2,e3,e4,e5,e6,e7⟩
  ·exact .inl ⟨Qt (S:=S) h.len q1,q2,q3,q4⟩
  exact .inr ⟨b,arr,ty,l,F',e1,e2,e3,by rw[<-h.len];exact e4,h.conc _ _ _ _ e5,e6,e7⟩
 val:=λ_=>rfl
 tup:=λ_ e=>by cases e }
instance LeA.sl (sz:Nat)(t:Bool)(xs ys:List A)[h:z52 xs ys]:LeA (.sl sz t xs) (.sl sz false ys):={
 rep:=λS cs q=>by
  simp only[Rep]at q ⊢;have ⟨p,c,e,h1,h2,h3,h4⟩:=q;refine⟨p,c,by rw[<-h.len];exact e,by simp,by rw[<-h.len];exact h2,h.size _ h3,?_⟩;rcases h4 with q|⟨b,o,l,q1,q2,q3⟩
  ·exact .inl (Qt (S:=S) h.len q)
  exact .inr ⟨b,o,l,q1,h.rep _ _ q2,q3⟩
 conc:=λS hp cs F q=>by
  simp only[zK]at q ⊢;refine⟨?_,q.2⟩;have q:=q.1;simp only[Rep]at q ⊢;have ⟨p,c,e,h1,h2,h3,h4⟩:=q;refine⟨p,c,by rw[<-h.len];exact e,by simp,by rw[<-h.len];exact h2,h.size _ h3,?_⟩;rcases h4 with q|⟨b,o,l,q1,q2,q3⟩
  ·exact .inl (Qt (S:=S) h.len q)
  exact .inr ⟨b,o,l,q1,h.rep _ _ q2,q3⟩
 val:=λ_=>rfl
 tup:=λ_ e=>by cases e }
instance LeA.agg (xs ys:List A)[h:z52 xs ys]:LeA (.agg xs) (.agg ys):={
 rep:=λS cs q=>by simp[Rep]at q ⊢;exact h.rep _ _ q
 conc:=λS hp cs F q=>by simp[zK]at q ⊢;exact h.conc _ _ _ _ q
 val:=λ_=>rfl
 tup:=λ_ e=>by cases e }
instance LeA.box (x y:A)[h:LeA x y]:LeA (.box x) (.box y):={
 rep:=λS cs q=>by simp[Rep]at q
 conc:=λS hp cs F q=>by simp[zK]at q ⊢;have ⟨b,ty,l,F',e1,e2,e3,e4,e5⟩:=q;exact⟨b,ty,l,F',e1,e2,h.conc _ _ _ _ e3,e4,e5⟩
 val:=λ_=>rfl
 tup:=λ_ e=>by cases e }
class SzA (x y:A):Prop where
 eq:x.size=y.size
instance (priority:=2000) SzA.refl (x:A):SzA x x:=⟨rfl⟩
class zik (x y:List A):Prop where
 eq:A.sizes x=A.sizes y
instance zik.nil:zik [] []:=⟨rfl⟩
instance zik.cons (x y:A)(xs ys:List A)[h:SzA x y][k:zik xs ys]:zik (x::xs) (y::ys):=⟨by simp[A.sizes,h.eq,k.eq]⟩
instance SzA.agg (xs ys:List A)[h:zik xs ys]:SzA (.agg xs) (.agg ys):=⟨by simp[A.size,h.eq]⟩
instance z52.nil:z52 [] []:=z52.refl []
instance z52.cons (x y:A)(xs ys:List A)[h:LeA x y][z:SzA x y][k:z52 xs ys]:z52 (x::xs) (y::ys):={
 rep:=λS cs q=>by simp[yb]at q ⊢;have ⟨c1,c2,e,q1,q2⟩:=q;exact⟨c1,c2,e,h.rep _ _ q1,k.rep _ _ q2⟩
 conc:=λS hp cs F q=>by simp[zQ]at q ⊢;have ⟨c1,c2,F1,F2,e,e2,q1,q2⟩:=q;exact⟨c1,c2,F1,F2,e,e2,h.conc _ _ _ _ q1,k.conc _ _ _ _ q2⟩
 len:=by simp[k.len]
 size:=λsz q=>by
  intro y' hy;rcases pm.1 hy with rfl|hy
  ·rw[<-z.eq];exact q x (by simp)
  exact k.size sz (λx hx=>q x (by simp[hx])) y' hy }
variable {α:Type}
theorem zkv {f g:α->A}(h:∀x,LeA (f x) (g x))(z:∀x,SzA (f x) (g x)):∀l:List α,z52 (l.map f) (l.map g)
 | []=>z52.nil
 | x::l=>@z52.cons _ _ _ _ (h x) (z x) (zkv h z l)
instance z52.map {α:Type}(f g:α->A)[h:∀x,LeA (f x) (g x)][z:∀x,SzA (f x) (g x)](l:List α):z52 (l.map f) (l.map g):=zkv h z l
variable {v:Value}
def LeA.repV {x y:A}(h:LeA x y)   (q:xg S x v):xg S y v:=by
 by_cases ht:∃fs,x=.tup fs
 ·obtain⟨fs,rfl⟩:=ht;rw[h.tup fs rfl];exact q
 have q1:wW S x v:=by cases x <;> simp[xg]at q <;> first|exact q|exact absurd ⟨_,rfl⟩ ht
 have ⟨cs,c1,c2⟩:=q1;exact wW.repV ⟨cs,h.rep _ _ c1,by rw[<-h.val];exact c2⟩
class LeV (x y:A):Prop where
 has:∀S h v F,Has S h x v F->Has S h y v F
instance (priority:=2000) LeV.refl (x:A):LeV x x:=⟨λ_ _ _ _ h=>h⟩
class Qm (xs ys:List A):Prop where
 all:∀S vs,YO (wW S) xs vs->YO (wW S) ys vs
instance Qm.nil:Qm [] []:=⟨λ_ _ h=>h⟩
instance Qm.cons (x y:A)(xs ys:List A)[h:LeA x y][k:Qm xs ys]:Qm (x::xs) (y::ys):=⟨λS vs q=>by
 cases vs with
 | nil=>exact q.elim
 | cons v vs=>refine⟨?_,k.all S vs q.2⟩;have ⟨cs,c1,c2⟩:=q.1;exact⟨cs,h.rep _ _ c1,by rw[<-h.val];exact c2⟩⟩
instance LeV.tup (xs ys:List A)[k:Qm xs ys]:LeV (.tup xs) (.tup ys):=⟨λS hp v F q=>by
 rcases q with⟨q,e⟩|⟨cs,q1,q2,q3⟩
 ·simp[xg]at q;have ⟨vs,e2,q⟩:=q;exact .inl ⟨by simp[xg];exact⟨vs,e2,k.all _ _ q⟩,e⟩
 simp[zK]at q1⟩
def LeT:T->T->Prop
 | .own x,y=>∃z,y=.own z/\LeA x z
 | .d x,y=>∃z,y=.d z/\LeA x z
 | .als r p er ec,y=>p=[]/\y=.als r [] er ec
 | .gone,y=>y=.gone
 | _,_=>False
class z1a (l m:List (Nat×T)):Prop where
 ent:∀t,(ofL l t).er=(ofL m t).er/\(ofL l t).ec=(ofL m t).ec/\LeT (ofL l t).t (ofL m t).t
instance z1a.nil:z1a [] []:=⟨λt=>⟨rfl,rfl,rfl⟩⟩
theorem z1a.cons' {x y:T}{l m:List (Nat×T)}(h:LeT x y)(hl:z1a l m):z1a ((k,x)::l) ((k,y)::m):=⟨λt=>by
 simp[ofL];split
 ·exact⟨rfl,rfl,h⟩
 exact hl.ent t⟩
instance z1a.own (k:Nat)(x y:A)(l m:List (Nat×T))[h:LeA x y][hl:z1a l m]:z1a ((k,.own x)::l) ((k,.own y)::m):=z1a.cons' ⟨y,rfl,h⟩ hl
instance z1a.d (k:Nat)(x y:A)(l m:List (Nat×T))[h:LeA x y][hl:z1a l m]:z1a ((k,.d x)::l) ((k,.d y)::m):=z1a.cons' ⟨y,rfl,h⟩ hl
instance z1a.als (k r er ec:Nat)(l m:List (Nat×T))[hl:z1a l m]:z1a ((k,.als r [] er ec)::l) ((k,.als r [] er ec)::m):=z1a.cons' ⟨rfl,rfl⟩ hl
class LeL (l m:List (Nat×T)):Prop where
 or:l=m\/z1a l m
instance (priority:=2000) LeL.refl (l:List (Nat×T)):LeL l l:=⟨.inl rfl⟩
instance LeL.of0 (l m:List (Nat×T))[h:z1a l m]:LeL l m:=⟨.inr h⟩
variable {X:TC}
def Sim.le {st st':St}   (h:Sim C S Fp X st a w)(hl:∀t,(st t).er=(st' t).er/\(st t).ec=(st' t).ec/\LeT (st t).t (st' t).t):Sim C S Fp X st' a w:={
 size:=h.size
 pin:=h.pin
 defers:=h.defers
 below:=h.below
 mine:=h.mine
 still:=h.still
 sinc:=h.sinc
 sbase:=h.sbase
 disj:=h.disj
 base:=h.base
 xn:=h.xn
 xd:=h.xd
 xb:=h.xb
 ent:=λt=>by
  have q:=h.ent t;have ⟨_,_,l3⟩:=hl t;unfold xm at q ⊢;cases ht:(st t).t with
  | gone=>simp only[ht,LeT]at l3 q;simp only[l3];exact q
  | d x=>simp only[ht,LeT]at l3 q;have ⟨z,e,l3⟩:=l3;simp only[e];exact⟨l3.repV q.1,q.2⟩
  | own x=>simp only[ht,LeT]at l3 q;have ⟨z,e,l3⟩:=l3;simp only[e];have ⟨cs,q1,q2,q3⟩:=q;exact⟨cs,l3.conc _ _ _ _ q1,q2,by rw[<-l3.val];exact q3⟩
  | als r p er ec=>
   simp only[ht,LeT]at l3 q;obtain⟨rfl,e⟩:=l3;simp only[e];refine⟨q.1,?_⟩;have ⟨q1,q2,q3⟩:=q.2;have ⟨r1,r2,r3⟩:=hl r;unfold kJ;refine⟨by rw[<-r1];exact q1,by rw[<-r2];exact q2,?_⟩;cases hr:(st r).t with
   | own x=>
    simp only[hr,LeT]at q3 r3;have ⟨z,e2,_⟩:=r3;simp only[e2];intro g1 g2;rcases q3 (by rw[r1];exact g1) (.inl trivial) with g|g
    ·exact .inl g
    simp[QU]at g
   | d x=>simp only[hr,LeT]at q3 r3;have ⟨z,e2,_⟩:=r3;simp only[e2];intro g1 _;exact q3 (by rw[r1];exact g1) trivial
   | gone=>simp only[hr,LeT]at r3;simp only[r3]
   | als u p e1 e2=>simp only[hr,LeT]at r3;simp only[r3.2]
   | ptr u p e1 e2=>simp only[hr,LeT]at r3
  | ptr r p er ec=>simp only[ht,LeT]at l3 }
variable {r:A}{fn:Func}{body:Code}{st0:St}{keep:Bool}
section
variable {P:Program}{tt:TT}{ctr:Ctr}{n:Fr}{Q:Exit->St->Prop}
def zeX {l m:List (Nat×T)}(h:LeL l m)(k:AWP P n c (ofL m) Q):AWP P n c (ofL l) Q :=
 h.or.elim (λe=>e ▸ k) λh=>λrd mm df w0 S0 M S Fp a w hc hs=>k rd mm df w0 S0 M S Fp a w hc (hs.le h.ent)
def zeW {X:Type}{c c':Code}{fs:List Fm}  (e:c=.loop c')(live:TC)(Inv:X->Prop)(mu:X->Nat)(stOf:X->List (Nat×T))(x0:X)(l0:List (Nat×T))(hs:canon live st0=ofL l0)(hl:LeL l0 (stOf x0))(h0:Inv x0)
  (round:∀x,Inv x->∀J:St->Prop,(∀st' l' x',Inv x'->mu x' < mu x->canon live st'=ofL l'->LeL l' (stOf x')->J st')->AWP P n c' (ofL (stOf x)) (Qf P n (.pre J::fs) Q)):AWP P n c st0 (Qf P n fs Q):=by
 subst e;refine AWP.loop live (λk st=>∃x l,Inv x/\mu x=k/\st=ofL l/\LeL l (stOf x)) (mu x0) ⟨x0,l0,h0,rfl,hs,hl⟩ ?_;rintro k st ⟨x,l,hx,rfl,rfl,hl⟩;refine zeX hl ?_;exact round x hx _ λst' l' x' h1 h2 h3 h4=>⟨_,h2,x',l',h1,rfl,h3,h4⟩
def zeY {X:Type}{c x y:Code}   (e:c=.seq x y)(live live0:TC)(l0:List (Nat×T))(hs:canon live0 st0=ofL l0)(Inv:X->Prop)(stJ:X->List (Nat×T))(h1:∀z,Inv z->AWP P n y (ofL (stJ z)) (Qf P n fs Q))
  (h2:∀J:St->Prop,(∀st' l' z,Inv z->canon live st'=ofL l'->LeL l' (stJ z)->J st')->AWP P n x (ofL l0) (Qf P n (.pre J::fs) Q)):AWP P n c st0 (Qf P n fs Q):=by
 subst e;refine AWP.canon live0 ?_;rw[hs];refine AWP.nextC live λK hK=>h2 K λst' l' z hz he hl=>hK st' ?_;rw[he];exact zeX hl (h1 z hz)
def zie (tt:TT)(keep:Bool)(rs:List (Nat×TD)):SM A :=
 match keep,rs with
 | true,[(t,none)]=>zjY tt true [t]
 | _,rs=>zjX tt rs
def zdI (tt:TT)(keep:Bool)(rs:List (Nat×TD)):HM A :=
 match keep,rs with
 | true,[(t,none)]=>y7 (zjY tt true [t])
 | _,rs=>qB tt (rs.map λr=>(.tmp r.1,0)) >>= λxs=>
  match Zm tt rs xs with
  | some [y]=>pure y
  | some ys=>pure (.tup ys)
  | none=>zL
def zfs (tt:TT)(rs:List (Nat×TD)):Snd (zjX tt rs) (qB tt (rs.map λr=>(.tmp r.1,0)) >>= λxs=>
  match Zm tt rs xs with
  | some [y]=>pure y
  | some ys=>pure (.tup ys)
  | none=>zL):=by
 refine zh (kD _ _) λxs=>?_;cases Zm tt rs xs with
 | none=>exact zr _
 | some ys=>rcases ys with _|⟨y,_|⟨z,l⟩⟩ <;> exact w8 _
def zjM (tt:TT)(keep:Bool)(rs:List (Nat×TD)):Snd (zie tt keep rs) (zdI tt keep rs):=by
 cases keep with
 | false=>rcases rs with _|⟨⟨t,_|ty⟩,_|⟨q,l⟩⟩ <;> exact zfs _ _
 | true=>rcases rs with _|⟨⟨t,_|ty⟩,_|⟨q,l⟩⟩ <;> first|exact zk _|exact zfs _ _
def zeP {n:Fr}   {keep:Bool}{rs:List (Nat×TD)}{ls:List A}{r:A}(hT:xW P tt)(hf:P.funcs[k]?=some fn)(hnm:(fn.name == "runtime.NumGoroutine")=false)(hb:fn.body=some body)
  (hn:n=⟨fn.ntmps,[]⟩) (hr:fn.results=(rs.map z5o).toArray) (ha:ls.length<=fn.ntmps)
  (h:∀E:St->Prop,(∀st x R U,zie tt keep rs st=some (x,R,U)->LeV x r->E st)->AWP P n body (ofL (z9f 0 ls)) (Qf P n [] (zft E))):uR P k ls r:=by
 have h':=h (λst=>∃x R U,zie tt keep rs st=some (x,R,U)/\LeV x r) λst x R U h1 h2=>⟨x,R,U,h1,h2⟩;refine⟨⟨fn,hf,hnm,by rw[hb];rfl⟩,?_⟩;intro S w vs F hS hq hF;have h2:AWP P n body (ini ls) (λex st=>(ex=.normal\/ex=.ret)/\∃x R U,zie tt keep rs st=some (x,R,U)/\LeV x r):=by
  rw[z3v];refine AWP.mono h' ?_;intro e st q;cases e with
  | normal=>exact⟨.inl rfl,q⟩
  | ret=>exact⟨.inr rfl,q⟩
  | _=>exact q.elim
 refine z0b (R:=λw e w'=>∃v' S' F',e=.returned v'/\Xf (λk=>w.heap.size<=k\/k∈F) w w'/\(∀b o u,S b o=some u->S' b o=some u)/\(∀b o,b<w.heap.size->b∉F->S' b o=S b o)/\yS S' w'/\Has S' w'.heap r v' F'/\F'.Nodup /\
   ∀k∈F',w.heap.size<=k\/k∈F) hf hb (by rw[hn]) (by rw[hn];simp) ha hS hq hF h2 ?_
 rintro ex st' ⟨hx,x,R,U,h3,h4⟩;refine⟨hx,?_⟩;intro df S' Fp' a' w' h1;have gcase:zjX tt rs st'=some (x,R,U)->∃v,(results fn a'.tmps).run P w'=.ok v w'/\∃v' S' F',Ending.returned v=.returned v'/\Xf (λk=>w.heap.size<=k\/k∈F) w w'/\(∀b o u,S b o=some u->S' b o=some u)/\(∀b o,b<w.heap.size->b∉F->S' b o=S b o)/\yS S' w'/\Has S' w'.heap r v' F'/\F'.Nodup /\
   ∀k∈F',w.heap.size<=k\/k∈F:=by
  intro he;have ⟨v,S2,hres,g1,g2,g3,g4⟩:=zh1 (P:=P) hT hr h1 he;refine⟨_,hres,_,S2,[],rfl,h1.below,λb o u hu=>g1 _ _ _ (h1.sinc _ _ _ hu),?_,g3,h4.has _ _ _ _ (.inl ⟨g4,rfl⟩),by simp,by simp⟩;intro b o hb' hbF;exact g2 b o (by rintro(hq|hq) <;> first|omega|exact hbF hq)
 cases keep with
 | false=>exact gcase (by rcases rs with _|⟨⟨t,_|ty⟩,_|⟨q,l⟩⟩ <;> exact h3)
 | true=>
  rcases rs with _|⟨⟨t,_|ty⟩,_|⟨q,l⟩⟩
  ·exact gcase h3
  ·have h3':zjY tt true [t] st'=some (x,R,U):=h3;have ⟨hl,S2,F',g1,g2,g3,g4,g5,g6⟩:=zh2 h1 h3';refine⟨_,z6P (P:=P) (ts:=[t]) hr hl a' w',_,S2,F',rfl,h1.below,λb o u hu=>g1 _ _ _ (h1.sinc _ _ _ hu),?_,g3,h4.has _ _ _ _ g4,g5,g6⟩;intro b o hb' hbF;exact g2 b o (by rintro(hq|hq) <;> first|omega|exact hbF hq)
  ·exact gcase h3
  ·exact gcase h3
  exact gcase h3
def zm6 (X:XH P)(tt:TT)(ctr:Ctr)(n:Fr)(keep:Bool)(rs:List (Nat×TD))(k:Nat)(c:Code)(fs:List Fm)(st:St)(hs:List H):Option (A×List Prop) :=
 match za8 X tt ctr n k c fs st hs with
 | some (.fin .normal,st',hs',ob)=>match zdI tt keep rs st' hs' with|some (x,_,_,[],ob')=>some (x,ob++ob')|_=>none
 | some (.fin .ret,st',hs',ob)=>match zdI tt keep rs st' hs' with|some (x,_,_,[],ob')=>some (x,ob++ob')|_=>none
 | _=>none
def zl5 (X:XH P)(hT:xW P tt)(hC:Zr P ctr)(hm:P.follows .mixedOrders=true){E:St->Prop}   {rs:List (Nat×TD)}(hE:∀st x R U,zie tt keep rs st=some (x,R,U)->LeV x r->E st)(k:Nat){c:Code}{fs:List Fm}{st:St}{hs:List H}{x:A}(obs:List Ob)
  (e:zm6 X tt ctr n keep rs k c fs st hs=some (x,obs.map Ob.p)) (hle:LeV x r):AWP P n c st (Qf P n fs (zft E)):=by
 unfold zm6 at e;have fin:∀{st' hs' ob},(match zdI tt keep rs st' hs' with|some (x,_,_,[],ob')=>some (x,ob++ob')|_=>none)=some (x,obs.map Ob.p)->z1b ob/\E st':=by
  intro st' hs' ob e;split at e
  ·rename_i x1 R U ob' he;simp[Option.some.injEq,Prod.mk.injEq]at e;obtain⟨rfl,e2⟩:=e;have ha:=z3m obs;rw[<-e2]at ha;have ⟨o1,o2⟩:=yw ha;exact⟨o1,hE _ _ _ _ (zjM tt keep rs _ _ _ _ _ _ _ he o2) hle⟩
  cases e
 split at e
 ·rename_i st' hs' ob' he;have ⟨h1,h2⟩:=fin e;exact z1G X hT hC hm k c fs st hs _ _ _ _ he h1 h2
 ·rename_i st' hs' ob' he;have ⟨h1,h2⟩:=fin e;exact z1G X hT hC hm k c fs st hs _ _ _ _ he h1 h2
 cases e
end
abbrev w64 (x:Int):Int:=IntKind.i64.wrap x
def idx (l:List α):Int->Option α
 | .ofNat n=>l[n]?
 | .negSucc _=>none
inductive LR (σ τ:Type) where
 | next (s:σ)
 | done (t:τ)
variable {σ τ:Type}
def QX (step:σ->Option (LR σ τ))(n:Nat):σ->Option τ :=
 Nat.rec (λ_=>none) (λ_ ih s=>match step s with|none=>none|some (.next s')=>ih s'|some (.done t)=>some t) n
def VL:Nat:=18446744073709551616
def loop (step:σ->Option (LR σ τ))(s:σ):Option τ:=QX step VL s
def zol (step:σ->Option (LR σ τ))(m:Nat)(t:τ):LR σ τ->Prop
 | .next s'=>QX step m s'=some t
 | .done t'=>t'=t
def zml {step:σ->Option (LR σ τ)}{n:Nat}{s:σ}{t:τ}(h:QX step n s=some t):∃m lr,n=m+1/\step s=some lr/\zol step m t lr:=by
 cases n with
 | zero=>cases h
 | succ m=>
  have h':(match step s with|none=>none|some (.next s')=>QX step m s'|some (.done t)=>some t)=some t:=h;cases hs:step s with
  | none=>simp[hs]at h'
  | some lr=>
   refine⟨m,lr,rfl,rfl,?_⟩;cases lr with
   | next s'=>simp[hs]at h';exact h'
   | done t'=>simp[hs,Option.some.injEq]at h';exact h'
def zy {α β:Type}{x:Option α}{f:α->Option β}{r:β}(h:Option.bind x f=some r):∃u,x=some u/\f u=some r:=by
 cases x with
 | none=>cases h
 | some u=>exact⟨u,rfl,h⟩
def zH {c:Bool}{x y:Option α}{r:α}(h:(bif c then x else y)=some r):(c=true/\x=some r)\/(c=false/\y=some r):=by
 cases c
 ·exact .inr ⟨rfl,h⟩
 exact .inl ⟨rfl,h⟩
def gd (p:Prop)[Decidable p](x:Option α):Option α:=if p then x else none
def gdE {p:Prop}[Decidable p]{x:Option α}{r:α}(h:gd p x=some r):p/\x=some r:=by
 unfold gd at h;by_cases hp:p
 ·rw[if_pos hp]at h;exact⟨hp,h⟩
 rw[if_neg hp]at h;cases h
def xR {a b:α}(h:some a=some b):a=b:=by cases h;rfl
variable {gives:List Bool}{β:Type}{i:Int}{as_:List A}
section
variable {α:Type}
def eI (k:IntKind)(x:Int):A:=.atom (.int k x)
def eB (b:Bool):A:=.atom (.bool b)
def eSl (sz:Nat)(t:Bool)(f:α->A)(l:List α):A:=.sl sz t (l.map f)
def eOs (sz:Nat)(t:Bool)(f:α->A)(l:List α):A:=.osl sz t (l.map f)
def eBx (f:α->A)(x:α):A:=.box (f x)
def eSp (f:α->A)(x:α):A:=.sptr (f x)
def z8w (k:Nat)(_:Unit):A:=.fn k []
def Ko (k:Nat)(f:α->A)(x:α):A:=.fn k [f x]
def zp6 (k:Nat)(f:α->A)(g:β->A)(x:α×β):A:=.fn k [f x.1,g x.2]
def zmG (f:α->A)(g:β->A)(x:α×β):A:=.agg [f x.1,g x.2]
def zp5 {β γ:Type}(f:α->A)(g:β->A)(h:γ->A)(x:α×β×γ):A:=.agg [f x.1,g x.2.1,h x.2.2]
class Jd (f:α->A):Prop where
 isD:∀x,(f x).isD=true
class zld (f:α->A):Prop where
 no:∀x,(f x).isD=false
class XW (f:α->A) (g:outParam (α->A)):Prop where
 lo:∀x,(f x).loose=g x
class KF (f:α->A) (g:outParam (α->A)):Prop where
 live:∀x,(f x).live=true
 sh:∀x,(f x).shut=g x
class uT (f:α->A):Prop where
 inj:∀x y,f x=f y->x=y
instance (k:IntKind):Jd (eI k):=⟨λ_=>rfl⟩
instance:Jd eB:=⟨λ_=>rfl⟩
instance (sz:Nat)(t:Bool)(f:α->A):Jd (eSl sz t f):=⟨λ_=>rfl⟩
instance (k:Nat):XW (z8w k) (z8w k):=⟨λ_=>rfl⟩
instance (k:Nat)(f f':α->A)[h:XW f f']:XW (Ko k f) (Ko k f'):=⟨λx=>by simp[Ko,A.loose,A.looses,h.lo]⟩
instance (k:Nat):uT (z8w k):=⟨λ_ _ _=>rfl⟩
instance (k:Nat)(f:α->A)[h:uT f]:uT (Ko k f):=⟨λa b e=>by simp[Ko,A.fn.injEq,List.cons.injEq,true_and,and_true]at e;exact h.inj _ _ e⟩
instance (sz:Nat)(t:Bool)(f:α->A):zld (eOs sz t f):=⟨λ_=>rfl⟩
instance (k:IntKind):XW (eI k) (eI k):=⟨λ_=>rfl⟩
instance:XW eB eB:=⟨λ_=>rfl⟩
instance (sz:Nat)(t:Bool)(f g:α->A)[h:XW f g]:XW (eSl sz t f) (eSl sz false g):=⟨λl=>by simp[eSl,A.loose,z3p,h.lo]⟩
instance (sz:Nat)(t:Bool)(f g:α->A)[h:XW f g]:XW (eOs sz t f) (eOs sz false g):=⟨λl=>by simp[eOs,A.loose,z3p,h.lo]⟩
instance (f g:α->A)[h:XW f g]:XW (eSp f) (eSp g):=⟨λl=>by simp[eSp,A.loose,h.lo]⟩
instance (k:IntKind):KF (eI k) (eI k):=⟨λ_=>rfl,λ_=>rfl⟩
instance:KF eB eB:=⟨λ_=>rfl,λ_=>rfl⟩
instance (sz:Nat)(t:Bool)(f:α->A):KF (eSl sz t f) (eSl sz t f):=⟨λ_=>rfl,λ_=>rfl⟩
instance (sz:Nat)(t:Bool)(f g:α->A)[h:KF f g]:KF (eOs sz t f) (eSl sz t g):=⟨λl=>by simp[eOs,A.live];exact z26 f l h.live,λl=>by simp[eOs,eSl,A.shut,z1z,h.sh]⟩
instance (k:IntKind):uT (eI k):=⟨λa b h=>by simpa[eI] using h⟩
instance:uT eB:=⟨λa b h=>by simpa[eB] using h⟩
def zaQ {f:α->β}(hf:∀a b,f a=f b->a=b):∀{l l':List α},l.map f=l'.map f->l=l'
 | [],[],_=>rfl
 | [],_::_,h=>by simp at h
 | _::_,[],h=>by simp at h
 | a::l,b::l',h=>by simp[gB,List.cons.injEq]at h;rw[hf _ _ h.1,zaQ hf h.2]
instance (sz:Nat)(t:Bool)(f:α->A)[h:uT f]:uT (eSl sz t f):=⟨λa b e=>by simp[eSl,A.sl.injEq,true_and]at e;exact zaQ h.inj e⟩
instance (sz:Nat)(t:Bool)(f:α->A)[h:uT f]:uT (eOs sz t f):=⟨λa b e=>by simp[eOs,A.osl.injEq,true_and]at e;exact zaQ h.inj e⟩
instance (f:α->A)[h:uT f]:uT (eSp f):=⟨λa b e=>by simp[eSp,A.sptr.injEq]at e;exact h.inj _ _ e⟩
instance (sz sz':Nat)(t t':Bool)(f g:α->A)(l l':List α):SzA (eSl sz t f l) (eSl sz' t' g l'):=⟨rfl⟩
instance (sz:Nat)(t:Bool)(f g:α->A)[h:∀x,LeA (f x) (g x)][z:∀x,SzA (f x) (g x)](l:List α):LeA (eSl sz t f l) (eSl sz false g l):=LeA.sl sz t (l.map f) (l.map g)
instance (sz:Nat)(t:Bool)(f g:α->A)[h:∀x,LeA (f x) (g x)][z:∀x,SzA (f x) (g x)](l:List α):LeA (eOs sz t f l) (eOs sz false g l):=LeA.osl sz t (l.map f) (l.map g)
def i0 {l:List α}  {u:α}(h:idx l i=some u):0<=i:=by
 cases i with
 | ofNat n=>exact nA n
 | negSucc n=>cases h
def iE {l:List α}  {u:α}(h:idx l i=some u):l[i.toNat]?=some u:=by
 cases i with
 | ofNat n=>exact h
 | negSucc n=>cases h
def iM (f:α->A){l:List α}  {u:α}(h:idx l i=some u):(l.map f)[i.toNat]?=some (f u):=by rw[gQ,iE h];rfl
def iL (f:α->A){l:List α}  {u:α}(h:idx l i=some u):0<=i/\i.toNat<(l.map f).length:=⟨i0 h,by rw[gC];exact(pf.1 (iE h)).1⟩
def arJ {fs:List A}{j:Int}(h0:kI tt t fs 0=true)(hj:0<=j):kI tt t fs j=true:=by
 unfold kI at h0 ⊢;split at h0
 ·simp[decide_true,rP,pE]at h0;simp[hj,decide_true,rP,pE];exact h0
 cases h0
def sM (f:α->A)(l:List α)(i:Int)(v:α):(l.map f).set i.toNat (f v)=(l.set i.toNat v).map f:=by rw[List.map_set]
def dM (f:α->A)[h:Jd f](l:List α):A.areD (l.map f)=true:=z4O f l h.isD
def d1 (f:α->A)[h:Jd f](x:α):A.areD [f x]=true:=by simp[A.areD,h.isD]
def o1 (f:α->A)[h:zld f](x:α):A.areD [f x]=false:=by simp[A.areD,h.no]
def shM (f g:α->A)[h:KF f g](l:List α):A.lives (l.map f)=true/\A.shuts (l.map f)=l.map g:=⟨z26 f l h.live,by rw[z1z];simp[h.sh]⟩
def aM (f:α->A)(l m:List α):l.map f++m.map f=(l++m).map f:=by rw[gY]
def aL (f g:α->A){l m:List α}(h:l.length+m.length<=4294967296):(l.map f).length+(m.map g).length<=lim:=by simpa[lim] using h
def aN (f g:α->A)[Jd g]{l m:List α}(h:l.length+m.length<=4294967296)(hm:m≠[]):(l.map g).length+(m.map f).length<=lim/\m.map f≠[]/\A.areD (l.map g)=true:=⟨by simpa[lim] using h,by simpa using hm,dM g l⟩
def rM (sz:Nat)(f:α->A)(n:Int)(z:α):A.osl sz (decide (n=n)) (List.replicate n.toNat (f z))=eOs sz true f (List.replicate n.toNat z):=by simp[eOs]
def rL {n:Int}(h:0<=n/\n<=4294967296):0<=n/\n<=n/\n<=((lim:Nat):Int):=⟨h.1,Int.le_refl _,h.2⟩
def lnM (f:α->A)(l:List α):A.atom (.int .i64 (((l.map f).length:Nat):Int))=.atom (.int .i64 ((l.length:Nat):Int)):=by rw[gC]
def oC (f:α->A)[h:zld f](x:α)(l:List α):A.areD ((x::l).map f)=false:=by simp[A.areD,h.no]
def aM0 (f:α->A)(m:List α):([]:List A)++m.map f=m.map f:=rfl
def slA {a:Int}{r:Prop}(h:0<=a/\r):0<=a:=h.1
def slB {a b:Int}{r:Prop}(h:0<=a/\a<=b/\r):0<=b:=Int.le_trans h.1 h.2.1
def slC {a b m:Int}{r:Prop}(h:0<=a/\a<=b/\r/\b<=m):0<=m:=by omega
def zjJ (f:α->A){l:List α}{a:Int}(h:0<=a/\a<=((l.length:Nat):Int)/\((l.length:Nat):Int)<=((l.length:Nat):Int)):a.toNat<=(l.map f).length/\(l.map f).length<=(l.map f).length:=by simp;omega
def zgF (f:α->A){l:List α}{b:Int}(h:(0:Int)<=0/\0<=b/\b<=((l.length:Nat):Int)):0<=b.toNat/\b.toNat<=(l.map f).length:=by simp;omega
def zgE (f:α->A){l:List α}{b m:Int}(h:(0:Int)<=0/\0<=b/\m<=((l.length:Nat):Int)/\b<=m):0<=b.toNat/\b.toNat<=m.toNat/\m.toNat<=(l.map f).length:=by simp;omega
def zlP (sz:Nat)(f:α->A)(l:List α)(a b:Nat):A.sl sz (b==b) (((l.map f).drop a).take (b - a))=eSl sz true f ((l.drop a).take (b - a)):=by simp[eSl]
def slE (sz:Nat)(t:Bool)(f:α->A)(l:List α)(a:Nat):A.sl sz (t&&(l.map f).length==(l.map f).length) (((l.map f).drop a).take ((l.map f).length - a))=eSl sz t f (l.drop a):=by simp[eSl];rw[mR (by simp)]
def mx (a b:Int):Int:=if a<b then b else a
def cuB (f:α->A){l:List α}{b:Int}(h:0<=b/\b<=((l.length:Nat):Int)):b.toNat<=(l.map f).length:=by simp;omega
def cuM (f:α->A)(l:List α)(b:Int):(l.map f).take b.toNat=(l.take b.toNat).map f:=by rw[List.map_take]
def slM (sz:Nat)(t:Bool)(f:α->A)(l:List α)(a b:Nat):A.sl sz t (((l.map f).drop a).take (b - a))=eSl sz t f ((l.drop a).take (b - a)):=by simp[eSl]
def spF (k:Nat){α ρ:Type}(enc:α->List A)(encR:ρ->A)(F:α->Option ρ)(gives:List Bool)(inj:∀x y,enc x=enc y->x=y):yg:={
 α:=α
 k:=k
 raw:=false
 gives:=gives
 enc:=enc
 pre:=λx=>∃r,F x=some r
 f:=λx=>match F x with|some r=>encR r|none=>.dead 0
 inj:=by intro x y h _ _;rw[inj x y h] }
def zig {c:Ctr}  {α ρ:Type}{enc:α->List A}{encR:ρ->A}{F:α->Option ρ}  {inj:∀x y,enc x=enc y->x=y}(h:c.Has (spF k enc encR F gives inj)){x:α}{r:ρ}(hr:F x=some r)  (ha:as_.map A.loose=enc x) :
  c.run k (c.norm k as_)=some (encR r):=by
 have h1:=h.run x ⟨r,hr⟩;have h2:c.raw k=false:=h.raw;unfold Ctr.norm;rw[h2];simp[hZ];rw[ha];refine Eq.trans h1 ?_;simp[spF,hr]
def Kl {c:Ctr}  {α ρ:Type}{enc:α->List A}{encR:ρ->A}{F:α->Option ρ}  {inj:∀x y,enc x=enc y->x=y}(h:c.Has (spF k enc encR F gives inj)):c.gives k=gives:=h.gives
def WU {α ρ:Type}{enc:α->List A}{encR:ρ->A}{F:α->Option ρ}  {inj:∀x y,enc x=enc y->x=y}(h:∀x r,F x=some r->uR P k (enc x) (encR r)):(spF k enc encR F gives inj).Ok P:=by rintro x ⟨r,hr⟩;have:=h x r hr;simpa only[spF,hr] using this
def loN:([]:List A).map A.loose=[]:=rfl
def loC (f:α->A){g:α->A}[h:XW f g](x:α){as_ bs:List A}(k:as_.map A.loose=bs):(f x::as_).map A.loose=g x::bs:=by simp[gB,h.lo,k]
end
open Classical
def z33:A->Option TE
 | .atom (.int k x)=>some [.int k x]
 | .atom (.string s)=>some [.string s]
 | .agg fs=>keyLs fs
 | _=>none
where keyLs:List A->Option TE
 | []=>some []
 | a::as_=>match z33 a,keyLs as_ with|some x,some y=>some (x++y)|_,_=>none
def KH (a:A):Option Value:=(z33 a).map (zU a)
mutual
def z8j:∀{a:A} {cs l:TE},Rep S a cs->z33 a=some l->cs=l
 | .atom v,cs,l,h,e=>by
  cases v <;> simp only[z33]at e <;> first|(cases e;done)|skip
  all_goals
   simp only[Rep]at h;cases e;exact h.1
 | .agg fs,cs,l,h,e=>by simp only[Rep]at h;simp only[z33]at e;exact z63 h e
 | .fn _ _,_,_,_,e=>by cases e
 | .tup _,_,_,_,e=>by cases e
 | .sl _ _ _,_,_,_,e=>by cases e
 | .sptr _,_,_,_,e=>by cases e
 | .dop _,_,_,_,e=>by cases e
 | .osl _ _ _,_,_,_,e=>by cases e
 | .box _,_,_,_,e=>by cases e
 | .dead _,_,_,_,e=>by cases e
 | .opq _,_,_,_,e=>by cases e
def z63:∀{as_:List A} {cs l:TE},yb S as_ cs->z33.keyLs as_=some l->cs=l
 | [],cs,l,h,e=>by simp only[yb]at h;simp only[z33.keyLs]at e;cases e;exact h
 | a::as_,cs,l,h,e=>by
  simp only[yb]at h;obtain⟨c1,c2,rfl,h1,h2⟩:=h;simp only[z33.keyLs]at e;cases e1:z33 a with
  | none=>simp only[e1]at e;cases e
  | some x=>
   cases e2:z33.keyLs as_ with
   | none=>simp only[e1,e2]at e;cases e
   | some y=>simp only[e1,e2]at e;cases e;rw[z8j h1 e1,z63 h2 e2]
end
def z8i {a:A}{v kv:Value}(h:wW S a v)(e:KH a=some kv):v=kv:=by obtain⟨cs,h1,rfl⟩:=h;unfold KH at e;obtain⟨l,e1,rfl⟩:=pT.1 e;rw[z8j h1 e1]
def z0B (S:zm)(es:List (A×A))(ents:List MapEntry):Prop:=YO (λp (e:MapEntry)=>KH p.1=some e.key/\wW S p.2 e.val) es ents
def QV (es:List (A×A)):Opq:={
 holds:=λS h u F=>∃b ents cl,u=.map (some b)/\F=[b]/\h[b]?=some (.map ents cl)/\(∀o,S b o=none)/\z0B S es ents.toList
 one:=λ⟨_,_,_,e,_⟩=>.inl (by rw[e];rfl)
 frame:=λhS hF ⟨b,ents,cl,e1,e2,e3,e4,e5⟩=>by subst e2;have ⟨g1,g2⟩:=hF b (by simp);exact⟨b,ents,cl,e1,rfl,g1.trans e3,g2,YO.mono (λ_ _ q=>⟨q.1,q.2.mono hS⟩) e5⟩
 own:=λ⟨b,ents,cl,e1,e2,e3,e4,e5⟩ k hk=>by subst e2;simp[pm,pY,or_false]at hk;subst hk;exact⟨(pG.1 e3).1,e4⟩
 idx:=0 }
def VO (k:A):List (A×A)->Nat->Option (Nat×A)
 | [],_=>none
 | p::es,i=>if KH p.1=KH k then some (i,p.2) else VO k es (i+1)
def JJ (k:Value):List MapEntry->Nat->Option (Nat×Value)
 | [],_=>none
 | e::es,i=>if e.key=k then some (i,e.val) else JJ k es (i+1)
variable {kv:Value}
def z4I {k:A}  (hk:KH k=some kv):∀{es:List (A×A)} {ents:List MapEntry} {i:Nat},z0B S es ents ->
  (VO k es i=none/\JJ kv ents i=none)\/∃j y v,VO k es i=some (j,y)/\JJ kv ents i=some (j,v)/\wW S y v/\i<=j/\j<i+es.length/\(ents[j - i]?).map (·.key)=some kv
 | [],[],i,_=>.inl ⟨rfl,rfl⟩
 | p::es,e::ents,i,h=>by
  simp only[VO,JJ];by_cases hp:KH p.1=KH k
  ·have he:e.key=kv:=by have:=h.1.1.symm.trans (hp.trans hk);simpa using this
   rw[if_pos hp,if_pos he];exact .inr ⟨i,p.2,e.val,rfl,rfl,h.1.2,pi _,by simp,by simp[he]⟩
  have he:¬e.key=kv:=λq=>hp (by rw[h.1.1,hk,q]);rw[if_neg hp,if_neg he];rcases z4I hk (i:=i+1) h.2 with q|⟨j,y,v,q1,q2,q3,q4,q5,q6⟩
  ·exact .inl q
  refine .inr ⟨j,y,v,q1,q2,q3,by omega,by simp only[pZ];omega,?_⟩;rw[show j - i=(j - (i+1))+1 by omega,rr];exact q6
 | [],_::_,_,h=>h.elim
 | _::_,[],_,h=>h.elim
structure zc8 (P:Program)(t kt et:Nat)(ok:A->Bool)(z:A):Prop where
 und:P.underlying t=some (.map kt et)
 zero:∃zv,(∀w,(zeroValue et).run P w=.ok zv w)/\∀S,wW S z zv
 check:∀a kv e w,ok a=true->KH a=some kv->(Instr.checkKey e 10000 kt kv).run P w=.ok () w
 find:∀a kv,ok a=true->KH a=some kv->∀(ents:List MapEntry) (es:List (A×A)),(∀p∈es,ok p.1=true)->YO (λp (e:MapEntry)=>KH p.1=some e.key) es ents->∀w,(Instr.findKey kt kv ents).run P w=.ok (JJ kv ents 0) w
 bits:∀a kv,ok a=true->KH a=some kv->Instr.sameBits 10000 kv kv=true
 key:∀a,ok a=true->∃kv,KH a=some kv
 zd:z.isD=true
variable {es:List (A×A)}
section
variable {P:Program}{C:Ctx}{S:zm}{Fp:Nat->TC}{X:TC}{st:St}{a:Act}{w:World}{t kt et:Nat}{ok:A->Bool}{z:A}
def zea (n:Fr)(dst:TD)(es:List (A×A))(ok:A->Bool)(z:A)(x k:Operand)(two:Bool):SM Unit:=do
 let tx <-opnd x;let y <-peek tx;let tk <-opnd k;let vk <-val tk
 if y=.opq (QV es)/\ok vk=true/\∀p∈es,ok p.1=true then
  wrT n dst (.d (match VO vk es 0 with
   | some (_,v)=>if two=true then .tup [v,.atom (.bool true)] else v
   | none=>if two=true then .tup [z,.atom (.bool false)] else z))
 else zt
def z4A {q:Opq}  (h:xg S (.opq q) v\/∃cs F,zK S w.heap (.opq q) cs F/\v=zU (.opq q) cs):∃F,q.holds S w.heap v F:=by
 rcases h with h|⟨cs,F,h1,h2⟩
 ·simp[xg,wW,Rep,false_and]at h
 simp[zK]at h1;obtain⟨u,rfl,h1⟩:=h1;exact⟨F,by rw[h2];exact h1⟩
def ze8 (mt:zc8 P t kt et ok z)  {ents:Array MapEntry}{cl b:Nat}(hb:w.heap[b]?=some (.map ents cl))(he:z0B S es ents.toList)(hok:∀p∈es,ok p.1=true){vk:A}  (hv:ok vk=true)(hk:KH vk=some kv)(two:Bool) :
    ∃v,(Instr.lookup t (.map (some b)) kv two).run P w=.ok v w/\xg S (match VO vk es 0 with
      | some (_,v)=>if two=true then .tup [v,.atom (.bool true)] else v
      | none=>if two=true then .tup [z,.atom (.bool false)] else z) v:=by
  have ⟨zv,z1,z2⟩:=mt.zero;have hf:=mt.find vk kv hv hk ents.toList es hok (YO.mono (λ_ _ q=>q.1) he) w;have hc:=mt.check vk kv ents.isEmpty w hv hk;have run:(Instr.lookup t (.map (some b)) kv two).run P w=(do
        let (v,b) <-match JJ kv ents.toList 0 with
          | some (_,v)=>pure (v,true)
          | none=>pure (<-zeroValue et,false)
        pure (if two then .tuple #[v,.bool b] else v):Sem Value).run P w:=by
    unfold Instr.lookup;rw[Sem.run_bind,run_underlying mt.und,Result.andThen_ok];have hg:(getObj b).run P w=.ok (.map ents cl) w:=by simp[getObj,Sem.run,hb]
    simp only[Sem.run_bind,hg,Result.andThen_ok,Sem.run_pure,hc,hf];cases JJ kv ents.toList 0 <;> rfl
  rcases z4I hk (i:=0) he with⟨q1,q2⟩|⟨j,y,v,q1,q2,q3,_⟩
  · rw[q1];refine⟨if two=true then .tuple #[zv,.bool false] else zv,?_,?_⟩
    · rw[run,q2];simp[z1]
    cases two
    · exact(z2 S).repV
    simp only[if_true,xg];exact⟨[zv,.bool false],rfl,z2 S,yX.2 ⟨rfl,rfl⟩,trivial⟩
  rw[q1];refine⟨if two=true then .tuple #[v,.bool true] else v,?_,?_⟩
  · rw[run,q2];simp
  cases two
  · exact q3.repV
  simp only[if_true,xg];exact⟨[v,.bool true],rfl,q3,yX.2 ⟨rfl,rfl⟩,trivial⟩
def ze9 (mt:zc8 P t kt et ok z)(h:Sim C S Fp [] st a w)   {x k:Operand}{two:Bool}(ho:o.op=.lookup t x k two)    (e:zea C.n o.dst es ok z x k two st=some (u,R,U)):vB P C o a w (zi U st):=by
 unfold zea at e;have ⟨tx,_,hx,e1⟩:=bR (zF h) e;have ⟨y,_,qx,e2⟩:=bR (VA h hx) e1;have ⟨tk,_,hk,e3⟩:=bR (zF h) e2;have ⟨vk,_,qk,e4⟩:=bR (vA h hk) e3;split at e4
 ·rename_i hc;obtain⟨rfl,c2,c3⟩:=hc;have ⟨F,b,ents,cl,ev,_,g1,_,g3⟩:=z4A qx;have ⟨kv,hkv⟩:=mt.key vk c2;have hkd:a.eval k=kv:=by refine z8i (S:=S) ?_ hkv;cases vk <;> first|exact qk|(simp only[KH,z33,Option.map_none]at hkv;cases hkv)
  have ⟨v,r1,r2⟩:=ze8 mt g1 g3 c3 c2 hkv two;have ⟨Fp',hs⟩:=xM h e4 (x:=.d _) r2;exact zo (by simp[execOp,ho,ev,hkd,r1]) hs
 cases e4
def zfy (es:List (A×A))(k v:A):List (A×A) :=
 match VO k es 0 with
 | some (j,_)=>es.set j (k,v)
 | none=>es++[(k,v)]
def zia (es:List (A×A))(ok:A->Bool)(x k v:Operand):SM Unit:=do
 let tx <-opnd x;match tx with
 | .als r [] er ec=>do
  let e <-rdE r;let tk <-opnd k;let vk <-val tk;let tv <-opnd v;let vv <-val tv
  if e.t=.own (.opq (QV es))/\e.er=er/\ok vk=true/\vv.isD=true/\∀p∈es,ok p.1=true then
   wrE r ⟨.own (.opq (QV (zfy es vk vv))),e.er,e.ec+1⟩
  else zt
 | _=>zt
def z7J:∀{es:List (A×A)} {ents:List MapEntry} {j:Nat} {p:A×A} {f:MapEntry->MapEntry},z0B S es ents->(∀e,ents[j]?=some e->KH p.1=some (f e).key/\wW S p.2 (f e).val)->z0B S (es.set j p) (ents.modify j f)
 | [],[],j,p,f,_,_=>by simp[List.set_nil,List.modify_nil];exact trivial
 | q::es,e::ents,0,p,f,h,hf=>by have:=hf e (by simp);simp[nP,List.modify_zero_cons];exact⟨this,h.2⟩
 | q::es,e::ents,j+1,p,f,h,hf=>by simp[rU,List.modify_succ_cons];exact⟨h.1,z7J h.2 (λe' he'=>hf e' (by simpa using he'))⟩
 | [],_::_,_,_,_,h,_=>h.elim
 | _::_,[],_,_,_,h,_=>h.elim
def z9B (mt:zc8 P t kt et ok z)(h:Sim C S Fp [] st a w)   {x k v:Operand}(ho:o.op=.mapUpdate t x k v\/o.op=.insert t x k v)(hd:o.dst=none)    (e:zia es ok x k v st=some (u,R,U)):vB P C o a w (zi U st):=by
 unfold zia at e;have ⟨tx,_,hx,e1⟩:=bR (zF h) e;split at e1
 ·rename_i r er ec;have ⟨_,e2⟩:=bD e1;have ⟨tk,_,hk,e3⟩:=bR (zF h) e2;have ⟨vk,_,qk,e4⟩:=bR (vA h hk) e3;have ⟨tv,_,hv,e5⟩:=bR (zF h) e4;have ⟨vv,_,qv,e6⟩:=bR (vA h hv) e5;split at e6
  ·rename_i hc;have ⟨c1,c2,c3,c4,c5⟩:=hc;cases e6;have hr:=h.ent r;unfold xm at hr;simp only[c1]at hr;have ⟨cs,k1,k2,k3⟩:=hr;simp only[zK]at k1;obtain⟨v0,rfl,b,ents,cl,rfl,hF,g1,g2,g3⟩:=k1;have hev:a.eval x=.map (some b):=by
    have:=hx.2.2;simp only[c1]at this;rcases this c2 (.inl trivial) with⟨_,q⟩|⟨q,_⟩
    ·rw[q,k3];rfl
    simp[QU]at q
   have ⟨kv,hkv⟩:=mt.key vk c3;have hkd:a.eval k=kv:=by refine z8i (S:=S) ?_ hkv;cases vk <;> first|exact qk|(simp only[KH,z33,Option.map_none]at hkv;cases hkv)
   have hvd:wW S vv (a.eval v):=qv.rep1 c4;have hf:=mt.find vk kv c3 hkv ents.toList es c5 (YO.mono (λ_ _ q=>q.1) g3) w;have hck:=mt.check vk kv false w c3 hkv;have hget:(getObj b).run P w=.ok (.map ents cl) w:=by simp[getObj,Sem.run,g1]
   have hset:∀o',(setObj b o').run P w=.ok () (w.putObj b o'):=by intro o';simp[setObj,Sem.run,g1,World.putObj]
   have hbM:C.M b:=h.base r b (by rw[hF];simp);have hoth:∀k o',k≠b->(w.putObj b o').heap[k]?=w.heap[k]?:=λk o' hk=>World.putObj_heap_other hk;have hlt:b<w.heap.size:=(pG.1 g1).1;have fin:∀ents' cl' es',z0B S es' ents'.toList->∃Fp',Sim C S Fp' [] (upd st r ⟨.own (.opq (QV es')),(st r).er,(st r).ec+1⟩) a (w.putObj b (.map ents' cl')):=by
    intro ents' cl' es' he';refine⟨_,h.change r (.own (.opq (QV es'))) _ _ [b] ?_ (λ_ _ _ q=>q) ?_ h.sbase ?_ ⟨⟨[.map (some b)],?_,by simp,k3⟩,_,c1⟩ (.inl ⟨_,c1⟩) (pi _) (gF _) ?_ ?_ (by simp) (by simp) (by simp) (by simp)⟩
    ·exact h.below.trans ⟨rfl,rfl,rfl,pi _,by simp[World.putObj],λk hk=>hoth k _ (by rintro rfl;exact hk hbM)⟩
    ·intro b' o' v' hs;have:=h.still b' o' v' hs;unfold y9 at this ⊢;rw[hoth b' _ (by rintro rfl;rw[g2]at hs;cases hs)];exact this
    ·intro t' k' ht' hk';exact⟨hoth k' _ (by rintro rfl;exact ht' (h.disj t' r _ hk' (by rw[hF];simp))),(h.free t' k' hk').2.1⟩
    ·simp only[zK];exact⟨_,rfl,b,ents',cl',rfl,rfl,World.putObj_heap_same hlt,g2,he'⟩
    ·intro t' k' ht' hk' hk2;simp only[pm,pY,or_false]at hk';subst hk';exact ht' (h.disj t' r _ hk2 (by rw[hF];simp))
    intro k' hk';simp only[pm,pY,or_false]at hk';subst hk';exact hbM
   have run:(Instr.mapUpdate t (.map (some b)) kv (a.eval v)).run P w=(do
     match JJ kv ents.toList 0 with
     | some (i,_)=>do
      let key <-Instr.keyThatStays (((ents[i]?).map (·.key)).getD kv) kv
      setObj b (.map (ents.modify i λe=>{ e with key,val:=a.eval v }) cl)
     | none=>setObj b (.map (ents.push { key:=kv,val:=a.eval v,born:=cl }) (cl+1)):Sem Unit).run P w:=by
    unfold Instr.mapUpdate;rw[Sem.run_bind,run_underlying mt.und,Result.andThen_ok];simp only[Sem.run_bind,hget,Result.andThen_ok,hck,hf];cases JJ kv ents.toList 0 <;> rfl
   simp only[zi];have good:∀w',(Instr.mapUpdate t (.map (some b)) kv (a.eval v)).run P w=.ok () w'->∀es' Fp',Sim C S Fp' [] (upd st r ⟨.own (.opq (QV es')),(st r).er,(st r).ec+1⟩) a w'->vB P C o a w (upd st r ⟨.own (.opq (QV es')),(st r).er,(st r).ec+1⟩):=by intro w' hw es' Fp' hs;refine z6d (w':=w') ?_ hd hs;rcases ho with ho|ho <;> simp[execOp,ho,hev,hkd,hw]
   rcases z4I hkv (i:=0) g3 with⟨q1,q2⟩|⟨j,y,v',q1,q2,q3,q4,q5,q6⟩
   ·have he':z0B S (zfy es vk vv) (ents.push { key:=kv,val:=a.eval v,born:=cl }).toList:=by simp only[zfy,q1,Array.toList_push];exact z18 g3 ⟨⟨hkv,hvd⟩,trivial⟩
    have ⟨Fp',hs⟩:=fin _ (cl+1) _ he';exact good _ (by rw[run,q2];exact hset _) _ _ hs
   have hkey:(ents[j]?).map (·.key)=some kv:=by simp only[mY]at q6;rw[<-mb];exact q6
   have he':z0B S (zfy es vk vv) (ents.modify j λe=>{ e with key:=kv,val:=a.eval v }).toList:=by simp only[zfy,q1];rw[Array.toList_modify];exact z7J g3 λ_ _=>⟨hkv,hvd⟩
   have ⟨Fp',hs⟩:=fin _ cl _ he';refine good _ ?_ _ _ hs;rw[run,q2];simp only[hkey,pV,Instr.keyThatStays,mt.bits vk kv c3 hkv,if_true,Sem.run_bind,Sem.run_pure,Result.andThen_ok,hset]
  cases e6
 cases e1
end
variable {x:Operand}
section
variable {P:Program}{C:Ctx}{S:zm}{Fp:Nat->TC}{X:TC}{st:St}{a:Act}{w:World}{t kt et:Nat}{ok:A->Bool}{z:A}
def zaJ (n:Fr)(dst:TD):SM Unit:=wrT n dst (.own (.opq (QV [])))
def zaI (h:Sim C S Fp [] st a w)  (ho:o.op=.makeMap t none)    (e:zaJ C.n o.dst st=some (u,R,U)):vB P C o a w (zi U st):=by
 have h2:=h.alloc (by simp) (.map #[] 0);have hc:zK S (w.alloc (.map #[] 0)).heap (.opq (QV [])) [.map (some w.heap.size)] [w.heap.size]:=by simp only[zK];exact⟨_,rfl,w.heap.size,#[],0,rfl,rfl,heap_alloc_new w _,λo=>h.free_new (pi _) o,trivial⟩
 have ⟨Fp'',hs⟩:=W9 (F:=[w.heap.size]) (X:=[]) h2 e hc (by simp);refine zo (v:=.map (some w.heap.size)) ?_ hs;simp[execOp,ho,Instr.makeMap]
def ze3 (n:Fr)(dst:TD)(es:List (A×A))(x:Operand):SM Unit:=do
 let tx <-opnd x;let y <-peek tx
 if y=.opq (QV es) then wrT n dst (.d (.atom (.int .i64 (es.length:Nat)))) else zt
def ze2 (mt:zc8 P t kt et ok z)(h:Sim C S Fp [] st a w)   {x:Operand}(ho:o.op=.call ⟨.builtin .len,⟨[x]⟩,⟨[t]⟩⟩)    (e:ze3 C.n o.dst es x st=some (u,R,U)):vB P C o a w (zi U st):=by
 unfold ze3 at e;have ⟨tx,_,hx,e1⟩:=bR (zF h) e;have ⟨y,_,qx,e2⟩:=bR (VA h hx) e1;split at e2
 ·rename_i hc;subst hc;have ⟨F,b,ents,cl,ev,_,g1,_,g3⟩:=z4A qx;have hl:es.length=ents.size:=by simpa using z4R g3
  have ⟨Fp',hs⟩:=xM h e2 (x:=.d _) (zu.2 ⟨rfl,rfl⟩);refine zo ?_ hs;have hg:(getObj b).run P w=.ok (.map ents cl) w:=by simp[getObj,Sem.run,g1]
  simp[execOp,ho,resolve,invoke,builtin,Builtin.len_,ev,run_underlying mt.und,hg,goInt,hl]
 cases e2
end
def zfG (n:Fr)(dst:TD)(es:List (A×A))(ok:A->Bool)(z:A)(x k:Operand)(two:Bool):HM Unit :=
 y7 (opnd x) >>= λtx=>z32 tx >>= λy=>y7 (opnd k) >>= λtk=>Jv tk >>= λvk=>
 kG (y=.opq (QV es)/\ok vk=true/\∀p∈es,ok p.1=true) (eqA (match VO vk es 0 with
   | some (_,v)=>if two=true then .tup [v,.atom (.bool true)] else v
   | none=>if two=true then .tup [z,.atom (.bool false)] else z) >>= λr=>y7 (wrT n dst (.d r)))
def zgN (n:Fr)(dst:TD)(es:List (A×A))(ok:A->Bool)(z:A)(x k:Operand)(two:Bool):Snd (zea n dst es ok z x k two) (zfG n dst es ok z x k two) :=
 zh (zk _) λ_=>zh (Ka _) λ_=>zh (zk _) λ_=>zh (kH _) λ_=>we (Qq (zZ _ λr=>wrT n dst (.d r)).symm (zh (z2Z _) λ_=>zk _))
def zlM (es es':List (A×A))(ok:A->Bool)(x k v:Operand):HM Unit:=y7 (opnd x) >>= λtx=>
 match tx with
 | .als r [] er ec=>y7 (rdE r) >>= λe=>y7 (opnd k) >>= λtk=>Jv tk >>= λvk=>y7 (opnd v) >>= λtv=>Jv tv >>= λvv=>kG (e.t=.own (.opq (QV es))/\e.er=er/\ok vk=true/\vv.isD=true/\∀p∈es,ok p.1=true) (kG (zfy es vk vv=es') (y7 (wrE r ⟨.own (.opq (QV es')),e.er,e.ec+1⟩)))
 | _=>zL
def zfr (es es':List (A×A))(ok:A->Bool)(x k v:Operand):Snd (zia es ok x k v) (zlM es es' ok x k v):=by
 refine zh (zk _) λtx=>?_;cases tx with
 | als r p er ec=>
  cases p with
  | nil=>refine zh (zk _) λe=>zh (zk _) λtk=>zh (kH _) λvk=>zh (zk _) λtv=>zh (kH _) λvv=>we ?_;exact KX λhq=>by rw[hq];exact zk _
  | cons _ _=>exact zr _
 | _=>exact zr _
def zkp (n:Fr)(dst:TD)(es:List (A×A))(x:Operand):HM Unit:=y7 (opnd x) >>= λtx=>z32 tx >>= λy=>kG (y=.opq (QV es)) (eqA (.atom (.int .i64 (es.length:Nat))) >>= λr=>y7 (wrT n dst (.d r)))
def zjR (n:Fr)(dst:TD)(es:List (A×A))(x:Operand):Snd (ze3 n dst es x) (zkp n dst es x) :=
 zh (zk _) λ_=>zh (Ka _) λ_=>we (Qq (zZ _ λr=>wrT n dst (.d r)).symm (zh (z2Z _) λ_=>zk _))
def ziu (P:Program)(d:Nat):XH P:={
 e:=λn o=>match o.op with|.makeMap _ none=>if o.dst=some d then some (zaJ n o.dst) else none|_=>none
 h:=λn o=>match o.op with|.makeMap _ none=>if o.dst=some d then some (y7 (zaJ n o.dst)) else none|_=>none
 ok:=by
  refine⟨?_,?_⟩
  ·intro C S Fp st a w o m u R U e h h2;dsimp only at e;split at e
   ·rename_i ho;split at e
    ·cases e;exact zaI h ho h2
    cases e
   cases e
  intro n o m e;dsimp only at e;split at e
  ·split at e
   ·cases e;exact λst st' a R U=>Loc.wrT _ _ _ st st' a R U
   cases e
  cases e
 none:=by
  intro n o e
  skip
  split at e
  ·split at e
   ·cases e
   rename_i hd;rw[if_neg hd]
  rfl
 some:=by
  intro n o m e
  skip
  split at e
  ·split at e
   ·rename_i hd;cases e;exact⟨_,by rw[if_pos hd],zk _⟩
   cases e
  cases e }
variable {z:A}
def z9v {t kt et:Nat}{ok:A->Bool}  (mt:zc8 P t kt et ok z)(d:Nat)(es:List (A×A)):XH P:={
 e:=λn o=>match o.op with|.lookup t' x k two=>if o.dst=some d/\t'=t then some (zea n o.dst es ok z x k two) else none|_=>none
 h:=λn o=>match o.op with|.lookup t' x k two=>if o.dst=some d/\t'=t then some (zfG n o.dst es ok z x k two) else none|_=>none
 ok:=by
  refine⟨?_,?_⟩
  ·intro C S Fp st a w o m u R U e h h2;dsimp only at e;split at e
   ·rename_i t' x k two ho;split at e
    ·rename_i hd;obtain⟨_,rfl⟩:=hd;cases e;exact ze9 mt h ho h2
    cases e
   cases e
  intro n o m e;dsimp only at e;split at e
  ·split at e
   ·cases e;refine Loc.bind (Loc.opnd _) λ_=>Loc.bind (Loc.peek _) λ_=>Loc.bind (Loc.opnd _) λ_=>Loc.bind (Loc.val _) λ_=>Loc.ite (Loc.wrT _ _ _) Loc.fail
   cases e
  cases e
 none:=by
  intro n o e
  skip
  split at e
  ·split at e
   ·cases e
   rename_i hd;rw[if_neg hd]
  rfl
 some:=by
  intro n o m e
  skip
  split at e
  ·split at e
   ·rename_i hd;cases e;exact⟨_,by rw[if_pos hd],zgN _ _ _ _ _ _ _ _⟩
   cases e
  cases e }
def zlH {t kt et:Nat}{ok:A->Bool}  (mt:zc8 P t kt et ok z)(d:Nat)(es:List (A×A)):XH P:={
 e:=λn o=>match o.op with|.call ⟨.builtin .len,⟨[x]⟩,⟨[t']⟩⟩=>if o.dst=some d/\t'=t then some (ze3 n o.dst es x) else none|_=>none
 h:=λn o=>match o.op with|.call ⟨.builtin .len,⟨[x]⟩,⟨[t']⟩⟩=>if o.dst=some d/\t'=t then some (zkp n o.dst es x) else none|_=>none
 ok:=by
  refine⟨?_,?_⟩
  ·intro C S Fp st a w o m u R U e h h2;dsimp only at e;split at e
   ·rename_i x t' ho;split at e
    ·rename_i hd;obtain⟨_,rfl⟩:=hd;cases e;exact ze2 mt h ho h2
    cases e
   cases e
  intro n o m e;dsimp only at e;split at e
  ·split at e
   ·cases e;exact Loc.bind (Loc.opnd _) λ_=>Loc.bind (Loc.peek _) λ_=>Loc.ite (Loc.wrT _ _ _) Loc.fail
   cases e
  cases e
 none:=by
  intro n o e
  skip
  split at e
  ·split at e
   ·cases e
   rename_i hd;rw[if_neg hd]
  rfl
 some:=by
  intro n o m e
  skip
  split at e
  ·split at e
   ·rename_i hd;cases e;exact⟨_,by rw[if_pos hd],zjR _ _ _ _⟩
   cases e
  cases e }
def zn6 {t kt et:Nat}{ok:A->Bool}  (mt:zc8 P t kt et ok z)(q:Nat)(es es':List (A×A)):XH P:={
 e:=λn o=>match o.op with
  | .mapUpdate t' (.tmp x) k v=>if x=q/\t'=t/\o.dst=none then some (zia es ok (.tmp x) k v) else none
  | .insert t' (.tmp x) k v=>if x=q/\t'=t/\o.dst=none then some (zia es ok (.tmp x) k v) else none
  | _=>none
 h:=λn o=>match o.op with
  | .mapUpdate t' (.tmp x) k v=>if x=q/\t'=t/\o.dst=none then some (zlM es es' ok (.tmp x) k v) else none
  | .insert t' (.tmp x) k v=>if x=q/\t'=t/\o.dst=none then some (zlM es es' ok (.tmp x) k v) else none
  | _=>none
 ok:=by
  have loc:∀x k v,Loc (zia es ok x k v):=by
   intro x k v;refine Loc.bind (Loc.opnd _) λtx=>?_;split
   ·exact Loc.bind (Loc.rdE _) λ_=>Loc.bind (Loc.opnd _) λ_=>Loc.bind (Loc.val _) λ_=>Loc.bind (Loc.opnd _) λ_=>Loc.bind (Loc.val _) λ_=>Loc.ite (Loc.wrE _ _) Loc.fail
   exact Loc.fail
  refine⟨?_,?_⟩
  ·intro C S Fp st a w o m u R U e h h2;dsimp only at e;split at e
   ·rename_i t' x k v ho;split at e
    ·rename_i hd;obtain⟨_,rfl,hd⟩:=hd;cases e;exact z9B mt h (.inl ho) hd h2
    cases e
   ·rename_i t' x k v ho;split at e
    ·rename_i hd;obtain⟨_,rfl,hd⟩:=hd;cases e;exact z9B mt h (.inr ho) hd h2
    cases e
   cases e
  intro n o m e;dsimp only at e;split at e
  ·split at e
   ·cases e;exact loc _ _ _
   cases e
  ·split at e
   ·cases e;exact loc _ _ _
   cases e
  cases e
 none:=by
  intro n o e
  skip
  split at e
  ·split at e
   ·cases e
   rename_i hd;rw[if_neg hd]
  ·split at e
   ·cases e
   rename_i hd;rw[if_neg hd]
  rfl
 some:=by
  intro n o m e
  skip
  split at e
  ·split at e
   ·rename_i hd;cases e;exact⟨_,by rw[if_pos hd],zfr _ _ _ _ _ _⟩
   cases e
  ·split at e
   ·rename_i hd;cases e;exact⟨_,by rw[if_pos hd],zfr _ _ _ _ _ _⟩
   cases e
  cases e }
variable {K V:Type}
def Vb [BEq K]:List (K×V)->K->Option V
 | [],_=>none
 | p::l,x=>if p.1==x then some p.2 else Vb l x
def z1Y [BEq K]:List (K×V)->K->V->List (K×V)
 | [],x,v=>[(x,v)]
 | p::l,x,v=>if p.1==x then(x,v)::l else p::z1Y l x v
class zn4 {K:Type} [BEq K] (f:K->A):Prop where
 eq:∀x y,(KH (f x)=KH (f y))↔(x==y)=true
def Yu (f:K->A)(g:V->A)(l:List (K×V)):List (A×A):=l.map λp=>(f p.1,g p.2)
def z8v {f:K->A}{g:V->A}(x:K):∀(l:List (K×V)) (i j:Nat) (y:A),VO (f x) (Yu f g l) i=some (j,y)->i<=j
 | [],_,_,_,e=>by cases e
 | p::l,i,j,y,e=>by
  simp[Yu,gB,VO]at e;split at e
  ·cases e;exact pi _
  exact Nat.le_of_succ_le (z8v x l (i+1) j y e)
section
variable {K V:Type}[BEq K]{f:K->A}{g:V->A}[hk:zn4 f]
def z4J (x:K):∀(l:List (K×V)) (i:Nat),(VO (f x) (Yu f g l) i).map (·.2)=(Vb l x).map g
 | [],_=>rfl
 | p::l,i=>by
  simp[Yu,gB,VO,Vb];by_cases h:(p.1==x)=true
  ·rw[if_pos ((hk.eq _ _).2 h),if_pos h];rfl
  rw[if_neg (λq=>h ((hk.eq _ _).1 q)),if_neg h];exact z4J x l (i+1)
def zal (x:K)(v:V):∀(l:List (K×V)) (i:Nat),(match VO (f x) (Yu f g l) i with|some (j,_)=>(Yu f g l).set (j - i) (f x,g v)|none=>Yu f g l++[(f x,g v)])=Yu f g (z1Y l x v)
 | [],_=>rfl
 | p::l,i=>by
  simp[Yu,gB,VO,z1Y];by_cases h:(p.1==x)=true
  ·rw[if_pos ((hk.eq _ _).2 h),if_pos h];simp
  rw[if_neg (λq=>h ((hk.eq _ _).1 q)),if_neg h];have ih:=zal x v l (i+1);simp[gB];simp[Yu]at ih;cases hf:VO (f x) (l.map λp=>(f p.1,g p.2)) (i+1) with
  | none=>simp[hf]at ih ⊢;simp[ih]
  | some q=>have ⟨j,y⟩:=q;have hle:=z8v (f:=f) (g:=g) x l (i+1) j y hf;simp[hf]at ih ⊢;rw[show j - i=(j - (i+1))+1 by omega,rU,ih]
def zak (x:K)(v:V)(l:List (K×V)):zfy (Yu f g l) (f x) (g v)=Yu f g (z1Y l x v):=by have:=zal (f:=f) (g:=g) x v l 0;simpa only[mY,zfy] using this
def zo0 {z0:V}  (hz:g z0=z)(x:K)(l:List (K×V)):(match VO (f x) (Yu f g l) 0 with
      | some (_,v)=>if false=true then A.tup [v,.atom (.bool true)] else v
      | none=>if false=true then A.tup [z,.atom (.bool false)] else z)=g ((Vb l x).getD z0):=by
  have:=z4J (f:=f) (g:=g) x l 0;cases hf:VO (f x) (Yu f g l) 0 with
  | none=>rw[hf]at this;cases hm:Vb l x with|none=>simp[hz]|some y=>simp[hm]at this
  | some q=>have ⟨j,y⟩:=q;rw[hf]at this;cases hm:Vb l x with|none=>simp[hm]at this|some y'=>simp[hm]at this;simp[this]
def zp4 {z0:V}  (hz:g z0=z)(x:K)(l:List (K×V)):(match VO (f x) (Yu f g l) 0 with
      | some (_,v)=>if true=true then A.tup [v,.atom (.bool true)] else v
      | none=>if true=true then A.tup [z,.atom (.bool false)] else z)=.tup [g ((Vb l x).getD z0),.atom (.bool (Vb l x).isSome)]:=by
  have:=z4J (f:=f) (g:=g) x l 0;cases hf:VO (f x) (Yu f g l) 0 with
  | none=>rw[hf]at this;cases hm:Vb l x with|none=>simp[hz]|some y=>simp[hm]at this
  | some q=>have ⟨j,y⟩:=q;rw[hf]at this;cases hm:Vb l x with|none=>simp[hm]at this|some y'=>simp[hm]at this;simp[this]
end
def z6j {f:K->A}{g:V->A}{ok:A->Bool}(h:∀x,ok (f x)=true)(l:List (K×V)):∀p∈Yu f g l,ok p.1=true:=by intro p hp;obtain⟨q,_,rfl⟩:=pX.1 hp;exact h _
def zhG (f:K->A)(g:V->A)(l:List (K×V)):A.atom (.int .i64 (((Yu f g l).length:Nat):Int))=.atom (.int .i64 ((l.length:Nat):Int)):=by simp[Yu]
def zbm:List IntKind->TE->Bool
 | [],[]=>true
 | k::ks,.int k' _::vs=>k' == k&&zbm ks vs
 | _,_=>false
def z9a (ks:List IntKind):A->Bool
 | .agg fs=>match z33.keyLs fs with|some l=>zbm ks l|none=>false
 | _=>false
variable {ks:List IntKind}
def V1 {a:A}(h:z9a ks a=true):∃l,z33 a=some l/\zbm ks l=true/\KH a=some (.agg l.toArray):=by
 unfold z9a at h;split at h
 ·rename_i fs;cases e:z33.keyLs fs with
  | none=>simp[e]at h
  | some l=>simp[e]at h;exact⟨l,by simp[z33,e],h,by simp[KH,z33,e,gE,zU]⟩
 cases h
def z10:∀{ks:List IntKind} {l:TE},zbm ks l=true->l.length=ks.length
 | [],[],_=>rfl
 | k::ks,v::l,h=>by
  cases v <;> simp only[zbm]at h <;> first|(cases h;done)|skip
  simp only[pE]at h;simp[z10 h.2]
 | [],_::_,h=>by cases h
 | _::_,[],h=>by cases h
def zbl:∀{ks:List IntKind} {l m:TE},zbm ks l=true->zbm ks m=true->∃r,yY l m=some r/\(r=true↔m=l)
 | [],[],[],_,_=>⟨true,rfl,by simp⟩
 | k::ks,v::l,u::m,h1,h2=>by
  cases v <;> simp only[zbm]at h1 <;> first|(cases h1;done)|skip
  cases u <;> simp only[zbm]at h2 <;> first|(cases h2;done)|skip
  simp only[pE,beq_iff_eq]at h1 h2;obtain⟨rfl,h1⟩:=h1;obtain⟨rfl,h2⟩:=h2;have ⟨r,q1,q2⟩:=zbl h1 h2;rename_i a _ b;refine⟨(a==b)&&r,by simp[yY,q1],?_⟩;simp only[pE,beq_iff_eq,List.cons.injEq,Value.int.injEq,true_and,q2];constructor
  ·rintro⟨rfl,rfl⟩;exact⟨rfl,rfl⟩
  rintro⟨rfl,rfl⟩;exact⟨rfl,rfl⟩
 | [],_::_,_,h,_=>by cases h
 | [],[],_::_,_,h=>by cases h
 | _::_,[],_,h,_=>by cases h
 | _::_,_::_,[],_,h=>by cases h
section
variable {P:Program}{t kt et:Nat}{z:A}
def ze1 {i:Go.Ex.EI}(hu:P.underlying t=some (.map kt et))(d:TypeDesc)(hk:P.underlying kt=some d)(hx:Go.Ex.zci P kt i)(he:zci P kt ks.length)(hn:i.size=ks.length)(hz:∃zv,(∀w,(zeroValue et).run P w=.ok zv w)/\∀S,wW S z zv)(zd:z.isD=true):zc8 P t kt et (z9a ks) z:={
 und:=hu
 zero:=hz
 zd:=zd
 key:=λa h=>by have ⟨l,_,_,h3⟩:=V1 h;exact⟨_,h3⟩
 check:=λa kv e w h hv=>by have ⟨l,_,h2,h3⟩:=V1 h;rw[h3]at hv;cases hv;exact hx.key l e w (by rw[hn];exact z10 h2)
 bits:=λa kv h hv=>by
  have ⟨l,_,h2,h3⟩:=V1 h;rw[h3]at hv;cases hv;have:∀{ks:List IntKind} {l:TE},zbm ks l=true->(l.zip l).all (λ(x,y)=>Instr.sameBits 9999 x y)=true:=by
   intro ks;induction ks with
   | nil=>intro l h;cases l <;> first|rfl|cases h
   | cons k ks ih=>
    intro l h;cases l with
    | nil=>rfl
    | cons v l=>
     cases v <;> simp only[zbm]at h <;> first|(cases h;done)|skip
     simp only[pE]at h;simp only[List.zip_cons_cons,List.all_cons,pE];exact⟨by simp[Instr.sameBits],ih h.2⟩
  simp only[Instr.sameBits,beq_self_eq_true,rO];exact this h2
 find:=λa kv h hv ents es hes hall w=>by
  have ⟨l,_,h2,h3⟩:=V1 h;rw[h3]at hv;cases hv;have gen:∀(ents:List MapEntry) (es:List (A×A)) (i:Nat),(∀p∈es,z9a ks p.1=true)->YO (λp (e:MapEntry)=>KH p.1=some e.key) es ents->(Instr.findAsking kt (.agg l.toArray) ents i).run P w=.ok (JJ (.agg l.toArray) ents i) w:=by
   intro ents;induction ents with
   | nil=>intro es i _ _;simp[Instr.findAsking,JJ]
   | cons e ents ih=>
    intro es i h1 h2';cases es with
    | nil=>exact h2'.elim
    | cons p es=>
     have ⟨m,_,g2,g3⟩:=V1 (h1 p (by simp));have hk2:e.key=.agg m.toArray:=by have:KH p.1=some e.key:=h2'.1;rw[g3]at this;exact(Option.some.inj this).symm
     have ⟨r,r1,r2⟩:=zbl h2 g2;have hrun:=he.run l m r w (z10 h2) (z10 g2) r1;simp only[Instr.findAsking,JJ,Sem.run_bind,show(Op.equal kt (Value.agg l.toArray) e.key).run P w=.ok r w by rw[hk2];exact hrun,Result.andThen_ok];by_cases hlm:m=l
     ·have hr:=r2.2 hlm;subst hlm;rw[hr];simp[hk2]
     have hr:r=false:=by
      cases r
      ·rfl
      exact absurd (r2.1 rfl) hlm
     have hne:¬e.key=Value.agg l.toArray:=by rw[hk2];intro q;exact hlm (by simpa using q)
     simp only[hr,hZ,if_false,if_neg hne];exact ih es (i+1) (λp hp=>h1 p (by simp[hp])) h2'.2
  cases ents with
  | nil=>simp[Instr.findKey,run_underlying hk,Instr.findNow,JJ]
  | cons e ents=>
   have hn:Instr.findNow d (.agg l.toArray) (e::ents) 0=none:=by simp only[Instr.findNow];cases d <;> rfl
   simp only[Instr.findKey,Sem.run_bind,run_underlying hk,Result.andThen_ok,hn];exact gen (e::ents) es 0 hes hall }
end
def z7t {f:TypeInfo}  (h:P.info? t=some f)(hz:f.zero=some v)(w:World):(zeroValue t).run P w=.ok v w:=by simp[zeroValue,typeInfo,h,hz]
def z4W (P:Program)(f:A)  (enc:β->Bool->Value->List A)(F:∀{σ:Type},(σ->β->Option (σ×Bool))->σ->Option σ):Prop :=
 ∀(σ:Type) (yv:Value) (Y:σ->JP) (y:σ->β->Option (σ×Bool)),(∀s x s' b,y s x=some (s',b)->∀v,uC P (.atom yv) (enc x b v) [(yv,.opq (Y s).q)] (.atom (.bool b)) [.opq (Y s').q]) ->
  ∀s s',F y s=some s'->uC P f [.atom yv] [(yv,.opq (Y s).q)] (.tup []) [.opq (Y s').q]
def yOf {σ τ β:Type}(step:σ->β->Option (LR σ τ)):LR σ τ->β->Option (LR σ τ×Bool)
 | .next s,x=>match step s x with|some (.next s')=>some (.next s',true)|some (.done t)=>some (.done t,false)|none=>none
 | .done _,_=>none
def zkD:LR σ τ->Bool
 | .next _=>true
 | .done _=>false
variable {b:Bool}
def zcj {σ τ β:Type}{step:σ->β->Option (LR σ τ)}{l l':LR σ τ}{x:β}  (h:yOf step l x=some (l',b)):∃s,l=.next s/\step s x=some l'/\b=zkD l':=by
 cases l with
 | done t=>cases h
 | next s=>
  simp[yOf]at h;cases hs:step s x with
  | none=>simp[hs]at h
  | some r=>
   cases r with
   | _=>simp[hs,Option.some.injEq,Prod.mk.injEq]at h;obtain⟨rfl,rfl⟩:=h;exact⟨s,rfl,hs,rfl⟩
variable {caps:List A}{ps:TC}{g:Operand}
section
variable {σ τ β:Type}
def z9N (stF:σ->St)(stD:τ->St):LR σ τ->St
 | .next s=>stF s
 | .done t=>stD t
def z9s (jc:τ->Code):LR σ τ->Option Code
 | .next _=>none
 | .done t=>some (jc t)
def z1K (rec:Loop)(jc:τ->Code)(l:LR σ τ):Loop:={ rec with state:=if(z9s jc l).isNone then .ready else .done,pending:=z9s jc l }
def AWP.iterF {P:Program}{n:Fr}{st:St}{Q:Exit->St->Prop}{g:Operand}{ps:TC}{assign body:Code}{K:Nat}{caps:List A}(live:TC)(stF:σ->St)(stD:τ->St)(jc:τ->Code)(enc:β->Bool->Value->List A){F:∀{σ:Type},(σ->β->Option (σ×Bool))->σ->Option σ}
  (step:σ->β->Option (LR σ τ)) (s0:σ) (lr:LR σ τ)
  (hg:zmK st g=some (.fn K caps)) (hnd:live.Nodup) (h0:Own.canon live st=stF s0)
  (hcan:∀l,(∀t,(z9N stF stD l t).t.plain=true)/\∀t,t∉live->(z9N stF stD l t).t=.gone)
  (hps:∀p∈ps,p<n.size/\p∉live/\pinned n.pin p=false) (hlen:∀x b v,ps.length=(enc x b v).length)
  (hit:z4W P (.fn K caps) enc F) (hF:F (yOf step) (.next s0)=some lr)
  (hround:∀(tv:Nat->Value) (s:σ) (x:β) (v:Value) (r:LR σ τ),step s x=some r->AWP P ⟨n.size,live.map (λt=>(t,tv t))++n.pin⟩ assign (z5O (stF s) ps (enc x (zkD r) v)) (λe st1=>e=.normal/\AWP P ⟨n.size,live.map (λt=>(t,tv t))++n.pin⟩ body st1 (λex st2=>zb5 ex=some (z9s jc r)/\Own.canon live st2=z9N stF stD r)))
  (hend:zo2 P n (z9N stF stD lr) Q (z9s jc lr)):AWP P n (.rangeFunc g ps.toArray assign body) st Q:=by
 intro rd mm df w0 S0 M S Fp a w hc hs;obtain⟨us,hev,hreps⟩:∃us:TE,a.eval g=.func (.func K) #[] us.toArray/\wW S (.fn K caps) (a.eval g):=by
  unfold zmK at hg;split at hg
  ·rename_i t;split at hg
   ·rename_i x ht;cases hg;have q:=hs.ent t;unfold xm at q;simp[ht]at q;have q1:wW S (.fn K caps) (Act.tv a t):=q.1;have ⟨cs,c1,c2⟩:=q1;have c1':=c1;simp[Rep]at c1;obtain⟨us,_,_,rfl⟩:=c1;exact⟨us,c2,⟨_,c1',c2⟩⟩
   cases hg
  cases hg
 have ⟨Fp0,hs0,hd0⟩:=hs.canonD (hc.post hs) live;rw[h0]at hs0;refine wpIn_rangeFunc ?_;intro fn hfn;have ⟨df',wA,dq,en1,en2,en3⟩:=zkS (P:=P) hc hs0 hd0 fn ps.toArray assign body;generalize (df'.map zhn).take (df'.length - df.length)=mk at en1 en2;obtain⟨rec,hrec⟩:∃q:Loop,q={ state:=.ready,pending:=none,fn,tmps:=a.tmps,params:=ps.toArray,assign,body,defers:=dq }:=⟨_,rfl⟩;rw[<-hrec]at en1;have hs1:=en2.newObj (.loop rec);have hl:(wA.alloc (.loop rec)).heap[wA.heap.size]?=some (.loop rec):=World.alloc_heap_new wA _;have hfr:∀t k,k∈Fp0 t->k<wA.heap.size:=λt k hk=>(en2.free t k hk).1;have hlF:∀t,wA.heap.size∉Fp0 t:=λt hk=>by have:=hfr t _ hk;omega
 have hSl:∀o,S wA.heap.size o=none:=by
  intro o;cases hq:S wA.heap.size o with
  | none=>rfl
  | some v=>have:=en2.still_lt hq;omega
 have hrec0:∀s,z1K rec jc (LR.next s:LR σ τ)=rec:=by intro s;rw[hrec];rfl
 have hY:∀(l:LR σ τ) (x:β) (l':LR σ τ) (b:Bool),yOf step l x=some (l',b)->∀v,uC P (.atom (.func (.yield wA.heap.size) #[] #[])) (enc x b v) [(.func (.yield wA.heap.size) #[] #[],.opq (z9c wA.heap.size (z1K rec jc l) (W7 a.tmps) (z9N stF stD l) (hcan l).1 0))] (.atom (.bool b))
   [.opq (z9c wA.heap.size (z1K rec jc l') (W7 a.tmps) (z9N stF stD l') (hcan l').1 0)]:=by
  intro l x l' b hy v;obtain⟨s,rfl,hst,rfl⟩:=zcj hy;have htm:(z1K rec jc (LR.next s:LR σ τ)).tmps=a.tmps:=by rw[hrec0,hrec]
  have hb:zkD l'=(z9s jc l').isNone:=by cases l' <;> rfl
  have r:=zdF (P:=P) (n:=⟨n.size,live.map (λt=>(t,W7 a.tmps t))++n.pin⟩) (l:=wA.heap.size) (rec:=z1K rec jc (LR.next s:LR σ τ)) (ps:=ps) (ys:=enc x (zkD l') v) (st0:=stF s) (st1:=z9N stF stD l') (i:=0) (i2:=0) (live:=live) (jc:=z9s jc l') (hcan (.next s)).1 (hcan l').1
   (by rw[hrec0,hrec]) (by rw[hrec0,hrec]) (by rw[htm];exact hs.size)
   (by
    intro j u hj;rw[htm];rcases pg.1 hj with hj|hj
    ·have ⟨t,ht,he⟩:=pX.1 hj;cases he;rfl
    exact hs.pin j u hj)
   (λt ht=>by rw[htm];exact pg.2 (.inl (pX.2 ⟨t,ht,rfl⟩))) hnd
   (λp hp=>by
    have ⟨p1,p2,p3⟩:=hps p hp;refine⟨p1,(hcan (.next s)).2 p p2,?_⟩;have gen:∀l:TC,p∉l->pinned (l.map (λt=>(t,W7 a.tmps t))++n.pin) p=false:=by
     intro l;induction l with
     | nil=>intro _;exact p3
     | cons t l ih=>intro hl;simp[pm,not_or]at hl;simp[gB,gK,pinned,ih hl.2,Bool.or_false];simpa using nK hl.1
    exact gen live p2) (hlen x _ v)
   (by have:=hround (W7 a.tmps) s x v l' hst;rw[hrec0,hrec];exact this)
  have e:({ z1K rec jc (LR.next s:LR σ τ) with state:=if(z9s jc l').isNone then .ready else .done,pending:=z9s jc l' }:Loop)=z1K rec jc l':=rfl;rw[e]at r;simp[htm]at r;rw[<-hb]at r;exact r
 have hL:=hit _ _ (λl=>(z9c wA.heap.size (z1K rec jc l) (W7 a.tmps) (z9N stF stD l) (hcan l).1 0).single rfl) (yOf step) hY _ _ hF S (wA.alloc (.loop rec)) (a.eval g) [.func (.yield wA.heap.size) #[] #[]] (wA.heap.size::live.flatMap Fp0) hs1.still hreps ⟨yX.2 ⟨rfl,rfl⟩,trivial⟩
  ⟨_,[],rfl,zaw ⟨rfl,by rw[hrec0];exact hl,hSl,Fp0,(λt=>hs1.ent t),en2.disj,hlF,(λk=>by
   simp[pm,mA];constructor
   ·rintro(rfl|⟨t,_,ht⟩)
    ·exact .inl rfl
    exact .inr ⟨t,ht⟩
   rintro(rfl|⟨t,ht⟩)
   ·exact .inl rfl
   refine .inr ⟨t,?_,ht⟩;apply gM;intro hn;have q:=en2.ent t;unfold xm at q;have hg:=(hcan (.next s0)).2 t hn;simp[z9N]at hg;simp[hg]at q;rw[q]at ht;simp at ht)⟩ (z85 en2 hnd hlF),rfl⟩ (z85 en2 hnd hlF)
 rcases hL with⟨k,cs,fn',a1,a2,a3,a4,a5⟩|⟨L,q,a1,_⟩
 rotate_left
 ·rw[hev]at a1;cases a1
 refine⟨wA.heap.size,mk,wA.alloc (.loop rec),{ target:=.fn (.func k) cs,args:=#[.func (.yield wA.heap.size) #[] #[]] },wA.alloc (.loop rec),k,#[.func (.yield wA.heap.size) #[] #[]]++cs,wA.alloc (.loop rec),en1,?_,λ_ _=>trivial,?_,λh=>(by cases h),?_⟩
 ·simp[resolve,a1];simp[go_sem]
 ·simp[invoke];exact Qr a2 a3 a4 _ _
 refine(Qh a5 rd (mm - 1)).mono ?_;rintro e w' ⟨v',rfl,S',F',G,b1,b2,b3,b4,_,b6,_,b8⟩;have ⟨G1,G2,hGe,b6,hnil⟩:=b6;have hG2:G2=[]:=hnil;subst hG2;simp[pN]at hGe;subst hGe;have ⟨_,c2,c3,Fp',c4,c5,c6,c7⟩:=zba b6;have hnb:(z1K rec jc lr).state≠.busy:=by simp[z1K];cases lr <;> simp[z9s]
 have hpend:(z1K rec jc lr).pending=z9s jc lr:=rfl;refine⟨_,_,run_endLoop c2 hnb,?_⟩;rw[hpend];have hMl:M wA.heap.size:=en2.mine _ en2.below.size;have hMn:∀k,((wA.alloc (.loop rec)).heap.size<=k\/k∈wA.heap.size::live.flatMap Fp0)->M k:=by
  rintro k (hk|hk)
  ·exact hs1.mine k (pC hs1.below.size hk)
  rcases pm.1 hk with rfl|hk
  ·exact hMl
  have ⟨t,_,ht⟩:=mA.1 hk;exact en2.base t k ht
 have hout:∀t k,k∈Fp' t->((wA.alloc (.loop rec)).heap.size<=k\/k∈wA.heap.size::live.flatMap Fp0):=λt k hk=>b8 k (pg.2 (.inl ((c7 k).2 (.inr ⟨t,hk⟩))));have hpf:∀o,Sim ⟨n,df',w0,S0,M⟩ S' Fp' [] (z9N stF stD lr) { a with defers:=mk++a.defers } (w'.putObj wA.heap.size o):=by
  intro o;refine { size:=hs.size,pin:=hs.pin,defers:=en2.defers,below:=?_,mine:=hs.mine,still:=?_,sinc:=λb o v q=>b2 _ _ _ (en2.sinc _ _ _ q),sbase:=?_,ent:=?_,disj:=c5,base:=λt k hk=>hMn k (hout t k hk),xn:=by simp,xd:=by simp,xb:=by simp }
  ·exact(hs1.below.trans (b1.mono hMn)).trans ⟨rfl,rfl,rfl,pi _,by simp[World.putObj],λk hk=>World.putObj_heap_other (by rintro rfl;exact hk hMl)⟩
  ·refine⟨?_,b4.gok,b4.blk.of (λ_ _ _ q=>q) λg x e=>World.putObj_heap_other (by rintro rfl;exact b4.blk.ne (c3 0) x e)⟩;intro b i v q;have hne:b≠wA.heap.size:=by rintro rfl;rw[c3]at q;cases q
   have:=b4 b i v q;unfold y9 at this ⊢;rw[World.putObj_heap_other hne];exact this
  ·intro b i hb;rcases pF b (wA.alloc (.loop rec)).heap.size with hlt|hge
   ·rw[b3 b i hlt (λhF=>hb (hMn b (.inr hF)))];exact en2.sbase b i hb
   exact absurd (hMn b (.inl hge)) hb
  intro t;exact(c4 t).frame ((hcan lr).1 t) (λ_ _ _ q=>q) (λk hk=>⟨World.putObj_heap_other (by rintro rfl;exact c6 t hk),((c4 t).owns ((hcan lr).1 t) k hk).2⟩)
 have hdp:∀o,YT df M df' Fp' (w'.putObj wA.heap.size o):=by
  intro o;have hlt:∀D∈df',D<wA.heap.size:=λD hD=>(pG.1 (en3.ent D hD)).1;have hno:∀D∈df',¬((wA.alloc (.loop rec)).heap.size<=D\/D∈wA.heap.size::live.flatMap Fp0):=by
   rintro D hD (q|q)
   ·have:=hlt D hD;have h3:(wA.alloc (.loop rec)).heap.size=wA.heap.size+1:=by simp
    omega
   rcases pm.1 q with rfl|q
   ·have:=hlt _ hD;omega
   have ⟨t,_,ht⟩:=mA.1 q;exact en3.off D hD t ht
  refine⟨en3.nodup,λD hD=>?_,λD hD t ht=>hno D hD (hout t D ht),en3.old⟩;rw[World.putObj_heap_other (by have:=hlt D hD;omega),b1.block D (hno D hD),World.alloc_old _ (hlt D hD)];exact en3.ent D hD
 cases lr with
 | next s=>exact⟨df',stF s,S',Fp',hpf _,hdp _,hend⟩
 | done t=>exact AWP.go hend hc (hpf _) (hdp _)
end
def z1S (live:TC)(l:List (Nat×T)):Bool:=l.all λq=>live.contains q.1&&q.2.plain
def zaz:∀(l:List (Nat×T)) (t:Nat),ofL l t=⟨(ofL l t).t,0,0⟩
 | [],t=>rfl
 | p::l,t=>by
  simp[ofL];split
  ·rfl
  exact zaz l t
def z1R {live:TC}:∀{l:List (Nat×T)},z1S live l=true->(∀t,(ofL l t).t.plain=true)/\∀t,t∉live->(ofL l t).t=.gone
 | [],_=>⟨λ_=>rfl,λ_ _=>rfl⟩
 | p::l,h=>by
  simp only[z1S,List.all_cons,pE]at h;obtain⟨h1,h2⟩:=z1R (l:=l) (by simpa only[z1S] using h.2);constructor
  ·intro t;simp only[ofL];split
   ·exact h.1.2
   exact h1 t
  intro t ht;simp only[ofL];split
  ·rename_i e;subst e;exact absurd (rC.1 h.1.1) ht
  exact h2 t ht
variable {l:List (Nat×T)}
def z2r {live:TC}  (h:z1S live l=true):Own.canon live (ofL l)=ofL l:=by
 have ⟨h1,h2⟩:=z1R h;funext t;rw[Xe];by_cases ht:t∈live
 ·rw[if_pos ht];have h3:=h1 t;rw[zaz l t];unfold zcf;cases hx:(ofL l t).t with
  | als r p er ec=>rw[hx]at h3;cases h3
  | ptr r p er ec=>rw[hx]at h3;cases h3
  | _=>rfl
 rw[if_neg ht,zaz l t,h2 t ht];rfl
def AWP.weak {Q Q':Exit->St->Prop}(h:AWP P n c st Q')(hq:∀e st,Q' e st->∃live l m,Own.canon live st=ofL l/\LeL l m/\Q e (ofL m)):AWP P n c st Q:=by intro rd mm df w0 S0 M S Fp a w hc hs;refine wpIn_mono (h rd mm df w0 S0 M S Fp a w hc hs) ?_;rintro e a' w' ⟨df',st1,S1,Fp1,h1,h2,h3⟩;have ⟨live,l,m,e1,e2,e3⟩:=hq _ _ h3;have ⟨Fp2,g1,g2⟩:=Sim.canonD h1 h2 live;rw[e1]at g1;exact⟨df',ofL m,S1,Fp2,e2.or.elim (λe=>e ▸ g1) λh=>g1.le h.ent,g2,e3⟩
def zmb:List (Nat×T)->TC->List A->List (Nat×T)
 | l,p::ps,y::ys=>zmb ((p,.d y)::l) ps ys
 | l,_,_=>l
def z81:∀(ps:TC) (ys:List A) (l:List (Nat×T)),z5O (ofL l) ps ys=ofL (zmb l ps ys)
 | [],_,l=>by cases l <;> rfl
 | _::_,[],l=>by cases l <;> rfl
 | p::ps,y::ys,l=>z81 ps ys ((p,.d y)::l)
def zoZ (n:Fr)(ps live:TC):Bool:=ps.all λp=>decide (p<n.size)&&(!live.contains p && !pinned n.pin p)
section
variable {σ τ β:Type}
def zlh (stF:σ->List (Nat×T))(stD:τ->List (Nat×T)):LR σ τ->List (Nat×T)
 | .next s=>stF s
 | .done t=>stD t
def itQ (live:TC)(stF:σ->List (Nat×T))(stD:τ->List (Nat×T))(jc:τ->Code)(r:LR σ τ)(ex:Exit)(st:St):Prop :=
 zb5 ex=some (z9s jc r)/\∃l',Own.canon live st=ofL l'/\LeL l' (zlh stF stD r)
def JL {P:Program}{n:Fr}{Q:Exit->St->Prop}  {fs:List Fm}{st0:St}   {assign body:Code}{K:Nat}{caps:List A}(e:c=.rangeFunc g ps.toArray assign body)(live:TC)(stF:σ->List (Nat×T))(stD:τ->List (Nat×T))(jc:τ->Code)(enc:β->Bool->Value->List A){F:∀{σ:Type},(σ->β->Option (σ×Bool))->σ->Option σ}
  (step:σ->β->Option (LR σ τ)) (s0:σ) (lr:LR σ τ) (l0:List (Nat×T)) (hs:Own.canon live st0=ofL l0) (hl:LeL l0 (stF s0)) (hg:zmK (ofL (stF s0)) g=some (.fn K caps)) (hnd:live.Nodup) (hp:∀s,z1S live (stF s)=true) (hp2:∀t,z1S live (stD t)=true)
  (hps:zoZ n ps live=true) (hlen:∀x b v,ps.length=(enc x b v).length) (hit:z4W P (.fn K caps) enc F) (hF:F (yOf step) (.next s0)=some lr)
  (hround:∀(tv:Nat->Value) (s:σ) (x:β) (v:Value) (r:LR σ τ),step s x=some r->AWP P ⟨n.size,live.map (λt=>(t,tv t))++n.pin⟩ assign (ofL (zmb (stF s) ps (enc x (zkD r) v)))
   (Qf P ⟨n.size,live.map (λt=>(t,tv t))++n.pin⟩ [] (λe st1=>e=.normal/\AWP P ⟨n.size,live.map (λt=>(t,tv t))++n.pin⟩ body st1 (Qf P ⟨n.size,live.map (λt=>(t,tv t))++n.pin⟩ [] (itQ live stF stD jc r)))))
  (hend:zo2 P n (ofL (zlh stF stD lr)) (Qf P n fs Q) (z9s jc lr)):AWP P n c st0 (Qf P n fs Q):=by
 subst e;refine AWP.canon live ?_;rw[hs];refine zeX hl ?_;have hst:∀l:LR σ τ,z9N (λs=>ofL (stF s)) (λt=>ofL (stD t)) l=ofL (zlh stF stD l):=by intro l;cases l <;> rfl
 have hpl:∀l:LR σ τ,z1S live (zlh stF stD l)=true:=by
  intro l;cases l with
  | next s=>exact hp s
  | done t=>exact hp2 t
 refine AWP.iterF live (λs=>ofL (stF s)) (λt=>ofL (stD t)) jc enc step s0 lr hg hnd (z2r (hp s0)) (λl=>by rw[hst];exact z1R (hpl l)) ?_ hlen hit hF ?_ (by rw[hst];exact hend)
 ·intro p hp;have:=gD.1 hps p hp;simp only[pE,decide_eq_true_eq,nE]at this;exact⟨this.1,λh=>by rw[rC.2 h]at this;simp at this,this.2.2⟩
 intro tv s x v r hr;rw[z81];refine AWP.mono (hround tv s x v r hr) ?_;rintro e st1 ⟨h1,h2⟩;refine⟨h1,AWP.weak h2 ?_⟩;rintro ex st2 ⟨hj,l',q1,q2⟩;refine⟨live,l',_,q1,q2,hj,?_⟩;rw[z2r (hpl r),hst]
end
section
variable {P:Program}{tt:TT}{ctr:Ctr}{n:Fr}{Q:Exit->St->Prop}
theorem Yw {J:St->Prop}:∀{fs:List Fm} {st:St},unw fs=.stop (.back J)->J st->Qf P n fs Q .normal st
 | [],_,e,_=>by cases e
 | .seq z::fs,_,e,h=>by cases e
 | .blk id::fs,_,e,h=>Yw (fs:=fs) (by simpa only[unw] using e) h
 | .pre J::fs,_,e,h=>by simp[unw,Nxt.stop.injEq,z8J.back.injEq]at e;subst e;exact h
 | .rnd (m+1) c::fs,_,e,h=>by cases e
 | .rnd 0 _::_,_,e,_=>by cases e
def z35 {live:TC}   (h0:canon live st0=ofL l)(h:AWP P n c (ofL l) Q):AWP P n c st0 Q:=by refine AWP.canon live ?_;rw[h0];exact h
end
def YOk (P:Program)(yv:Value){σ β:Type}(Y:σ->JP)(enc:β->Bool->Value->List A)(y:σ->β->Option (σ×Bool)):Prop :=
 ∀s x s' b,y s x=some (s',b)->∀v,uC P (.atom yv) (enc x b v) [(yv,.opq (Y s).q)] (.atom (.bool b)) [.opq (Y s').q]
def z05 {tt:TT}    {nt:Nat}{caps:List A}  {enc:β->Bool->Value->List A}{F:∀{σ:Type},(σ->β->Option (σ×Bool))->σ->Option σ}(hT:xW P tt)(hf:P.funcs[k]?=some fn)(hnm:(fn.name == "runtime.NumGoroutine")=false)(hb:fn.body=some body)
  (hn:nt=fn.ntmps) (hr:fn.results=#[]) (ha:caps.length+1<=fn.ntmps)
  (h:∀(σ:Type) (yv:Value) (Y:σ->JP) (y:σ->β->Option (σ×Bool)),YOk P yv Y enc y->∀s s',F y s=some s'->∀E:Exit->St->Prop,(∀ex st,(ex=.normal\/ex=.ret)->canon [0] st=ofL [(0,.own (.opq (Y s').q))]->E ex st) ->
   AWP P ⟨nt,[(0,yv)]⟩ body (ofL (z9f 0 (.opq (Y s).q::caps))) (Qf P ⟨nt,[(0,yv)]⟩ [] E)):z4W P (.fn k caps) enc F:=by
 subst hn;intro σ yv Y y hy s s' hs;refine z28 (tt:=tt) (rs:=[]) [0] (args:=[.atom yv]) (caps:=caps) (xs:=[.opq (Y s).q]) (vals:=[yv]) hT hf hnm hb hr (by simpa using ha) (by simp) (by simp) rfl ?_;rw[z3v];refine h σ yv Y y hy s s' hs _ ?_;intro ex st hx hc;refine⟨hx,?_⟩;have h0:=congrFun hc 0;rw[Xe]at h0;simp only[pH,if_true,ofL,Ent.mk.injEq,and_true]at h0;have h1:(st 0).t=.own (.opq (Y s').q):=by
  unfold zcf at h0;cases hx:(st 0).t with
  | own a=>simpa only[hx] using h0
  | d a=>simp only[hx]at h0;cases h0
  | gone=>simp only[hx]at h0;cases h0
  | _=>simp only[hx]at h0;split at h0 <;> cases h0
 have h2:z0p [0] st=some ([.opq (Y s').q],[0],[]):=by simp only[z0p];show SM.bind (rdE 0) _ st=_;unfold SM.bind;simp only[rdE,zi,h1];rfl
 refine⟨[0],[],?_⟩;simp only[zkT,nG];show SM.bind (shutArgs tt []) _ st=_;unfold SM.bind;simp only[shutArgs];simp only[pure,SM.pure,bind,SM.bind,zi,h2];rfl
def zdL (tt:TT)(n:Fr)(ty:Nat)(x:T):HM A :=
 match x with
 | .als r p er ec=>
  match JB n.pin r with
  | some _=>y7 (refT tt n ty (.als r p er ec))
  | none=>z3b tt ty (.als r p er ec)
 | x=>z3b tt ty x
def zjO (tt:TT)(n:Fr)(ty:Nat)(x:T):Snd (refT tt n ty x) (zdL tt n ty x):=by
 cases x with
 | als r p er ec=>
  cases hp:JB n.pin r with
  | some v=>simp[zdL,hp];exact zk _
  | none=>simp[zdL,refT,hp];exact UV tt ty (.als r p er ec)
 | d a=>exact UV tt ty (.d a)
 | own a=>exact UV tt ty (.own a)
 | ptr r p er ec=>exact UV tt ty (.ptr r p er ec)
 | gone=>exact UV tt ty .gone
def Y5 (tt:TT)(n:Fr):List (Operand×Nat)->HM (List A)
 | []=>pure []
 |(x,t)::as_=>y7 (opnd x) >>= λy=>zdL tt n t y >>= λa=>Y5 tt n as_ >>= λbs=>pure (a::bs)
def kV (tt:TT)(n:Fr):∀as_,Snd (refArgs tt n as_) (Y5 tt n as_)
 | []=>w8 _
 |(x,t)::as_=>zh (zk _) λy=>zh (zjO _ _ _ _) λa=>zh (kV tt n as_) λbs=>w8 _
open Classical in
def zgx (yv:Value){σ β:Type}(Y:σ->JP)(enc:β->Bool->Value->List A)(s:σ)(x:β)(s':σ)(b:Bool)(v:Value)(f:A)(xs:List A)(ls:List (Value×A)):Option (A×List A) :=
 if f=.atom yv/\ls=[(yv,.opq (Y s).q)]/\(∀S vs,YO (wW S) xs vs->YO (wW S) (enc x b v) vs) then some (.atom (.bool b),[.opq (Y s').q]) else none
variable {yv:Value}
def zgw {σ β:Type}{Y:σ->JP}{enc:β->Bool->Value->List A}{y:σ->β->Option (σ×Bool)}(hy:YOk P yv Y enc y){s:σ}{x:β}{s':σ}  (v:Value)(h:y s x=some (s',b)) :
  ∀f xs ls r ys,zgx yv Y enc s x s' b v f xs ls=some (r,ys)->uC P f xs ls r ys:=by
 intro f xs ls r ys e;unfold zgx at e;split at e
 ·rename_i hc;obtain⟨rfl,rfl,h3⟩:=hc;cases e;intro S w fv vs F hS hfv hvs;exact hy s x s' b h v S w fv vs F hS hfv (h3 S vs hvs)
 cases e
def KU {σ β:Type}{Y:σ->JP}{enc:β->Bool->Value->List A}{s:σ}{x:β}{s':σ}   (xs:List A)(h:Qm xs (enc x b v)):zgx yv Y enc s x s' b v (.atom yv) xs [(yv,.opq (Y s).q)]=some (.atom (.bool b),[.opq (Y s').q]):=by unfold zgx;rw[if_pos ⟨rfl,rfl,h.all⟩]
def z8c (tt:TT)(tab:A->List A->List (Value×A)->Option (A×List A))(r:A)(ys:List A)(n:Fr)(dst:TD)(f:Operand)(as_:List (Operand×Nat))(L:TC):HM Unit :=
 Y5 tt n [(f,0)] >>= λfs=>Y5 tt n as_ >>= λxs=>y7 (lentsA n L) >>= λls=>
  match fs with
  | [fa]=>zhc (tab fa xs ls=some (r,ys)) >>= λ_=>y7 (backsA L ys >>= λ_=>wrT n dst (mkT r))
  | _=>zL
def za0 (tt:TT)(tab:A->List A->List (Value×A)->Option (A×List A))(r:A)(ys:List A)(n:Fr)(dst:TD)(f:Operand)(as_:List (Operand×Nat))(L:TC):Snd (lentQ tt tab n dst f as_ L) (z8c tt tab r ys n dst f as_ L):=by
 unfold lentQ z8c;refine zh (kV _ _ _) λfs=>zh (kV _ _ _) λxs=>zh (zk _) λls=>?_;rcases fs with _|⟨fa,_|⟨z,l⟩⟩
 ·exact zr _
 ·refine KX λh=>?_;simp[h];exact zk _
 exact zr _
def WI (tt:TT)  {σ β:Type}{Y:σ->JP}{enc:β->Bool->Value->List A}{y:σ->β->Option (σ×Bool)}(hy:YOk P yv Y enc y)(d:Nat){s:σ}{x:β}{s':σ}  (v:Value)(h:y s x=some (s',b)):XH P:={
 e:=VQ tt (zgx yv Y enc s x s' b v) d [0]
 h:=λn o=>match o.op with
  | .call ⟨.value f,args,tys⟩=>if o.dst=some d/\args.size=tys.size then some (z8c tt (zgx yv Y enc s x s' b v) (.atom (.bool b)) [.opq (Y s').q] n o.dst f (args.toList.zip tys.toList) [0]) else none
  | _=>none
 ok:=z3z (zgw hy v h) d [0]
 none:=by
  intro n o e;unfold VQ at e;split at e
  ·rename_i ho;split at e
   ·cases e
   rename_i hd;simp[ho,if_neg hd]
  rename_i hne;split
  ·rename_i ho2;exact absurd ho2 (by intro h;exact hne _ _ _ h)
  rfl
 some:=by
  intro n o m e;unfold VQ at e;split at e
  ·rename_i ho;split at e
   ·rename_i hd;cases e;refine⟨_,?_,za0 tt (zgx yv Y enc s x s' b v) (.atom (.bool b)) [.opq (Y s').q] n o.dst _ _ [0]⟩;rw[ho];exact if_pos hd
   cases e
  cases e }
variable {M:Nat->Prop}{df:TC}{w0:World}
def Sim.pinned {S0:zm}        (h:Sim ⟨n,df,w0,S0,M⟩ S Fp X st a w)(k:Nat):Sim ⟨⟨n.size,(k,Act.tv a k)::n.pin⟩,df,w0,S0,M⟩ S Fp X st a w:={
 size:=h.size
 pin:=λj u hj=>by
  rcases pm.1 hj with e|hj
  ·cases e;rfl
  exact h.pin j u hj
 defers:=h.defers
 below:=h.below
 mine:=h.mine
 still:=h.still
 sinc:=h.sinc
 sbase:=h.sbase
 ent:=h.ent
 disj:=h.disj
 base:=h.base
 xn:=h.xn
 xd:=h.xd
 xb:=h.xb }
def Sim.unpinned {S0:zm}        (h:Sim ⟨⟨n.size,(k,v)::n.pin⟩,df,w0,S0,M⟩ S Fp X st a w):Sim ⟨n,df,w0,S0,M⟩ S Fp X st a w:={
 size:=h.size
 pin:=λj u hj=>h.pin j u (mX _ hj)
 defers:=h.defers
 below:=h.below
 mine:=h.mine
 still:=h.still
 sinc:=h.sinc
 sbase:=h.sbase
 ent:=h.ent
 disj:=h.disj
 base:=h.base
 xn:=h.xn
 xd:=h.xd
 xb:=h.xb }
def AWP.pin (k:Nat)(h:∀v,AWP P ⟨n.size,(k,v)::n.pin⟩ c st Q):AWP P n c st Q:=by intro rd m df w0 S0 M S Fp a w hc hs;refine wpIn_mono (h (Act.tv a k) rd m df w0 S0 M S Fp a w ⟨hc.nodup,hc.df,hc.rd⟩ (hs.pinned k)) ?_;rintro e a' w' ⟨df',st1,S1,Fp1,h1,h2,h3⟩;exact⟨df',st1,S1,Fp1,h1.unpinned,h2,h3⟩
def z8G (e:fs=[])(k:Nat)(h:∀v,AWP P ⟨n.size,(k,v)::n.pin⟩ c st (Qf P ⟨n.size,(k,v)::n.pin⟩ [] Q)):AWP P n c st (Qf P n fs Q):=by subst e;exact AWP.pin k h
def znN (tt:TT)(n:Fr)(dst:TD)(f:Nat)(caps:List Operand):HM Unit :=
 Y5 tt n (caps.map λx=>(x,0)) >>= λxs=>if xs.all z00=true then y7 (wrT n dst (.d (.fn f xs))) else zL
def zm0 (tt:TT)(n:Fr)(dst:TD)(f:Nat)(caps:List Operand):Snd (mkQ tt n dst f caps) (znN tt n dst f caps) :=
 zh (kV _ _ _) λxs=>vO (zk _) (zr _)
def xMk (P:Program)(tt:TT):XH P:={
 e:=z9i tt
 h:=λn o=>match o.op with
  | .makeFunc (.func f) ⟨[]⟩ caps=>some (znN tt n o.dst f caps.toList)
  | _=>none
 ok:=zeD P tt
 none:=by
  intro n o e;unfold z9i at e;split at e
  ·cases e
  rename_i hne;split
  ·rename_i ho2;exact absurd ho2 (by intro h;exact hne _ _ h)
  rfl
 some:=by
  intro n o m e;unfold z9i at e;split at e
  ·rename_i ho;cases e;refine⟨_,?_,zm0 tt n o.dst _ _⟩;rw[ho]
  cases e }
open Classical in
def zgz (f:A)(xs:List A)(ls:List (Value×A))(r:A)(ys:List A)(f':A)(xs':List A)(ls':List (Value×A)):Option (A×List A) :=
 if f'=f/\ls'=ls/\(∀S vs,YO (wW S) xs' vs->YO (wW S) xs vs) then some (r,ys) else none
variable {ls:List (Value×A)}{ys:List A}{f:A}
def zgy (h:uC P f xs ls r ys):∀f' xs' ls' r' ys',zgz f xs ls r ys f' xs' ls'=some (r',ys')->uC P f' xs' ls' r' ys':=by
 intro f' xs' ls' r' ys' e;unfold zgz at e;split at e
 ·rename_i hc;obtain⟨rfl,rfl,h3⟩:=hc;cases e;intro S w fv vs F hS hfv hvs;exact h S w fv vs F hS hfv (h3 S vs hvs)
 cases e
def ZH (xs':List A)(h:Qm xs' xs):zgz f xs ls r ys f xs' ls=some (r,ys):=by unfold zgz;rw[if_pos ⟨rfl,rfl,h.all⟩]
def jV (tt:TT)(L:TC)      (h:uC P f xs ls r ys)(dd:Nat):XH P:={
 e:=VQ tt (zgz f xs ls r ys) dd L
 h:=λn o=>match o.op with
  | .call ⟨.value g,args,tys⟩=>if o.dst=some dd/\args.size=tys.size then some (z8c tt (zgz f xs ls r ys) r ys n o.dst g (args.toList.zip tys.toList) L) else none
  | _=>none
 ok:=z3z (zgy h) dd L
 none:=by
  intro n o e;unfold VQ at e;split at e
  ·rename_i ho;split at e
   ·cases e
   rename_i hd;simp[ho,if_neg hd]
  rename_i hne;split
  ·rename_i ho2;exact absurd ho2 (by intro h;exact hne _ _ _ h)
  rfl
 some:=by
  intro n o m e;unfold VQ at e;split at e
  ·rename_i ho;split at e
   ·rename_i hd;cases e;refine⟨_,?_,za0 tt (zgz f xs ls r ys) r ys n o.dst _ _ L⟩;rw[ho];exact if_pos hd
   cases e
  cases e }
def z1W {st:St}:∀{is:TC} {ys:List A},is.length=ys.length->(∀p∈is.zip ys,(st p.1).t=.own p.2)->z0p is st=some (ys,is,[])
 | [],[],_,_=>rfl
 | i::is,y::ys,hl,h=>by have h1:(st i).t=.own y:=h (i,y) (by simp);have h2:=z1W (st:=st) (is:=is) (ys:=ys) (by simpa using hl) (λp hp=>h p (by simp[hp]));simp only[z0p];show SM.bind (rdE i) _ st=_;unfold SM.bind;simp only[rdE,zi,h1,bind,SM.bind,h2,pure,SM.pure];simp
 | [],_::_,hl,_=>by simp at hl
 | _::_,[],hl,_=>by simp at hl
def zeO {live:TC}    (h:zcf live st k=.own y):(st k).t=.own y:=by
 unfold zcf at h;cases hx:(st k).t with
 | own a=>simpa only[hx] using h
 | d a=>simp only[hx]at h;cases h
 | gone=>simp only[hx]at h;cases h
 | _=>simp only[hx]at h;split at h <;> cases h
def z0Z {tt:TT}    {nt:Nat}(is:TC){args caps xs:List A}{vals:TE}{ys:List A}(hT:xW P tt)(hf:P.funcs[k]?=some fn)(hnm:(fn.name == "runtime.NumGoroutine")=false)(hb:fn.body=some body)
  (hn:nt=fn.ntmps) (hr:fn.results=#[]) (ha:(args++caps).length<=fn.ntmps) (hnd:is.Nodup) (hbase:is.map (λi=>(args++caps)[i]?)=vals.map (λv=>some (.atom v))) (hl:xs.length=vals.length)
  (h:∀E:Exit->St->Prop,(∀ex st,(ex=.normal\/ex=.ret)->(∀p∈is.zip ys,(st p.1).t=.own p.2)->E ex st) ->
   AWP P ⟨nt,is.zip vals⟩ body (ofL (z9f 0 (Ub (args++caps) is xs))) (Qf P ⟨nt,is.zip vals⟩ [] E)) (hy:is.length=ys.length):uC P (.fn k caps) args (vals.zip xs) (.tup []) ys:=by
 subst hn;refine z28 (tt:=tt) (rs:=[]) is hT hf hnm hb hr ha hnd hbase hl ?_;rw[z3v];refine h _ ?_;intro ex st hx hc;refine⟨hx,is,[],?_⟩;have h2:=z1W hy hc;simp[zkT,nG];show SM.bind (shutArgs tt []) _ st=_;unfold SM.bind;simp[shutArgs];simp[pure,SM.pure,bind,SM.bind,zi,h2];show(match (match (SM.pure (A.tup [],ys):SM (A×List A)) st with|none=>none|some (b,R',U')=>some (b,is++R',[]++U')) with|none=>none|some (b,R',U')=>some (b,[]++R',[]++U'))=_;simp[SM.pure]
def zkd {live:TC}   (hc:canon live st=ofL l)   (hk:live.contains k=true)(hy:(ofL l k).t=.own y):(st k).t=.own y:=by have:=congrFun hc k;rw[Xe,if_pos (rC.1 hk)]at this;rw[<-this]at hy;exact zeO hy
def zfW (live:TC)(l:List (Nat×T)):TC->List A->Prop
 | i::is,y::ys=>(live.contains i=true/\(ofL l i).t=.own y)/\zfW live l is ys
 | _,_=>True
def ZS {live:TC}   (hc:canon live st=ofL l):∀{is:TC} {ys:List A},zfW live l is ys->∀p∈is.zip ys,(st p.1).t=.own p.2
 | [],_,_,p,hp=>by simp at hp
 | _::_,[],_,p,hp=>by simp at hp
 | i::is,y::ys,h,p,hp=>by
  rcases pm.1 hp with rfl|hp
  ·exact zkd hc h.1.1 h.1.2
  exact ZS hc h.2 p hp
def zhV {c x y:Code}    (e:c=.seq x y)(E:St->Prop)(h:AWP P n x st (Qf P n [] (λe st1=>e=.normal/\E st1)))(h2:∀st1,E st1->AWP P n y st1 (Qf P n fs Q)):AWP P n c st (Qf P n fs Q):=by subst e;refine AWP.seq (AWP.mono h ?_);rintro e st1 ⟨rfl,q⟩;exact h2 st1 q
def z6p {c x y:Code}    (e:c=.seq x y)(k:Nat)(E:St->Prop)(h:∀v,AWP P ⟨n.size,(k,v)::n.pin⟩ x st (Qf P ⟨n.size,(k,v)::n.pin⟩ [] (λe st1=>e=.normal/\E st1)))(h2:∀st1,E st1->AWP P n y st1 (Qf P n fs Q)):AWP P n c st (Qf P n fs Q) :=
 zhV e E (AWP.pin k λv=>h v) h2
variable {s:Nat}
section
variable {C:Ctx}{S:zm}{Fp:Nat->TC}{st:St}{a:Act}{w:World}
open Classical in
def mvQ (n:Fr)(dst:TD)(s:Nat)(v:Value):SM Unit:=if JB n.pin s=some v then wrT n dst (.d (.atom v)) else zt
open Classical in
def Loc.mvQ (n:Fr)(dst:TD)(s:Nat)(v:Value):Loc (mvQ n dst s v):=by unfold Go.Own.mvQ;exact Loc.ite (Loc.wrT _ _ _) Loc.fail
def znM (n:Fr)(dst:TD)(s:Nat)(v:Value):HM Unit:=kG (JB n.pin s=some v) (y7 (wrT n dst (.d (.atom v))))
open Classical in
def zoI (n:Fr)(dst:TD)(s:Nat)(v:Value):Snd (mvQ n dst s v) (znM n dst s v):=we (zk _)
def zkl (h:Sim C S Fp [] st a w)   {v:Value}(hv:v.oneCell'=true)(ho:o.op=.move (.tmp s))    (e:mvQ C.n o.dst s v st=some (u,R,U)):vB P C o a w (zi U st):=by
 unfold mvQ at e;split at e
 ·rename_i hp;have hs:=h.pin s v (uh hp);have ⟨Fp',hs'⟩:=xM h e (x:=.d (.atom v)) (v:=v) (zu.2 ⟨rfl,hv⟩);refine zo ?_ hs';have ev:a.eval (.tmp s)=v:=hs;simp[execOp,ho,ev]
 cases e
def xMv (P:Program)(d s:Nat)(v:Value)(hv:v.oneCell'=true):XH P:={
 e:=λn o=>match o.op with|.move (.tmp t)=>if o.dst=some d/\t=s then some (mvQ n o.dst s v) else none|_=>none
 h:=λn o=>match o.op with|.move (.tmp t)=>if o.dst=some d/\t=s then some (znM n o.dst s v) else none|_=>none
 ok:=by
  refine⟨?_,?_⟩
  ·intro C S Fp st a w o m u R U e h h2;dsimp only at e;split at e
   ·rename_i t ho;split at e
    ·rename_i hd;obtain⟨_,rfl⟩:=hd;cases e;exact zkl h hv ho h2
    cases e
   cases e
  intro n o m e;dsimp only at e;split at e
  ·split at e
   ·cases e;exact λst st' a R U=>Loc.mvQ _ _ _ _ st st' a R U
   cases e
  cases e
 none:=by
  intro n o e
  skip
  split at e
  ·split at e
   ·cases e
   rename_i hd;rw[if_neg hd]
  rfl
 some:=by
  intro n o m e
  skip
  split at e
  ·split at e
   ·rename_i hd;cases e;exact⟨_,by rw[if_pos hd],zoI _ _ _ _⟩
   cases e
  cases e }
end
def z4M (e:fs=[])(k:Nat)  (hk:(st k).t=.own y)(ho:z4Y y=true)(h:∀v,v.oneCell'=true->AWP P ⟨n.size,(k,v)::n.pin⟩ c st (Qf P ⟨n.size,(k,v)::n.pin⟩ [] Q)):AWP P n c st (Qf P n fs Q):=by
 subst e;intro rd m df w0 S0 M S Fp a w hc hs;have hone:(Act.tv a k).oneCell'=true:=by have q:=hs.ent k;unfold xm at q;simp[hk]at q;have ⟨cs,c1,_,hv⟩:=q;have hcs:=QB ho c1;rw[hv];exact c1.one1 (WZ ho) _ (by have q:=nM (zU y cs);rwa[<-hcs]at q)
 refine wpIn_mono (h (Act.tv a k) hone rd m df w0 S0 M S Fp a w ⟨hc.nodup,hc.df,hc.rd⟩ (hs.pinned k)) ?_;rintro e a' w' ⟨df',st1,S1,Fp1,h1,h2,h3⟩;exact⟨df',st1,S1,Fp1,h1.unpinned,h2,h3⟩
def z8N (P:Program)(t i e off:Nat):Prop:=∃(fs:Array Field) (f:Field),P.underlying t=some (.struct fs)/\fs[i]?=some f/\f.type=e/\f.offset=off
def zbn {t i e off:Nat}{fs:Array Field}(h:P.underlying t=some (.struct fs))(f:Field)(h1:fs[i]?=some f)(h2:f.type=e)(h3:f.offset=off):z8N P t i e off:=⟨fs,f,h,h1,h2,h3⟩
def fldO (tt:TT)(n:Fr)(dst:TD)(i e off:Nat)(x:Operand):SM Unit:=do
 let tx <-opnd x;let vx <-val tx;match vx with
 | .agg fs=>match fs[i]? with
  | some y=>if qX tt e y=true/\y.isD=true/\A.sizes (fs.take i)=off then wrT n dst (.d y) else zt
  | none=>zt
 | _=>zt
def zo1 (tt:TT)(n:Fr)(dst:TD)(i e off:Nat)(x:Operand):HM Unit:=y7 (opnd x) >>= λtx=>Jv tx >>= λvx=>
 y7 (match vx with
 | .agg fs=>match fs[i]? with
  | some y=>if qX tt e y=true/\y.isD=true/\A.sizes (fs.take i)=off then wrT n dst (.d y) else zt
  | none=>zt
 | _=>zt)
def zm2 (tt:TT)(n:Fr)(dst:TD)(i e off:Nat)(x:Operand):Snd (fldO tt n dst i e off x) (zo1 tt n dst i e off x) :=
 zh (zk _) λ_=>zh (kH _) λ_=>zk _
def Loc.fldO (tt:TT)(n:Fr)(dst:TD)(i e off:Nat)(x:Operand):Loc (fldO tt n dst i e off x):=by
 unfold Go.Own.fldO;refine Loc.bind (Loc.opnd _) λ_=>Loc.bind (Loc.val _) λ_=>?_;split
 ·split
  ·exact Loc.ite (Loc.wrT _ _ _) Loc.fail
  exact Loc.fail
 exact Loc.fail
def shrO (n:Fr)(dst:TD)(x y:Operand):SM Unit:=do
 let tx <-opnd x;let vx <-val tx;let ty <-opnd y;let vy <-val ty;match vx,vy with
 | .atom (.int k p),.atom (.int _ q)=>if 0<=q then wrT n dst (.d (.atom (.int k (p.fdiv (2 ^ (min q.toNat k.bits)))))) else zt
 | _,_=>zt
def znB (n:Fr)(dst:TD)(x y:Operand):HM Unit:=y7 (opnd x) >>= λtx=>Jv tx >>= λvx=>y7 (opnd y) >>= λty=>Jv ty >>= λvy=>
 y7 (match vx,vy with
 | .atom (.int k p),.atom (.int _ q)=>if 0<=q then wrT n dst (.d (.atom (.int k (p.fdiv (2 ^ (min q.toNat k.bits)))))) else zt
 | _,_=>zt)
def zlR (n:Fr)(dst:TD)(x y:Operand):Snd (shrO n dst x y) (znB n dst x y) :=
 zh (zk _) λ_=>zh (kH _) λ_=>zh (zk _) λ_=>zh (kH _) λ_=>zk _
def Loc.shrO (n:Fr)(dst:TD)(x y:Operand):Loc (shrO n dst x y):=by
 unfold Go.Own.shrO;refine Loc.bind (Loc.opnd _) λ_=>Loc.bind (Loc.val _) λ_=>Loc.bind (Loc.opnd _) λ_=>Loc.bind (Loc.val _) λ_=>?_;split
 ·exact Loc.ite (Loc.wrT _ _ _) Loc.fail
 exact Loc.fail
section
variable {C:Ctx}{S:zm}{Fp:Nat->TC}{st:St}{a:Act}{w:World}
def zkN {P:Program}  (hT:xW P tt){t i e off:Nat}(hf:z8N P t i e off)(h:Sim C S Fp [] st a w)  {x:Operand}(ho:o.op=.field t x i)    (e0:fldO tt C.n o.dst i e off x st=some (u,R,U)):vB P C o a w (zi U st):=by
 unfold fldO at e0;have ⟨tx,_,hx,e1⟩:=bR (zF h) e0;have ⟨vx,_,qx,e2⟩:=bR (vA h hx) e1;split at e2
 ·rename_i fs;cases hy:fs[i]? with
  | none=>simp only[hy]at e2;cases e2
  | some y=>
   simp only[hy]at e2;split at e2
   ·rename_i hc;have ⟨c1,c2,c3⟩:=hc;have ⟨fds,f,f1,f2,f3,f4⟩:=hf;have ⟨cs,r1,r2⟩:=(qx:wW S (.agg fs) (a.eval x));simp only[Rep]at r1;obtain⟨d1,ci,d2,rfl,hl,hr⟩:=Vr r1 hy;have ⟨Fp',hs⟩:=xM h e2 (x:=.d y) (wW.repV ⟨ci,hr,rfl⟩);refine zo ?_ hs;have hp:=z7N (P:=P) hT c1 (w:=w) (c1:=d1) (c2:=d2) hr.len;rw[hl,c3]at hp;have ex:a.eval x=.agg (d1++ci++d2).toArray:=r2;simp only[execOp,ho,Instr.field,ex,asAgg,Sem.run_bind,Sem.run_pure,Result.andThen_ok,run_underlying f1,f2,f3,f4,hp]
   cases e2
 cases e2
def zjK (h:Sim C S Fp [] st a w)  {xt yt:Nat}{x y:Operand}(ho:o.op=.binOp .shr xt x y yt)    (e0:shrO C.n o.dst x y st=some (u,R,U)):vB P C o a w (zi U st):=by
 unfold shrO at e0;have ⟨tx,_,hx,e1⟩:=bR (zF h) e0;have ⟨vx,_,qx,e2⟩:=bR (vA h hx) e1;have ⟨ty,_,hy,e3⟩:=bR (zF h) e2;have ⟨vy,_,qy,e4⟩:=bR (vA h hy) e3;split at e4
 ·rename_i k p k' q;split at e4
  ·rename_i hq;have ⟨ex,_⟩:=zu.1 qx;have ⟨ey,_⟩:=zu.1 qy;have ⟨Fp',hs⟩:=xM h e4 (x:=.d _) (zu.2 ⟨rfl,rfl⟩);refine zo ?_ hs;have hn:¬q<0:=by omega
   simp[execOp,ho,ex,ey,eqGuard,Go.binOp,Op.shift,hn]
  cases e4
 cases e4
end
def zot (hT:xW P tt){t i e off:Nat}(hf:z8N P t i e off):XH P:={
 e:=λn o=>match o.op with|.field t' x i'=>if t'=t/\i'=i then some (fldO tt n o.dst i e off x) else none|_=>none
 h:=λn o=>match o.op with|.field t' x i'=>if t'=t/\i'=i then some (zo1 tt n o.dst i e off x) else none|_=>none
 ok:=by
  refine⟨?_,?_⟩
  ·intro C S Fp st a w o m u R U e0 h h2;dsimp only at e0;split at e0
   ·rename_i t' x i' ho;split at e0
    ·rename_i hd;obtain⟨rfl,rfl⟩:=hd;cases e0;exact zkN hT hf h ho h2
    cases e0
   cases e0
  intro n o m e0;dsimp only at e0;split at e0
  ·split at e0
   ·cases e0;exact λst st' a R U=>Loc.fldO _ _ _ _ _ _ _ st st' a R U
   cases e0
  cases e0
 none:=by
  intro n o e0
  skip
  split at e0
  ·split at e0
   ·cases e0
   rename_i hd;rw[if_neg hd]
  rfl
 some:=by
  intro n o m e0
  skip
  split at e0
  ·split at e0
   ·rename_i hd;cases e0;exact⟨_,by rw[if_pos hd],zm2 _ _ _ _ _ _ _⟩
   cases e0
  cases e0 }
def zn7 (P:Program):XH P:={
 e:=λn o=>match o.op with|.binOp .shr _ x y _=>some (shrO n o.dst x y)|_=>none
 h:=λn o=>match o.op with|.binOp .shr _ x y _=>some (znB n o.dst x y)|_=>none
 ok:=by
  refine⟨?_,?_⟩
  ·intro C S Fp st a w o m u R U e0 h h2;dsimp only at e0;split at e0
   ·rename_i ho;cases e0;exact zjK h ho h2
   cases e0
  intro n o m e0;dsimp only at e0;split at e0
  ·cases e0;exact λst st' a R U=>Loc.shrO _ _ _ _ st st' a R U
  cases e0
 none:=by
  intro n o e0
  skip
  split at e0
  ·cases e0
  rfl
 some:=by
  intro n o m e0
  skip
  split at e0
  ·cases e0;exact⟨_,rfl,zlR _ _ _ _⟩
  cases e0 }
def z9P {α ρ:Type}{enc:α->List A}{encR:ρ->A}{F:α->Option ρ}  {inj:∀x y,enc x=enc y->x=y}(h:(spF k enc encR F gives inj).Ok P){x:α}{r:ρ}(hr:F x=some r):uR P k (enc x) (encR r):=by have:=h x ⟨r,hr⟩;simpa only[spF,hr] using this
instance LeA.oslT (sz:Nat)(xs ys:List A)[h:z52 xs ys]:LeA (.osl sz true xs) (.osl sz true ys):={
 rep:=λS cs q=>by simp only[Rep]at q
 conc:=λS hp cs F q=>by
  simp only[zK]at q ⊢;have ⟨p,c,e,h1,h2,h3,h4,h5⟩:=q;refine⟨p,c,by rw[<-h.len];exact e,λ_=>by rw[<-h.len];exact h1 trivial,by rw[<-h.len];exact h2,h3,h.size _ h4,?_⟩;rcases h5 with⟨q1,q2,q3,q4⟩|⟨b,arr,ty,l,F',e1,e2,e3,e4,e5,e6,e7⟩
  ·exact .inl ⟨Qt (S:=S) h.len q1,q2,q3,q4⟩
  exact .inr ⟨b,arr,ty,l,F',e1,e2,e3,by rw[<-h.len];exact e4,h.conc _ _ _ _ e5,e6,e7⟩
 val:=λ_=>rfl
 tup:=λ_ e=>by cases e }
instance {α:Type}(sz:Nat)(f g:α->A)[h:∀x,LeA (f x) (g x)][z:∀x,SzA (f x) (g x)](l:List α):LeA (eOs sz true f l) (eOs sz true g l):=LeA.oslT sz (l.map f) (l.map g)
open Classical
def WG (S:zm)(h:Array Obj):List (Option A)->TE->TC->Prop
 | [],[],F=>F=[]
 | none::ys,_::vs,F=>WG S h ys vs F
 | some y::ys,v::vs,F=>∃F1 F2,F=F2++F1/\Has S h y v F1/\WG S h ys vs F2
 | _,_,_=>False
def WG.frame {S S':zm}{h h':Array Obj}(hS:∀b o u,S b o=some u->S' b o=some u):∀{ys:List (Option A)} {vs:TE} {F:TC},WG S h ys vs F->(∀k∈F,h'[k]?=h[k]?/\∀o,S' k o=none)->WG S' h' ys vs F
 | [],[],_,q,_=>q
 | none::ys,_::vs,F,q,hF=>WG.frame (ys:=ys) (vs:=vs) (F:=F) hS q hF
 | some _::_,_::_,_,⟨F1,F2,e,q1,q2⟩,hF=>⟨F1,F2,e,q1.frame hS (λk hk=>hF k (by rw[e];simp[hk])),WG.frame hS q2 (λk hk=>hF k (by rw[e];simp[hk]))⟩
 | [],_::_,_,q,_=>q.elim
 | none::_,[],_,q,_=>q.elim
 | some _::_,[],_,q,_=>q.elim
def WG.own:∀{ys:List (Option A)} {vs:TE} {F:TC},WG S h ys vs F->∀k∈F,k<h.size/\∀o,S k o=none
 | [],[],F,q,k,hk=>by have e:F=[]:=q;subst e;simp at hk
 | none::ys,_::vs,F,q,k,hk=>WG.own (ys:=ys) (vs:=vs) (F:=F) q k hk
 | some _::_,_::_,F,⟨F1,F2,e,q1,q2⟩,k,hk=>by
  subst e;rcases pg.1 hk with hk|hk
  ·exact WG.own q2 k hk
  exact q1.own k hk
 | [],_::_,_,q,_,_=>q.elim
 | none::_,[],_,q,_,_=>q.elim
 | some _::_,[],_,q,_,_=>q.elim
def WG.of:∀{ys:List A} {vs:TE} {F:TC},W8 S h ys vs F->WG S h (ys.map some) vs F
 | [],[],_,q=>q
 | _::_,_::_,_,⟨F1,F2,e,q1,q2⟩=>⟨F1,F2,e,q1,WG.of q2⟩
 | [],_::_,_,q=>q.elim
 | _::_,[],_,q=>q.elim
def WG.at:∀{ys:List (Option A)} {vs:TE} {F:TC} {i:Nat} {y:A},WG S h ys vs F->ys[i]?=some (some y) ->
  ∃v F1 F2,vs[i]?=some v/\Has S h y v F1/\WG S h (ys.set i none) vs F2/\(∀k,k∈F↔k∈F1\/k∈F2)/\(F.Nodup->F1.Nodup/\F2.Nodup/\∀k∈F1,k∉F2)
 | [],[],_,_,_,_,e=>by simp at e
 | none::ys,v::vs,F,0,y,q,e=>by simp at e
 | none::ys,v::vs,F,i+1,y,q,e=>by obtain⟨u,F1,F2,h1,h2,h3,h4,h5⟩:=WG.at (ys:=ys) (vs:=vs) (F:=F) q (by simpa using e);exact⟨u,F1,F2,by simpa using h1,h2,h3,h4,h5⟩
 | some z::ys,v::vs,F,0,y,⟨F1,F2,e1,q1,q2⟩,e=>by simp[Option.some.injEq]at e;subst e e1;refine⟨v,F1,F2,rfl,q1,q2,λk=>by rw[pg];exact or_comm,λhn=>?_⟩;rw[pI]at hn;exact⟨hn.2.1,hn.1,λk hk hk'=>hn.2.2 k hk' k hk rfl⟩
 | some z::ys,v::vs,F,i+1,y,⟨F1,F2,e1,q1,q2⟩,e=>by
  obtain⟨u,G1,G2,h1,h2,h3,h4,h5⟩:=WG.at q2 (by simpa using e);subst e1;refine⟨u,G1,G2++F1,by simpa using h1,h2,⟨F1,G2,rfl,q1,h3⟩,λk=>by simp[pg,h4 k,or_assoc],λhn=>?_⟩;rw[pI]at hn;obtain⟨n1,n2,n3⟩:=h5 hn.1;refine⟨n1,?_,?_⟩
  ·rw[pI];exact⟨n2,hn.2.1,λk hk k' hk'=>hn.2.2 k ((h4 k).2 (.inr hk)) k' hk'⟩
  intro k hk hk';rcases pg.1 hk' with hk'|hk'
  ·exact n3 k hk hk'
  exact hn.2.2 k ((h4 k).2 (.inl hk)) k hk' rfl
 | [],_::_,_,_,_,q,_=>q.elim
 | none::_,[],_,_,_,q,_=>q.elim
 | some _::_,[],_,_,_,q,_=>q.elim
def z7v (xs:List (Option A)):Opq:={
 holds:=λS h v F=>∃vs:TE,v=.tuple vs.toArray/\WG S h xs vs F
 multi:=true
 one:=λ⟨vs,e,_⟩=>.inr ⟨rfl,_,e⟩
 frame:=λhS hF ⟨vs,e,q⟩=>⟨vs,e,q.frame hS hF⟩
 own:=λ⟨_,_,q⟩=>q.own
 idx:=0 }
def zaB:A->Bool
 | .tup _=>false
 | _=>true
section
variable {P:Program}{C:Ctx}{S:zm}{Fp:Nat->TC}{X:TC}{st:St}{a:Act}{w:World}
def zez (n:Fr)(dst:TD)(xs:List (Option A))(r:Nat)(e:Ent)(i:Nat):SM Unit :=
 match xs[i]? with
 | some (some y)=>
  if y.isD=true then wrT n dst (.d y)
  else if zaB y=true then do
   wrE r ⟨.own (.opq (z7v (xs.set i none))),e.er,e.ec+1⟩
   wrT n dst (.own y)
  else zt
 | _=>zt
def zeB (n:Fr)(dst:TD)(xs:List (Option A))(x:Operand)(i:Nat):SM Unit:=do
 let tx <-opnd x;match tx with
 | .als r [] er ec=>do
  let e <-rdE r
  if e.t=.own (.opq (z7v xs))/\e.er=er then zez n dst xs r e i
  else zt
 | _=>zt
def zeA (h:Sim C S Fp [] st a w)  {xs:List (Option A)}{x:Operand}{i:Nat}(ho:o.op=.extract x i)    (e:zeB C.n o.dst xs x i st=some (u,R,U)):vB P C o a w (zi U st):=by
 unfold zeB at e;have ⟨tx,_,hx,e1⟩:=bR (zF h) e;split at e1
 ·rename_i r er ec;have ⟨_,e2⟩:=bD e1;split at e2
  ·rename_i hc;have ⟨c1,c2⟩:=hc;have hr:=h.ent r;unfold xm at hr;simp only[c1]at hr;have ⟨cs,k1,k2,k3⟩:=hr;simp only[zK]at k1;obtain⟨v0,rfl,vs,rfl,g1⟩:=k1;have hev:a.eval x=.tuple vs.toArray:=by
    have:=hx.2.2;simp only[c1]at this;rcases this c2 (.inl trivial) with⟨_,q⟩|⟨q,_⟩
    ·rw[q,k3];rfl
    simp[QU]at q
   unfold zez at e2;cases hy0:xs[i]? with
   | none=>simp only[hy0]at e2;cases e2
   | some yo=>
   cases yo with
   | none=>simp only[hy0]at e2;cases e2
   | some y=>
    simp only[hy0]at e2;have hy:xs[i]?=some (some y):=hy0;have ⟨v,F1,F2,m1,m2,m3,m4,m5⟩:=g1.at hy;have ⟨n1,n2,n3⟩:=m5 k2;have run:(execOp a.eval o).run P w=.ok (.value v) w:=by simp[execOp,ho,hev,Instr.extract,m1]
    split at e2
    ·rename_i hd;have ⟨q1,_⟩:=z8p hd m2;have ⟨Fp',hs⟩:=xM h e2 (x:=.d y) q1.repV;exact zo run hs
    split at e2
    ·rename_i hnt;obtain⟨u5,R5,U5,R6,U6,h5,h6,rfl,rfl⟩:=bind_some e2;cases h5;have ⟨cs,c3,c4,c5⟩:=m2.cells (by rintro fs rfl;cases hnt);have h2:Sim C S (QR Fp r F2) (F1++[]) (upd st r ⟨.own (.opq (z7v (xs.set i none))),(st r).er,(st r).ec+1⟩) a w:=by
      refine h.change r (.own (.opq (z7v (xs.set i none)))) _ _ F2 h.below (λ_ _ _ q=>q) h.still.cell h.sbase (λt k _ hk=>⟨rfl,(h.free t k hk).2.1⟩) ⟨⟨[.tuple vs.toArray],?_,n2,k3⟩,_,c1⟩ (.inl ⟨_,c1⟩) (pi _) (gF _) ?_ ?_ (by simpa using n1) ?_ ?_ ?_
      ·simp only[zK];exact⟨_,rfl,vs,rfl,m3⟩
      ·intro t k ht hk hk';exact ht (h.disj t r k hk' ((m4 k).2 (.inr hk)))
      ·intro k hk;exact h.base r k ((m4 k).2 (.inr hk))
      ·intro t k ht hk hk';exact ht (h.disj t r k hk' ((m4 k).2 (.inl (by simpa using hk))))
      ·intro k hk;exact n3 k (by simpa using hk)
      intro k hk;exact h.base r k ((m4 k).2 (.inl (by simpa using hk)))
     simp only[zi]at h6 ⊢;have ⟨Fp',hs⟩:=W9 h2 h6 c3 c4;subst c5;exact zo run hs
    cases e2
  cases e2
 cases e1
end
def zkQ (n:Fr)(dst:TD)(xs:List (Option A))(x:Operand)(i:Nat):HM Unit:=y7 (opnd x) >>= λtx=>
 match tx with
 | .als r [] er ec=>y7 (rdE r) >>= λe=>kG (e.t=.own (.opq (z7v xs))/\e.er=er) (y7 (zez n dst xs r e i))
 | _=>zL
def zjS (n:Fr)(dst:TD)(xs:List (Option A))(x:Operand)(i:Nat):Snd (zeB n dst xs x i) (zkQ n dst xs x i):=by
 refine zh (zk _) λtx=>?_;cases tx with
 | als r p er ec=>
  cases p with
  | nil=>exact zh (zk _) λe=>we (zk _)
  | cons _ _=>exact zr _
 | _=>exact zr _
def ziv (P:Program)(d:Nat)(xs:List (Option A)):XH P:={
 e:=λn o=>match o.op with|.extract x i=>if o.dst=some d then some (zeB n o.dst xs x i) else none|_=>none
 h:=λn o=>match o.op with|.extract x i=>if o.dst=some d then some (zkQ n o.dst xs x i) else none|_=>none
 ok:=by
  refine⟨?_,?_⟩
  ·intro C S Fp st a w o m u R U e h h2;dsimp only at e;split at e
   ·rename_i x i ho;split at e
    ·cases e;exact zeA h ho h2
    cases e
   cases e
  intro n o m e;dsimp only at e;split at e
  ·split at e
   ·cases e;refine Loc.bind (Loc.opnd _) λtx=>?_;split
    ·refine Loc.bind (Loc.rdE _) λ_=>Loc.ite ?_ Loc.fail;unfold zez;split
     ·exact Loc.ite (Loc.wrT _ _ _) (Loc.ite (Loc.bind (Loc.wrE _ _) λ_=>Loc.wrT _ _ _) Loc.fail)
     exact Loc.fail
    exact Loc.fail
   cases e
  cases e
 none:=by
  intro n o e
  skip
  split at e
  ·split at e
   ·cases e
   rename_i hd;rw[if_neg hd]
  rfl
 some:=by
  intro n o m e
  skip
  split at e
  ·split at e
   ·rename_i hd;cases e;exact⟨_,by rw[if_pos hd],zjS _ _ _ _ _⟩
   cases e
  cases e }
def z9e (tt:TT)(x:T)(c:TD):Option A :=
 match x,c with
 | .own y,none=>if zaB y=true then some y else none
 | .own (.box y),some ty=>if qX tt ty y=true then some y else none
 | _,_=>none
def zli (tt:TT)(g:Bool)(t:Nat)(c:TD):SM A :=
 if g=true then do
  let e <-rdE t;let x <-ofO (z9e tt e.t c)
  wrE t ⟨.gone,e.er+1,e.ec+1⟩
  pure x
 else do
  let xs <-shutArgs tt [(.tmp t,0)];match c,xs with
  | none,[x]=>pure x
  | some ty,[.sptr y]=>if qX tt ty y=true then pure y else zt
  | _,_=>zt
def zad (tt:TT):List (Bool×Nat×TD)->SM (List A)
 | []=>pure []
 |(g,t,c)::rs=>do
  let x <-zli tt g t c;let xs <-zad tt rs
  pure (x::xs)
def zh0 (tt:TT)(rs:List (Bool×Nat×TD)):SM A:=do
 let xs <-zad tt rs;match xs with
 | [y]=>pure y
 | ys=>pure (.opq (z7v (ys.map some)))
variable {rs:List (Bool×Nat×TD)}
section
variable {P:Program}{C:Ctx}{a:Act}{w:World}
def z3L (P:Program)(a:Act)(w:World)(r:ResultVar)(v:Value):Prop:=((λr:ResultVar=>match r with|.tmp t=>(pure (a.tmps.getD t undef):Sem Value)|.cell b t=>do loadVar t (<-asAddr (a.tmps.getD b undef))) r).run P w=.ok v w
def zh3 (hT:xW P tt)     (h:Sim C S Fp X st a w){g:Bool}  {c:TD}{x:A}   (e:zli tt g t c st=some (x,R,U)) :
  ∃S' Fp' F v,Sim C S' Fp' (F++X) (zi U st) a w/\(∀b o u,S b o=some u->S' b o=some u)/\(∀k∈X,∀o,S k o=none->S' k o=none)/\Has S' w.heap x v F/\z3L P a w (z5o (t,c)) v:=by
 unfold zli at e;split at e
 ·have ⟨_,e1⟩:=bD e;have ⟨x0,_,hk,e2⟩:=bO e1;obtain⟨u5,R5,U5,R6,U6,h5,h6,rfl,rfl⟩:=bind_some e2;cases h5;cases h6;have hr:=h.ent t;unfold xm at hr;have fin:∀F',(∃y,(st t).t=.own y)->F'.Nodup->(∀k∈F',k∈Fp t)->Sim C S (QR Fp t []) (F' ++ X) (upd st t ⟨.gone,(st t).er+1,(st t).ec+1⟩) a w:=by
   intro F' ho hn hmem;refine h.change t .gone _ _ [] h.below (λ_ _ _ q=>q) h.still.cell h.sbase (λt' k _ hk=>⟨rfl,(h.free t' k hk).2.1⟩) rfl (.inl ho) (Nat.le_succ _) (gF _) (by simp) (by simp) ?_ ?_ (by simp) ?_
   ·rw[pI];refine⟨hn,h.xn,?_⟩;rintro m hm m' hm' rfl;exact h.xd t m hm' (hmem m hm)
   ·intro t' k ht' hk;rcases pg.1 hk with hk|hk
    ·exact λhk'=>ht' (h.disj t' t k hk' (hmem k hk))
    exact h.xd t' k hk
   intro k hk;rcases pg.1 hk with hk|hk
   ·exact h.base t k (hmem k hk)
   exact h.xb k hk
  cases ht:(st t).t with
  | own z=>
   simp only[ht]at hr hk;have ⟨cs,c1,c2,c3⟩:=hr;cases c with
   | none=>
    have hz:x=z:=by cases z <;> simp only[z9e,zaB]at hk <;> simpa using hk.symm
    subst hz;refine⟨S,QR Fp t [],Fp t,Act.tv a t,by simpa[zi] using fin (Fp t) ⟨_,ht⟩ c2 (λ_ h=>h),λ_ _ _ q=>q,λ_ _ _ q=>q,.inr ⟨cs,c1,c2,c3⟩,?_⟩;simp only[z3L,z5o];exact Sem.run_pure ..
   | some ty=>
    cases z with
    | box y=>
     simp only[z9e]at hk;split at hk
     ·rename_i hf;simp only[Option.some.injEq]at hk;subst hk;simp only[zK]at c1;obtain⟨b,bty,l,F',rfl,d1,d2,d3,d4⟩:=c1;have hn2:(b::F').Nodup:=d3 ▸ c2;refine⟨S,QR Fp t [],F',zU y l,by simpa[zi] using fin F' ⟨_,ht⟩ (pR.1 hn2).2 (λk hk=>by rw[d3];simp[hk]),λ_ _ _ q=>q,λ_ _ _ q=>q,.inr ⟨l,d2,(pR.1 hn2).2,rfl⟩,?_⟩;have hv:a.tmps.getD t undef=.pointer (some ⟨b,0,none⟩):=c3;simp only[z3L,z5o];rw[hv];simp only[asAddr,Sem.run_bind,Sem.run_pure,Result.andThen_ok];refine ZO hT hf d2.len ?_;intro j u hj;simp only[y9,d1,gJ];simpa using hj
     cases hk
    | _=>simp only[z9e]at hk;cases hk
  | _=>simp only[ht,z9e]at hk;cases hk
 obtain⟨xs,R1,U1,R2,U2,h1,e1,rfl,rfl⟩:=bind_some e;have ⟨S1,Fp1,g1,g2,g3,g4⟩:=vw h h1;split at e1
 ·cases e1;refine⟨S1,Fp1,[],Act.tv a t,by simpa using g1,g2,g3,.inl ⟨g4.1.repV,rfl⟩,?_⟩;simp only[z3L,z5o];exact Sem.run_pure ..
 ·rename_i ty y;split at e1
  ·rename_i hf;cases e1;have ⟨cs,q1,q2⟩:=g4.1;simp only[Rep]at q1;obtain⟨b,o,l,rfl,r1,r2⟩:=q1;refine⟨S1,Fp1,[],zU x l,by simpa using g1,g2,g3,.inl ⟨wW.repV ⟨l,r1,rfl⟩,rfl⟩,?_⟩;have hv:a.tmps.getD t undef=.pointer (some ⟨b,o,none⟩):=q2;simp only[z3L,z5o];rw[hv];simp only[asAddr,Sem.run_bind,Sem.run_pure,Result.andThen_ok];exact ZO hT hf r1.len (λj u hj=>g1.still _ _ _ (r2 j u hj))
  cases e1
 cases e1
def z7U (hT:xW P tt):∀{rs:List (Bool×Nat×TD)} {S:zm} {Fp:Nat->TC} {X:TC} {st:St},Sim C S Fp X st a w->∀{xs:List A} {R:TC} {U:List (Nat×Ent)},zad tt rs st=some (xs,R,U) ->
  ∃S' Fp' G vs,Sim C S' Fp' (G++X) (zi U st) a w/\(∀b o u,S b o=some u->S' b o=some u)/\(∀k∈X,∀o,S k o=none->S' k o=none)/\W8 S' w.heap xs vs G/\YO (z3L P a w) (rs.map λr=>z5o r.2) vs
 | [],S,Fp,X,st,h,xs,R,U,e=>by cases e;exact⟨S,Fp,[],[],h,λ_ _ _ h=>h,λ_ _ _ h=>h,rfl,trivial⟩
 |(g,t,c)::rs,S,Fp,X,st,h,xs,R,U,e=>by simp[zad]at e;obtain⟨y,R1,U1,R2,U2,h1,e1,rfl,rfl⟩:=bind_some e;obtain⟨ys,R3,U3,R4,U4,h3,e2,rfl,rfl⟩:=bind_some e1;have ⟨S1,Fp1,F,v,g1,g2,g3,g4,g5⟩:=zh3 hT h h1;have ⟨S2,Fp2,G,vs,k1,k2,k3,k4,k5⟩:=z7U hT g1 h3;cases e2;refine⟨S2,Fp2,G++F,v::vs,?_,λb o u hs=>k2 b o u (g2 b o u hs),λk hk o hn=>k3 k (by simp[hk]) o (g3 k hk o hn),⟨F,G,rfl,g4.grow k2 (λk hk o hn=>k3 k (by simp[hk]) o hn),k4⟩,g5,k5⟩;rw[pU,zz,pK];exact k1
def zgZ (hT:xW P tt)   (hr:fn.results=(rs.map λr=>z5o r.2).toArray)    (h:Sim C S Fp [] st a w){x:A}   (e:zh0 tt rs st=some (x,R,U)) :
  ∃v S' F',(results fn a.tmps).run P w=.ok v w/\(∀b o u,S b o=some u->S' b o=some u)/\(∀b o,¬C.M b->S' b o=C.S0 b o)/\yS S' w/\Has S' w.heap x v F'/\F'.Nodup/\∀k∈F',C.M k:=by
 unfold zh0 at e;obtain⟨xs,R1,U1,R2,U2,h1,e1,rfl,rfl⟩:=bind_some e;have ⟨S1,Fp1,G,vs,g1,g2,_,g3,g4⟩:=z7U hT h h1;have hrun:(results fn a.tmps).run P w=.ok (if h:vs.toArray.size=1 then vs.toArray[0] else .tuple vs.toArray) w:=by unfold results;rw[hr,Array.mapM_eq_foldlM,List.foldlM_toArray,Sem.run_bind];have:=Vp (P:=P) (w:=w) _ _ vs #[] g4;rw[ny]at this;exact(congrArg (λr=>Result.andThen r (λq w'=>Sem.run P (pure (if h:q.size=1 then q[0] else Value.tuple q)) w')) this).trans rfl
 have hn:G.Nodup:=by have:=g1.xn;simpa using this
 have hM:∀k∈G,C.M k:=λk hk=>g1.xb k (by simp[hk]);have many:∀ys:List A,W8 S1 w.heap ys vs G->ys.length≠1->Has S1 w.heap (.opq (z7v (ys.map some))) (.tuple vs.toArray) G/\vs.length≠1:=by intro ys q hl;refine⟨.inr ⟨[.tuple vs.toArray],?_,hn,rfl⟩,by rw[<-q.nil];exact hl⟩;simp only[zK];exact⟨_,rfl,vs,rfl,WG.of q⟩
 split at e1
 ·cases e1;rcases vs with _|⟨v,_|⟨v2,l⟩⟩
  ·exact g3.elim
  ·obtain⟨F1,F2,rfl,q1,q2⟩:=g3;have e2:F2=[]:=q2;subst e2;exact⟨v,S1,F1,hrun,g2,g1.sbase,g1.still,q1,by simpa using hn,by simpa using hM⟩
  obtain⟨F1,F2,rfl,q1,q2⟩:=g3;exact q2.elim
 rename_i hne;cases e1;have ⟨m1,m2⟩:=many _ g3 (by intro hl;have ⟨y,hy⟩:=gZ.1 hl;exact hne y hy)
 rw[dif_neg (by simpa using m2)]at hrun;exact⟨_,S1,G,hrun,g2,g1.sbase,g1.still,m1,hn,hM⟩
end
def zjZ (tt:TT)(g:Bool)(t:Nat)(c:TD):HM A :=
 if g=true then y7 (rdE t >>= λe=>ofO (z9e tt e.t c) >>= λx=>wrE t ⟨.gone,e.er+1,e.ec+1⟩ >>= λ_=>pure x)
 else qB tt [(.tmp t,0)] >>= λxs=>
  match c,xs with
  | none,[x]=>pure x
  | some ty,[.sptr y]=>if qX tt ty y=true then pure y else zL
  | _,_=>zL
def zjN (tt:TT)(g:Bool)(t:Nat)(c:TD):Snd (zli tt g t c) (zjZ tt g t c):=by
 refine vO (zk _) (zh (kD _ _) λxs=>?_);split
 ·exact w8 _
 ·exact vO (w8 _) (zr _)
 exact zr _
def zac (tt:TT):List (Bool×Nat×TD)->HM (List A)
 | []=>pure []
 |(g,t,c)::rs=>zjZ tt g t c >>= λx=>zac tt rs >>= λxs=>pure (x::xs)
def z9Y (tt:TT):∀rs,Snd (zad tt rs) (zac tt rs)
 | []=>w8 _
 |(g,t,c)::rs=>zh (zjN tt g t c) λx=>zh (z9Y tt rs) λxs=>w8 _
def zdH (tt:TT)(rs:List (Bool×Nat×TD)):HM A:=zac tt rs >>= λxs=>
 match xs with
 | [y]=>pure y
 | ys=>pure (.opq (z7v (ys.map some)))
def zjL (tt:TT)(rs:List (Bool×Nat×TD)):Snd (zh0 tt rs) (zdH tt rs):=by refine zh (z9Y _ _) λxs=>?_;split <;> exact w8 _
section
variable {P:Program}{tt:TT}{ctr:Ctr}{n:Fr}{Q:Exit->St->Prop}
def z8D {n:Fr}   {rs:List (Bool×Nat×TD)}{ls:List A}{r:A}(hT:xW P tt)(hf:P.funcs[k]?=some fn)(hnm:(fn.name == "runtime.NumGoroutine")=false)(hb:fn.body=some body)
  (hn:n=⟨fn.ntmps,[]⟩) (hr:fn.results=(rs.map λr=>z5o r.2).toArray) (ha:ls.length<=fn.ntmps)
  (h:∀E:St->Prop,(∀st x R U,zh0 tt rs st=some (x,R,U)->LeV x r->E st)->AWP P n body (ofL (z9f 0 ls)) (Qf P n [] (zft E))):uR P k ls r:=by
 have h':=h (λst=>∃x R U,zh0 tt rs st=some (x,R,U)/\LeV x r) λst x R U h1 h2=>⟨x,R,U,h1,h2⟩;refine⟨⟨fn,hf,hnm,by rw[hb];rfl⟩,?_⟩;intro S w vs F hS hq hF;have h2:AWP P n body (ini ls) (λex st=>(ex=.normal\/ex=.ret)/\∃x R U,zh0 tt rs st=some (x,R,U)/\LeV x r):=by
  rw[z3v];refine AWP.mono h' ?_;intro e st q;cases e with
  | normal=>exact⟨.inl rfl,q⟩
  | ret=>exact⟨.inr rfl,q⟩
  | _=>exact q.elim
 refine z0b (R:=λw e w'=>∃v' S' F',e=.returned v'/\Xf (λk=>w.heap.size<=k\/k∈F) w w'/\(∀b o u,S b o=some u->S' b o=some u)/\(∀b o,b<w.heap.size->b∉F->S' b o=S b o)/\yS S' w'/\Has S' w'.heap r v' F'/\F'.Nodup /\
   ∀k∈F',w.heap.size<=k\/k∈F) hf hb (by rw[hn]) (by rw[hn];simp) ha hS hq hF h2 ?_
 rintro ex st' ⟨hx,x,R,U,h3,h4⟩;refine⟨hx,?_⟩;intro df S' Fp' a' w' h1;have ⟨v,S2,F',hres,g1,g2,g3,g4,g5,g6⟩:=zgZ (P:=P) hT hr h1 h3;refine⟨_,hres,_,S2,F',rfl,h1.below,λb o u hu=>g1 _ _ _ (h1.sinc _ _ _ hu),?_,g3,h4.has _ _ _ _ g4,g5,g6⟩;intro b o hb' hbF;exact g2 b o (by rintro(hq|hq) <;> first|omega|exact hbF hq)
def zjV (X:XH P)(tt:TT)(ctr:Ctr)(n:Fr)(rs:List (Bool×Nat×TD))(k:Nat)(c:Code)(fs:List Fm)(st:St)(hs:List H):Option (A×List Prop) :=
 match za8 X tt ctr n k c fs st hs with
 | some (.fin .normal,st',hs',ob)=>match zdH tt rs st' hs' with|some (x,_,_,[],ob')=>some (x,ob++ob')|_=>none
 | some (.fin .ret,st',hs',ob)=>match zdH tt rs st' hs' with|some (x,_,_,[],ob')=>some (x,ob++ob')|_=>none
 | _=>none
def zbP (X:XH P)(hT:xW P tt)(hC:Zr P ctr)(hm:P.follows .mixedOrders=true){E:St->Prop}   (hE:∀st x R U,zh0 tt rs st=some (x,R,U)->LeV x r->E st)(k:Nat){c:Code}{fs:List Fm}{st:St}{hs:List H}{x:A}(obs:List Ob)
  (e:zjV X tt ctr n rs k c fs st hs=some (x,obs.map Ob.p)) (hle:LeV x r):AWP P n c st (Qf P n fs (zft E)):=by
 unfold zjV at e;have fin:∀{st' hs' ob},(match zdH tt rs st' hs' with|some (x,_,_,[],ob')=>some (x,ob++ob')|_=>none)=some (x,obs.map Ob.p)->z1b ob/\E st':=by
  intro st' hs' ob e;split at e
  ·rename_i x1 R U ob' he;simp[Option.some.injEq,Prod.mk.injEq]at e;obtain⟨rfl,e2⟩:=e;have ha:=z3m obs;rw[<-e2]at ha;have ⟨o1,o2⟩:=yw ha;exact⟨o1,hE _ _ _ _ (zjL tt rs _ _ _ _ _ _ _ he o2) hle⟩
  cases e
 split at e
 ·rename_i st' hs' ob' he;have ⟨h1,h2⟩:=fin e;exact z1G X hT hC hm k c fs st hs _ _ _ _ he h1 h2
 ·rename_i st' hs' ob' he;have ⟨h1,h2⟩:=fin e;exact z1G X hT hC hm k c fs st hs _ _ _ _ he h1 h2
 cases e
end
def lentCall (h:uR P k as_ r):uC P (.fn k []) as_ [] r []:=by
 intro S w fv vs F hS hfv hvs hH hF;have hF0:F=[]:=hH;subst hF0;obtain⟨cs,c1,c2⟩:=hfv;simp only[Rep]at c1;obtain⟨us,u1,_,rfl⟩:=c1;have hu:us=[]:=by
  cases us with
  | nil=>rfl
  | cons _ _=>simp[yb]at u1
 subst hu;obtain⟨⟨fn,f1,f2,f3⟩,hc⟩:=h;refine .inl ⟨k,#[],fn,c2,f1,f2,f3,?_⟩;rw[Array.append_empty];have hass:∀{as_:List A} {vs:TE},YO (wW S) as_ vs->W8 S w.heap as_ vs []:=by
  intro as_;induction as_ with
  | nil=>intro vs q;cases vs with|nil=>rfl|cons _ _=>exact q.elim
  | cons a as_ ih=>
   intro vs q;cases vs with
   | nil=>exact q.elim
   | cons v vs=>exact⟨[],[],rfl,.inl ⟨q.1.repV,rfl⟩,ih q.2⟩
 refine(hc S w vs [] hS (hass hvs) rB).mono ?_;rintro e w' ⟨v',S',F',he,b1,b2,b3,b4,b5,b6,b7⟩;exact⟨v',he,S',F',[],b1,b2,b3,b4,b5,rfl,by simpa using b6,by simpa using b7⟩
def zhz {c:Ctr}(hC:Zr P c)  {α ρ:Type}{enc:α->List A}{encR:ρ->A}{F:α->Option ρ}  {inj:∀x y,enc x=enc y->x=y}(h:c.Has (spF k enc encR F gives inj)){x:α}{r:ρ}(hr:F x=some r):uR P k (enc x) (encR r):=by have h1:=h.run x ⟨r,hr⟩;have:=hC.1 _ _ _ h1;simpa only[spF,hr] using this
structure ArN (n:Nat)(α:Type) where
 l:List α
 len:l.length=n
 deriving DecidableEq
section
variable {α:Type}{n:Nat}
def ArN.rep (n:Nat)(v:α):ArN n α:=⟨List.replicate n v,mc⟩
def ArN.setI (x:ArN n α)(i:Int)(v:α):ArN n α:=⟨x.l.set i.toNat v,by rw[rS];exact x.len⟩
def xG (n:Nat)(f:α->A)(x:ArN n α):A:=.agg (x.l.map f)
def ArN.setL (f:α->A)(x:ArN n α)(i:Int)(v:α):(x.l.map f).set i.toNat (f v)=((ArN.setI x i v).l).map f:=by unfold ArN.setI;rw[List.map_set]
def sizes_const {sz:Nat}:∀{l:List A},(∀x∈l,x.size=sz)->A.sizes l=l.length*sz
 | [],_=>by simp[A.sizes]
 | x::l,h=>by rw[A.sizes,h x rt,sizes_const λy hy=>h y (mX _ hy),pZ,gW,rl,rV]
class zio (f:α->A) (sz:outParam Nat):Prop where
 sz:∀x,(f x).size=sz
def zeZ {f:α->A}  [h:zio f s](x:ArN n α):(xG n f x).size=n*s:=by unfold xG;rw[A.size,sizes_const (sz:=s) λy hy=>by obtain⟨u,_,rfl⟩:=pX.1 hy;exact h.sz u,gC,x.len]
instance {f:α->A}{s:Nat}[h:zio f s]:zio (xG n f) (n*s):=⟨λx=>zeZ x⟩
def Qi {f:α->A}  [h:zio f s](ha:z7o tt t=some (n,s))(x:ArN n α){j:Int}(hj:0<=j):kI tt t (x.l.map f) j=true:=by unfold kI;rw[ha];simp only[gC,x.len,beq_self_eq_true,rO,hj,decide_true];rw[gD];intro y hy;obtain⟨u,_,rfl⟩:=pX.1 hy;rw[h.sz];exact beq_self_eq_true _
end
open Go.Proofs Go.Shelf
section
variable {α:Type}
def z9t (c:α->α->Int)(x:α):List α->List α
 | []=>[x]
 | y::l=>if c y x<0 then y::z9t c x l else x::y::l
def JG (c:α->α->Int):List α->List α
 | []=>[]
 | x::l=>z9t c x (JG c l)
def SOk (c:α->α->Int)(l:List α):Prop :=
 (∀x∈l,¬c x x<0)/\(∀x∈l,∀y∈l,∀z∈l,c x y<0->c y z<0->c x z<0)/\(∀x∈l,∀y∈l,¬c x y<0->¬c y x<0->x=y)
instance [DecidableEq α](c:α->α->Int)(l:List α):Decidable (SOk c l):=by unfold SOk;infer_instance
def z9R [DecidableEq α](cmp:α->α->Option Int)(l:List α):Option (List α) :=
 gd (l.length<=4294967296/\∀x∈l,∀y∈l,(cmp x y).isSome=true) <| gd (SOk (λx y=>(cmp x y).getD 0) l) <| some (JG (λx y=>(cmp x y).getD 0) l)
def SOk.ntr {c:α->α->Int}{l:List α}(h:SOk c l):∀x∈l,∀y∈l,∀z∈l,¬c x y<0->¬c y z<0->¬c x z<0:=by
 intro x hx y hy z hz h1 h2 h3;by_cases h4:c y x<0
 ·exact h2 (h.2.1 y hy x hx z hz h4 h3)
 have:=h.2.2 x hx y hy h1 h4;subst this;exact h2 h3
def z2d (c:α->α->Int)(x:α):∀l,(z9t c x l).Perm (x::l)
 | []=>.refl _
 | y::l=>by
  simp[z9t];split
  ·exact((z2d c x l).cons y).trans (.swap x y l)
  exact .refl _
def ZT (c:α->α->Int):∀l,(JG c l).Perm l
 | []=>.refl _
 | x::l=>(z2d c x _).trans ((ZT c l).cons x)
def z2c {c:α->α->Int}{L:List α}(h:SOk c L){x:α}(hx:x∈L):∀{l:List α},(∀y∈l,y∈L)->l.Pairwise (λa b=>¬c b a<0)->(z9t c x l).Pairwise (λa b=>¬c b a<0)
 | [],_,_=>by simp[z9t]
 | y::l,hl,hp=>by
  have hy:=hl y (by simp);have ⟨p1,p2⟩:=mQ.1 hp;simp only[z9t];split
  ·rename_i hc;refine mQ.2 ⟨?_,z2c h hx (λz hz=>hl z (by simp[hz])) p2⟩;intro z hz;rcases pm.1 ((z2d c x l).mem_iff.1 hz) with rfl|hz
   ·exact λq=>h.1 _ hx (h.2.1 _ hx _ hy _ hx q hc)
   exact p1 z hz
  rename_i hc;refine mQ.2 ⟨?_,hp⟩;intro z hz;rcases pm.1 hz with rfl|hz
  ·exact hc
  exact h.ntr z (hl z (by simp[hz])) y hy x hx (p1 z hz) hc
def Q9 {c:α->α->Int}{L:List α}(h:SOk c L):∀{l:List α},(∀y∈l,y∈L)->(JG c l).Pairwise (λa b=>¬c b a<0)
 | [],_=>.nil
 | x::l,hl=>z2c h (hl x (by simp)) (λy hy=>hl y (by simp[(ZT c l).mem_iff.1 hy])) (Q9 h λy hy=>hl y (by simp[hy]))
def z65 {c:α->α->Int}{l l':List α}(h:SOk c l)(hp:l'.Perm l)(hs:l'.Pairwise (λa b=>¬c b a<0)):l'=JG c l:=by refine List.Perm.eq_of_pairwise (le:=λa b=>¬c b a<0) ?_ hs (Q9 h λ_ q=>q) (hp.trans (ZT c l).symm);intro a b ha hb h1 h2;exact h.2.2 a (hp.mem_iff.1 ha) b ((ZT c l).mem_iff.1 hb) h2 h1
def z8Z [DecidableEq α]{cmp:α->α->Option Int}{l l':List α}(h:z9R cmp l=some l'):l.length<=4294967296/\(∀x∈l,∀y∈l,cmp x y=some ((cmp x y).getD 0))/\SOk (λx y=>(cmp x y).getD 0) l/\l'=JG (λx y=>(cmp x y).getD 0) l:=by
 have ⟨h1,h⟩:=gdE h;have ⟨h2,h⟩:=gdE h;refine⟨h1.1,λx hx y hy=>?_,h2,(xR h).symm⟩;have:=h1.2 x hx y hy;cases hc:cmp x y with
 | none=>rw[hc]at this;cases this
 | some _=>rfl
end
def zkO [Inhabited α](enc:α->TE)(k:Nat)(hk:∀x,(enc x).length=k):∀l:List α,((List.range (l.length*k)).map λt=>(enc l[t / k]!)[t % k]!)=l.flatMap enc
 | []=>by simp
 | x::l=>by
  rcases nQ k with rfl|h0
  ·simp only[Nat.mul_zero,List.range_zero,nG];symm;rw[List.flatMap_eq_nil_iff];intro y _;exact gR (hk y)
  rw[pZ,gW,rl,rV,List.range_add,gY,mw,mU];congr 1
  ·apply gV;intro i;rw[gQ];by_cases hi:i<k
   ·rw[rR hi,gE,Nat.div_eq_of_lt hi,rm hi];have:i<(enc x).length:=by rw[hk];exact hi
    simp[this]
   rw[pM (by simpa using hi),pM (by rw[hk];omega)];rfl
  rw[<-zkO enc k hk l];apply nF;intro t _;simp only[Function.comp];rw[Nat.add_div_left _ h0,Nat.add_mod_left];simp
def z0v [Inhabited α](enc:α->TE)(k:Nat)(hk:∀x,(enc x).length=k)(d:Array α):(Sort.flatK enc k d).toList=d.toList.flatMap enc:=by
 rw[<-zkO enc k hk d.toList];simp only[Sort.flatK,Array.toList_map,Array.toList_range,rQ];apply nF;intro a _;have:d.toList[a / k]! = d[a / k]!:=by
  by_cases hlt:a / k<d.size
  ·rw[getElem!_pos d _ hlt,getElem!_pos d.toList _ (by simpa using hlt)];simp
  rw[getElem!_neg d _ hlt,getElem!_neg d.toList _ (by simpa using hlt)]
 rw[this]
def zi5 (P:Program)(kf k:Nat)(ag:Bool):Prop:=∃ρ,SlLaysF0.n6 P ρ/\ρ.f 6=kf/\(∀w,(isAgg (ρ.t 24)).run P w=.ok ag w)/\(∀w,(Go.sizeOf (ρ.t 24)).run P w=.ok k w)/\(ag=false->k=1)
def z3h {enc:α->A}  (hsz:∀x,(enc x).size=k)(L:List α):∀{l:List α} {cs:TE},(∀x∈l,x∈L)->yb S (l.map enc) cs ->
  ∃d:List {p:TE×α // Rep S (enc p.2) p.1/\p.2∈L},d.map (λp=>p.1.2)=l/\d.flatMap (λp=>p.1.1)=cs
 | [],cs,_,h=>by simp[nG,yb]at h;exact⟨[],rfl,by simp[h]⟩
 | x::l,cs,hl,h=>by simp[gB,yb]at h;obtain⟨c1,c2,rfl,h1,h2⟩:=h;have ⟨d,e1,e2⟩:=z3h hsz L (λy hy=>hl y (by simp[hy])) h2;exact⟨⟨(c1,x),h1,hl x (by simp)⟩::d,by simp[e1],by simp[e2]⟩
def Kc {enc:α->A}{L:List α}:∀(d:List {p:TE×α // Rep S (enc p.2) p.1/\p.2∈L}),yb S ((d.map λp=>p.1.2).map enc) (d.flatMap λp=>p.1.1)
 | []=>by simp[yb]
 | p::d=>by simp only[gB,mU,yb];exact⟨_,_,rfl,p.2.1,Kc d⟩
variable {ag:Bool}
def zdr {ρ:Ren}{kf k t:Nat}  (hT:xW P tt)(L:SlLaysF0.n6 P ρ)(h6:ρ.f 6=kf)(h24:ρ.t 24=t)(hs:(tt t).map (λi=>(i.kind.isAgg,i.size))=some (ag,k))(h1:ag=false->k=1):zi5 P kf k ag:=by
 have ⟨i,hi,he⟩:=pT.1 hs;simp[Prod.mk.injEq]at he;refine⟨ρ,L,h6,λw=>?_,λw=>?_,h1⟩
 ·rw[h24,UW (hT t i hi).kind w,he.1]
 rw[h24,qN hT hi w,he.2]
section
variable {α:Type}[Inhabited α](enc:α->TE)(k:Nat)(w:World)(b n:Nat)(d:Array α)(os:Array Obj)
theorem z4a {j:Nat}(hj:j<w.heap.size)(hb:j≠b):(sortWorldK enc k w b 0 n d os).heap[j]?=w.heap[j]?:=by show((w.heap.modify b _)++os)[j]?=_;rw[nH (by simpa using hj),mN,if_neg (nK hb)]
theorem zlO {arr:Array Value}{ty:TypeId}{fr:Nat×Nat}(hb:w.heap[b]?=some (.cells arr ty fr)):(sortWorldK enc k w b 0 n d os).heap[b]?=some (.cells (Sort.putCells id 0 (Sort.flatK enc k d) arr) ty fr):=by have hlt:=(pG.1 hb).1;show((w.heap.modify b _)++os)[b]?=_;rw[nH (by simpa using hlt),mN,if_pos rfl,hb];rfl
theorem zgB:(sortWorldK enc k w b 0 n d os).heap.size=w.heap.size+os.size:=by show((w.heap.modify b _)++os).size=_;simp
end
theorem z4m {D arr:Array Value}(h:D.size<=arr.size):(Sort.putCells id 0 D arr).toList.take D.size=D.toList:=by
 apply gV;intro i;rw[pQ];by_cases hi:i<D.size
 ·rw[if_pos hi];have:i<arr.size:=by omega
  simp[Sort.putCells,hi,this]
 rw[if_neg hi,pM (by simpa using hi)]
theorem z4n (D arr:Array Value):(Sort.putCells id 0 D arr).size=arr.size:=by simp[Sort.putCells]
def z5I:∀{caps:List A} {vs:TE},yb S caps vs->(∀c∈caps,c.size=1/\∀fs,c≠.agg fs)->YO (wW S) caps vs
 | [],vs,h,_=>by simp[yb]at h;subst h;trivial
 | c::caps,vs,h,hc=>by simp[yb]at h;obtain⟨c1,c2,rfl,h1,h2⟩:=h;have ⟨s1,s2⟩:=hc c (by simp);have hl:=h1.len;rw[s1]at hl;obtain⟨u,rfl⟩:=gZ.1 hl;refine⟨⟨[u],h1,?_⟩,z5I h2 λx hx=>hc x (by simp[hx])⟩;cases c <;> first|rfl|exact absurd rfl (s2 _)
def z0t:∀{bs:List A} {vs:TE},YO (wW S) bs vs->W8 S h bs vs []
 | [],[],_=>rfl
 | _::_,_::_,q=>⟨[],[],rfl,.inl ⟨q.1.repV,rfl⟩,z0t q.2⟩
 | [],_::_,q=>q.elim
 | _::_,[],q=>q.elim
def zb4 {w w':World}(h:Xf (λk=>w.heap.size<=k) w w'):∃q os',w'=Sort.grow (w.drewN q) os':=by
 refine⟨w'.drawn - w.drawn,w'.heap.extract w.heap.size w'.heap.size,?_⟩;have h1:w'.heap=w.heap++w'.heap.extract w.heap.size w'.heap.size:=by
  apply mJ;intro i;by_cases hi:i<w.heap.size
  ·rw[nH hi];exact h.block i (by omega)
  rw[Array.getElem?_append_right (by omega),Array.getElem?_extract];by_cases h2:i<w'.heap.size
  ·rw[if_pos (by omega)];congr 1;omega
  rw[if_neg (by omega),nO (by omega)]
 have h2:=h.drawn;have h3:=h.os;have h4:=h.tape;have h5:=h.output;cases w' with
 | mk heap tape drawn os output=>
  cases w with
  | mk heap0 tape0 drawn0 os0 output0=>simp only at h1 h2 h3 h4 h5;subst h3 h4 h5;simp[Sort.grow,World.drewN,World.mk.injEq,true_and,and_true];exact⟨h1,by omega⟩
theorem zfl [Inhabited α](enc:α->TE)(e1:α->Value)(he:∀x,enc x=[e1 x])(w:World)(b m:Nat)(d:Array α)(os:Array Obj):sortWorld e1 w b 0 m d os=sortWorldK enc 1 w b 0 m d os:=by
 have hflat:Sort.flatK enc 1 d=d.map e1:=by
  apply Array.ext
  ·simp[Sort.flatK]
  intro i h1 h2;have hi:i<d.size:=by simpa using h2
  have:=Sort.get_flatK enc 1 d i (by omega);rw[getElem!_pos _ i h1]at this;rw[this,he];simp[Nat.mod_one,hi]
 unfold sortWorld sortWorldK;congr 1;unfold Sort.putRowK Sort.putRow;congr 1;rw[hflat];funext c;unfold Sort.putCells;congr 1;funext k x;simp[pO,true_and,gJ,mY,Array.size_map,id];by_cases hk:k<d.size
 ·rw[if_pos hk,if_pos hk,getElem!_pos d k hk,getElem!_pos _ k (by simpa using hk)];simp
 rw[if_neg hk,if_neg hk]
def zb9 [Inhabited α]{enc:α->TE}{e1:α->Value}(he:∀x,enc x=[e1 x])  {b:Nat}{d:Array α}(h:Sort.HoldsK enc 1 w b 0 d):Sort.Holds e1 w b 0 d:=by intro j hj;have:=h j (by simpa using hj);rw[Sort.get_flatK enc 1 d j (by omega),he]at this;simpa[Nat.mod_one] using this
theorem z9Q {P:Program}{kf k g:Nat}   [DecidableEq α]{f:α->A}[hD:Jd f]{t:Bool}{v:Value}{caps:List A}{cmp:α->α->Option Int}{l l':List α}(hT:zi5 P kf k ag)(hsz:∀x,(f x).size=k)(hag:∀x,(f x).isAgg=ag)
  (hc:∀x y c,cmp x y=some c->uR P g (f x::f y::caps) (.atom (.int .i64 c))) (h:z9R cmp l=some l'):uC P (.fn kf []) [.atom v,.fn g caps] [(v,.osl k t (l.map f))] (.tup []) [.osl k t (l'.map f)]:=by
 obtain⟨hlen0,hcmp,hO,rfl⟩:=z8Z h;obtain⟨ρ,L,rfl,aE,zE,hk1⟩:=hT;intro S w fv vs F hS hfv hvs hH hF;have ⟨cs,c1,c2⟩:=hfv;simp only[Rep]at c1;obtain⟨us,u1,_,rfl⟩:=c1;have hu:us=[]:=by
  cases us with
  | nil=>rfl
  | cons _ _=>simp[yb]at u1
 subst hu;rcases vs with _|⟨v1,_|⟨v2,_|⟨v3,vs⟩⟩⟩
 ·exact hvs.elim
 ·exact hvs.2.elim
 case cons.cons.cons=>exact hvs.2.2.elim
 have ⟨hv1,hv2,_⟩:=hvs;obtain⟨rfl,_⟩:=yX.1 hv1;have ⟨cs2,d1,d2⟩:=hv2;simp only[Rep]at d1;obtain⟨cv,d3,d4,rfl⟩:=d1;have hcv:=z5I d3 d4;obtain⟨F1,F2,rfl,q1,q2⟩:=hH;have hF2:F2=[]:=q2;subst hF2;rw[pN]at hF ⊢;have act:∀R:Ending->World->Prop,Calls P (ρ.f 6) #[v1,.func (.func g) #[] cv.toArray] w R->Calls P (ρ.f 6) ([v1,v2].toArray ++ #[]) w R:=by intro R q;rw[d2,Array.append_empty];exact q
 have fnOk:∃fn,P.funcs[ρ.f 6]?=some fn/\(fn.name == "runtime.NumGoroutine")=false/\fn.body.isNone=false:=by have ⟨nm,hne,FG⟩:=L.f6;exact⟨_,FG,by simpa using hne,rfl⟩
 have ⟨fn,f1,f2,f3⟩:=fnOk;refine .inl ⟨ρ.f 6,#[],fn,c2,f1,f2,f3,act _ ?_⟩;rcases q1 with⟨q1,_⟩|⟨cs,q1,q3,q4⟩
 ·simp only[xg,wW,Rep,false_and,exists_false]at q1
 simp only[zK]at q1;obtain⟨p,c,rfl,t1,t2,t3,t4,t5⟩:=q1;have ev:v1=.slice p l.length c:=by have q5:v1=zU (.osl k t (l.map f)) [.slice p (l.map f).length c]:=q4;rw[q5];simp[zU]
 subst ev;simp only[gC]at t1 t2 t5;by_cases hl:l=[]
 ·subst hl;refine(AnyF.slices_SortFunc_none { L with } p c _ w).mono ?_;rintro e w' ⟨rfl,rfl⟩;refine⟨.tuple #[],rfl,S,[],F1,Xf.refl _ _,λ_ _ _ q=>q,λ_ _ _ _=>rfl,hS,.inl ⟨?_,rfl⟩,⟨F1,[],by simp,.inr ⟨[.slice p 0 c],?_,q3,rfl⟩,rfl⟩,by simpa using hF,λk hk=>.inr (by simpa using hk)⟩
  ·simp only[xg];exact⟨[],rfl,trivial⟩
  simp only[JG,nG,zK];exact⟨p,c,rfl,t1,t2,t3,by simp,by simpa using t5⟩
 have hpos:0<l.length:=mM.2 hl;rcases t5 with⟨e,_⟩|⟨b,arr,ty,cl,F',rfl,e1,e2,e3,e4,rfl,e5⟩
 ·exact absurd (by simpa using e) hl
 obtain⟨hr,rfl⟩:=e4.areD (dM f l);have ⟨d,g1,g2⟩:=z3h (S:=S) hsz l (λ_ q=>q) hr;have hblk:=(pG.1 e1).1;obtain⟨x0,hx0⟩:∃x,x∈d:=by
  cases d with
  | nil=>exact absurd g1.symm hl
  | cons x _=>exact⟨x,by simp⟩
 letI:Inhabited {p:TE×α // Rep S (f p.2) p.1/\p.2∈l}:=⟨x0⟩
 let enc:{p:TE×α // Rep S (f p.2) p.1/\p.2∈l}->TE:=λp=>p.1.1;let c0:α->α->Int:=λx y=>(cmp x y).getD 0;have hk:∀x,(enc x).length=k:=λx=>(x.2.1.len).trans (hsz _);have h1:∀x,∀v∈enc x,v.oneCell'=true:=λx=>x.2.1.one;have hswo:Sort.SWO (ltOf λx y:{p:TE×α // Rep S (f p.2) p.1/\p.2∈l}=>c0 x.1.2 y.1.2):=by
  refine⟨λx=>?_,λx y z q1 q2=>?_,λx y z q1 q2=>?_⟩
  ·simpa[ltOf] using hO.1 _ x.2.2
  ·simp only[ltOf,decide_eq_true_eq]at q1 q2 ⊢;exact hO.2.1 _ x.2.2 _ y.2.2 _ z.2.2 q1 q2
  simp only[ltOf,decide_eq_false_iff_not]at q1 q2 ⊢;exact hO.ntr _ x.2.2 _ y.2.2 _ z.2.2 q1 q2
 have hdl:d.length=l.length:=by have:=congrArg List.length g1;simpa using this
 have hD0:(Sort.flatK enc k d.toArray).toList=cl:=by rw[z0v enc k hk];exact g2
 have hszF:∀d':Array {p:TE×α // Rep S (f p.2) p.1/\p.2∈l},d'.size=d.length->(Sort.flatK enc k d').size=l.length*k:=λd' q=>by rw[Sort.size_flatK,q,hdl]
 have hle:l.length*k<=arr.size:=pC (gH _ t2) e2;have hH2:Sort.HoldsK enc k w b 0 d.toArray:=by
  intro j hj;have hj':j<cl.length:=by rw[<-hD0];simpa using hj
  have hget:(Sort.flatK enc k d.toArray)[j]! = cl[j]:=by
   rw[getElem!_pos _ j hj];have:(Sort.flatK enc k d.toArray).toList[j]'(by simpa using hj)=cl[j]:=by simp only[hD0]
   simpa using this
  have hcell:arr[j]?=some cl[j]:=by
   obtain⟨u,hu⟩:∃u,u=cl[j]:=⟨_,rfl⟩;have q:cl[j]?=some u:=by rw[hu];exact pe hj'
   rw[<-hu];clear hget hu;subst e3;rw[pQ]at q;split at q
   ·simpa using q
   cases q
  constructor
  ·simp only[World.cell?,e1,Option.isSome_none,hZ,if_false,gJ,id,hget];exact hcell
  simp[World.frozen?,e1]
 have hst:∀n (d':Array {p:TE×α // Rep S (f p.2) p.1/\p.2∈l}) os,yS S (sortWorldK enc k w b 0 n d' os):=by
  refine λn d' os=>⟨?_,hS.gok,hS.blk.of (λ_ _ _ q=>q) λg x e=>z4a enc k w b n d' os (hS.blk.lt e) (by rintro rfl;exact hS.blk.ne (e5 0) x e)⟩;intro b' o' u hu;have hne:b'≠b:=by rintro rfl;rw[e5]at hu;cases hu
  have:=hS b' o' u hu;have hlt:b' < w.heap.size:=by
   unfold y9 at this;cases hq:w.heap[b']? with
   | none=>simp[hq]at this
   | some _=>exact(pG.1 hq).1
  unfold y9 at this ⊢;rw[z4a enc k w b n d' os hlt hne];exact this
 have heg:Enters P g:=by
  have ⟨⟨fn',p1,p2,p3⟩,_⟩:=hc x0.1.2 x0.1.2 _ (hcmp _ x0.2.2 _ x0.2.2);cases hb:fn'.body with
  | none=>simp[hb]at p3
  | some body=>exact enters_of p1 p2 hb
 have hcall0:∀(m:Nat) (os:Array Obj) (dk:Array {p:TE×α // Rep S (f p.2) p.1/\p.2∈l}) (x y:{p:TE×α // Rep S (f p.2) p.1/\p.2∈l}),
   Calls P g (#[zU (f x.1.2) (enc x),zU (f y.1.2) (enc y)]++cv.toArray) (sortWorldK enc k w b 0 m dk os) λe w'=>e=.returned (.int .i64 (c0 x.1.2 y.1.2))/\∃q os',w'=Sort.grow ((sortWorldK enc k w b 0 m dk os).drewN q) os':=by
  intro m os dk x y;have hcall:=(hc x.1.2 y.1.2 _ (hcmp _ x.2.2 _ y.2.2)).2 S (sortWorldK enc k w b 0 m dk os) (zU (f x.1.2) (enc x)::zU (f y.1.2) (enc y)::cv) [] (hst _ _ _)
   (z0t ⟨⟨enc x,x.2.1,rfl⟩,⟨enc y,y.2.1,rfl⟩,hcv⟩) rB
  have ea:(#[zU (f x.1.2) (enc x),zU (f y.1.2) (enc y)]++cv.toArray:Array Value)=(zU (f x.1.2) (enc x)::zU (f y.1.2) (enc y)::cv:TE).toArray:=by simp
  rw[ea];refine hcall.mono ?_;rintro e w' ⟨v',S',F',rfl,b1,b2,b3,b4,b5,b6,b7⟩;have hv:v'=.int .i64 (c0 x.1.2 y.1.2):=by
   rcases b5 with⟨r,_⟩|⟨cs,r,_,r2⟩
   ·exact(zu.1 r).1
   simp only[zK,Rep]at r;rw[r2,r.1.1];rfl
  refine⟨by rw[hv],zb4 (b1.mono λk hk=>?_)⟩;simpa using hk
 have hsz62:d.toArray.size<4611686018427387904:=by simp only[nX,hdl];omega
 have hcon:Calls P (ρ.f 6) #[.slice (some ⟨b,0,none⟩) d.toArray.size c,.func (.func g) #[] cv.toArray] w λe w'=>e=.returned (.tuple #[])/\∃d' n os,Sort.PermIn 0 d.toArray.size d.toArray d'/\Sort.SortedIn (ltOf λx y:{p:TE×α // Rep S (f p.2) p.1/\p.2∈l}=>c0 x.1.2 y.1.2) 0 d.toArray.size d'/\w'=sortWorldK enc k w b 0 n d' os:=by
  cases ag with
  | true=>
   refine AnyQ.slices_SortFunc (P:=P) (ρ:=ρ) L k aE zE enc hk h1 (λx y=>c0 x.1.2 y.1.2) hswo g cv.toArray b 0 c d.toArray w heg ?_ hH2 hblk hsz62;intro m os dk hs x y;have q:=hcall0 m os dk x y;have hx:∀z:{p:TE×α // Rep S (f p.2) p.1/\p.2∈l},zU (f z.1.2) (enc z)=.agg (enc z).toArray:=by intro z;have:=hag z.1.2;cases hz:f z.1.2 <;> simp[hz,A.isAgg]at this;rfl
   rw[hx,hx]at q;exact q
  | false=>
   have hk1':=hk1 rfl;subst hk1';let e1:{p:TE×α // Rep S (f p.2) p.1/\p.2∈l}->Value:=λx=>(enc x).headD undef;have he:∀x,enc x=[e1 x]:=by intro x;have ⟨u,hu⟩:=gZ.1 (hk x);show enc x=[(enc x).headD undef];rw[hu];rfl
   have hx:∀z:{p:TE×α // Rep S (f p.2) p.1/\p.2∈l},zU (f z.1.2) (enc z)=e1 z:=by intro z;have:=hag z.1.2;cases hz:f z.1.2 <;> simp[hz,A.isAgg]at this <;> rfl
   refine(Any.slices_SortFunc (P:=P) (ρ:=ρ) { L with a24:=aE,z24:=zE } e1 (λx=>h1 x _ (by rw[he x];simp)) (λx y=>c0 x.1.2 y.1.2) hswo g cv.toArray b 0 c d.toArray w heg ?_ (zb9 he hH2) hblk hsz62).mono ?_
   ·intro m os dk hs x y;have q:=hcall0 m os dk x y;rw[hx,hx]at q;rw[zfl enc e1 he];exact q
   rintro e w' ⟨q1,d',n,os,q2,q3,q4⟩;exact⟨q1,d',n,os,q2,q3,by rw[q4,zfl enc e1 he]⟩
 have ea2:(#[.slice (some ⟨b,0,none⟩) l.length c,.func (.func g) #[] cv.toArray]:Array Value)=#[.slice (some ⟨b,0,none⟩) d.toArray.size c,.func (.func g) #[] cv.toArray]:=by simp only[nX,hdl]
 rw[ea2];refine hcon.mono ?_;rintro e w' ⟨rfl,d',n,os,hp,hs,rfl⟩;have hds:d'.size=d.length:=by simpa using hp.1
 have hperm:d'.toList.Perm d:=by
  have:=hp.2.2;have e1:d'.extract 0 d.toArray.size=d':=by rw[show d.toArray.size=d'.size by simp[hds]];exact Array.extract_size
  rw[e1,Array.extract_size]at this;simpa using this
 have hl':d'.toList.map (λp=>p.1.2)=JG c0 l:=by
  refine z65 hO ?_ ?_
  ·exact(hperm.map _).trans (List.Perm.of_eq g1)
  rw[rA,mH];intro i j hi hj hij;have hi':i<d'.size:=by simpa using hi
  have hj':j<d'.size:=by simpa using hj
  have:=hs i j (pO _) hij (by simpa[hds] using hj');rw[getElem!_pos d' j hj',getElem!_pos d' i hi']at this;simpa[ltOf] using this
 have hat:=zlO enc k w b n d' os e1;have hFs:(Sort.flatK enc k d').size=l.length*k:=hszF d' hds;have hlen:(JG c0 l).length=l.length:=(ZT c0 l).length_eq;refine⟨.tuple #[],rfl,S,[],[b],⟨rfl,rfl,rfl,Nat.le_add_right _ _,by rw[zgB];omega,?_⟩,λ_ _ _ q=>q,λ_ _ _ _=>rfl,hst _ _ _,.inl ⟨?_,rfl⟩,⟨[b],[],rfl,.inr ⟨[.slice (some ⟨b,0,none⟩) l.length c],?_,by simp,rfl⟩,rfl⟩,by simp,by simp⟩
 ·intro j hj;simp only[not_or,Nat.not_le,pm,pY,or_false]at hj;exact z4a enc k w b n d' os hj.1 hj.2
 ·simp only[xg];exact⟨[],rfl,trivial⟩
 simp only[zK,gC];refine⟨some ⟨b,0,none⟩,c,by rw[hlen],by rw[hlen];exact t1,by rw[hlen];exact t2,t3,?_,.inr ⟨b,_,ty,(Sort.flatK enc k d').toList,[],rfl,hat,by rw[z4n];exact e2,?_,?_,rfl,e5⟩⟩
 ·intro x hx;obtain⟨y,_,rfl⟩:=pX.1 hx;exact hsz y
 ·rw[hlen,<-hFs];exact z4m (by rw[hFs];exact hle)
 have:=(Kc d'.toList).concs (sortWorldK enc k w b 0 n d' os).heap;rw[hl']at this;rw[z0v enc k hk];exact this
def V7 (sz:Nat)(v:Value)(l:Int):Value :=
 match v with
 | .slice a n c=>.slice (if c=l.toNat then a else a.map (·.add (l.toNat*sz))) (n - l.toNat) (c - l.toNat)
 | v=>v
def zeG {sz:Nat}  {l:Int}(h:v.oneCell'=true):(V7 sz v l).oneCell'=true:=by
 unfold V7;split
 ·rfl
 exact h
section
variable {C:Ctx}{S:zm}{Fp:Nat->TC}{st:St}{a:Act}{w:World}
def zap {r:Nat}{er ec:Nat}{u:Value}(ha:kJ w.heap st (Act.tv a) r [] er ec u){x0:A}(hr:(st r).t=.own x0)(e1:(st r).er=er):u=Act.tv a r:=by have a3:=ha.2.2;simp[hr]at a3;simp[QU]at a3;exact a3 e1
def z4s (h:Sim C S Fp [] st a w){r sz:Nat}{tg:Bool}{es:List A}(hr:(st r).t=.own (.osl sz tg es)) :
  ∃p c,Act.tv a r=.slice p es.length c/\es.length<=c/\(∀x∈es,x.size=sz)/\(0<es.length->∃b,p=some ⟨b,0,none⟩):=by
 have hq:=h.ent r;unfold xm at hq;simp only[hr]at hq;have ⟨cs,c1,c2,c3⟩:=hq;simp only[zK]at c1;obtain⟨p,c,rfl,t1,t2,t3,t4,t5⟩:=c1;refine⟨p,c,by rw[c3];rfl,t2,t4,λhp=>?_⟩;rcases t5 with⟨rfl,_⟩|⟨b,arr,ty,l,F',rfl,_⟩
 ·simp at hp
 exact⟨b,rfl⟩
open Classical in
def vwK (tt:TT)(n:Fr)(dst:TD)(ty r:Nat)(v:Value)(tx:T)(vl:A)(e:Ent):SM Unit :=
 match vl with
 | .atom (.int _ j)=>
  if(tx=.als r [] e.er e.ec\/tx=.d (.atom v))/\JB n.pin r=some v then
   match e.t with
   | .own (.osl sz _ es)=>if xD tt ty=some sz/\0<=j/\j.toNat<=es.length then wrT n dst (.d (.atom (V7 sz v j))) else zt
   | _=>zt
  else zt
 | _=>zt
def vwO (tt:TT)(n:Fr)(dst:TD)(ty r:Nat)(v:Value)(x lo:Operand):SM Unit:=do
 let tx <-opnd x;let tl <-opnd lo;let vl <-val tl;let e <-rdE r
 vwK tt n dst ty r v tx vl e
def vwH (tt:TT)(n:Fr)(dst:TD)(ty r:Nat)(v:Value)(x lo:Operand):HM Unit:=y7 (opnd x) >>= λtx=>y7 (opnd lo) >>= λtl=>Jv tl >>= λvl=>y7 (rdE r) >>= λe=>
 match vl with
 | .atom (.int _ j)=>kG ((tx=.als r [] e.er e.ec\/tx=.d (.atom v))/\JB n.pin r=some v)
   (match e.t with
   | .own (.osl sz _ es)=>if xD tt ty=some sz then kG (0<=j/\j.toNat<=es.length) (y7 (wrT n dst (.d (.atom (V7 sz v j))))) else zL
   | _=>zL)
 | _=>zL
open Classical in
def zoy (tt:TT)(n:Fr)(dst:TD)(ty r:Nat)(v:Value)(x lo:Operand):Snd (vwO tt n dst ty r v x lo) (vwH tt n dst ty r v x lo):=by
 refine zh (zk _) λtx=>zh (zk _) λtl=>zh (kH _) λvl=>zh (zk _) λe=>?_;cases vl with
 | atom u=>
  cases u with
  | int k j=>
   refine we ?_;cases e.t with
   | own y=>
    cases y with
    | osl sz tg es=>exact z0N (λh1 h2=>⟨h1,h2.1,h2.2⟩) (zk _)
    | _=>exact zr _
   | _=>exact zr _
  | _=>exact zr _
 | _=>exact zr _
open Classical in
def Loc.vwO (tt:TT)(n:Fr)(dst:TD)(ty r:Nat)(v:Value)(x lo:Operand):Loc (vwO tt n dst ty r v x lo):=by
 unfold Go.Own.vwO;refine Loc.bind (Loc.opnd _) λ_=>Loc.bind (Loc.opnd _) λ_=>Loc.bind (Loc.val _) λ_=>Loc.bind (Loc.rdE _) λ_=>?_;unfold Go.Own.vwK;split
 ·refine Loc.ite ?_ Loc.fail;split
  ·exact Loc.ite (Loc.wrT _ _ _) Loc.fail
  exact Loc.fail
 exact Loc.fail
def zlI {P:Program}  (hT:xW P tt)(h:Sim C S Fp [] st a w)  {t r:Nat}{v:Value}{x lo:Operand}(ho:o.op=.slice t x (some lo) none none)    (e0:vwO tt C.n o.dst t r v x lo st=some (u,R,U)):vB P C o a w (zi U st):=by
 unfold vwO at e0;have ⟨tx,_,hx,e1⟩:=bR (zF h) e0;have ⟨tl,_,hl,e2⟩:=bR (zF h) e1;have ⟨vl,_,ql,e3⟩:=bR (vA h hl) e2;have ⟨_,e4⟩:=bD e3;unfold vwK at e4;split at e4
 ·rename_i k j;split at e4
  ·rename_i hc;have ⟨c1,c2⟩:=hc;have hs:=h.pin r v (uh c2);cases ht:(st r).t with
   | own y=>
    cases y with
    | osl sz tg es=>
     simp only[ht]at e4;split at e4
     ·rename_i hd;have ⟨d1,d2,d3⟩:=hd;have ⟨p,c,ev,hlc,_,_⟩:=z4s h ht;have hxv:a.eval x=.slice p es.length c:=by
       rcases c1 with rfl|rfl
       ·rw[<-ev];exact zap hx ht rfl
       rw[(zu.1 hx).1,<-hs,ev]
      have ⟨el,he,hsz⟩:=wB hT d1 w;have ⟨el',_⟩:=zu.1 ql;have hrun:=ZN (P:=P) (w:=w) he hsz (p:=p) (len:=es.length) (c:=c) (m:=c) (lo:=some (.int k j)) (hi:=none) (mx:=none) (.inr ⟨k,j,rfl,d2,rfl⟩) (.inl ⟨rfl,rfl⟩) (.inl ⟨rfl,rfl⟩) d3 hlc (pi c) (by simp);have hvv:v=.slice p es.length c:=by rw[<-hs,ev]
      have ⟨Fp',hs'⟩:=xM h e4 (x:=.d (.atom (V7 sz v j))) (v:=V7 sz v j) (zu.2 ⟨rfl,by rw[hvv];exact zeG rfl⟩);refine zo ?_ hs';rw[hvv];simp[execOp,ho,hxv,el',hrun,V7]
     cases e4
    | _=>simp only[ht]at e4;cases e4
   | _=>simp only[ht]at e4;cases e4
  cases e4
 cases e4
open Classical in
def vlO (n:Fr)(dst:TD)(sz r:Nat)(v:Value)(l:Int)(x:Operand):SM Unit:=do
 let tx <-opnd x;let e <-rdE r
 if tx=.d (.atom (V7 sz v l))/\JB n.pin r=some v then
  match e.t with
  | .own (.osl _ _ es)=>wrT n dst (.d (.atom (.int .i64 ((es.length - l.toNat:Nat):Int))))
  | _=>zt
 else zt
def vlH (n:Fr)(dst:TD)(sz r:Nat)(v:Value)(l:Int)(x:Operand):HM Unit:=y7 (opnd x) >>= λtx=>y7 (rdE r) >>= λe=>kG (tx=.d (.atom (V7 sz v l))/\JB n.pin r=some v)
  (match e.t with
  | .own (.osl _ _ es)=>eqA (.atom (.int .i64 ((es.length - l.toNat:Nat):Int))) >>= λy=>y7 (wrT n dst (.d y))
  | _=>zL)
open Classical in
def zoz (n:Fr)(dst:TD)(sz r:Nat)(v:Value)(l:Int)(x:Operand):Snd (vlO n dst sz r v l x) (vlH n dst sz r v l x):=by
 refine zh (zk _) λtx=>zh (zk _) λe=>we ?_;cases e.t with
 | own y=>
  cases y with
  | osl sz tg es=>exact Qq (zZ _ λy=>wrT n dst (.d y)).symm (zh (z2Z _) λ_=>zk _)
  | _=>exact zr _
 | _=>exact zr _
open Classical in
def Loc.vlO (n:Fr)(dst:TD)(sz r:Nat)(v:Value)(l:Int)(x:Operand):Loc (vlO n dst sz r v l x):=by
 unfold Go.Own.vlO;refine Loc.bind (Loc.opnd _) λ_=>Loc.bind (Loc.rdE _) λ_=>Loc.ite ?_ Loc.fail;split
 ·exact Loc.wrT _ _ _
 exact Loc.fail
def zlJ (hT:xW P tt)(h:Sim C S Fp [] st a w)  {t sz r:Nat}  {l:Int}{x:Operand}(hty:ul tt t=true)(ho:o.op=.call ⟨.builtin .len,⟨[x]⟩,⟨[t]⟩⟩)    (e0:vlO C.n o.dst sz r v l x st=some (u,R,U)):vB P C o a w (zi U st):=by
 unfold vlO at e0;have ⟨tx,_,hx,e1⟩:=bR (zF h) e0;have ⟨_,e4⟩:=bD e1;split at e4
 ·rename_i hc;obtain⟨rfl,c2⟩:=hc;have hs:=h.pin r v (uh c2);cases ht:(st r).t with
  | own y=>
   cases y with
   | osl sz' tg es=>
    simp[ht]at e4;have ⟨p,c,ev,hlc,_,_⟩:=z4s h ht;have hxv:=(zu.1 hx).1;have hvv:v=.slice p es.length c:=by rw[<-hs,ev]
    have ⟨el,he⟩:=ZU hT hty;have ⟨Fp',hs'⟩:=xM h e4 (x:=.d (.atom (.int .i64 ((es.length - l.toNat:Nat):Int)))) (zu.2 ⟨rfl,rfl⟩);refine zo ?_ hs';have ex:a.eval x=.slice (if c=l.toNat then p else p.map (·.add (l.toNat*sz))) (es.length - l.toNat) (c - l.toNat):=by rw[hxv,hvv];rfl
    simp[execOp,ho,resolve,invoke,builtin,Builtin.len_,run_underlying he,ex,goInt]
   | _=>simp[ht]at e4;cases e4
  | _=>simp[ht]at e4;cases e4
 cases e4
open Classical in
def viO (tt:TT)(n:Fr)(dst:TD)(ty sz r:Nat)(v:Value)(l:Int)(x i:Operand):SM Unit:=do
 let tx <-opnd x;let ti <-opnd i;let vi <-val ti;let e <-rdE r;match vi with
 | .atom (.int _ j)=>
  if tx=.d (.atom (V7 sz v l))/\JB n.pin r=some v then
   match e.t with
   | .own (.osl sz' _ es)=>if xD tt ty=some sz/\sz'=sz/\0<=l/\0<=j/\(l+j).toNat<es.length then wrT n dst (.ptr r [.idx (l+j).toNat] e.er e.ec) else zt
   | _=>zt
  else zt
 | _=>zt
def viH (tt:TT)(n:Fr)(dst:TD)(ty sz r:Nat)(v:Value)(l:Int)(x i:Operand):HM Unit:=y7 (opnd x) >>= λtx=>y7 (opnd i) >>= λti=>Jv ti >>= λvi=>y7 (rdE r) >>= λe=>
 match vi with
 | .atom (.int _ j)=>kG (tx=.d (.atom (V7 sz v l))/\JB n.pin r=some v)
   (match e.t with
   | .own (.osl sz' _ es)=>if xD tt ty=some sz/\sz'=sz then kG (0<=l/\0<=j/\(l+j).toNat<es.length) (y7 (wrT n dst (.ptr r [.idx (l+j).toNat] e.er e.ec))) else zL
   | _=>zL)
 | _=>zL
open Classical in
def zoA (tt:TT)(n:Fr)(dst:TD)(ty sz r:Nat)(v:Value)(l:Int)(x i:Operand):Snd (viO tt n dst ty sz r v l x i) (viH tt n dst ty sz r v l x i):=by
 refine zh (zk _) λtx=>zh (zk _) λti=>zh (kH _) λvi=>zh (zk _) λe=>?_;cases vi with
 | atom u=>
  cases u with
  | int k j=>
   refine we ?_;cases e.t with
   | own y=>
    cases y with
    | osl sz' tg es=>exact z0N (λh1 h2=>⟨h1.1,h1.2,h2.1,h2.2.1,h2.2.2⟩) (zk _)
    | _=>exact zr _
   | _=>exact zr _
  | _=>exact zr _
 | _=>exact zr _
open Classical in
def Loc.viO (tt:TT)(n:Fr)(dst:TD)(ty sz r:Nat)(v:Value)(l:Int)(x i:Operand):Loc (viO tt n dst ty sz r v l x i):=by
 unfold Go.Own.viO;refine Loc.bind (Loc.opnd _) λ_=>Loc.bind (Loc.opnd _) λ_=>Loc.bind (Loc.val _) λ_=>Loc.bind (Loc.rdE _) λ_=>?_;split
 ·refine Loc.ite ?_ Loc.fail;split
  ·exact Loc.ite (Loc.wrT _ _ _) Loc.fail
  exact Loc.fail
 exact Loc.fail
def zlK {P:Program}  (hT:xW P tt)(h:Sim C S Fp [] st a w){o:Oper}{t sz r:Nat}  {l:Int}{x i:Operand}(ho:o.op=.indexAddr t x i)    (e0:viO tt C.n o.dst t sz r v l x i st=some (u,R,U)):vB P C o a w (zi U st):=by
 unfold viO at e0;have ⟨tx,_,hx,e1⟩:=bR (zF h) e0;have ⟨ti,_,hi,e2⟩:=bR (zF h) e1;have ⟨vi,_,qi,e3⟩:=bR (vA h hi) e2;have ⟨_,e4⟩:=bD e3;split at e4
 ·rename_i k j;split at e4
  ·rename_i hc;obtain⟨rfl,c2⟩:=hc;have hs:=h.pin r v (uh c2);cases ht:(st r).t with
   | own y=>
    cases y with
    | osl sz' tg es=>
     simp only[ht]at e4;split at e4
     ·rename_i hd;obtain⟨d1,rfl,d3,d4,d5⟩:=hd;have hals:kJ w.heap st (Act.tv a) r [] (st r).er (st r).ec (Act.tv a r):=by refine⟨pi _,pi _,?_⟩;simp[ht]
      have ⟨b,c,ev,hp⟩:=zbX h hals ht rfl (.inl rfl) rfl d5;have ⟨e',he,hsz⟩:=wB hT d1 w;have hp':TOk S w.heap st (Act.tv a) (T.ptr r [YR.idx (l+j).toNat] (st r).er (st r).ec) (.pointer (some ⟨b,(l+j).toNat*sz',none⟩)):=hp;have ⟨Fp',hs'⟩:=xM h e4 hp';have ⟨ei,_⟩:=zu.1 qi;have hvv:v=.slice (some ⟨b,0,none⟩) es.length c:=by rw[<-hs,ev]
      have ⟨p2,c2',ev2,hlc,_,_⟩:=z4s h ht;have hcc:es.length<=c:=by rw[ev]at ev2;simp only[Value.slice.injEq]at ev2;rw[ev2.2.2];exact hlc
      have hxv:a.eval x=.slice (some ⟨b,l.toNat*sz',none⟩) (es.length - l.toNat) (c - l.toNat):=by
       rw[(zu.1 hx).1,hvv];have:¬c=l.toNat:=by omega
       simp[V7,this,Addr.add_lit]
      have hsum:(l+j).toNat=l.toNat+j.toNat:=by omega
      refine zo ?_ hs';have hrun:=Vo (P:=P) (b:=b) (o:=l.toNat*sz') (n:=es.length - l.toNat) (c:=c - l.toNat) (k:=k) he hsz d4 (by omega);have hoff:l.toNat*sz' + j.toNat*sz'=(l+j).toNat*sz':=by rw[hsum,gW]
      rw[hoff]at hrun;simp[execOp,ho,ei,hxv,hrun]
     cases e4
    | _=>simp only[ht]at e4;cases e4
   | _=>simp only[ht]at e4;cases e4
  cases e4
 cases e4
end
end Go.Own
end
