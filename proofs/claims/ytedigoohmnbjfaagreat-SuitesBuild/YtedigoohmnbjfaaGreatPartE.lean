/- -/
import Derived.Test.YtedigoohmnbjfaaGreatPartD
set_option linter.unusedVariables false
set_option linter.unusedSimpArgs false
namespace Go.Own
def poQ:Option A->Dpq
 | none=>{ holds:=λ_ v=>v=.pointer none,one:=λh=>by rw[h];rfl,mono:=λ_ h=>h }
 | some x=>{ holds:=λS v=>Rep S (.sptr x) [v],one:=λh=>h.one _ (pR.2 rfl),mono:=λk h=>h.mono k }
def ePo {α:Type}(f:α->A)(b:Option α):A:=.dop (poQ (b.map f))
def eIf (b:Nat)(n:Nat):A:=.atom (.iface (b+n) (.agg #[]))
section
variable {α:Type}
instance (b:Nat):Kz (eIf b) (eIf b):=⟨λ_=>rfl⟩
instance (b:Nat):kZ (eIf b):=⟨λx y e=>by injection e with e;injection e with e _;exact Nat.add_left_cancel e⟩
theorem poM {f:α->A}{b:Option α}{u:α}(h:b=some u)(S:zo)(v:Value)(q:wh S (ePo f b) v):wh S (.sptr (f u)) v:=by subst h;have q':Rep S (.sptr (f u)) [v]:=zcZ.1 q;exact qa.repV ⟨[v],q',rfl⟩
end
instance (x y:A)[h:LeA x y]:LeA (.sptr x) (.sptr y):={
 rep:=by intro S cs q;simp only[Rep]at q ⊢;obtain⟨b,o,l,rfl,r1,r2⟩:=q;exact⟨b,o,l,rfl,h.rep _ _ r1,r2⟩
 conc:=by
  intro S hh cs F q;have q':Rep S (.sptr x) cs/\F=[]:=by simpa only[zU] using q
  have:Rep S (.sptr y) cs/\F=[]:=by refine⟨?_,q'.2⟩;have q1:=q'.1;simp only[Rep]at q1 ⊢;obtain⟨b,o,l,rfl,r1,r2⟩:=q1;exact⟨b,o,l,rfl,h.rep _ _ r1,r2⟩
  simpa only[zU] using this
 val:=λcs=>rfl
 tup:=λfs h=>nomatch h }
instance (x y:A)[h:LeA x y]:LeA (.sptr x) (.dop (poQ (some y))):={
 rep:=by
  intro S cs q;have q2:=(inferInstance:LeA (.sptr x) (.sptr y)).rep S cs q;have:∃v,cs=[v]:=by simp only[Rep]at q;obtain⟨b,o,l,rfl,_⟩:=q;exact⟨_,rfl⟩
  obtain⟨v,rfl⟩:=this;exact z12.2 ⟨v,rfl,q2⟩
 conc:=by
  intro S hh cs F q;have q':Rep S (.sptr x) cs/\F=[]:=by simpa only[zU] using q
  have:∃v,cs=[v]:=by have q1:=q'.1;simp only[Rep]at q1;obtain⟨b,o,l,rfl,_⟩:=q1;exact⟨_,rfl⟩
  obtain⟨v,rfl⟩:=this;have:Rep S (.dop (poQ (some y))) [v]/\F=[]:=⟨z12.2 ⟨v,rfl,(inferInstance:LeA (.sptr x) (.sptr y)).rep S [v] q'.1⟩,q'.2⟩;simpa only[zU] using this
 val:=λcs=>rfl
 tup:=λfs h=>nomatch h }
instance:LeA (.atom (.pointer none)) (.dop (poQ none)):={
 rep:=by intro S cs q;simp only[Rep]at q;exact z12.2 ⟨_,q.1,rfl⟩
 conc:=by
  intro S hh cs F q;have q':Rep S (.atom (.pointer none)) cs/\F=[]:=by simpa only[zU] using q
  have q1:=q'.1;simp only[Rep]at q1;have:Rep S (.dop (poQ none)) cs/\F=[]:=⟨z12.2 ⟨_,q1.1,rfl⟩,q'.2⟩;simpa only[zU] using this
 val:=λcs=>rfl
 tup:=λfs h=>nomatch h }
variable {P:Program}
theorem V5.le {k:Nat}{ls:List A}{r r':A}(h:V5 P k ls r)(e:LeV r r'):V5 P k ls r' :=
 ⟨h.1,λS w vs F h1 h2 h3=>Calls.mono (h.2 S w vs F h1 h2 h3) λ_ _ ⟨v,S',F',g1,g2,g3,g4,g5,g6,g7⟩=>⟨v,S',F',g1,g2,g3,g4,g5,e.has _ _ _ _ g6,g7⟩⟩
def ifcO (n:Fr)(dst:Option Nat)(T:Nat)(x:Operand):SM Unit:=do
 let tx <-opnd x;let vx <-val tx;match vx with
 | .agg []=>wrT n dst (.d (.atom (.iface T (.agg #[]))))
 | _=>zu
def zBr (n:Fr)(dst:Option Nat)(T:Nat)(x:Operand):HM Unit:=yg (opnd x) >>= λtx=>z4f tx >>= λvx=>
 yg (match vx with
 | .agg []=>wrT n dst (.d (.atom (.iface T (.agg #[]))))
 | _=>zu)
theorem zzj (n:Fr)(dst:Option Nat)(T:Nat)(x:Operand):Snd (ifcO n dst T x) (zBr n dst T x) :=
 zj (zn _) λ_=>zj (W1 _) λ_=>zn _
theorem Loc.ifcO (n:Fr)(dst:Option Nat)(T:Nat)(x:Operand):Loc (ifcO n dst T x):=by
 unfold Go.Own.ifcO;refine Loc.bind (Loc.opnd _) λ_=>Loc.bind (Loc.val _) λ_=>?_;split
 ·exact Loc.wrT _ _ _
 ·exact Loc.fail
variable {U:List (Nat×Ent)}{fs:Array Field}{R:List Nat}{st:St}{x:Operand}
theorem zvR {C:Ctx}{S:zo}{Fp:Nat->List Nat}  {a:Act}{w:World}  {T:Nat}  (hf:P.underlying T=some (.struct fs))(h:Sim C S Fp [] st a w){o:Oper}{x:Operand}(ho:o.op=.makeInterface T x){u:Unit}   (e0:ifcO C.n o.dst T x st=some (u,R,U)):qO P C o a w (zh U st):=by
 unfold ifcO at e0;obtain⟨tx,R1,U1,R2,U2,h1,e1,rfl,rfl⟩:=bind_some e0;obtain⟨rfl,hx⟩:=zK h h1;obtain⟨vx,R3,U3,R4,U4,h3,e2,rfl,rfl⟩:=bind_some e1;obtain⟨rfl,qx⟩:=jD h hx h3;simp only[zh,p9]at e2 ⊢;split at e2
 ·obtain⟨cs,r1,r2⟩:=(qx:qa S (.agg []) (a.eval x));simp only[Rep]at r1;have hv:a.eval x=.agg #[]:=by have hc:cs=[]:=r1;subst hc;exact r2
  obtain⟨Fp',hs⟩:=wP h e2 (x:=.d (.atom (.iface T (.agg #[])))) (qa.repV (xY.2 ⟨rfl,rfl⟩));refine zr ?_ hs;simp only[execOp,ho,hv];simp[Instr.makeInterface,run_underlying hf]
 ·exact(z7 e2).elim
def zvN (d T:Nat)(o:Oper):Option Operand:=match o.op with|.makeInterface t x=>if o.dst=some d then(if t=T then some x else none) else none|_=>none
noncomputable def zqI (P:Program)(d T:Nat)  (hf:P.underlying T=some (.struct fs)):XH P :=
 xAt P (zvN d T) (λn o x=>ifcO n o.dst T x) (λn o x=>zBr n o.dst T x)
  (by
   intro C S Fp st a w o x hp h u R U e;unfold zvN at hp;split at hp
   ·rename_i t y ho;have hp2:=z8d hp;split at hp2
    ·rename_i ht;subst ht;cases hp2;exact zvR hf h ho e
    ·cases hp2
   ·cases hp)
  (λn o x=>Loc.ifcO _ _ _ _) (λn o x=>zzj _ _ _ _)
def zzs (x:Operand):SM A:=do
 let tx <-opnd x
 val tx
def zvk (x:Operand):HM A:=yg (opnd x) >>= λtx=>z4f tx
theorem zzf (x:Operand):Snd (zzs x) (zvk x):=zj (zn _) λ_=>W1 _
variable {v:Value}
theorem zvj {n:Fr}{T:Nat}  {o:Oper}   (ho:o.op=.panic x)   (e:zzs x st=some (.atom (.iface T v),R,U)):zmp P n o st (XG (.iface T v)):=by
 intro C S Fp a w hC h rd m K Q hQ;subst hC;unfold zzs at e;obtain⟨tx,R1,U1,R2,U2,h1,e1,rfl,rfl⟩:=bind_some e;obtain⟨rfl,hx⟩:=zK h h1;obtain⟨rfl,qx⟩:=jD h hx e1;have hv:a.eval x=.iface T v:=(zD.1 qx.repV).1;refine⟨λ_ _=>trivial,?_⟩;have hexec:(execOp a.eval o).run P w=.halt (.panic (.iface T v)) w:=by simp only[execOp,ho,hv];rfl
 rw[Oper.semAt_eq _ _ _ (λc hc=>by rw[ho]at hc;cases hc),hexec,Oper.uponIn_panic];exact hQ _ _ _ _ h
def zvl (o:Oper):Option Operand :=
 match o.guard with
 | some _=>none
 | none=>
  match o.op with
  | .panic x=>some x
  | _=>none
def zzt (X:XH P)(tt:TT)(ctr:Ctr)(n:Fr)(c:Code)(i:Nat)(st:St)(hs:List H):Option (A×List Prop) :=
 match regOf c with
 | none=>none
 | some ops=>
  match zit X tt ctr n ops (ops.toList.take i) st hs with
  | none=>none
  | some (st1,hs1,ob,_)=>
   match ops.toList.drop i with
   | []=>none
   | o::_=>
    match zvl o with
    | none=>none
    | some x=>
     match zvk x st1 hs1 with
     | none=>none
     | some (y,_,_,_,ob')=>some (y,ob++ob')
theorem yP6 {tt:TT}{ctr:Ctr}{n:Fr}{Q:Exit->St->Prop}(X:XH P)(hT:wy P tt)(hC:zF P ctr){c:Code}{fs:List Fm}{st:St}(i:Nat){T:Nat}{v:Value}(Lh:List HO)
  (e:zzt X tt ctr n c i st (hoH Lh)=some (.atom (.iface T v),hoO Lh)) (hQ:∀st',Q (.panic (XG (.iface T v))) st'):AWP P n c st (Qf P n fs Q):=by
 unfold zzt at e;split at e
 ·cases e
 rename_i ops hr;split at e
 ·cases e
 rename_i st1 hs1 ob lg h1;split at e
 ·cases e
 rename_i o l2 h2;split at e
 ·cases e
 rename_i x h3;split at e
 ·cases e
 rename_i y R U hs2 ob' h4;simp only[Option.some.injEq,Prod.mk.injEq]at e;obtain⟨rfl,ho⟩:=e;have hall:z8X (hoO Lh):=by rw[z2K];exact zbZ _
 rw[<-ho]at hall;obtain⟨o1,o2⟩:=xw hall;refine AWP.regOf hr (ch:=XG (.iface T v)) (λid Q' hQ'=>?_) (λst'=>z3e fs (hQ st'));unfold zvl at h3;split at h3
 ·cases h3
 rename_i hg;split at h3
 ·rename_i x0 hop;cases h3;refine AWP.regDie hT (hC.withE X.ok) (l1:=ops.toList.take i) (l2:=l2) (o:=o) (by rw[<-h2,mD]) hg (z8N _ _ _ h1 o1 ?_) hQ';exact zvj hop (zzf _ _ _ _ _ _ _ _ h4 o2)
 ·cases h3
end Go.Own
