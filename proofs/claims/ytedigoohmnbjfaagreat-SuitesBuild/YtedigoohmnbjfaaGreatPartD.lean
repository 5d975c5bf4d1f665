/- -/
import Derived.Test.YtedigoohmnbjfaaGreatPartC
import Derived.Shelf.SlSortCmp.NoneTotal
import Derived.Laws.BytesString
noncomputable section
set_option linter.unusedVariables false
set_option linter.unusedSimpArgs false
namespace Go.Own
open Classical
def KY (S:zo)(h:Array Obj):List (Option A)->List Value->List Nat->Prop
 | [],[],F=>F=[]
 | none::ys,_::vs,F=>KY S h ys vs F
 | some y::ys,v::vs,F=>∃F1 F2,F=F2++F1/\Has S h y v F1/\KY S h ys vs F2
 | _,_,_=>False
theorem KY.frame {S S':zo}{h h':Array Obj}(hS:∀b o u,S b o=some u->S' b o=some u):∀{ys:List (Option A)} {vs:List Value} {F:List Nat},KY S h ys vs F->(∀k∈F,h'[k]?=h[k]?/\∀o,S' k o=none)->KY S' h' ys vs F
 | [],[],_,q,_=>q
 | none::ys,_::vs,F,q,hF=>KY.frame (ys:=ys) (vs:=vs) (F:=F) hS q hF
 | some _::_,_::_,_,⟨F1,F2,e,q1,q2⟩,hF=>⟨F1,F2,e,q1.frame hS (λk hk=>hF k (by rw[e];simp[hk])),KY.frame hS q2 (λk hk=>hF k (by rw[e];simp[hk]))⟩
 | [],_::_,_,q,_=>q.elim
 | none::_,[],_,q,_=>q.elim
 | some _::_,[],_,q,_=>q.elim
variable {S:zo}{h:Array Obj}
theorem KY.own:∀{ys:List (Option A)} {vs:List Value} {F:List Nat},KY S h ys vs F->∀k∈F,k<h.size/\∀o,S k o=none
 | [],[],F,q,k,hk=>by have e:F=[]:=q;subst e;simp at hk
 | none::ys,_::vs,F,q,k,hk=>KY.own (ys:=ys) (vs:=vs) (F:=F) q k hk
 | some _::_,_::_,F,⟨F1,F2,e,q1,q2⟩,k,hk=>by
  subst e;rcases pA.1 hk with hk|hk
  ·exact KY.own q2 k hk
  ·exact q1.own k hk
 | [],_::_,_,q,_,_=>q.elim
 | none::_,[],_,q,_,_=>q.elim
 | some _::_,[],_,q,_,_=>q.elim
theorem KY.of:∀{ys:List A} {vs:List Value} {F:List Nat},QI S h ys vs F->KY S h (ys.map some) vs F
 | [],[],_,q=>q
 | _::_,_::_,_,⟨F1,F2,e,q1,q2⟩=>⟨F1,F2,e,q1,KY.of q2⟩
 | [],_::_,_,q=>q.elim
 | _::_,[],_,q=>q.elim
theorem KY.at:∀{ys:List (Option A)} {vs:List Value} {F:List Nat} {i:Nat} {y:A},KY S h ys vs F->ys[i]?=some (some y) ->
  ∃v F1 F2,vs[i]?=some v/\Has S h y v F1/\KY S h (ys.set i none) vs F2/\(∀k,k∈F↔k∈F1\/k∈F2)/\(F.Nodup->F1.Nodup/\F2.Nodup/\∀k∈F1,k∉F2)
 | [],[],_,_,_,_,e=>by simp at e
 | none::ys,v::vs,F,0,y,q,e=>by simp at e
 | none::ys,v::vs,F,i+1,y,q,e=>by obtain⟨u,F1,F2,h1,h2,h3,h4,h5⟩:=KY.at (ys:=ys) (vs:=vs) (F:=F) q (by simpa using e);exact⟨u,F1,F2,by simpa using h1,h2,h3,h4,h5⟩
 | some z::ys,v::vs,F,0,y,⟨F1,F2,e1,q1,q2⟩,e=>by simp only[rA,Option.some.injEq]at e;subst e e1;refine⟨v,F1,F2,rfl,q1,q2,λk=>by rw[pA];exact or_comm,λhn=>?_⟩;rw[pM]at hn;exact⟨hn.2.1,hn.1,λk hk hk'=>hn.2.2 k hk' k hk rfl⟩
 | some z::ys,v::vs,F,i+1,y,⟨F1,F2,e1,q1,q2⟩,e=>by
  obtain⟨u,G1,G2,h1,h2,h3,h4,h5⟩:=KY.at q2 (by simpa using e);subst e1;refine⟨u,G1,G2++F1,by simpa using h1,h2,⟨F1,G2,rfl,q1,h3⟩,λk=>by simp only[pA,h4 k,or_assoc],λhn=>?_⟩;rw[pM]at hn;obtain⟨n1,n2,n3⟩:=h5 hn.1;refine⟨n1,?_,?_⟩
  ·rw[pM];exact⟨n2,hn.2.1,λk hk k' hk'=>hn.2.2 k ((h4 k).2 (.inr hk)) k' hk'⟩
  ·intro k hk hk';rcases pA.1 hk' with hk'|hk'
   ·exact n3 k hk hk'
   ·exact hn.2.2 k ((h4 k).2 (.inl hk)) k hk' rfl
 | [],_::_,_,_,_,q,_=>q.elim
 | none::_,[],_,_,_,q,_=>q.elim
 | some _::_,[],_,_,_,q,_=>q.elim
def zgT (xs:List (Option A)):Opq:={
 holds:=λS h v F=>∃vs:List Value,v=.tuple vs.toArray/\KY S h xs vs F
 multi:=true
 one:=λ⟨vs,e,_⟩=>.inr ⟨rfl,_,e⟩
 frame:=λhS hF ⟨vs,e,q⟩=>⟨vs,e,q.frame hS hF⟩
 own:=λ⟨_,_,q⟩=>q.own
 idx:=0 }
def zkG:A->Bool
 | .tup _=>false
 | _=>true
variable {U:List (Nat×Ent)}{R:List Nat}{o:Oper}{u:Unit}{x:Operand}
section
variable {P:Program}{C:Ctx}{S:zo}{Fp:Nat->List Nat}{X:List Nat}{st:St}{a:Act}{w:World}
def zpi (n:Fr)(dst:Option Nat)(xs:List (Option A))(r:Nat)(e:Ent)(i:Nat):SM Unit :=
 match xs[i]? with
 | some (some y)=>
  if y.isD=true then wrT n dst (.d y)
  else if zkG y=true then do
   wrE r ⟨.own (.opq (zgT (xs.set i none))),e.er,e.ec+1⟩
   wrT n dst (.own y)
  else zu
 | _=>zu
def zpk (n:Fr)(dst:Option Nat)(xs:List (Option A))(x:Operand)(i:Nat):SM Unit:=do
 let tx <-opnd x;match tx with
 | .als r [] er ec=>do
  let e <-rdE r
  if e.t=.own (.opq (zgT xs))/\e.er=er then zpi n dst xs r e i
  else zu
 | _=>zu
theorem zpj (h:Sim C S Fp [] st a w)  {xs:List (Option A)}{x:Operand}{i:Nat}(ho:o.op=.extract x i)    (e:zpk C.n o.dst xs x i st=some (u,R,U)):qO P C o a w (zh U st):=by
 unfold zpk at e;obtain⟨tx,R1,U1,R2,U2,h1,e1,rfl,rfl⟩:=bind_some e;obtain⟨rfl,hx⟩:=zK h h1;simp only[zh,p9]at e1 ⊢;split at e1
 ·rename_i r er ec;obtain⟨en,R3,U3,R4,U4,h3,e2,rfl,rfl⟩:=bind_some e1;obtain⟨rfl,rfl,rfl⟩:=yl h3;simp only[zh,p9]at e2 ⊢;split at e2
  ·rename_i hc;obtain⟨c1,c2⟩:=hc;have hr:=h.ent r;unfold wv at hr;simp only[c1]at hr;obtain⟨cs,k1,k2,k3⟩:=hr;simp only[zU]at k1;obtain⟨v0,rfl,vs,rfl,g1⟩:=k1;have hev:a.eval x=.tuple vs.toArray:=by
    have:=hx.2.2;simp only[c1]at this;rcases this c2 (.inl trivial) with⟨_,q⟩|⟨q,_⟩
    ·rw[q,k3];rfl
    ·simp[z2C]at q
   unfold zpi at e2;cases hy0:xs[i]? with
   | none=>simp only[hy0]at e2;exact(z7 e2).elim
   | some yo=>
   cases yo with
   | none=>simp only[hy0]at e2;exact(z7 e2).elim
   | some y=>
    simp only[hy0]at e2;have hy:xs[i]?=some (some y):=hy0;obtain⟨v,F1,F2,m1,m2,m3,m4,m5⟩:=g1.at hy;obtain⟨n1,n2,n3⟩:=m5 k2;have run:(execOp a.eval o).run P w=.ok (.value v) w:=by simp[execOp,ho,hev,Instr.extract,m1]
    split at e2
    ·rename_i hd;obtain⟨q1,_⟩:=zhK hd m2;obtain⟨Fp',hs⟩:=wP h e2 (x:=.d y) q1.repV;exact zr run hs
    ·split at e2
     ·rename_i hnt;obtain⟨u5,R5,U5,R6,U6,h5,h6,rfl,rfl⟩:=bind_some e2;obtain⟨rfl,rfl⟩:=wO h5;obtain⟨cs,c3,c4,c5⟩:=m2.cells (by rintro fs rfl;cases hnt);have h2:Sim C S (z2j Fp r F2) (F1++[]) (upd st r ⟨.own (.opq (zgT (xs.set i none))),(st r).er,(st r).ec+1⟩) a w:=by
       refine h.change r (.own (.opq (zgT (xs.set i none)))) _ _ F2 h.below (λ_ _ _ q=>q) h.still.cell h.sbase (λt k _ hk=>⟨rfl,(h.free t k hk).2.1⟩) ⟨⟨[.tuple vs.toArray],?_,n2,k3⟩,_,c1⟩ (.inl ⟨_,c1⟩) (pC _) (gB _) ?_ ?_ (by simpa using n1) ?_ ?_ ?_
       ·simp only[zU];exact⟨_,rfl,vs,rfl,m3⟩
       ·intro t k ht hk hk';exact ht (h.disj t r k hk' ((m4 k).2 (.inr hk)))
       ·intro k hk;exact h.base r k ((m4 k).2 (.inr hk))
       ·intro t k ht hk hk';exact ht (h.disj t r k hk' ((m4 k).2 (.inl (by simpa using hk))))
       ·intro k hk;exact n3 k (by simpa using hk)
       ·intro k hk;exact h.base r k ((m4 k).2 (.inl (by simpa using hk)))
      simp only[zh]at h6 ⊢;obtain⟨Fp',hs⟩:=Kc h2 h6 c3 c4;subst c5;exact zr run hs
     ·exact(z7 e2).elim
  ·exact(z7 e2).elim
 ·exact(z7 e1).elim
end
def zw0 (n:Fr)(dst:Option Nat)(xs:List (Option A))(x:Operand)(i:Nat):HM Unit:=yg (opnd x) >>= λtx=>
 match tx with
 | .als r [] er ec=>yg (rdE r) >>= λe=>XW (e.t=.own (.opq (zgT xs))/\e.er=er) (yg (zpi n dst xs r e i))
 | _=>zV
theorem zv5 (n:Fr)(dst:Option Nat)(xs:List (Option A))(x:Operand)(i:Nat):Snd (zpk n dst xs x i) (zw0 n dst xs x i):=by
 refine zj (zn _) λtx=>?_;cases tx with
 | als r p er ec=>
  cases p with
  | nil=>exact zj (zn _) λe=>vL (zn _)
  | cons _ _=>exact zw _
 | _=>exact zw _
def ztQ (P:Program)(d:Nat)(xs:List (Option A)):XH P:={
 e:=λn o=>match o.op with|.extract x i=>if o.dst=some d then some (zpk n o.dst xs x i) else none|_=>none
 h:=λn o=>match o.op with|.extract x i=>if o.dst=some d then some (zw0 n o.dst xs x i) else none|_=>none
 ok:=by
  refine⟨?_,?_⟩
  ·intro C S Fp st a w o m u R U e h h2;dsimp only at e;split at e
   ·rename_i x i ho;split at e
    ·cases e;exact zpj h ho h2
    ·cases e
   ·cases e
  ·intro n o m e;dsimp only at e;split at e
   ·split at e
    ·cases e;refine Loc.bind (Loc.opnd _) λtx=>?_;split
     ·refine Loc.bind (Loc.rdE _) λ_=>Loc.ite ?_ Loc.fail;unfold zpi;split
      ·exact Loc.ite (Loc.wrT _ _ _) (Loc.ite (Loc.bind (Loc.wrE _ _) λ_=>Loc.wrT _ _ _) Loc.fail)
      ·exact Loc.fail
     ·exact Loc.fail
    ·cases e
   ·cases e
 none:=by
  intro n o e
  skip
  split at e
  ·split at e
   ·cases e
   ·rename_i hd;rw[if_neg hd]
  ·rfl
 some:=by
  intro n o m e
  skip
  split at e
  ·split at e
   ·rename_i hd;cases e;exact⟨_,by rw[if_pos hd],zv5 _ _ _ _ _⟩
   ·cases e
  ·cases e }
def zdg (tt:TT)(x:T)(c:Option Nat):Option A :=
 match x,c with
 | .own y,none=>if zkG y=true then some y else none
 | .own (.box y),some ty=>if Ym tt ty y=true then some y else none
 | _,_=>none
def zyJ (tt:TT)(g:Bool)(t:Nat)(c:Option Nat):SM A :=
 if g=true then do
  let e <-rdE t;let x <-ofO (zdg tt e.t c)
  wrE t ⟨.gone,e.er+1,e.ec+1⟩
  pure x
 else do
  let xs <-shutArgs tt [(.tmp t,0)];match c,xs with
  | none,[x]=>pure x
  | some ty,[.sptr y]=>if Ym tt ty y=true then pure y else zu
  | _,_=>zu
def zkb (tt:TT):List (Bool×Nat×Option Nat)->SM (List A)
 | []=>pure []
 |(g,t,c)::rs=>do
  let x <-zyJ tt g t c;let xs <-zkb tt rs
  pure (x::xs)
def zrJ (tt:TT)(rs:List (Bool×Nat×Option Nat)):SM A:=do
 let xs <-zkb tt rs;match xs with
 | [y]=>pure y
 | ys=>pure (.opq (zgT (ys.map some)))
variable {tt:TT}{Fp:Nat->List Nat}{st:St}{rs:List (Bool×Nat×Option Nat)}{fn:Func}{t:Nat}
section
variable {P:Program}{C:Ctx}{a:Act}{w:World}
def zcj (P:Program)(a:Act)(w:World)(r:ResultVar)(v:Value):Prop:=((λr:ResultVar=>match r with|.tmp t=>(pure (a.tmps.getD t undef):Sem Value)|.cell b t=>do loadVar t (<-asAddr (a.tmps.getD b undef))) r).run P w=.ok v w
theorem zrM (hT:wy P tt)   {X:List Nat}  (h:Sim C S Fp X st a w){g:Bool}  {c:Option Nat}{x:A}   (e:zyJ tt g t c st=some (x,R,U)) :
  ∃S' Fp' F v,Sim C S' Fp' (F++X) (zh U st) a w/\(∀b o u,S b o=some u->S' b o=some u)/\(∀k∈X,∀o,S k o=none->S' k o=none)/\Has S' w.heap x v F/\zcj P a w (ze6 (t,c)) v:=by
 unfold zyJ at e;split at e
 ·obtain⟨en,R1,U1,R2,U2,h1,e1,rfl,rfl⟩:=bind_some e;obtain⟨rfl,rfl,rfl⟩:=yl h1;simp only[zh,p9]at e1 ⊢;obtain⟨x0,R3,U3,R4,U4,h3,e2,rfl,rfl⟩:=bind_some e1;obtain⟨hk,rfl,rfl⟩:=kQ h3;simp only[zh,p9]at e2 ⊢;obtain⟨u5,R5,U5,R6,U6,h5,h6,rfl,rfl⟩:=bind_some e2;obtain⟨rfl,rfl⟩:=wO h5;obtain⟨rfl,rfl,rfl⟩:=zy h6;have hr:=h.ent t;unfold wv at hr;have fin:∀F',(∃y,(st t).t=.own y)->F'.Nodup->(∀k∈F',k∈Fp t)->Sim C S (z2j Fp t []) (F' ++ X) (upd st t ⟨.gone,(st t).er+1,(st t).ec+1⟩) a w:=by
   intro F' ho hn hmem;refine h.change t .gone _ _ [] h.below (λ_ _ _ q=>q) h.still.cell h.sbase (λt' k _ hk=>⟨rfl,(h.free t' k hk).2.1⟩) rfl (.inl ho) (Nat.le_succ _) (gB _) (by simp) (by simp) ?_ ?_ (by simp) ?_
   ·rw[pM];refine⟨hn,h.xn,?_⟩;rintro m hm m' hm' rfl;exact h.xd t m hm' (hmem m hm)
   ·intro t' k ht' hk;rcases pA.1 hk with hk|hk
    ·exact λhk'=>ht' (h.disj t' t k hk' (hmem k hk))
    ·exact h.xd t' k hk
   ·intro k hk;rcases pA.1 hk with hk|hk
    ·exact h.base t k (hmem k hk)
    ·exact h.xb k hk
  cases ht:(st t).t with
  | own z=>
   simp only[ht]at hr hk;obtain⟨cs,c1,c2,c3⟩:=hr;cases c with
   | none=>
    have hz:x=z:=by cases z <;> simp only[zdg,zkG]at hk <;> simpa using hk.symm
    subst hz;refine⟨S,z2j Fp t [],Fp t,Act.tv a t,by simpa[zh] using fin (Fp t) ⟨_,ht⟩ c2 (λ_ h=>h),λ_ _ _ q=>q,λ_ _ _ q=>q,.inr ⟨cs,c1,c2,c3⟩,?_⟩;simp only[zcj,ze6];exact Sem.run_pure ..
   | some ty=>
    cases z with
    | box y=>
     simp only[zdg]at hk;split at hk
     ·rename_i hf;simp only[Option.some.injEq]at hk;subst hk;simp only[zU]at c1;obtain⟨b,bty,l,F',rfl,d1,d2,d3,d4⟩:=c1;have hn2:(b::F').Nodup:=d3 ▸ c2;refine⟨S,z2j Fp t [],F',y8 y l,by simpa[zh] using fin F' ⟨_,ht⟩ (pY.1 hn2).2 (λk hk=>by rw[d3];simp[hk]),λ_ _ _ q=>q,λ_ _ _ q=>q,.inr ⟨l,d2,(pY.1 hn2).2,rfl⟩,?_⟩;have hv:a.tmps.getD t undef=.pointer (some ⟨b,0,none⟩):=c3;simp only[zcj,ze6];rw[hv];simp only[asAddr,Sem.run_bind,Sem.run_pure,Result.andThen_ok];refine Vr hT hf d2.len ?_;intro j u hj;simp only[yj,d1,gN];simpa using hj
     ·cases hk
    | _=>simp only[zdg]at hk;cases hk
  | d _=>simp only[ht,zdg]at hk;cases hk
  | gone=>simp only[ht,zdg]at hk;cases hk
  | als _ _ _ _=>simp only[ht,zdg]at hk;cases hk
  | ptr _ _ _ _=>simp only[ht,zdg]at hk;cases hk
 ·obtain⟨xs,R1,U1,R2,U2,h1,e1,rfl,rfl⟩:=bind_some e;obtain⟨S1,Fp1,g1,g2,g3,g4⟩:=vV h h1;split at e1
  ·obtain⟨rfl,rfl,rfl⟩:=zy e1;refine⟨S1,Fp1,[],Act.tv a t,by simpa using g1,g2,g3,.inl ⟨g4.1.repV,rfl⟩,?_⟩;simp only[zcj,ze6];exact Sem.run_pure ..
  ·rename_i ty y;split at e1
   ·rename_i hf;obtain⟨rfl,rfl,rfl⟩:=zy e1;obtain⟨cs,q1,q2⟩:=g4.1;simp only[Rep]at q1;obtain⟨b,o,l,rfl,r1,r2⟩:=q1;refine⟨S1,Fp1,[],y8 x l,by simpa using g1,g2,g3,.inl ⟨qa.repV ⟨l,r1,rfl⟩,rfl⟩,?_⟩;have hv:a.tmps.getD t undef=.pointer (some ⟨b,o,none⟩):=q2;simp only[zcj,ze6];rw[hv];simp only[asAddr,Sem.run_bind,Sem.run_pure,Result.andThen_ok];exact Vr hT hf r1.len (λj u hj=>g1.still _ _ _ (r2 j u hj))
   ·exact(z7 e1).elim
  ·exact(z7 e1).elim
theorem zhf (hT:wy P tt):∀{rs:List (Bool×Nat×Option Nat)} {S:zo} {Fp:Nat->List Nat} {X:List Nat} {st:St},Sim C S Fp X st a w->∀{xs:List A} {R:List Nat} {U:List (Nat×Ent)},zkb tt rs st=some (xs,R,U) ->
  ∃S' Fp' G vs,Sim C S' Fp' (G++X) (zh U st) a w/\(∀b o u,S b o=some u->S' b o=some u)/\(∀k∈X,∀o,S k o=none->S' k o=none)/\QI S' w.heap xs vs G/\UR (zcj P a w) (rs.map λr=>ze6 r.2) vs
 | [],S,Fp,X,st,h,xs,R,U,e=>by obtain⟨rfl,rfl,rfl⟩:=zy e;exact⟨S,Fp,[],[],h,λ_ _ _ h=>h,λ_ _ _ h=>h,rfl,trivial⟩
 |(g,t,c)::rs,S,Fp,X,st,h,xs,R,U,e=>by simp only[zkb]at e;obtain⟨y,R1,U1,R2,U2,h1,e1,rfl,rfl⟩:=bind_some e;obtain⟨ys,R3,U3,R4,U4,h3,e2,rfl,rfl⟩:=bind_some e1;obtain⟨S1,Fp1,F,v,g1,g2,g3,g4,g5⟩:=zrM hT h h1;obtain⟨S2,Fp2,G,vs,k1,k2,k3,k4,k5⟩:=zhf hT g1 h3;obtain⟨rfl,rfl,rfl⟩:=zy e2;refine⟨S2,Fp2,G++F,v::vs,?_,λb o u hs=>k2 b o u (g2 b o u hs),λk hk o hn=>k3 k (by simp[hk]) o (g3 k hk o hn),⟨F,G,rfl,g4.grow k2 (λk hk o hn=>k3 k (by simp[hk]) o hn),k4⟩,g5,k5⟩;rw[hU,zB,pL];exact k1
theorem zrI (hT:wy P tt)   (hr:fn.results=(rs.map λr=>ze6 r.2).toArray)    (h:Sim C S Fp [] st a w){x:A}   (e:zrJ tt rs st=some (x,R,U)) :
  ∃v S' F',(results fn a.tmps).run P w=.ok v w/\(∀b o u,S b o=some u->S' b o=some u)/\(∀b o,¬C.M b->S' b o=C.S0 b o)/\xu S' w/\Has S' w.heap x v F'/\F'.Nodup/\∀k∈F',C.M k:=by
 unfold zrJ at e;obtain⟨xs,R1,U1,R2,U2,h1,e1,rfl,rfl⟩:=bind_some e;obtain⟨S1,Fp1,G,vs,g1,g2,_,g3,g4⟩:=zhf hT h h1;have hrun:(results fn a.tmps).run P w=.ok (if h:vs.toArray.size=1 then vs.toArray[0] else .tuple vs.toArray) w:=by unfold results;rw[hr,Array.mapM_eq_foldlM,List.foldlM_toArray,Sem.run_bind];have:=z0Z (P:=P) (w:=w) _ _ vs #[] g4;rw[nL]at this;exact(congrArg (λr=>Result.andThen r (λq w'=>Sem.run P (pure (if h:q.size=1 then q[0] else Value.tuple q)) w')) this).trans rfl
 have hn:G.Nodup:=by have:=g1.xn;simpa using this
 have hM:∀k∈G,C.M k:=λk hk=>g1.xb k (by simp[hk]);have many:∀ys:List A,QI S1 w.heap ys vs G->ys.length≠1->Has S1 w.heap (.opq (zgT (ys.map some))) (.tuple vs.toArray) G/\vs.length≠1:=by intro ys q hl;refine⟨.inr ⟨[.tuple vs.toArray],?_,hn,rfl⟩,by rw[<-q.nil];exact hl⟩;simp only[zU];exact⟨_,rfl,vs,rfl,KY.of q⟩
 split at e1
 ·obtain⟨rfl,rfl,rfl⟩:=zy e1;rcases vs with _|⟨v,_|⟨v2,l⟩⟩
  ·exact g3.elim
  ·obtain⟨F1,F2,rfl,q1,q2⟩:=g3;have e2:F2=[]:=q2;subst e2;exact⟨v,S1,F1,hrun,g2,g1.sbase,g1.still,q1,by simpa using hn,by simpa using hM⟩
  ·obtain⟨F1,F2,rfl,q1,q2⟩:=g3;exact q2.elim
 ·rename_i hne;obtain⟨rfl,rfl,rfl⟩:=zy e1;obtain⟨m1,m2⟩:=many _ g3 (by intro hl;obtain⟨y,hy⟩:=mG.1 hl;exact hne y hy)
  rw[dif_neg (by simpa using m2)]at hrun;exact⟨_,S1,G,hrun,g2,g1.sbase,g1.still,m1,hn,hM⟩
end
def zva (tt:TT)(g:Bool)(t:Nat)(c:Option Nat):HM A :=
 if g=true then yg (rdE t >>= λe=>ofO (zdg tt e.t c) >>= λx=>wrE t ⟨.gone,e.er+1,e.ec+1⟩ >>= λ_=>pure x)
 else Ya tt [(.tmp t,0)] >>= λxs=>
  match c,xs with
  | none,[x]=>pure x
  | some ty,[.sptr y]=>if Ym tt ty y=true then pure y else zV
  | _,_=>zV
theorem zv0 (tt:TT)(g:Bool)(t:Nat)(c:Option Nat):Snd (zyJ tt g t c) (zva tt g t c):=by
 refine jP (zn _) (zj (XR _ _) λxs=>?_);split
 ·exact vw _
 ·exact jP (vw _) (zw _)
 ·exact zw _
def zka (tt:TT):List (Bool×Nat×Option Nat)->HM (List A)
 | []=>pure []
 |(g,t,c)::rs=>zva tt g t c >>= λx=>zka tt rs >>= λxs=>pure (x::xs)
theorem zjW (tt:TT):∀rs,Snd (zkb tt rs) (zka tt rs)
 | []=>vw _
 |(g,t,c)::rs=>zj (zv0 tt g t c) λx=>zj (zjW tt rs) λxs=>vw _
def zo6 (tt:TT)(rs:List (Bool×Nat×Option Nat)):HM A:=zka tt rs >>= λxs=>
 match xs with
 | [y]=>pure y
 | ys=>pure (.opq (zgT (ys.map some)))
theorem zuY (tt:TT)(rs:List (Bool×Nat×Option Nat)):Snd (zrJ tt rs) (zo6 tt rs):=by refine zj (zjW _ _) λxs=>?_;split <;> exact vw _
variable {P:Program}{fs:List Fm}{c:Code}{k:Nat}{body:Code}{n:Fr}{r:A}
section
variable {P:Program}{tt:TT}{ctr:Ctr}{n:Fr}{Q:Exit->St->Prop}
theorem zhW {n:Fr}   {rs:List (Bool×Nat×Option Nat)}{ls:List A}{r:A}(hT:wy P tt)(hf:P.funcs[k]?=some fn)(hnm:(fn.name == "runtime.NumGoroutine")=false)(hb:fn.body=some body)
  (hn:n=⟨fn.ntmps,[]⟩) (hr:fn.results=(rs.map λr=>ze6 r.2).toArray) (ha:ls.length<=fn.ntmps)
  (h:∀E:St->Prop,(∀st x R U,zrJ tt rs st=some (x,R,U)->LeV x r->E st)->AWP P n body (ofL (zhG 0 ls)) (Qf P n [] (zj5 E))):V5 P k ls r:=by
 have h':=h (λst=>∃x R U,zrJ tt rs st=some (x,R,U)/\LeV x r) λst x R U h1 h2=>⟨x,R,U,h1,h2⟩;refine⟨⟨fn,hf,hnm,by rw[hb];rfl⟩,?_⟩;intro S w vs F hS hq hF;have h2:AWP P n body (ini ls) (λex st=>(ex=.normal\/ex=.ret)/\∃x R U,zrJ tt rs st=some (x,R,U)/\LeV x r):=by
  rw[zc7];refine AWP.mono h' ?_;intro e st q;cases e with
  | normal=>exact⟨.inl rfl,q⟩
  | ret=>exact⟨.inr rfl,q⟩
  | _=>exact q.elim
 refine z6M (R:=λw e w'=>∃v' S' F',e=.returned v'/\UQ (λk=>w.heap.size<=k\/k∈F) w w'/\(∀b o u,S b o=some u->S' b o=some u)/\(∀b o,b<w.heap.size->b∉F->S' b o=S b o)/\xu S' w'/\Has S' w'.heap r v' F'/\F'.Nodup /\
   ∀k∈F',w.heap.size<=k\/k∈F) hf hb (by rw[hn]) (by rw[hn];simp) ha hS hq hF h2 ?_
 rintro ex st' ⟨hx,x,R,U,h3,h4⟩;refine⟨hx,?_⟩;intro df S' Fp' a' w' h1;obtain⟨v,S2,F',hres,g1,g2,g3,g4,g5,g6⟩:=zrI (P:=P) hT hr h1 h3;refine⟨_,hres,_,S2,F',rfl,h1.below,λb o u hu=>g1 _ _ _ (h1.sinc _ _ _ hu),?_,g3,h4.has _ _ _ _ g4,g5,g6⟩;intro b o hb' hbF;exact g2 b o (by rintro(hq|hq) <;> first|omega|exact hbF hq)
def zv8 (X:XH P)(tt:TT)(ctr:Ctr)(n:Fr)(rs:List (Bool×Nat×Option Nat))(k:Nat)(c:Code)(fs:List Fm)(st:St)(hs:List H):Option (A×List Prop) :=
 match zk6 X tt ctr n k c fs st hs with
 | some (.fin .normal,st',hs',ob)=>match zo6 tt rs st' hs' with|some (x,_,_,[],ob')=>some (x,ob++ob')|_=>none
 | some (.fin .ret,st',hs',ob)=>match zo6 tt rs st' hs' with|some (x,_,_,[],ob')=>some (x,ob++ob')|_=>none
 | _=>none
theorem zm6 (X:XH P)(hT:wy P tt)(hC:zF P ctr)(hm:P.follows .mixedOrders=true){E:St->Prop}   (hE:∀st x R U,zrJ tt rs st=some (x,R,U)->LeV x r->E st)(k:Nat){c:Code}{fs:List Fm}{st:St}{hs:List H}{x:A}(obs:List Ob)
  (e:zv8 X tt ctr n rs k c fs st hs=some (x,obs.map Ob.p)) (hle:LeV x r):AWP P n c st (Qf P n fs (zj5 E)):=by
 unfold zv8 at e;have fin:∀{st' hs' ob},(match zo6 tt rs st' hs' with|some (x,_,_,[],ob')=>some (x,ob++ob')|_=>none)=some (x,obs.map Ob.p)->z8X ob/\E st':=by
  intro st' hs' ob e;split at e
  ·rename_i x1 R U ob' he;simp only[Option.some.injEq,Prod.mk.injEq]at e;obtain⟨rfl,e2⟩:=e;have ha:=zbZ obs;rw[<-e2]at ha;obtain⟨o1,o2⟩:=xw ha;exact⟨o1,hE _ _ _ _ (zuY tt rs _ _ _ _ _ _ _ he o2) hle⟩
  ·cases e
 split at e
 ·rename_i st' hs' ob' he;obtain⟨h1,h2⟩:=fin e;exact z9y X hT hC hm k c fs st hs _ _ _ _ he h1 h2
 ·rename_i st' hs' ob' he;obtain⟨h1,h2⟩:=fin e;exact z9y X hT hC hm k c fs st hs _ _ _ _ he h1 h2
 ·cases e
end
variable {as_:List A}
theorem lentCall (h:V5 P k as_ r):Yr P (.fn k []) as_ [] r []:=by
 intro S w fv vs F hS hfv hvs hH hF;have hF0:F=[]:=hH;subst hF0;obtain⟨cs,c1,c2⟩:=hfv;simp only[Rep]at c1;obtain⟨us,u1,_,rfl⟩:=c1;have hu:us=[]:=by
  cases us with
  | nil=>rfl
  | cons _ _=>simp[yK]at u1
 subst hu;obtain⟨⟨fn,f1,f2,f3⟩,hc⟩:=h;refine .inl ⟨k,#[],fn,c2,f1,f2,f3,?_⟩;rw[Array.append_empty];have hass:∀{as_:List A} {vs:List Value},UR (qa S) as_ vs->QI S w.heap as_ vs []:=by
  intro as_;induction as_ with
  | nil=>intro vs q;cases vs with|nil=>rfl|cons _ _=>exact q.elim
  | cons a as_ ih=>
   intro vs q;cases vs with
   | nil=>exact q.elim
   | cons v vs=>exact⟨[],[],rfl,.inl ⟨q.1.repV,rfl⟩,ih q.2⟩
 refine(hc S w vs [] hS (hass hvs) List.nodup_nil).mono ?_;rintro e w' ⟨v',S',F',he,b1,b2,b3,b4,b5,b6,b7⟩;exact⟨v',he,S',F',[],b1,b2,b3,b4,b5,rfl,by simpa using b6,by simpa using b7⟩
variable {gives:List Bool}
theorem xM {c:Ctr}(hC:zF P c)  {α ρ:Type}{enc:α->List A}{encR:ρ->A}{F:α->Option ρ}  {inj:∀x y,enc x=enc y->x=y}(h:c.Has (spF k enc encR F gives inj)){x:α}{r:ρ}(hr:F x=some r):V5 P k (enc x) (encR r):=by have h1:=h.run x ⟨r,hr⟩;have:=hC.1 _ _ _ h1;simpa only[spF,hr] using this
structure ArN (n:Nat)(α:Type) where
 l:List α
 len:l.length=n
 deriving DecidableEq
variable {sz:Nat}{s:Nat}{j:Int}
section
variable {α:Type}{n:Nat}
def ArN.rep (n:Nat)(v:α):ArN n α:=⟨List.replicate n v,mN⟩
def ArN.setI (x:ArN n α)(i:Int)(v:α):ArN n α:=⟨x.l.set i.toNat v,by rw[rX];exact x.len⟩
def wz (n:Nat)(f:α->A)(x:ArN n α):A:=.agg (x.l.map f)
theorem ArN.setL (f:α->A)(x:ArN n α)(i:Int)(v:α):(x.l.map f).set i.toNat (f v)=((ArN.setI x i v).l).map f:=by unfold ArN.setI;rw[List.map_set]
theorem sizes_const:∀{l:List A},(∀x∈l,x.size=sz)->A.sizes l=l.length*sz
 | [],_=>by simp[A.sizes]
 | x::l,h=>by rw[A.sizes,h x rF,sizes_const λy hy=>h y (nF _ hy),gI,mn,rm,s5]
class ztM (f:α->A) (sz:outParam Nat):Prop where
 sz:∀x,(f x).size=sz
theorem zpD {f:α->A}  [h:ztM f s](x:ArN n α):(wz n f x).size=n*s:=by unfold wz;rw[A.size,sizes_const (sz:=s) λy hy=>by obtain⟨u,_,rfl⟩:=pW.1 hy;exact h.sz u,gD,x.len]
instance {f:α->A}{s:Nat}[h:ztM f s]:ztM (wz n f) (n*s):=⟨λx=>zpD x⟩
theorem z2U {f:α->A}  [h:ztM f s](ha:zft tt t=some (n,s))(x:ArN n α)  (hj:0<=j):XI tt t (x.l.map f) j=true:=by unfold XI;rw[ha];simp only[gD,x.len,beq_self_eq_true,rD,hj,decide_true];rw[gJ];intro y hy;obtain⟨u,_,rfl⟩:=pW.1 hy;rw[h.sz];exact beq_self_eq_true _
end
open Go.Proofs Go.Shelf
section
variable {α:Type}
def zj7 (c:α->α->Int)(x:α):List α->List α
 | []=>[x]
 | y::l=>if c y x<0 then y::zj7 c x l else x::y::l
def z4q (c:α->α->Int):List α->List α
 | []=>[]
 | x::l=>zj7 c x (z4q c l)
def SOk (c:α->α->Int)(l:List α):Prop :=
 (∀x∈l,¬c x x<0)/\(∀x∈l,∀y∈l,∀z∈l,c x y<0->c y z<0->c x z<0)/\(∀x∈l,∀y∈l,¬c x y<0->¬c y x<0->x=y)
instance [DecidableEq α](c:α->α->Int)(l:List α):Decidable (SOk c l):=by unfold SOk;infer_instance
def zjF [DecidableEq α](cmp:α->α->Option Int)(l:List α):Option (List α) :=
 gd (l.length<=4294967296/\∀x∈l,∀y∈l,(cmp x y).isSome=true) <| gd (SOk (λx y=>(cmp x y).getD 0) l) <| some (z4q (λx y=>(cmp x y).getD 0) l)
theorem SOk.ntr {c:α->α->Int}{l:List α}(h:SOk c l):∀x∈l,∀y∈l,∀z∈l,¬c x y<0->¬c y z<0->¬c x z<0:=by
 intro x hx y hy z hz h1 h2 h3;by_cases h4:c y x<0
 ·exact h2 (h.2.1 y hy x hx z hz h4 h3)
 ·have:=h.2.2 x hx y hy h1 h4;subst this;exact h2 h3
theorem za0 (c:α->α->Int)(x:α):∀l,(zj7 c x l).Perm (x::l)
 | []=>.refl _
 | y::l=>by
  simp only[zj7];split
  ·exact((za0 c x l).cons y).trans (.swap x y l)
  ·exact .refl _
theorem VB (c:α->α->Int):∀l,(z4q c l).Perm l
 | []=>.refl _
 | x::l=>(za0 c x _).trans ((VB c l).cons x)
theorem z9Z {c:α->α->Int}{L:List α}(h:SOk c L){x:α}(hx:x∈L):∀{l:List α},(∀y∈l,y∈L)->l.Pairwise (λa b=>¬c b a<0)->(zj7 c x l).Pairwise (λa b=>¬c b a<0)
 | [],_,_=>by simp[zj7]
 | y::l,hl,hp=>by
  have hy:=hl y (by simp);obtain⟨p1,p2⟩:=mW.1 hp;simp only[zj7];split
  ·rename_i hc;refine mW.2 ⟨?_,z9Z h hx (λz hz=>hl z (by simp[hz])) p2⟩;intro z hz;rcases pD.1 ((za0 c x l).mem_iff.1 hz) with rfl|hz
   ·exact λq=>h.1 _ hx (h.2.1 _ hx _ hy _ hx q hc)
   ·exact p1 z hz
  ·rename_i hc;refine mW.2 ⟨?_,hp⟩;intro z hz;rcases pD.1 hz with rfl|hz
   ·exact hc
   ·exact h.ntr z (hl z (by simp[hz])) y hy x hx (p1 z hz) hc
theorem z2I {c:α->α->Int}{L:List α}(h:SOk c L):∀{l:List α},(∀y∈l,y∈L)->(z4q c l).Pairwise (λa b=>¬c b a<0)
 | [],_=>.nil
 | x::l,hl=>z9Z h (hl x (by simp)) (λy hy=>hl y (by simp[(VB c l).mem_iff.1 hy])) (z2I h λy hy=>hl y (by simp[hy]))
theorem zf2 {c:α->α->Int}{l l':List α}(h:SOk c l)(hp:l'.Perm l)(hs:l'.Pairwise (λa b=>¬c b a<0)):l'=z4q c l:=by refine List.Perm.eq_of_pairwise (le:=λa b=>¬c b a<0) ?_ hs (z2I h λ_ q=>q) (hp.trans (VB c l).symm);intro a b ha hb h1 h2;exact h.2.2 a (hp.mem_iff.1 ha) b ((VB c l).mem_iff.1 hb) h2 h1
theorem ziq [DecidableEq α]{cmp:α->α->Option Int}{l l':List α}(h:zjF cmp l=some l'):l.length<=4294967296/\(∀x∈l,∀y∈l,cmp x y=some ((cmp x y).getD 0))/\SOk (λx y=>(cmp x y).getD 0) l/\l'=z4q (λx y=>(cmp x y).getD 0) l:=by
 obtain⟨h1,h⟩:=gdE h;obtain⟨h2,h⟩:=gdE h;refine⟨h1.1,λx hx y hy=>?_,h2,(za h).symm⟩;have:=h1.2 x hx y hy;cases hc:cmp x y with
 | none=>rw[hc]at this;cases this
 | some _=>rfl
end
variable {α:Type}
theorem zvY [Inhabited α](enc:α->List Value)(k:Nat)(hk:∀x,(enc x).length=k):∀l:List α,((List.range (l.length*k)).map λt=>(enc l[t / k]!)[t % k]!)=l.flatMap enc
 | []=>by simp
 | x::l=>by
  rcases ra k with rfl|h0
  ·simp only[Nat.mul_zero,List.range_zero,nP];symm;rw[List.flatMap_eq_nil_iff];intro y _;exact mU (hk y)
  rw[gI,mn,rm,s5,List.range_add,mF,mO,nY];congr 1
  ·apply gX;intro i;rw[gT];by_cases hi:i<k
   ·rw[rV hi,gH,Nat.div_eq_of_lt hi,rn hi];have:i<(enc x).length:=by rw[hk];exact hi
    simp[this]
   ·rw[pQ (by simpa using hi),pQ (by rw[hk];omega)];rfl
  ·rw[<-zvY enc k hk l];apply nK;intro t _;simp only[Function.comp];rw[Nat.add_div_left _ h0,Nat.add_mod_left];simp
theorem z7Q [Inhabited α](enc:α->List Value)(k:Nat)(hk:∀x,(enc x).length=k)(d:Array α):(Sort.flatK enc k d).toList=d.toList.flatMap enc:=by
 rw[<-zvY enc k hk d.toList];simp only[Sort.flatK,Array.toList_map,Array.toList_range,rU];apply nK;intro a _;have:d.toList[a / k]! = d[a / k]!:=by
  by_cases hlt:a / k<d.size
  ·rw[getElem!_pos d _ hlt,getElem!_pos d.toList _ (by simpa using hlt)];simp
  ·rw[getElem!_neg d _ hlt,getElem!_neg d.toList _ (by simpa using hlt)]
 rw[this]
def zsV (P:Program)(kf k:Nat)(ag:Bool):Prop:=∃ρ,SlLaysF0.n6 P ρ/\ρ.f 6=kf/\(∀w,(isAgg (ρ.t 24)).run P w=.ok ag w)/\(∀w,(Go.sizeOf (ρ.t 24)).run P w=.ok k w)/\(ag=false->k=1)
theorem zbS {enc:α->A}  (hsz:∀x,(enc x).size=k)(L:List α):∀{l:List α} {cs:List Value},(∀x∈l,x∈L)->yK S (l.map enc) cs ->
  ∃d:List {p:List Value×α // Rep S (enc p.2) p.1/\p.2∈L},d.map (λp=>p.1.2)=l/\d.flatMap (λp=>p.1.1)=cs
 | [],cs,_,h=>by simp only[nP,yK]at h;exact⟨[],rfl,by simp[h]⟩
 | x::l,cs,hl,h=>by simp only[gM,yK]at h;obtain⟨c1,c2,rfl,h1,h2⟩:=h;obtain⟨d,e1,e2⟩:=zbS hsz L (λy hy=>hl y (by simp[hy])) h2;exact⟨⟨(c1,x),h1,hl x (by simp)⟩::d,by simp[e1],by simp[e2]⟩
theorem z5m {enc:α->A}{L:List α}:∀(d:List {p:List Value×α // Rep S (enc p.2) p.1/\p.2∈L}),yK S ((d.map λp=>p.1.2).map enc) (d.flatMap λp=>p.1.1)
 | []=>by simp[yK]
 | p::d=>by simp only[gM,nY,yK];exact⟨_,_,rfl,p.2.1,z5m d⟩
variable {ag:Bool}
theorem znz {ρ:Ren}{kf k t:Nat}  (hT:wy P tt)(L:SlLaysF0.n6 P ρ)(h6:ρ.f 6=kf)(h24:ρ.t 24=t)(hs:(tt t).map (λi=>(i.kind.isAgg,i.size))=some (ag,k))(h1:ag=false->k=1):zsV P kf k ag:=by
 obtain⟨i,hi,he⟩:=pZ.1 hs;simp only[Prod.mk.injEq]at he;refine⟨ρ,L,h6,λw=>?_,λw=>?_,h1⟩
 ·rw[h24,z2v (hT t i hi).kind w,he.1]
 ·rw[h24,YF hT hi w,he.2]
variable {arr:Array Value}{ty:TypeId}
section
variable {α:Type}[Inhabited α](enc:α->List Value)(k:Nat)(w:World)(b n:Nat)(d:Array α)(os:Array Obj)
theorem zcL {j:Nat}(hj:j<w.heap.size)(hb:j≠b):(sortWorldK enc k w b 0 n d os).heap[j]?=w.heap[j]?:=by show((w.heap.modify b _)++os)[j]?=_;rw[nR (by simpa using hj),nB,if_neg (nX hb)]
theorem zz6 {fr:Nat×Nat}(hb:w.heap[b]?=some (.cells arr ty fr)):(sortWorldK enc k w b 0 n d os).heap[b]?=some (.cells (Sort.putCells id 0 (Sort.flatK enc k d) arr) ty fr):=by have hlt:=(pK.1 hb).1;show((w.heap.modify b _)++os)[b]?=_;rw[nR (by simpa using hlt),nB,if_pos rfl,hb];rfl
theorem zri:(sortWorldK enc k w b 0 n d os).heap.size=w.heap.size+os.size:=by show((w.heap.modify b _)++os).size=_;simp
end
theorem zd1 {D arr:Array Value}(h:D.size<=arr.size):(Sort.putCells id 0 D arr).toList.take D.size=D.toList:=by
 apply gX;intro i;rw[pV];by_cases hi:i<D.size
 ·rw[if_pos hi];have:i<arr.size:=by omega
  simp[Sort.putCells,hi,this]
 ·rw[if_neg hi,pQ (by simpa using hi)]
theorem zd2 (D arr:Array Value):(Sort.putCells id 0 D arr).size=arr.size:=by simp[Sort.putCells]
theorem zez:∀{caps:List A} {vs:List Value},yK S caps vs->(∀c∈caps,c.size=1/\∀fs,c≠.agg fs)->UR (qa S) caps vs
 | [],vs,h,_=>by simp only[yK]at h;subst h;trivial
 | c::caps,vs,h,hc=>by simp only[yK]at h;obtain⟨c1,c2,rfl,h1,h2⟩:=h;obtain⟨s1,s2⟩:=hc c (by simp);have hl:=h1.len;rw[s1]at hl;obtain⟨u,rfl⟩:=mG.1 hl;refine⟨⟨[u],h1,?_⟩,zez h2 λx hx=>hc x (by simp[hx])⟩;cases c <;> first|rfl|exact absurd rfl (s2 _)
theorem z7P:∀{bs:List A} {vs:List Value},UR (qa S) bs vs->QI S h bs vs []
 | [],[],_=>rfl
 | _::_,_::_,q=>⟨[],[],rfl,.inl ⟨q.1.repV,rfl⟩,z7P q.2⟩
 | [],_::_,q=>q.elim
 | _::_,[],q=>q.elim
theorem zld {w w':World}(h:UQ (λk=>w.heap.size<=k) w w'):∃q os',w'=Sort.grow (w.drewN q) os':=by
 refine⟨w'.drawn - w.drawn,w'.heap.extract w.heap.size w'.heap.size,?_⟩;have h1:w'.heap=w.heap++w'.heap.extract w.heap.size w'.heap.size:=by
  apply mV;intro i;by_cases hi:i<w.heap.size
  ·rw[nR hi];exact h.block i (by omega)
  ·rw[Array.getElem?_append_right (by omega),Array.getElem?_extract];by_cases h2:i<w'.heap.size
   ·rw[if_pos (by omega)];congr 1;omega
   ·rw[if_neg (by omega),r9 (by omega)]
 have h2:=h.drawn;have h3:=h.os;have h4:=h.tape;have h5:=h.output;cases w' with
 | mk heap tape drawn os output=>
  cases w with
  | mk heap0 tape0 drawn0 os0 output0=>simp only at h1 h2 h3 h4 h5;subst h3 h4 h5;simp only[Sort.grow,World.drewN,World.mk.injEq,true_and,and_true];exact⟨h1,by omega⟩
theorem zpQ [Inhabited α](enc:α->List Value)(e1:α->Value)(he:∀x,enc x=[e1 x])(w:World)(b m:Nat)(d:Array α)(os:Array Obj):sortWorld e1 w b 0 m d os=sortWorldK enc 1 w b 0 m d os:=by
 have hflat:Sort.flatK enc 1 d=d.map e1:=by
  apply Array.ext
  ·simp[Sort.flatK]
  ·intro i h1 h2;have hi:i<d.size:=by simpa using h2
   have:=Sort.get_flatK enc 1 d i (by omega);rw[getElem!_pos _ i h1]at this;rw[this,he];simp[Nat.mod_one,hi]
 unfold sortWorld sortWorldK;congr 1;unfold Sort.putRowK Sort.putRow;congr 1;rw[hflat];funext c;unfold Sort.putCells;congr 1;funext k x;simp only[pT,true_and,gN,nG,Array.size_map,id];by_cases hk:k<d.size
 ·rw[if_pos hk,if_pos hk,getElem!_pos d k hk,getElem!_pos _ k (by simpa using hk)];simp
 ·rw[if_neg hk,if_neg hk]
variable {w:World}
theorem zlp [Inhabited α]{enc:α->List Value}{e1:α->Value}(he:∀x,enc x=[e1 x])  {b:Nat}{d:Array α}(h:Sort.HoldsK enc 1 w b 0 d):Sort.Holds e1 w b 0 d:=by intro j hj;have:=h j (by simpa using hj);rw[Sort.get_flatK enc 1 d j (by omega),he]at this;simpa[Nat.mod_one] using this
variable {v:Value}
theorem zjE {P:Program}{kf k g:Nat}   [DecidableEq α]{f:α->A}[hD:z4U f]{t:Bool}{v:Value}{caps:List A}{cmp:α->α->Option Int}{l l':List α}(hT:zsV P kf k ag)(hsz:∀x,(f x).size=k)(hag:∀x,(f x).isAgg=ag)
  (hc:∀x y c,cmp x y=some c->V5 P g (f x::f y::caps) (.atom (.int .i64 c))) (h:zjF cmp l=some l'):Yr P (.fn kf []) [.atom v,.fn g caps] [(v,.osl k t (l.map f))] (.tup []) [.osl k t (l'.map f)]:=by
 obtain⟨hlen0,hcmp,hO,rfl⟩:=ziq h;obtain⟨ρ,L,rfl,aE,zE,hk1⟩:=hT;intro S w fv vs F hS hfv hvs hH hF;obtain⟨cs,c1,c2⟩:=hfv;simp only[Rep]at c1;obtain⟨us,u1,_,rfl⟩:=c1;have hu:us=[]:=by
  cases us with
  | nil=>rfl
  | cons _ _=>simp[yK]at u1
 subst hu;rcases vs with _|⟨v1,_|⟨v2,_|⟨v3,vs⟩⟩⟩
 ·exact hvs.elim
 ·exact hvs.2.elim
 case cons.cons.cons=>exact hvs.2.2.elim
 obtain⟨hv1,hv2,_⟩:=hvs;obtain⟨rfl,_⟩:=xY.1 hv1;obtain⟨cs2,d1,d2⟩:=hv2;simp only[Rep]at d1;obtain⟨cv,d3,d4,rfl⟩:=d1;have hcv:=zez d3 d4;obtain⟨F1,F2,rfl,q1,q2⟩:=hH;have hF2:F2=[]:=q2;subst hF2;rw[p9]at hF ⊢;have act:∀R:Ending->World->Prop,Calls P (ρ.f 6) #[v1,.func (.func g) #[] cv.toArray] w R->Calls P (ρ.f 6) ([v1,v2].toArray ++ #[]) w R:=by intro R q;rw[d2,Array.append_empty];exact q
 have fnOk:∃fn,P.funcs[ρ.f 6]?=some fn/\(fn.name == "runtime.NumGoroutine")=false/\fn.body.isNone=false:=by obtain⟨nm,hne,FG⟩:=L.f6;exact⟨_,FG,by simpa using hne,rfl⟩
 obtain⟨fn,f1,f2,f3⟩:=fnOk;refine .inl ⟨ρ.f 6,#[],fn,c2,f1,f2,f3,act _ ?_⟩;rcases q1 with⟨q1,_⟩|⟨cs,q1,q3,q4⟩
 ·simp only[wh,qa,Rep,false_and,exists_false]at q1
 simp only[zU]at q1;obtain⟨p,c,rfl,t1,t2,t3,t4,t5⟩:=q1;have ev:v1=.slice p l.length c:=by have q5:v1=y8 (.osl k t (l.map f)) [.slice p (l.map f).length c]:=q4;rw[q5];simp[y8]
 subst ev;simp only[gD]at t1 t2 t5;by_cases hl:l=[]
 ·subst hl;refine(AnyF.slices_SortFunc_none { L with } p c _ w).mono ?_;rintro e w' ⟨rfl,rfl⟩;refine⟨.tuple #[],rfl,S,[],F1,UQ.refl _ _,λ_ _ _ q=>q,λ_ _ _ _=>rfl,hS,.inl ⟨?_,rfl⟩,⟨F1,[],by simp,.inr ⟨[.slice p 0 c],?_,q3,rfl⟩,rfl⟩,by simpa using hF,λk hk=>.inr (by simpa using hk)⟩
  ·simp only[wh];exact⟨[],rfl,trivial⟩
  ·simp only[z4q,nP,zU];exact⟨p,c,rfl,t1,t2,t3,by simp,by simpa using t5⟩
 have hpos:0<l.length:=nJ.2 hl;rcases t5 with⟨e,_⟩|⟨b,arr,ty,cl,F',rfl,e1,e2,e3,e4,rfl,e5⟩
 ·exact absurd (by simpa using e) hl
 obtain⟨hr,rfl⟩:=e4.areD (dM f l);obtain⟨d,g1,g2⟩:=zbS (S:=S) hsz l (λ_ q=>q) hr;have hblk:=(pK.1 e1).1;obtain⟨x0,hx0⟩:∃x,x∈d:=by
  cases d with
  | nil=>exact absurd g1.symm hl
  | cons x _=>exact⟨x,by simp⟩
 letI:Inhabited {p:List Value×α // Rep S (f p.2) p.1/\p.2∈l}:=⟨x0⟩
 let enc:{p:List Value×α // Rep S (f p.2) p.1/\p.2∈l}->List Value:=λp=>p.1.1;let c0:α->α->Int:=λx y=>(cmp x y).getD 0;have hk:∀x,(enc x).length=k:=λx=>(x.2.1.len).trans (hsz _);have h1:∀x,∀v∈enc x,v.oneCell'=true:=λx=>x.2.1.one;have hswo:Sort.SWO (ltOf λx y:{p:List Value×α // Rep S (f p.2) p.1/\p.2∈l}=>c0 x.1.2 y.1.2):=by
  refine⟨λx=>?_,λx y z q1 q2=>?_,λx y z q1 q2=>?_⟩
  ·simpa[ltOf] using hO.1 _ x.2.2
  ·simp only[ltOf,decide_eq_true_eq]at q1 q2 ⊢;exact hO.2.1 _ x.2.2 _ y.2.2 _ z.2.2 q1 q2
  ·simp only[ltOf,decide_eq_false_iff_not]at q1 q2 ⊢;exact hO.ntr _ x.2.2 _ y.2.2 _ z.2.2 q1 q2
 have hdl:d.length=l.length:=by have:=congrArg List.length g1;simpa using this
 have hD0:(Sort.flatK enc k d.toArray).toList=cl:=by rw[z7Q enc k hk];exact g2
 have hszF:∀d':Array {p:List Value×α // Rep S (f p.2) p.1/\p.2∈l},d'.size=d.length->(Sort.flatK enc k d').size=l.length*k:=λd' q=>by rw[Sort.size_flatK,q,hdl]
 have hle:l.length*k<=arr.size:=pE (gF _ t2) e2;have hH2:Sort.HoldsK enc k w b 0 d.toArray:=by
  intro j hj;have hj':j<cl.length:=by rw[<-hD0];simpa using hj
  have hget:(Sort.flatK enc k d.toArray)[j]! = cl[j]:=by
   rw[getElem!_pos _ j hj];have:(Sort.flatK enc k d.toArray).toList[j]'(by simpa using hj)=cl[j]:=by simp only[hD0]
   simpa using this
  have hcell:arr[j]?=some cl[j]:=by
   obtain⟨u,hu⟩:∃u,u=cl[j]:=⟨_,rfl⟩;have q:cl[j]?=some u:=by rw[hu];exact p7 hj'
   rw[<-hu];clear hget hu;subst e3;rw[pV]at q;split at q
   ·simpa using q
   ·cases q
  constructor
  ·simp only[World.cell?,e1,Option.isSome_none,gG,if_false,gN,id,hget];exact hcell
  ·simp[World.frozen?,e1]
 have hst:∀n (d':Array {p:List Value×α // Rep S (f p.2) p.1/\p.2∈l}) os,xu S (sortWorldK enc k w b 0 n d' os):=by
  refine λn d' os=>⟨?_,hS.gok,hS.blk.of (λ_ _ _ q=>q) λg x e=>zcL enc k w b n d' os (hS.blk.lt e) (by rintro rfl;exact hS.blk.ne (e5 0) x e)⟩;intro b' o' u hu;have hne:b'≠b:=by rintro rfl;rw[e5]at hu;cases hu
  have:=hS b' o' u hu;have hlt:b' < w.heap.size:=by
   unfold yj at this;cases hq:w.heap[b']? with
   | none=>simp[hq]at this
   | some _=>exact(pK.1 hq).1
  unfold yj at this ⊢;rw[zcL enc k w b n d' os hlt hne];exact this
 have heg:Enters P g:=by
  obtain⟨⟨fn',p1,p2,p3⟩,_⟩:=hc x0.1.2 x0.1.2 _ (hcmp _ x0.2.2 _ x0.2.2);cases hb:fn'.body with
  | none=>simp[hb]at p3
  | some body=>exact enters_of p1 p2 hb
 have hcall0:∀(m:Nat) (os:Array Obj) (dk:Array {p:List Value×α // Rep S (f p.2) p.1/\p.2∈l}) (x y:{p:List Value×α // Rep S (f p.2) p.1/\p.2∈l}),
   Calls P g (#[y8 (f x.1.2) (enc x),y8 (f y.1.2) (enc y)]++cv.toArray) (sortWorldK enc k w b 0 m dk os) λe w'=>e=.returned (.int .i64 (c0 x.1.2 y.1.2))/\∃q os',w'=Sort.grow ((sortWorldK enc k w b 0 m dk os).drewN q) os':=by
  intro m os dk x y;have hcall:=(hc x.1.2 y.1.2 _ (hcmp _ x.2.2 _ y.2.2)).2 S (sortWorldK enc k w b 0 m dk os) (y8 (f x.1.2) (enc x)::y8 (f y.1.2) (enc y)::cv) [] (hst _ _ _)
   (z7P ⟨⟨enc x,x.2.1,rfl⟩,⟨enc y,y.2.1,rfl⟩,hcv⟩) List.nodup_nil
  have ea:(#[y8 (f x.1.2) (enc x),y8 (f y.1.2) (enc y)]++cv.toArray:Array Value)=(y8 (f x.1.2) (enc x)::y8 (f y.1.2) (enc y)::cv:List Value).toArray:=by simp
  rw[ea];refine hcall.mono ?_;rintro e w' ⟨v',S',F',rfl,b1,b2,b3,b4,b5,b6,b7⟩;have hv:v'=.int .i64 (c0 x.1.2 y.1.2):=by
   rcases b5 with⟨r,_⟩|⟨cs,r,_,r2⟩
   ·exact(zD.1 r).1
   ·simp only[zU,Rep]at r;rw[r2,r.1.1];rfl
  refine⟨by rw[hv],zld (b1.mono λk hk=>?_)⟩;simpa using hk
 have hsz62:d.toArray.size<4611686018427387904:=by simp only[rg,hdl];omega
 have hcon:Calls P (ρ.f 6) #[.slice (some ⟨b,0,none⟩) d.toArray.size c,.func (.func g) #[] cv.toArray] w λe w'=>e=.returned (.tuple #[])/\∃d' n os,Sort.PermIn 0 d.toArray.size d.toArray d'/\Sort.SortedIn (ltOf λx y:{p:List Value×α // Rep S (f p.2) p.1/\p.2∈l}=>c0 x.1.2 y.1.2) 0 d.toArray.size d'/\w'=sortWorldK enc k w b 0 n d' os:=by
  cases ag with
  | true=>
   refine AnyQ.slices_SortFunc (P:=P) (ρ:=ρ) L k aE zE enc hk h1 (λx y=>c0 x.1.2 y.1.2) hswo g cv.toArray b 0 c d.toArray w heg ?_ hH2 hblk hsz62;intro m os dk hs x y;have q:=hcall0 m os dk x y;have hx:∀z:{p:List Value×α // Rep S (f p.2) p.1/\p.2∈l},y8 (f z.1.2) (enc z)=.agg (enc z).toArray:=by intro z;have:=hag z.1.2;cases hz:f z.1.2 <;> simp[hz,A.isAgg]at this;rfl
   rw[hx,hx]at q;exact q
  | false=>
   have hk1':=hk1 rfl;subst hk1';let e1:{p:List Value×α // Rep S (f p.2) p.1/\p.2∈l}->Value:=λx=>(enc x).headD undef;have he:∀x,enc x=[e1 x]:=by intro x;obtain⟨u,hu⟩:=mG.1 (hk x);show enc x=[(enc x).headD undef];rw[hu];rfl
   have hx:∀z:{p:List Value×α // Rep S (f p.2) p.1/\p.2∈l},y8 (f z.1.2) (enc z)=e1 z:=by intro z;have:=hag z.1.2;cases hz:f z.1.2 <;> simp[hz,A.isAgg]at this <;> rfl
   refine(Any.slices_SortFunc (P:=P) (ρ:=ρ) { L with a24:=aE,z24:=zE } e1 (λx=>h1 x _ (by rw[he x];simp)) (λx y=>c0 x.1.2 y.1.2) hswo g cv.toArray b 0 c d.toArray w heg ?_ (zlp he hH2) hblk hsz62).mono ?_
   ·intro m os dk hs x y;have q:=hcall0 m os dk x y;rw[hx,hx]at q;rw[zpQ enc e1 he];exact q
   ·rintro e w' ⟨q1,d',n,os,q2,q3,q4⟩;exact⟨q1,d',n,os,q2,q3,by rw[q4,zpQ enc e1 he]⟩
 have ea2:(#[.slice (some ⟨b,0,none⟩) l.length c,.func (.func g) #[] cv.toArray]:Array Value)=#[.slice (some ⟨b,0,none⟩) d.toArray.size c,.func (.func g) #[] cv.toArray]:=by simp only[rg,hdl]
 rw[ea2];refine hcon.mono ?_;rintro e w' ⟨rfl,d',n,os,hp,hs,rfl⟩;have hds:d'.size=d.length:=by simpa using hp.1
 have hperm:d'.toList.Perm d:=by
  have:=hp.2.2;have e1:d'.extract 0 d.toArray.size=d':=by rw[show d.toArray.size=d'.size by simp[hds]];exact Array.extract_size
  rw[e1,Array.extract_size]at this;simpa using this
 have hl':d'.toList.map (λp=>p.1.2)=z4q c0 l:=by
  refine zf2 hO ?_ ?_
  ·exact(hperm.map _).trans (List.Perm.of_eq g1)
  ·rw[rI,mC];intro i j hi hj hij;have hi':i<d'.size:=by simpa using hi
   have hj':j<d'.size:=by simpa using hj
   have:=hs i j (pT _) hij (by simpa[hds] using hj');rw[getElem!_pos d' j hj',getElem!_pos d' i hi']at this;simpa[ltOf] using this
 have hat:=zz6 enc k w b n d' os e1;have hFs:(Sort.flatK enc k d').size=l.length*k:=hszF d' hds;have hlen:(z4q c0 l).length=l.length:=(VB c0 l).length_eq;refine⟨.tuple #[],rfl,S,[],[b],⟨rfl,rfl,rfl,Nat.le_add_right _ _,by rw[zri];omega,?_⟩,λ_ _ _ q=>q,λ_ _ _ _=>rfl,hst _ _ _,.inl ⟨?_,rfl⟩,⟨[b],[],rfl,.inr ⟨[.slice (some ⟨b,0,none⟩) l.length c],?_,by simp,rfl⟩,rfl⟩,by simp,by simp⟩
 ·intro j hj;simp only[not_or,Nat.not_le,pD,pX,or_false]at hj;exact zcL enc k w b n d' os hj.1 hj.2
 ·simp only[wh];exact⟨[],rfl,trivial⟩
 ·simp only[zU,gD];refine⟨some ⟨b,0,none⟩,c,by rw[hlen],by rw[hlen];exact t1,by rw[hlen];exact t2,t3,?_,.inr ⟨b,_,ty,(Sort.flatK enc k d').toList,[],rfl,hat,by rw[zd2];exact e2,?_,?_,rfl,e5⟩⟩
  ·intro x hx;obtain⟨y,_,rfl⟩:=pW.1 hx;exact hsz y
  ·rw[hlen,<-hFs];exact zd1 (by rw[hFs];exact hle)
  ·have:=(z5m d'.toList).concs (sortWorldK enc k w b 0 n d' os).heap;rw[hl']at this;rw[z7Q enc k hk];exact this
def JY (sz:Nat)(v:Value)(l:Int):Value :=
 match v with
 | .slice a n c=>.slice (if c=l.toNat then a else a.map (·.add (l.toNat*sz))) (n - l.toNat) (c - l.toNat)
 | v=>v
theorem zpo {l:Int}(h:v.oneCell'=true):(JY sz v l).oneCell'=true:=by
 unfold JY;split
 ·rfl
 ·exact h
variable {es:List A}
section
variable {C:Ctx}{S:zo}{Fp:Nat->List Nat}{st:St}{a:Act}{w:World}
theorem zks {r:Nat}{er ec:Nat}{u:Value}(ha:XJ w.heap st (Act.tv a) r [] er ec u){x0:A}(hr:(st r).t=.own x0)(e1:(st r).er=er):u=Act.tv a r:=by have a3:=ha.2.2;simp only[hr]at a3;simp[z2C]at a3;exact a3 e1
theorem zd6 (h:Sim C S Fp [] st a w){r sz:Nat}{tg:Bool}  (hr:(st r).t=.own (.osl sz tg es)) :
  ∃p c,Act.tv a r=.slice p es.length c/\es.length<=c/\(∀x∈es,x.size=sz)/\(0<es.length->∃b,p=some ⟨b,0,none⟩):=by
 have hq:=h.ent r;unfold wv at hq;simp only[hr]at hq;obtain⟨cs,c1,c2,c3⟩:=hq;simp only[zU]at c1;obtain⟨p,c,rfl,t1,t2,t3,t4,t5⟩:=c1;refine⟨p,c,by rw[c3];rfl,t2,t4,λhp=>?_⟩;rcases t5 with⟨rfl,_⟩|⟨b,arr,ty,l,F',rfl,_⟩
 ·simp at hp
 ·exact⟨b,rfl⟩
open Classical in
def vwK (tt:TT)(n:Fr)(dst:Option Nat)(ty r:Nat)(v:Value)(tx:T)(vl:A)(e:Ent):SM Unit :=
 match vl with
 | .atom (.int _ j)=>
  if(tx=.als r [] e.er e.ec\/tx=.d (.atom v))/\z4T n.pin r=some v then
   match e.t with
   | .own (.osl sz _ es)=>if wx tt ty=some sz/\0<=j/\j.toNat<=es.length then wrT n dst (.d (.atom (JY sz v j))) else zu
   | _=>zu
  else zu
 | _=>zu
def vwO (tt:TT)(n:Fr)(dst:Option Nat)(ty r:Nat)(v:Value)(x lo:Operand):SM Unit:=do
 let tx <-opnd x;let tl <-opnd lo;let vl <-val tl;let e <-rdE r
 vwK tt n dst ty r v tx vl e
def vwH (tt:TT)(n:Fr)(dst:Option Nat)(ty r:Nat)(v:Value)(x lo:Operand):HM Unit:=yg (opnd x) >>= λtx=>yg (opnd lo) >>= λtl=>z4f tl >>= λvl=>yg (rdE r) >>= λe=>
 match vl with
 | .atom (.int _ j)=>XW ((tx=.als r [] e.er e.ec\/tx=.d (.atom v))/\z4T n.pin r=some v)
   (match e.t with
   | .own (.osl sz _ es)=>if wx tt ty=some sz then XW (0<=j/\j.toNat<=es.length) (yg (wrT n dst (.d (.atom (JY sz v j))))) else zV
   | _=>zV)
 | _=>zV
open Classical in
theorem zCu (tt:TT)(n:Fr)(dst:Option Nat)(ty r:Nat)(v:Value)(x lo:Operand):Snd (vwO tt n dst ty r v x lo) (vwH tt n dst ty r v x lo):=by
 refine zj (zn _) λtx=>zj (zn _) λtl=>zj (W1 _) λvl=>zj (zn _) λe=>?_;cases vl with
 | atom u=>
  cases u with
  | int k j=>
   refine vL ?_;cases e.t with
   | own y=>
    cases y with
    | osl sz tg es=>exact z8a (λh1 h2=>⟨h1,h2.1,h2.2⟩) (zn _)
    | _=>exact zw _
   | _=>exact zw _
  | _=>exact zw _
 | _=>exact zw _
open Classical in
theorem Loc.vwO (tt:TT)(n:Fr)(dst:Option Nat)(ty r:Nat)(v:Value)(x lo:Operand):Loc (vwO tt n dst ty r v x lo):=by
 unfold Go.Own.vwO;refine Loc.bind (Loc.opnd _) λ_=>Loc.bind (Loc.opnd _) λ_=>Loc.bind (Loc.val _) λ_=>Loc.bind (Loc.rdE _) λ_=>?_;unfold Go.Own.vwK;split
 ·refine Loc.ite ?_ Loc.fail;split
  ·exact Loc.ite (Loc.wrT _ _ _) Loc.fail
  ·exact Loc.fail
 ·exact Loc.fail
theorem zz0 {P:Program}  (hT:wy P tt)(h:Sim C S Fp [] st a w)  {t r:Nat}{v:Value}{x lo:Operand}(ho:o.op=.slice t x (some lo) none none)    (e0:vwO tt C.n o.dst t r v x lo st=some (u,R,U)):qO P C o a w (zh U st):=by
 unfold vwO at e0;obtain⟨tx,R1,U1,R2,U2,h1,e1,rfl,rfl⟩:=bind_some e0;obtain⟨rfl,hx⟩:=zK h h1;obtain⟨tl,R3,U3,R4,U4,h3,e2,rfl,rfl⟩:=bind_some e1;obtain⟨rfl,hl⟩:=zK h h3;obtain⟨vl,R5,U5,R6,U6,h5,e3,rfl,rfl⟩:=bind_some e2;obtain⟨rfl,ql⟩:=jD h hl h5;obtain⟨en,R7,U7,R8,U8,h7,e4,rfl,rfl⟩:=bind_some e3;obtain⟨rfl,rfl,rfl⟩:=yl h7;simp only[zh,p9]at e4 ⊢;unfold vwK at e4;split at e4
 ·rename_i k j;split at e4
  ·rename_i hc;obtain⟨c1,c2⟩:=hc;have hs:=h.pin r v (ZQ c2);cases ht:(st r).t with
   | own y=>
    cases y with
    | osl sz tg es=>
     simp only[ht]at e4;split at e4
     ·rename_i hd;obtain⟨d1,d2,d3⟩:=hd;obtain⟨p,c,ev,hlc,_,_⟩:=zd6 h ht;have hxv:a.eval x=.slice p es.length c:=by
       rcases c1 with rfl|rfl
       ·rw[<-ev];exact zks hx ht rfl
       ·rw[(zD.1 hx).1,<-hs,ev]
      obtain⟨el,he,hsz⟩:=uk hT d1 w;obtain⟨el',_⟩:=zD.1 ql;have hrun:=Vq (P:=P) (w:=w) he hsz (p:=p) (len:=es.length) (c:=c) (m:=c) (lo:=some (.int k j)) (hi:=none) (mx:=none) (.inr ⟨k,j,rfl,d2,rfl⟩) (.inl ⟨rfl,rfl⟩) (.inl ⟨rfl,rfl⟩) d3 hlc (pC c) (by simp);have hvv:v=.slice p es.length c:=by rw[<-hs,ev]
      obtain⟨Fp',hs'⟩:=wP h e4 (x:=.d (.atom (JY sz v j))) (v:=JY sz v j) (zD.2 ⟨rfl,by rw[hvv];exact zpo rfl⟩);refine zr ?_ hs';rw[hvv];simp[execOp,ho,hxv,el',hrun,JY]
     ·exact(z7 e4).elim
    | _=>simp only[ht]at e4;exact(z7 e4).elim
   | _=>simp only[ht]at e4;exact(z7 e4).elim
  ·exact(z7 e4).elim
 ·exact(z7 e4).elim
open Classical in
def vlO (n:Fr)(dst:Option Nat)(sz r:Nat)(v:Value)(l:Int)(x:Operand):SM Unit:=do
 let tx <-opnd x;let e <-rdE r
 if tx=.d (.atom (JY sz v l))/\z4T n.pin r=some v then
  match e.t with
  | .own (.osl _ _ es)=>wrT n dst (.d (.atom (.int .i64 ((es.length - l.toNat:Nat):Int))))
  | _=>zu
 else zu
def vlH (n:Fr)(dst:Option Nat)(sz r:Nat)(v:Value)(l:Int)(x:Operand):HM Unit:=yg (opnd x) >>= λtx=>yg (rdE r) >>= λe=>XW (tx=.d (.atom (JY sz v l))/\z4T n.pin r=some v)
  (match e.t with
  | .own (.osl _ _ es)=>eqA (.atom (.int .i64 ((es.length - l.toNat:Nat):Int))) >>= λy=>yg (wrT n dst (.d y))
  | _=>zV)
open Classical in
theorem zCv (n:Fr)(dst:Option Nat)(sz r:Nat)(v:Value)(l:Int)(x:Operand):Snd (vlO n dst sz r v l x) (vlH n dst sz r v l x):=by
 refine zj (zn _) λtx=>zj (zn _) λe=>vL ?_;cases e.t with
 | own y=>
  cases y with
  | osl sz tg es=>exact z3a (ye _ λy=>wrT n dst (.d y)).symm (zj (zbo _) λ_=>zn _)
  | _=>exact zw _
 | _=>exact zw _
open Classical in
theorem Loc.vlO (n:Fr)(dst:Option Nat)(sz r:Nat)(v:Value)(l:Int)(x:Operand):Loc (vlO n dst sz r v l x):=by
 unfold Go.Own.vlO;refine Loc.bind (Loc.opnd _) λ_=>Loc.bind (Loc.rdE _) λ_=>Loc.ite ?_ Loc.fail;split
 ·exact Loc.wrT _ _ _
 ·exact Loc.fail
theorem zz1 (hT:wy P tt)(h:Sim C S Fp [] st a w)  {t sz r:Nat}  {l:Int}{x:Operand}(hty:jF tt t=true)(ho:o.op=.call ⟨.builtin .len,⟨[x]⟩,⟨[t]⟩⟩)    (e0:vlO C.n o.dst sz r v l x st=some (u,R,U)):qO P C o a w (zh U st):=by
 unfold vlO at e0;obtain⟨tx,R1,U1,R2,U2,h1,e1,rfl,rfl⟩:=bind_some e0;obtain⟨rfl,hx⟩:=zK h h1;obtain⟨en,R7,U7,R8,U8,h7,e4,rfl,rfl⟩:=bind_some e1;obtain⟨rfl,rfl,rfl⟩:=yl h7;simp only[zh,p9]at e4 ⊢;split at e4
 ·rename_i hc;obtain⟨rfl,c2⟩:=hc;have hs:=h.pin r v (ZQ c2);cases ht:(st r).t with
  | own y=>
   cases y with
   | osl sz' tg es=>
    simp only[ht]at e4;obtain⟨p,c,ev,hlc,_,_⟩:=zd6 h ht;have hxv:=(zD.1 hx).1;have hvv:v=.slice p es.length c:=by rw[<-hs,ev]
    obtain⟨el,he⟩:=VC hT hty;obtain⟨Fp',hs'⟩:=wP h e4 (x:=.d (.atom (.int .i64 ((es.length - l.toNat:Nat):Int)))) (zD.2 ⟨rfl,rfl⟩);refine zr ?_ hs';have ex:a.eval x=.slice (if c=l.toNat then p else p.map (·.add (l.toNat*sz))) (es.length - l.toNat) (c - l.toNat):=by rw[hxv,hvv];rfl
    simp[execOp,ho,resolve,invoke,builtin,Builtin.len_,run_underlying he,ex,goInt]
   | _=>simp only[ht]at e4;exact(z7 e4).elim
  | _=>simp only[ht]at e4;exact(z7 e4).elim
 ·exact(z7 e4).elim
open Classical in
def viO (tt:TT)(n:Fr)(dst:Option Nat)(ty sz r:Nat)(v:Value)(l:Int)(x i:Operand):SM Unit:=do
 let tx <-opnd x;let ti <-opnd i;let vi <-val ti;let e <-rdE r;match vi with
 | .atom (.int _ j)=>
  if tx=.d (.atom (JY sz v l))/\z4T n.pin r=some v then
   match e.t with
   | .own (.osl sz' _ es)=>if wx tt ty=some sz/\sz'=sz/\0<=l/\0<=j/\(l+j).toNat<es.length then wrT n dst (.ptr r [.idx (l+j).toNat] e.er e.ec) else zu
   | _=>zu
  else zu
 | _=>zu
def viH (tt:TT)(n:Fr)(dst:Option Nat)(ty sz r:Nat)(v:Value)(l:Int)(x i:Operand):HM Unit:=yg (opnd x) >>= λtx=>yg (opnd i) >>= λti=>z4f ti >>= λvi=>yg (rdE r) >>= λe=>
 match vi with
 | .atom (.int _ j)=>XW (tx=.d (.atom (JY sz v l))/\z4T n.pin r=some v)
   (match e.t with
   | .own (.osl sz' _ es)=>if wx tt ty=some sz/\sz'=sz then XW (0<=l/\0<=j/\(l+j).toNat<es.length) (yg (wrT n dst (.ptr r [.idx (l+j).toNat] e.er e.ec))) else zV
   | _=>zV)
 | _=>zV
open Classical in
theorem zCw (tt:TT)(n:Fr)(dst:Option Nat)(ty sz r:Nat)(v:Value)(l:Int)(x i:Operand):Snd (viO tt n dst ty sz r v l x i) (viH tt n dst ty sz r v l x i):=by
 refine zj (zn _) λtx=>zj (zn _) λti=>zj (W1 _) λvi=>zj (zn _) λe=>?_;cases vi with
 | atom u=>
  cases u with
  | int k j=>
   refine vL ?_;cases e.t with
   | own y=>
    cases y with
    | osl sz' tg es=>exact z8a (λh1 h2=>⟨h1.1,h1.2,h2.1,h2.2.1,h2.2.2⟩) (zn _)
    | _=>exact zw _
   | _=>exact zw _
  | _=>exact zw _
 | _=>exact zw _
open Classical in
theorem Loc.viO (tt:TT)(n:Fr)(dst:Option Nat)(ty sz r:Nat)(v:Value)(l:Int)(x i:Operand):Loc (viO tt n dst ty sz r v l x i):=by
 unfold Go.Own.viO;refine Loc.bind (Loc.opnd _) λ_=>Loc.bind (Loc.opnd _) λ_=>Loc.bind (Loc.val _) λ_=>Loc.bind (Loc.rdE _) λ_=>?_;split
 ·refine Loc.ite ?_ Loc.fail;split
  ·exact Loc.ite (Loc.wrT _ _ _) Loc.fail
  ·exact Loc.fail
 ·exact Loc.fail
theorem zz2 {P:Program}  (hT:wy P tt)(h:Sim C S Fp [] st a w){o:Oper}{t sz r:Nat}  {l:Int}{x i:Operand}(ho:o.op=.indexAddr t x i)    (e0:viO tt C.n o.dst t sz r v l x i st=some (u,R,U)):qO P C o a w (zh U st):=by
 unfold viO at e0;obtain⟨tx,R1,U1,R2,U2,h1,e1,rfl,rfl⟩:=bind_some e0;obtain⟨rfl,hx⟩:=zK h h1;obtain⟨ti,R3,U3,R4,U4,h3,e2,rfl,rfl⟩:=bind_some e1;obtain⟨rfl,hi⟩:=zK h h3;obtain⟨vi,R5,U5,R6,U6,h5,e3,rfl,rfl⟩:=bind_some e2;obtain⟨rfl,qi⟩:=jD h hi h5;obtain⟨en,R7,U7,R8,U8,h7,e4,rfl,rfl⟩:=bind_some e3;obtain⟨rfl,rfl,rfl⟩:=yl h7;simp only[zh,p9]at e4 ⊢;split at e4
 ·rename_i k j;split at e4
  ·rename_i hc;obtain⟨rfl,c2⟩:=hc;have hs:=h.pin r v (ZQ c2);cases ht:(st r).t with
   | own y=>
    cases y with
    | osl sz' tg es=>
     simp only[ht]at e4;split at e4
     ·rename_i hd;obtain⟨d1,rfl,d3,d4,d5⟩:=hd;have hals:XJ w.heap st (Act.tv a) r [] (st r).er (st r).ec (Act.tv a r):=by refine⟨pC _,pC _,?_⟩;simp[ht]
      obtain⟨b,c,ev,hp⟩:=zmg h hals ht rfl (.inl rfl) rfl d5;obtain⟨e',he,hsz⟩:=uk hT d1 w;have hp':TOk S w.heap st (Act.tv a) (T.ptr r [Q5.idx (l+j).toNat] (st r).er (st r).ec) (.pointer (some ⟨b,(l+j).toNat*sz',none⟩)):=hp;obtain⟨Fp',hs'⟩:=wP h e4 hp';obtain⟨ei,_⟩:=zD.1 qi;have hvv:v=.slice (some ⟨b,0,none⟩) es.length c:=by rw[<-hs,ev]
      obtain⟨p2,c2',ev2,hlc,_,_⟩:=zd6 h ht;have hcc:es.length<=c:=by rw[ev]at ev2;simp only[Value.slice.injEq]at ev2;rw[ev2.2.2];exact hlc
      have hxv:a.eval x=.slice (some ⟨b,l.toNat*sz',none⟩) (es.length - l.toNat) (c - l.toNat):=by
       rw[(zD.1 hx).1,hvv];have:¬c=l.toNat:=by omega
       simp[JY,this,Addr.add_lit]
      have hsum:(l+j).toNat=l.toNat+j.toNat:=by omega
      refine zr ?_ hs';have hrun:=z0Y (P:=P) (b:=b) (o:=l.toNat*sz') (n:=es.length - l.toNat) (c:=c - l.toNat) (k:=k) he hsz d4 (by omega);have hoff:l.toNat*sz' + j.toNat*sz'=(l+j).toNat*sz':=by rw[hsum,mn]
      rw[hoff]at hrun;simp[execOp,ho,ei,hxv,hrun]
     ·exact(z7 e4).elim
    | _=>simp only[ht]at e4;exact(z7 e4).elim
   | _=>simp only[ht]at e4;exact(z7 e4).elim
  ·exact(z7 e4).elim
 ·exact(z7 e4).elim
end
def zfB (i:TI):Option A :=
 match i.zero with
 | some z=>if z.live=true then some z.shut.loose else none
 | none=>none
theorem zi5 {i:TI}{z':A}(h:zfB i=some z'):∃z,i.zero=some z/\z.live=true/\z'=z.shut.loose:=by
 unfold zfB at h;split at h
 ·rename_i z hz;split at h
  ·rename_i hl;cases h;exact⟨z,hz,hl,rfl⟩
  ·cases h
 ·cases h
theorem zaX (z:Array Value)(n:Nat):(Builtin.zeroCells z n).toList=(List.replicate n z.toList).flatten:=by
 apply gX;intro k;rw[zdj,rU];simp only[Builtin.zeroCells,Array.toList_map,Array.toList_range,gT];by_cases hk:k<n*z.size
 ·rw[if_pos hk,rV hk,gH];have hz:0<z.size:=by
   rcases ra z.size with h0|h0
   ·rw[h0]at hk;simp at hk
   ·exact h0
  have hmod:k % z.size<z.size:=Nat.mod_lt _ hz;rw[mJ,gS hmod,getElem!_pos z _ hmod]
 ·rw[if_neg hk,pQ (by simpa using hk),Option.map_none]
theorem zpZ:∀{xs:List A} {cs:List Value} (_:yK S xs cs) (_:∀x∈xs,x.size=sz) (l:Nat),yK S (xs.take l) (cs.take (l*sz))
 | [],cs,h,_,l=>by simp only[yK]at h;subst h;simp[yK]
 | x::xs,cs,h,hs,0=>by simp[yK]
 | x::xs,cs,h,hs,l+1=>by
  simp only[yK]at h;obtain⟨c1,c2,rfl,h1,h2⟩:=h;have hl:c1.length=sz:=by rw[h1.len];exact hs x (by simp)
  rw[ru,rq,s5,<-hl,List.take_length_add_append];simp only[yK];rw[hl];exact⟨c1,_,rfl,h1,zpZ h2 (λy hy=>hs y (by simp[hy])) l⟩
theorem zku {o:Nat}{zs:List Value}(h:o+zs.length<=arr.size):(z1a arr o zs).toList.take (o+zs.length)=arr.toList.take o++zs:=by
 rw[<-Zb h];have h1:(arr.toList.take o).length=o:=by simp;omega
 simp only[];rw[show o+zs.length=(arr.toList.take o++zs).length by simp;omega,List.take_left]
section
variable {C:Ctx}{S:zo}{Fp:Nat->List Nat}{st:St}{a:Act}{w:World}
def vcK (tt:TT)(n:Fr)(dst:Option Nat)(ty sz r:Nat)(l:Int)(e:Ent):SM Unit :=
 match e.t with
 | .own (.osl sz' tg es)=>
  match tt ty with
  | some ⟨.slice el,_,_,_,_⟩=>
   match tt el with
   | some i=>
    match zfB i with
    | some z=>if sz'=sz/\i.size=sz/\0<=l/\l.toNat<=es.length/\A.areD es=true then
      wrE r ⟨.own (.osl sz tg (es.take l.toNat++List.replicate (es.length - l.toNat) z)),e.er,e.ec+1⟩ >>= λ_=>wrT n dst (.d (.tup []))
     else zu
    | none=>zu
   | none=>zu
  | _=>zu
 | _=>zu
open Classical in
def vcO (tt:TT)(n:Fr)(dst:Option Nat)(ty sz r:Nat)(v:Value)(l:Int)(x:Operand):SM Unit:=do
 let tx <-opnd x;let e <-rdE r
 if tx=.d (.atom (JY sz v l))/\z4T n.pin r=some v then vcK tt n dst ty sz r l e else zu
def vcH (tt:TT)(n:Fr)(dst:Option Nat)(ty sz r:Nat)(v:Value)(l:Int)(x:Operand):HM Unit:=yg (opnd x) >>= λtx=>yg (rdE r) >>= λe=>XW (tx=.d (.atom (JY sz v l))/\z4T n.pin r=some v)
  (match e.t with
  | .own (.osl sz' tg es)=>
   match tt ty with
   | some ⟨.slice el,_,_,_,_⟩=>
    match tt el with
    | some i=>
     match zfB i with
     | some z=>if sz'=sz/\i.size=sz then XW (0<=l/\l.toNat<=es.length/\A.areD es=true)
       (eqL (es.take l.toNat++List.replicate (es.length - l.toNat) z) >>= λzs=>yg (wrE r ⟨.own (.osl sz tg zs),e.er,e.ec+1⟩ >>= λ_=>wrT n dst (.d (.tup []))))
      else zV
     | none=>zV
    | none=>zV
   | _=>zV
  | _=>zV)
open Classical in
theorem zCx (tt:TT)(n:Fr)(dst:Option Nat)(ty sz r:Nat)(v:Value)(l:Int)(x:Operand):Snd (vcO tt n dst ty sz r v l x) (vcH tt n dst ty sz r v l x):=by
 refine zj (zn _) λtx=>zj (zn _) λe=>vL ?_;unfold vcK;cases e.t with
 | own y=>
  cases y with
  | osl sz' tg es=>
   dsimp only
   generalize tt ty=q;rcases q with _|⟨k,a1,a2,a3,a4⟩
   ·exact zw _
   ·cases k with
    | slice el=>
     dsimp only
     generalize tt el=q;cases q with
     | none=>exact zw _
     | some i=>
      dsimp only
      cases zfB i with
      | none=>exact zw _
      | some z=>refine z8a (λh1 h2=>⟨h1.1,h1.2,h2.1,h2.2.1,h2.2.2⟩) ?_;exact z3a (ye _ λzs=>wrE r ⟨.own (.osl sz tg zs),e.er,e.ec+1⟩ >>= λ_=>wrT n dst (.d (.tup []))).symm (zj (ziv _) λ_=>zn _)
    | _=>exact zw _
  | _=>exact zw _
 | _=>exact zw _
open Classical in
theorem Loc.vcO (tt:TT)(n:Fr)(dst:Option Nat)(ty sz r:Nat)(v:Value)(l:Int)(x:Operand):Loc (vcO tt n dst ty sz r v l x):=by
 unfold Go.Own.vcO;refine Loc.bind (Loc.opnd _) λ_=>Loc.bind (Loc.rdE _) λ_=>Loc.ite ?_ Loc.fail;unfold Go.Own.vcK;split
 ·split
  ·split
   ·split
    ·exact Loc.ite (Loc.bind (Loc.wrE _ _) λ_=>Loc.wrT _ _ _) Loc.fail
    ·exact Loc.fail
   ·exact Loc.fail
  ·exact Loc.fail
 ·exact Loc.fail
theorem zz3 (hT:wy P tt)(h:Sim C S Fp [] st a w)  {t sz r:Nat}{v:Value}{l:Int}{x:Operand}(ho:o.op=.call ⟨.builtin .clear,⟨[x]⟩,⟨[t]⟩⟩)    (e0:vcO tt C.n o.dst t sz r v l x st=some (u,R,U)):qO P C o a w (zh U st):=by
  unfold vcO at e0;obtain⟨tx,R1,U1,R2,U2,h1,e1,rfl,rfl⟩:=bind_some e0;obtain⟨rfl,hx⟩:=zK h h1;obtain⟨en,R7,U7,R8,U8,h7,e4,rfl,rfl⟩:=bind_some e1;obtain⟨rfl,rfl,rfl⟩:=yl h7;simp only[zh,p9]at e4 ⊢;split at e4
  · rename_i hc;obtain⟨rfl,c2⟩:=hc;have hs:=h.pin r v (ZQ c2);unfold vcK at e4;cases ht:(st r).t with
    | own y=>
     cases y with
     | osl sz' tg es=>
      simp only[ht]at e4;obtain⟨el,a1,a2,a3,a4,hty⟩:∃el a1 a2 a3 a4,tt t=some ⟨.slice el,a1,a2,a3,a4⟩:=by
        cases hq:tt t with
        | none=>simp only[hq]at e4;exact(z7 e4).elim
        | some it=>
          obtain⟨k,a1,a2,a3,a4⟩:=it;cases k with
          | slice el=>exact⟨el,a1,a2,a3,a4,rfl⟩
          | _=>simp only[hq]at e4;exact(z7 e4).elim
      simp only[hty]at e4;obtain⟨i,hi⟩:∃i,tt el=some i:=by
        cases hq:tt el with
        | none=>simp only[hq]at e4;exact(z7 e4).elim
        | some i=>exact⟨i,rfl⟩
      simp only[hi]at e4;obtain⟨z',hz'⟩:∃z',zfB i=some z':=by
        cases hq:zfB i with
        | none=>simp only[hq]at e4;exact(z7 e4).elim
        | some i=>exact⟨i,rfl⟩
      simp only[hz']at e4;have hel:P.underlying t=some (.slice el):=(hT _ _ hty).kind
      · · split at e4
          · rename_i hd;obtain⟨rfl,d2,d3,d4,d5⟩:=hd;obtain⟨z,hz,hlv,rfl⟩:=zi5 hz';obtain⟨f,f1,f2,f3,f4⟩:=(hT _ _ hi).info;obtain⟨zv,v1,v2,v3⟩:=f4 z hz;have hzr:Rep S z.shut.loose zv.cells.toList:=((v3 S w.heap).shut (λ_ _ _ q=>q) hlv (by simp)).loose;have hzl:zv.cells.toList.length=sz':=by rw[((v3 S w.heap).shut (S':=S) (λ_ _ _ q=>q) hlv (by simp)).len,A.size_shut,v2,d2]
            have hq:=h.ent r;unfold wv at hq;simp only[ht]at hq;obtain⟨cs,c1,c3,c4⟩:=hq;simp only[zU]at c1;obtain⟨p,c,rfl,t1,t2,t3,t4,t5⟩:=c1;have ev:Act.tv a r=.slice p es.length c:=c4;have hvv:v=.slice p es.length c:=by rw[<-hs,ev]
            have hxv:=(zD.1 hx).1;rw[hvv]at hxv;obtain⟨y1,R9,U9,R10,U10,h9,e5,rfl,rfl⟩:=bind_some e4;obtain⟨rfl,rfl⟩:=wO h9;have hlen:(es.take l.toNat++List.replicate (es.length - l.toNat) z.shut.loose).length=es.length:=by simp;omega
            have hsz:∀y∈es.take l.toNat++List.replicate (es.length - l.toNat) z.shut.loose,y.size=sz':=by
              intro y hy;rcases pA.1 hy with q|q
              · exact t4 y (gC q)
              · rw[mR q,<-hzr.len,hzl]
            have hreps:∀n,yK S (List.replicate n z.shut.loose) (List.replicate n zv.cells.toList).flatten:=by
              intro n;induction n with
              | zero=>simp[yK]
              | succ n ih=>simp only[nI,List.flatten_cons,yK];exact⟨_,_,rfl,hzr,ih⟩
            obtain⟨w',F',hrun,hkept,hst,hfr,hconc,hF'⟩:∃w' F',(Builtin.clear_ #[t] o.type #[a.eval x]).run P w=.ok (.tuple #[]) w'/\UQ C.M w w'/\(∀b o u,S b o=some u->yj w'.heap b o=some u)/\(∀k,k∉Fp r->w'.heap[k]?=w.heap[k]?) /\
                zU S w'.heap (.osl sz' tg (es.take l.toNat++List.replicate (es.length - l.toNat) z.shut.loose)) [.slice p es.length c] F'/\F'=Fp r:=by
              by_cases hn:es.length - l.toNat=0
              · refine⟨w,Fp r,?_,UQ.refl _ _,h.still.cell,λ_ _=>rfl,?_,rfl⟩
                · rw[hxv];simp only[JY];rw[hn];cases hp:(if c=l.toNat then p else p.map (·.add (l.toNat*sz'))) with
                  | none=>simp[Builtin.clear_,run_underlying hel]
                  | some _=>simp[Builtin.clear_,run_underlying hel]
                · have:es.take l.toNat++List.replicate (es.length - l.toNat) z.shut.loose=es:=by rw[hn,List.replicate_zero,hU,nH (by omega)]
                  rw[this];simp only[zU];exact⟨p,c,rfl,t1,t2,t3,t4,t5⟩
              · rcases t5 with⟨rfl,_⟩|⟨b,arr,ty,cl,F1,rfl,k1,k2,k3,k4,k5,k6⟩
                · simp at hn
                obtain⟨hr,rfl⟩:=k4.areD d5;let zs:=(List.replicate (es.length - l.toNat) zv.cells.toList).flatten;have hzs:zs.length=(es.length - l.toNat)*sz':=by show(List.replicate _ _).flatten.length=_;rw[List.length_flatten];simp[hzl]
                have hfit:l.toNat*sz' + zs.length<=arr.size:=by rw[hzs,<-mn];refine pE (gF _ ?_) k2;omega
                let w':=w.setRow b (z1a arr (l.toNat*sz') zs);have hheap:∀k,k≠b->w'.heap[k]?=w.heap[k]?:=λk hk=>setRow_other w b k _ hk;have hheapb:w'.heap[b]?=some (.cells (z1a arr (l.toNat*sz') zs) ty (0,0)):=setRow_heap w b arr _ ty (0,0) k1;have hb:b∈Fp r:=by rw[k5];simp
                have h1c:∀u∈zs,u.oneCell'=true:=by intro u hu;obtain⟨m,hm,hu⟩:=List.mem_flatten.1 hu;rw[mR hm]at hu;exact hzr.one u hu
                refine⟨w',Fp r,?_,⟨rfl,rfl,rfl,pC _,by simp[w'],λk hk=>hheap k (λe=>hk (e ▸ h.base r b hb))⟩,?_,λk hk=>hheap k (λe=>hk (e ▸ hb)),?_,rfl⟩
                · have hst:=run_storeCells_at P b (l.toNat*sz') ty zs 0 arr w k1 (by simpa using hfit) h1c;simp only[mY]at hst;rw[Zb hfit]at hst;have hz0:(zeroValue el).run P w=.ok zv w:=by simp[zeroValue,typeInfo,f1,v1]
                  rw[hxv];have hcl:¬c=l.toNat:=by omega
                  simp only[JY,if_neg hcl,gH,Addr.add_lit,gN];obtain⟨m,hm⟩:∃m,es.length - l.toNat=m+1:=⟨es.length - l.toNat - 1,by omega⟩;have hzc:(Builtin.zeroCells zv.cells (m+1)).toList=zs:=by rw[zaX,<-hm]
                  rw[hm];simp[Builtin.clear_,run_underlying hel,hz0,hzc,hst,w']
                · intro b' o'' u hu;have hne:b'≠b:=by rintro rfl;rw[k6]at hu;cases hu
                  rw[vD (h:=w.heap) (h':=w'.heap) (hheap b' hne)];exact h.still b' o'' u hu
                · simp only[zU,hlen];refine⟨_,c,rfl,t1,t2,t3,hsz,.inr ⟨b,_,ty,_,[],rfl,hheapb,by simpa using k2,rfl,?_,k5,k6⟩⟩;have e1:es.length*sz'=l.toNat*sz' + zs.length:=by rw[hzs,<-mn];congr 1;omega
                  rw[e1,zku hfit];have e2:arr.toList.take (l.toNat*sz')=cl.take (l.toNat*sz'):=by rw[<-k3,r8,mH (gF _ d4)]
                  rw[e2];exact((zpZ hr t4 _).append (hreps _)).concs _
            subst hF';have hs1:Sim C S (z2j Fp r (Fp r)) [] (upd st r ⟨.own (.osl sz' tg (es.take l.toNat++List.replicate (es.length - l.toNat) z.shut.loose)),(st r).er,(st r).ec+1⟩) a w':=by
              refine h.change r (.own _) _ _ (Fp r) (h.below.trans hkept) (λ_ _ _ q=>q) hst h.sbase ?_ ⟨⟨_,hconc,c3,by rw[ev];simp[y8]⟩,_,ht⟩ (.inl ⟨_,ht⟩) (pC _) (gB _) ?_ ?_ (by simp) (by simp) (by simp) (by simp)
              · intro t' k htr hk;exact⟨hfr k (λq=>htr (h.disj t' r k hk q)),(h.free t' k hk).2.1⟩
              · intro t' k htr hk hk';exact htr (h.disj t' r k hk' hk)
              · intro k hk;exact h.base r k hk
            rw[zB];simp only[zh]at e5 ⊢;obtain⟨Fp',hs'⟩:=wP hs1 e5 (x:=.d (.tup [])) (v:=.tuple #[]) (by simp only[TOk,wh];exact⟨[],rfl,trivial⟩);refine zr ?_ hs';simp[execOp,ho,resolve,invoke,builtin,hrun]
          · exact(z7 e4).elim
     | _=>simp only[ht]at e4;exact(z7 e4).elim
    | _=>simp only[ht]at e4;exact(z7 e4).elim
  · exact(z7 e4).elim
end
variable {β:Type}
def xAt (P:Program)  (p:Oper->Option β)(e:Fr->Oper->β->SM Unit)(h:Fr->Oper->β->HM Unit)
  (ok:∀(C:Ctx) (S:zo) (Fp:Nat->List Nat) (st:St) (a:Act) (w:World) (o:Oper) (b:β),p o=some b->Sim C S Fp [] st a w->∀u R U,e C.n o b st=some (u,R,U)->qO P C o a w (zh U st))
  (loc:∀n o b,Loc (e n o b)) (sd:∀n o b,Snd (e n o b) (h n o b)):XH P:={
 e:=λn o=>(p o).map (e n o)
 h:=λn o=>(p o).map (h n o)
 ok:=by
  refine⟨?_,?_⟩
  ·intro C S Fp st a w o m u R U e0 h h2;obtain⟨b,hp,rfl⟩:=pZ.1 e0;exact ok C S Fp st a w o b hp h _ _ _ h2
  ·intro n o m e0;obtain⟨b,hp,rfl⟩:=pZ.1 e0;exact λst st' a R U=>loc n o b st st' a R U
 none:=by intro n o e0;rw[Option.map_eq_none_iff]at e0 ⊢;exact e0
 some:=by intro n o m e0;obtain⟨b,hp,rfl⟩:=pZ.1 e0;exact⟨_,by rw[hp];rfl,sd n o b⟩ }
theorem z8d {d:Nat}  {x:Option β}{b:β}(h:(if o.dst=some d then x else none)=some b):x=some b:=by
 split at h
 ·exact h
 ·cases h
def zyN (d:Nat)(o:Oper):Option (Nat×Operand×Operand):=match o.op with|.slice t x (some lo) none none=>if o.dst=some d then some (t,x,lo) else none|_=>none
def xVw (hT:wy P tt)(d r:Nat)(v:Value):XH P :=
 xAt P (zyN d) (λn o b=>vwO tt n o.dst b.1 r v b.2.1 b.2.2) (λn o b=>vwH tt n o.dst b.1 r v b.2.1 b.2.2)
  (by
   intro C S Fp st a w o b hp h u R U e;unfold zyN at hp;split at hp
   ·rename_i ho;cases z8d hp;exact zz0 hT h ho e
   ·cases hp)
  (λn o b=>Loc.vwO _ _ _ _ _ _ _ _) (λn o b=>zCu _ _ _ _ _ _ _ _)
def zyO (d t:Nat)(o:Oper):Option Operand:=match o.op with|.call ⟨.builtin .len,⟨[x]⟩,⟨[t']⟩⟩=>if o.dst=some d then(if t'=t then some x else none) else none|_=>none
def xVl (hT:wy P tt)(d t sz r:Nat)(v:Value)(l:Int)(hty:jF tt t=true):XH P :=
 xAt P (zyO d t) (λn o x=>vlO n o.dst sz r v l x) (λn o x=>vlH n o.dst sz r v l x)
  (by
   intro C S Fp st a w o x hp h u R U e;unfold zyO at hp;split at hp
   ·rename_i ho;replace hp:=z8d hp;split at hp
    ·rename_i ht;subst ht;cases hp;exact zz1 hT h hty ho e
    ·cases hp
   ·cases hp)
  (λn o x=>Loc.vlO _ _ _ _ _ _ _) (λn o x=>zCv _ _ _ _ _ _ _)
def zql (d:Nat)(o:Oper):Option (Nat×Operand×Operand):=match o.op with|.indexAddr t x i=>if o.dst=some d then some (t,x,i) else none|_=>none
def xVi (hT:wy P tt)(d sz r:Nat)(v:Value)(l:Int):XH P :=
 xAt P (zql d) (λn o b=>viO tt n o.dst b.1 sz r v l b.2.1 b.2.2) (λn o b=>viH tt n o.dst b.1 sz r v l b.2.1 b.2.2)
  (by
   intro C S Fp st a w o b hp h u R U e;unfold zql at hp;split at hp
   ·rename_i ho;cases z8d hp;exact zz2 hT h ho e
   ·cases hp)
  (λn o b=>Loc.viO _ _ _ _ _ _ _ _ _ _) (λn o b=>zCw _ _ _ _ _ _ _ _ _ _)
def zBh (s:Nat)(o:Oper):Option Nat:=match o.op with|.call ⟨.builtin .clear,⟨[.tmp s']⟩,⟨[t]⟩⟩=>if s'=s then some t else none|_=>none
def xVc (hT:wy P tt)(s sz r:Nat)(v:Value)(l:Int):XH P :=
 xAt P (zBh s) (λn o t=>vcO tt n o.dst t sz r v l (.tmp s)) (λn o t=>vcH tt n o.dst t sz r v l (.tmp s))
  (by
   intro C S Fp st a w o b hp h u R U e;unfold zBh at hp;split at hp
   ·rename_i ho;split at hp
    ·rename_i hs;subst hs;cases hp;exact zz3 hT h ho e
    ·cases hp
   ·cases hp)
  (λn o b=>Loc.vcO _ _ _ _ _ _ _ _ _) (λn o b=>zCx _ _ _ _ _ _ _ _ _)
def clO (tt:TT)(n:Fr)(dst:Option Nat)(t:Nat)(x hi mx:Operand):SM Unit:=do
 let y <-opnd x;let z <-take y;match z with
 | .osl sz _ es=>if wx tt t=some sz then bound es.length (some hi) >>= λh=>bound 0 (some mx) >>= λm=>if h<=m/\m<=es.length then wrT n dst (.own (.osl sz (m==h) (es.take h))) else zu else zu
 | _=>zu
def clH (tt:TT)(n:Fr)(dst:Option Nat)(t:Nat)(x hi mx:Operand):HM Unit:=yg (opnd x) >>= λy=>zfQ y >>= λz=>
 match z with
 | .osl sz _ es=>if wx tt t=some sz then zae es.length (some hi) >>= λh=>zae 0 (some mx) >>= λm=>XW (h<=m/\m<=es.length) (eqA (.osl sz (m==h) (es.take h)) >>= λz=>yg (wrT n dst (.own z))) else zV
 | _=>zV
theorem zCI (tt:TT)(n:Fr)(dst:Option Nat)(t:Nat)(x hi mx:Operand):Snd (clO tt n dst t x hi mx) (clH tt n dst t x hi mx):=by
 refine zj (zn _) λy=>zj (zbM _) λz=>?_;cases z with
 | osl sz tg es=>refine jP (zj (z6E _ _) λh=>zj (z6E _ _) λm=>vL ?_) (zw _);exact z3a (ye _ λz=>wrT n dst (.own z)).symm (zj (zbo _) λ_=>zn _)
 | _=>exact zw _
theorem Loc.clO (tt:TT)(n:Fr)(dst:Option Nat)(t:Nat)(x hi mx:Operand):Loc (clO tt n dst t x hi mx):=by
 unfold Go.Own.clO;refine Loc.bind (Loc.opnd _) λ_=>Loc.bind (Loc.take _) λz=>?_;cases z with
 | osl sz tg es=>exact Loc.ite (Loc.bind (Loc.bound _ _) λ_=>Loc.bind (Loc.bound _ _) λ_=>Loc.ite (Loc.wrT _ _ _) Loc.fail) Loc.fail
 | _=>exact Loc.fail
section
variable {C:Ctx}{S:zo}{Fp:Nat->List Nat}{st:St}{a:Act}{w:World}
theorem zzR {P:Program}  (hT:wy P tt)(h:Sim C S Fp [] st a w)   {x hi mx:Operand}(ho:o.op=.slice t x none (some hi) (some mx))    (e:clO tt C.n o.dst t x hi mx st=some (u,R,U)):qO P C o a w (zh U st):=by
 unfold clO at e;obtain⟨y,R1,U1,R2,U2,h1,e1,rfl,rfl⟩:=bind_some e;obtain⟨rfl,hx⟩:=zK h h1;simp only[zh,p9]at e1 ⊢;obtain⟨z,R3,U3,R4,U4,h3,e2,rfl,rfl⟩:=bind_some e1;obtain⟨Fp',F,g1,g2⟩:=z6z h hx h3;rw[zB];cases z with
 | osl sz tg es=>
  simp only at e2;split at e2
  ·rename_i hel;obtain⟨hh,R5,U5,R6,U6,h5,e3,rfl,rfl⟩:=bind_some e2;obtain⟨rfl,b2⟩:=z3n g1 h5;simp only[zh,p9]at e3 ⊢;obtain⟨m,R7,U7,R8,U8,h7,e4,rfl,rfl⟩:=bind_some e3;obtain⟨rfl,b3⟩:=z3n g1 h7;simp only[zh,p9]at e4 ⊢;split at e4
   ·rename_i hle;obtain⟨hle1,hle2⟩:=hle;obtain⟨el,he,hsz⟩:=uk hT hel w;obtain⟨cs,k1,k2,k3⟩:∃cs,zU S w.heap (.osl sz tg es) cs F/\F.Nodup/\a.eval x=y8 (.osl sz tg es) cs:=by
     rcases g2 with⟨q,_⟩|q
     ·simp only[wh,qa,Rep,false_and,exists_false]at q
     ·exact q
    simp only[zU]at k1;obtain⟨p,c,rfl,t1,t2,t3,t4,t5⟩:=k1;have ev:a.eval x=.slice p es.length c:=k3;have b3':z7I ((some mx).map a.eval) c m:=by
     rcases b3 with⟨q,_⟩|⟨o,k,j,q,q2,q3,q4⟩
     ·cases q
     ·cases q;exact .inr ⟨k,j,by simp[q2],q3,q4⟩
    have b2':(Option.isSome ((some hi).map a.eval))=true:=rfl;have hrun:=Vq (P:=P) (w:=w) he hsz (p:=p) (len:=es.length) (c:=c) (lo:=none) (.inl ⟨rfl,rfl⟩) (z3o b2) b3' (pT _) hle1 (by omega) (λ_=>b2');have hp:(if m=0 then p else p.map (·.add (0*sz)))=p:=by
     split
     ·rfl
     ·cases p <;> simp[Addr.add]
    rw[hp]at hrun;have hlen:(es.take hh).length=hh:=by simp;omega
    have ht4:∀x∈es.take hh,x.size=sz:=λx hx=>t4 x (gC hx);obtain⟨F2,cs2,m1,m2,m3,m4⟩:∃F2 cs2,zU S w.heap (.osl sz (m==hh) (es.take hh)) cs2 F2/\F2.Nodup/\(∀k∈F2,k∈F)/\y8 (.osl sz (m==hh) (es.take hh)) cs2=.slice p hh m:=by
     rcases t5 with⟨rfl,rfl,rfl,rfl⟩|⟨b,arr,ty,l,F',rfl,e1,e2,e3,e4,rfl,e5⟩
     ·have hm0:m=0:=by simpa using hle2
      subst hm0;have:hh=0:=by omega
      subst this;refine⟨[],[.slice none 0 0],?_,by simp,by simp,rfl⟩;simp only[zU];exact⟨none,0,by simp,by simp,by simp,pT _,by simp,.inl (by simp)⟩
     ·obtain⟨F3,q1,q2,q3⟩:=zcd e4 hh;have hn:=pY.1 k2;refine⟨b::F3,[.slice (some ⟨b,0,none⟩) hh m],?_,pY.2 ⟨λq=>hn.1 (q2 b q),q3 hn.2⟩,?_,rfl⟩
      ·simp only[zU];refine⟨some ⟨b,0,none⟩,m,by rw[hlen],by intro q;rw[hlen];simpa using q,by rw[hlen];omega,by omega,ht4,.inr ⟨b,arr,ty,_,F3,rfl,e1,pE (gF _ (by omega)) e2,?_,q1,rfl,e5⟩⟩;rw[<-e3,r8,A.sizes_const ht4,hlen];congr 1;have:=gF sz (show hh<=es.length by omega);omega
      ·intro k hk;rcases pD.1 hk with rfl|hk
       ·simp
       ·simp[q2 k hk]
    have g1':Sim C S Fp' (F2++[]) (zh U3 st) a w:=g1.mem g1.below (λ_ _ _ h=>h) g1.still.cell g1.sbase (λt' k hk=>⟨rfl,(g1.free t' k hk).2.1⟩) (by simpa using m2) (λt' k hk=>g1.xd t' k (by simp at hk ⊢;exact m3 k hk)) (λk hk=>g1.xb k (by simp at hk ⊢;exact m3 k hk));obtain⟨Fp'',hs⟩:=Kc g1' e4 m1 m2;rw[m4]at hs;refine zr ?_ hs;simp only[nG]at hrun;simp only[gH]at hrun;simp[execOp,ho,ev,hrun]
   ·exact(z7 e4).elim
  ·exact(z7 e2).elim
 | _=>exact(z7 e2).elim
end
def zBo (d:Nat)(o:Oper):Option (Nat×Operand×Operand×Operand):=match o.op with|.slice t x none (some hi) (some mx)=>if o.dst=some d then some (t,x,hi,mx) else none|_=>none
def xCl (hT:wy P tt)(d:Nat):XH P :=
 xAt P (zBo d) (λn o b=>clO tt n o.dst b.1 b.2.1 b.2.2.1 b.2.2.2) (λn o b=>clH tt n o.dst b.1 b.2.1 b.2.2.1 b.2.2.2)
  (by
   intro C S Fp st a w o b hp h u R U e;unfold zBo at hp;split at hp
   ·rename_i ho;cases z8d hp;exact zzR hT h ho e
   ·cases hp)
  (λn o b=>Loc.clO _ _ _ _ _ _ _) (λn o b=>zCI _ _ _ _ _ _ _)
def zD1 (d:Nat)(o:Oper):Option Unit:=match o.op with|.call ⟨.value _,_,_⟩=>if o.dst=some d then some () else none|_=>none
def zcm (hT:wy P tt){s:zN}(h:s.Ok P)(d:Nat):XH P :=
 xAt P (zD1 d) (λn o _=>stepO tt (z3y.add s) n o) (λn o _=>zef tt (z3y.add s) n o)
  (λC S Fp st a w o b hp hS u R U e=>zcN hT (Ctr.add_ok (zgE P) h) hS e)
  (λn o b=>Loc.stepO _ _ _ _) (λn o b=>zg2 _ _ _ _)
theorem vlM (f:α->A)(l:List α)(k:Nat):A.atom (.int .i64 (((l.map f).length - k:Nat):Int))=.atom (.int .i64 ((l.length - k:Nat):Int)):=by rw[gD]
theorem vcM (f:α->A)(l:List α)(k:Nat)(z:α):(l.map f).take k++List.replicate ((l.map f).length - k) (f z)=(l.take k++List.replicate (l.length - k) z).map f:=by simp
theorem clB (f:α->A)(l:List α):((l.length:Nat):Int).toNat<=((l.length:Nat):Int).toNat/\((l.length:Nat):Int).toNat<=(l.map f).length:=by simp
theorem clE (sz:Nat)(f:α->A)(l:List α):A.osl sz (((l.length:Nat):Int).toNat==((l.length:Nat):Int).toNat) ((l.map f).take ((l.length:Nat):Int).toNat)=eOs sz true f l:=by simp only[beq_self_eq_true,pB,eOs];rw[nH (by simp)]
def zmv:Value->Option Bool
 | .slice none _ _=>some true
 | .slice (some _) _ _=>some false
 | _=>none
variable {Q:Exit->St->Prop}
theorem zm4 {P:Program}{n:Fr}{c:Code}  {Q:Exit->St->Prop}  (e:fs=[])(k:Nat)  {t:Bool}  (hk:(st k).t=.d (.sl sz t es))
  (h:∀v,v.oneCell'=true->(zmv v=some true/\es=[])\/zmv v=some false->AWP P ⟨n.size,(k,v)::n.pin⟩ c st (Qf P ⟨n.size,(k,v)::n.pin⟩ [] Q)):AWP P n c st (Qf P n fs Q):=by
 subst e;intro rd m df w0 S0 M S Fp a w hc hs;have q:=hs.ent k;unfold wv at q;simp only[hk]at q;have q1:=q.1;simp only[wh]at q1;obtain⟨cs,r1,r2⟩:=q1;simp only[Rep]at r1;obtain⟨p,c',rfl,r3,r4,r5,r6⟩:=r1;have ev:Act.tv a k=.slice p es.length c':=r2;have hcase:(zmv (Act.tv a k)=some true/\es=[])\/zmv (Act.tv a k)=some false:=by
  rw[ev];cases p with
  | none=>
   refine .inl ⟨rfl,?_⟩;rcases r6 with r6|⟨b,o,l,e,_⟩
   ·exact r6
   ·cases e
  | some p=>exact .inr rfl
 refine wpIn_mono (h (Act.tv a k) (by rw[ev];rfl) hcase rd m df w0 S0 M S Fp a w ⟨hc.nodup,hc.df,hc.rd⟩ (hs.pinned k)) ?_;rintro e a' w' ⟨df',st1,S1,Fp1,h1,h2,h3⟩;exact⟨df',st1,S1,Fp1,h1.unpinned,h2,h3⟩
open Classical in
def nilO (n:Fr)(dst:Option Nat)(v:Value)(b:Bool)(x y:Operand):SM Unit:=do
 let tx <-opnd x;let ty <-opnd y
 if tx=.d (.atom v)/\ty=.d (.atom (.slice none 0 0)) then wrT n dst (.d (.atom (.bool b))) else zu
def zBe (n:Fr)(dst:Option Nat)(v:Value)(b:Bool)(x y:Operand):HM Unit:=yg (opnd x) >>= λtx=>yg (opnd y) >>= λty=>XW (tx=.d (.atom v)/\ty=.d (.atom (.slice none 0 0))) (yg (wrT n dst (.d (.atom (.bool b)))))
open Classical in
theorem zzh (n:Fr)(dst:Option Nat)(v:Value)(b:Bool)(x y:Operand):Snd (nilO n dst v b x y) (zBe n dst v b x y):=zj (zn _) λ_=>zj (zn _) λ_=>vL (zn _)
open Classical in
theorem Loc.nilO (n:Fr)(dst:Option Nat)(v:Value)(b:Bool)(x y:Operand):Loc (nilO n dst v b x y):=by unfold Go.Own.nilO;exact Loc.bind (Loc.opnd _) λ_=>Loc.bind (Loc.opnd _) λ_=>Loc.ite (Loc.wrT _ _ _) Loc.fail
variable {a:Act}{C:Ctx}{b:Bool}
theorem zvq (hT:wy P tt)       (h:Sim C S Fp [] st a w)  {t yt:Nat}   {x y:Operand}(hty:jF tt t=true)(hv:zmv v=some b)(ho:o.op=.binOp .eql t x y yt)    (e0:nilO C.n o.dst v b x y st=some (u,R,U)):qO P C o a w (zh U st):=by
 unfold nilO at e0;obtain⟨tx,R1,U1,R2,U2,h1,e1,rfl,rfl⟩:=bind_some e0;obtain⟨rfl,hx⟩:=zK h h1;obtain⟨ty,R3,U3,R4,U4,h3,e2,rfl,rfl⟩:=bind_some e1;obtain⟨rfl,hy⟩:=zK h h3;simp only[zh,p9]at e2 ⊢;split at e2
 ·rename_i hc;obtain⟨rfl,rfl⟩:=hc;have ex:=(zD.1 hx).1;have ey:=(zD.1 hy).1;obtain⟨el,hel⟩:=VC hT hty;obtain⟨Fp',hs⟩:=wP h e2 (x:=.d (.atom (.bool b))) (zD.2 ⟨rfl,rfl⟩);refine zr ?_ hs;have heq:(Op.equal t v (.slice none 0 0)).run P w=.ok b w:=by
   unfold Op.equal Op.maxDepth;show(Op.equalIn (9999+1) t v _).run P w=_;generalize 9999=q;unfold Op.equalIn;simp only[Sem.run_bind,run_underlying hel,Result.andThen_ok];cases v with
   | slice p l c=>cases p <;> (simp only[zmv,Option.some.injEq]at hv;subst hv;simp)
   | _=>cases hv
  cases v with
  | slice p l c=>simp[execOp,ho,ex,ey,eqGuard,Go.binOp,heq]
  | _=>cases hv
 ·exact(z7 e2).elim
def zvM (d t:Nat)(o:Oper):Option (Operand×Operand):=match o.op with|.binOp .eql t' x y _=>if o.dst=some d then(if t'=t then some (x,y) else none) else none|_=>none
def zyH (hT:wy P tt)(d t:Nat)   (hty:jF tt t=true)(hv:zmv v=some b):XH P :=
 xAt P (zvM d t) (λn o q=>nilO n o.dst v b q.1 q.2) (λn o q=>zBe n o.dst v b q.1 q.2)
  (by
   intro C S Fp st a w o q hp h u R U e;unfold zvM at hp;split at hp
   ·rename_i ho;replace hp:=z8d hp;split at hp
    ·rename_i ht;subst ht;cases hp;exact zvq hT h hty hv ho e
    ·cases hp
   ·cases hp)
  (λn o q=>Loc.nilO _ _ _ _ _ _) (λn o q=>zzh _ _ _ _ _ _)
instance (k:IntKind)(x y:Int):SzA (eI k x) (eI k y):=⟨rfl⟩
open Classical in
def asO (n:Fr)(dst:Option Nat)(v:Value)(x:Operand):SM Unit:=do
 let tx <-opnd x
 if tx=.d (.atom v) then wrT n dst (.d (.atom v)) else zu
def asH (n:Fr)(dst:Option Nat)(v:Value)(x:Operand):HM Unit:=yg (opnd x) >>= λtx=>XW (tx=.d (.atom v)) (yg (wrT n dst (.d (.atom v))))
open Classical in
theorem zCK (n:Fr)(dst:Option Nat)(v:Value)(x:Operand):Snd (asO n dst v x) (asH n dst v x):=zj (zn _) λ_=>vL (zn _)
open Classical in
theorem Loc.asO (n:Fr)(dst:Option Nat)(v:Value)(x:Operand):Loc (asO n dst v x):=by unfold Go.Own.asO;exact Loc.bind (Loc.opnd _) λ_=>Loc.ite (Loc.wrT _ _ _) Loc.fail
theorem zzT (h:Sim C S Fp [] st a w)  {v:Value}{x:Operand}(ho:o.op=.assign x)    (e0:asO C.n o.dst v x st=some (u,R,U)):qO P C o a w (zh U st):=by
 unfold asO at e0;obtain⟨tx,R1,U1,R2,U2,h1,e1,rfl,rfl⟩:=bind_some e0;obtain⟨rfl,hx⟩:=zK h h1;simp only[zh,p9]at e1 ⊢;split at e1
 ·rename_i hc;subst hc;have hx':wh S (.atom v) (a.eval x):=hx;obtain⟨Fp',hs⟩:=wP h e1 (x:=.d (.atom v)) (v:=a.eval x) hx';exact zr (by simp[execOp,ho]) hs
 ·exact(z7 e1).elim
def zBq (d:Nat)(o:Oper):Option Operand:=match o.op with|.assign x=>if o.dst=some d then some x else none|_=>none
def xAs (P:Program)(d:Nat)(v:Value):XH P :=
 xAt P (zBq d) (λn o x=>asO n o.dst v x) (λn o x=>asH n o.dst v x)
  (by
   intro C S Fp st a w o x hp h u R U e;unfold zBq at hp;split at hp
   ·rename_i ho;cases z8d hp;exact zzT h ho e
   ·cases hp)
  (λn o x=>Loc.asO _ _ _ _) (λn o x=>zCK _ _ _ _)
theorem zlM {p:Option Addr}{n c:Nat}:JY sz (.slice p n c) 0=.slice p n c:=by
 have:(0:Int).toNat=0:=rfl;simp only[JY,this,nG,Nat.zero_mul];congr 1;split
 ·rfl
 ·cases p <;> simp[Addr.add]
def mwK (n:Fr)(dst:Option Nat)(r sz:Nat)(v:Value)(e:Ent):SM Unit :=
 match e.t with
 | .own (.osl sz' _ _)=>if sz'=sz then wrT n dst (.d (.atom (JY sz v 0))) else zu
 | _=>zu
open Classical in
def mwO (n:Fr)(dst:Option Nat)(r sz:Nat)(v:Value):SM Unit:=if z4T n.pin r=some v then(rdE r >>= λe=>mwK n dst r sz v e) else zu
def mwH (n:Fr)(dst:Option Nat)(r sz:Nat)(v:Value):HM Unit:=XW (z4T n.pin r=some v) (yg (rdE r >>= λe=>mwK n dst r sz v e))
open Classical in
theorem Loc.mwO (n:Fr)(dst:Option Nat)(r sz:Nat)(v:Value):Loc (mwO n dst r sz v):=by
 unfold Go.Own.mwO;refine Loc.ite (Loc.bind (Loc.rdE _) λe=>?_) Loc.fail;unfold Go.Own.mwK;split
 ·exact Loc.ite (Loc.wrT _ _ _) Loc.fail
 ·exact Loc.fail
theorem zzx (h:Sim C S Fp [] st a w)  {r sz:Nat}{v:Value}(ho:o.op=.move (.tmp r))    (e0:mwO C.n o.dst r sz v st=some (u,R,U)):qO P C o a w (zh U st):=by
 unfold mwO at e0;split at e0
 ·rename_i hp;have hs:=h.pin r v (ZQ hp);obtain⟨en,R7,U7,R8,U8,h7,e4,rfl,rfl⟩:=bind_some e0;obtain⟨rfl,rfl,rfl⟩:=yl h7;simp only[zh,p9]at e4 ⊢;unfold mwK at e4;cases ht:(st r).t with
  | own y=>
   cases y with
   | osl sz' tg es=>
    simp only[ht]at e4;split at e4
    ·rename_i hz;subst hz;obtain⟨p,c,ev,_,_,_⟩:=zd6 h ht;have hvv:v=.slice p es.length c:=by rw[<-hs,ev]
     obtain⟨Fp',hs'⟩:=wP h e4 (x:=.d (.atom (JY sz' v 0))) (v:=v) (by rw[hvv,zlM];exact zD.2 ⟨rfl,rfl⟩);refine zr ?_ hs';have ex:a.eval (.tmp r)=v:=hs;simp[execOp,ho,ex]
    ·exact(z7 e4).elim
   | _=>simp only[ht]at e4;exact(z7 e4).elim
  | _=>simp only[ht]at e4;exact(z7 e4).elim
 ·exact(z7 e0).elim
open Classical in
theorem zCE (n:Fr)(dst:Option Nat)(r sz:Nat)(v:Value):Snd (mwO n dst r sz v) (mwH n dst r sz v):=vL (zn _)
def zBj (d r:Nat)(o:Oper):Option Unit:=match o.op with|.move (.tmp r')=>if o.dst=some d then(if r'=r then some () else none) else none|_=>none
def xMw (P:Program)(d r sz:Nat)(v:Value):XH P :=
 xAt P (zBj d r) (λn o _=>mwO n o.dst r sz v) (λn o _=>mwH n o.dst r sz v)
  (by
   intro C S Fp st a w o q hp h u R U e;unfold zBj at hp;split at hp
   ·rename_i ho;replace hp:=z8d hp;split at hp
    ·rename_i ht;subst ht;exact zzx h ho e
    ·cases hp
   ·cases hp)
  (λn o q=>Loc.mwO _ _ _ _ _) (λn o q=>zCE _ _ _ _ _)
theorem zm1 (h:Sim C S Fp [] st a w){r:Nat}{x:A}(hr:(st r).t=.own (.box x)):∃b,Act.tv a r=.pointer (some ⟨b,0,none⟩):=by have hq:=h.ent r;unfold wv at hq;simp only[hr]at hq;obtain⟨cs,c1,c2,c3⟩:=hq;simp only[zU]at c1;obtain⟨b,ty,l,F',rfl,_⟩:=c1;exact⟨b,c3⟩
def ncK (n:Fr)(dst:Option Nat)(r:Nat)(e:Ent):SM Unit :=
 match e.t with
 | .own (.box _)=>wrT n dst (.als r [] e.er e.ec)
 | _=>zu
open Classical in
def ncO (n:Fr)(dst:Option Nat)(r:Nat)(v:Value)(x:Operand):SM Unit:=do
 let tx <-opnd x
 if tx=.d (.atom v)/\z4T n.pin r=some v then(rdE r >>= λe=>ncK n dst r e) else zu
def ncH (n:Fr)(dst:Option Nat)(r:Nat)(v:Value)(x:Operand):HM Unit:=yg (opnd x) >>= λtx=>XW (tx=.d (.atom v)/\z4T n.pin r=some v) (yg (rdE r >>= λe=>ncK n dst r e))
open Classical in
theorem zCC (n:Fr)(dst:Option Nat)(r:Nat)(v:Value)(x:Operand):Snd (ncO n dst r v x) (ncH n dst r v x):=zj (zn _) λ_=>vL (zn _)
open Classical in
theorem Loc.ncO (n:Fr)(dst:Option Nat)(r:Nat)(v:Value)(x:Operand):Loc (ncO n dst r v x):=by
 unfold Go.Own.ncO;refine Loc.bind (Loc.opnd _) λ_=>Loc.ite (Loc.bind (Loc.rdE _) λe=>?_) Loc.fail;unfold Go.Own.ncK;split
 ·exact Loc.wrT _ _ _
 ·exact Loc.fail
theorem zzv (h:Sim C S Fp [] st a w)  {r:Nat}   (ho:o.op=.nilCheck x)    (e0:ncO C.n o.dst r v x st=some (u,R,U)):qO P C o a w (zh U st):=by
 unfold ncO at e0;obtain⟨tx,R1,U1,R2,U2,h1,e1,rfl,rfl⟩:=bind_some e0;obtain⟨rfl,hx⟩:=zK h h1;simp only[zh,p9]at e1 ⊢;split at e1
 ·rename_i hc;obtain⟨rfl,hp⟩:=hc;have hs:=h.pin r v (ZQ hp);obtain⟨en,R7,U7,R8,U8,h7,e4,rfl,rfl⟩:=bind_some e1;obtain⟨rfl,rfl,rfl⟩:=yl h7;simp only[zh,p9]at e4 ⊢;unfold ncK at e4;cases ht:(st r).t with
  | own y=>
   cases y with
   | box z=>
    simp only[ht]at e4;obtain⟨b,ev⟩:=zm1 h ht;have hvv:v=.pointer (some ⟨b,0,none⟩):=by rw[<-hs,ev]
    have hals:XJ w.heap st (Act.tv a) r [] (st r).er (st r).ec (Act.tv a r):=by refine⟨pC _,pC _,?_⟩;simp[ht]
    have hT:TOk S w.heap st (Act.tv a) (.als r [] (st r).er (st r).ec) v:=by rw[<-hs];exact hals
    obtain⟨Fp',hs'⟩:=wP h e4 hT;refine zr ?_ hs';have ex:a.eval x=v:=(zD.1 hx).1;simp[execOp,ho,ex,hvv]
   | _=>simp only[ht]at e4;exact(z7 e4).elim
  | _=>simp only[ht]at e4;exact(z7 e4).elim
 ·exact(z7 e1).elim
def zyP (d:Nat)(o:Oper):Option Operand:=match o.op with|.nilCheck x=>if o.dst=some d then some x else none|_=>none
def xNc (P:Program)(d r:Nat)(v:Value):XH P :=
 xAt P (zyP d) (λn o x=>ncO n o.dst r v x) (λn o x=>ncH n o.dst r v x)
  (by
   intro C S Fp st a w o x hp h u R U e;unfold zyP at hp;split at hp
   ·rename_i ho;cases z8d hp;exact zzv h ho e
   ·cases hp)
  (λn o x=>Loc.ncO _ _ _ _ _) (λn o x=>zCC _ _ _ _ _)
def spR (k:Nat){α ρ:Type}(enc:α->List A)(encR:ρ->A)(F:α->Option ρ)(gives:List Bool)(inj:∀x y,enc x=enc y->x=y):zN:={
 α:=α
 k:=k
 raw:=true
 gives:=gives
 enc:=enc
 pre:=λx=>∃r,F x=some r
 f:=λx=>match F x with|some r=>encR r|none=>.dead 0
 inj:=by intro x y h _ _;rw[inj x y h] }
theorem zjC {α ρ:Type}{enc:α->List A}{encR:ρ->A}{F:α->Option ρ}  {inj:∀x y,enc x=enc y->x=y}(h:∀x r,F x=some r->V5 P k (enc x) (encR r)):(spR k enc encR F gives inj).Ok P:=by rintro x ⟨r,hr⟩;have:=h x r hr;simpa only[spR,hr] using this
theorem zzL {k:Nat}{α ρ:Type}{enc:α->List A}{encR:ρ->A}{F:α->Option ρ}{gives:List Bool}{inj:∀x y,enc x=enc y->x=y}{x:α}{r:ρ}(hr:F x=some r)  (ha:as_=enc x) :
  (z3y.add (spR k enc encR F gives inj)).run k ((z3y.add (spR k enc encR F gives inj)).norm k as_)=some (encR r):=by
 have h:=Ctr.add_has z3y (spR k enc encR F gives inj);have h1:=h.run x ⟨r,hr⟩;have h2:(z3y.add (spR k enc encR F gives inj)).raw k=true:=h.raw;unfold Ctr.norm;rw[h2,ha];refine Eq.trans h1 ?_;simp only[spR,hr]
theorem zss {α ρ:Type}{enc:α->List A}{encR:ρ->A}{F:α->Option ρ}  {inj:∀x y,enc x=enc y->x=y}:(z3y.add (spR k enc encR F gives inj)).lend k=none/\(z3y.add (spR k enc encR F gives inj)).gives k=gives:=⟨(Ctr.add_has z3y _).lend,(Ctr.add_has z3y _).gives⟩
section
variable {α:Type}
def eFl (sz:Nat)(f:α->A)(x:List α×Bool):A:=.sl sz x.2 (x.1.map f)
instance (sz:Nat)(f:α->A):z7V (eFl sz f) (eFl sz f):=⟨λ_=>rfl,λ_=>rfl⟩
theorem flL (sz:Nat)(tg:Bool)(f:α->A)(l:List (List α)):(l.map λx=>(x,tg)).map (eFl sz f)=l.map (eSl sz tg f):=by rw[mO];rfl
theorem flE {f:α->A}{l:List (List α×Bool)}(h:∀x∈l,x.2=true):l.map (eFl sz f)=(l.map (·.1)).map (eSl sz true f):=by rw[mO];exact nK λx hx=>by simp[eFl,eSl,h x hx]
instance LeA.flO (s t:Nat)(tg:Bool)(b:Bool)(f:α->A)(l:List (List α)):LeA (eOs s b (eSl t tg f) l) (eOs s b (eFl t f) (l.map λx=>(x,tg))):=by unfold eOs;rw[flL];infer_instance
theorem flA {s t:Nat}  {f:α->A}{l:List (List α×Bool)}(h:∀x∈l,x.2=true):LeA (eSl s b (eFl t f) l) (eSl s b (eSl t true f) (l.map (·.1))):=by unfold eSl;rw[flE h];exact LeA.refl _
end
variable {F:List Nat}
theorem KT (hF:∀k∈F,∀o,S k o=none):∀b o u,S b o=some u->yf S h F b o=some u:=by intro b o u hs;unfold yf;rw[if_neg (λq=>by rw[hF b q o]at hs;cases hs)];exact hs
theorem Sim.sealX (h:Sim C S Fp (F++[]) st a w)(hF:∀k∈F,∀o,S k o=none):Sim C (yf S w.heap F) Fp [] st a w:=by
 refine h.mem h.below (KT hF) ?_ ?_ ?_ (by simp) (by simp) (by simp)
 ·intro b o v q;unfold yf at q;split at q
  ·exact q
  ·exact h.still b o v q
 ·intro b o hb;unfold yf;rw[if_neg (λq=>hb (h.xb b (by simpa using q)))];exact h.sbase b o hb
 ·intro t k hk;refine⟨rfl,λo=>?_⟩;unfold yf;rw[if_neg (λq=>h.xd t k (by simpa using q) hk)];exact(h.free t k hk).2.1 o
mutual
theorem A.live_isD:∀{a:A},a.isD=true->a.live=true
 | .atom _,_=>rfl
 | .fn _ _,_=>rfl
 | .agg fs,h=>by simp only[A.isD]at h;simp only[A.live];exact A.lives_areD h
 | .sl _ _ _,_=>rfl
 | .sptr _,_=>rfl
 | .dop _,_=>rfl
 | .tup _,h=>by simp[A.isD]at h
 | .osl _ _ _,h=>by simp[A.isD]at h
 | .box _,h=>by simp[A.isD]at h
 | .dead _,h=>by simp[A.isD]at h
 | .opq _,h=>by simp[A.isD]at h
theorem A.lives_areD:∀{as_:List A},A.areD as_=true->A.lives as_=true
 | [],_=>rfl
 | a::as_,h=>by simp only[A.areD,pJ]at h;simp only[A.lives,A.live_isD h.1,A.lives_areD h.2,rC]
end
theorem A.areD_app:∀{as_ bs:List A},A.areD as_=true->A.areD bs=true->A.areD (as_++bs)=true
 | [],_,_,h=>h
 | a::as_,bs,h1,h2=>by simp only[A.areD,pJ]at h1;simp only[gQ,A.areD,pJ];exact⟨h1.1,A.areD_app h1.2 h2⟩
def zzU (tt:TT)(t sz:Nat):Bool :=
 match tt t with
 | some ⟨.slice e,_,_,_,_⟩=>match tt e with|some i=>sz==i.size&&decide (i.bytes<=4096)&&decide (0<i.size)&&i.zero.isSome|none=>false
 | _=>false
def apO (tt:TT)(n:Fr)(dst:Option Nat)(t:Nat)(s x:Operand):SM Unit:=do
 let ts <-opnd s;let tx <-opnd x;match ts,tx with
 | .d (.sl sz tg es),.d (.sl sz2 _ ys)=>if zzU tt t sz=true/\sz2=sz/\tg=true/\es.length+ys.length<=lim/\A.areD es=true/\A.areD ys=true then wrT n dst (.d (.sl sz false (es++ys))) else zu
 | _,_=>zu
def apH (tt:TT)(n:Fr)(dst:Option Nat)(t:Nat)(s x:Operand):HM Unit:=yg (opnd s) >>= λts=>yg (opnd x) >>= λtx=>
 match ts,tx with
 | .d (.sl sz tg es),.d (.sl sz2 _ ys)=>if zzU tt t sz=true/\sz2=sz/\tg=true then XW (es.length+ys.length<=lim/\A.areD es=true/\A.areD ys=true) (eqL (es++ys) >>= λzs=>yg (wrT n dst (.d (.sl sz false zs)))) else zV
 | _,_=>zV
theorem zCL (tt:TT)(n:Fr)(dst:Option Nat)(t:Nat)(s x:Operand):Snd (apO tt n dst t s x) (apH tt n dst t s x):=by
 refine zj (zn _) λts=>zj (zn _) λtx=>?_;split
 ·refine z8a (λh1 h2=>⟨h1.1,h1.2.1,h1.2.2,h2.1,h2.2.1,h2.2.2⟩) ?_;exact z3a (ye _ λzs=>wrT n dst (.d (.sl _ false zs))).symm (zj (ziv _) λ_=>zn _)
 ·exact zw _
theorem Loc.apO (tt:TT)(n:Fr)(dst:Option Nat)(t:Nat)(s x:Operand):Loc (apO tt n dst t s x):=by
 unfold Go.Own.apO;refine Loc.bind (Loc.opnd _) λ_=>Loc.bind (Loc.opnd _) λ_=>?_;split
 ·exact Loc.ite (Loc.wrT _ _ _) Loc.fail
 ·exact Loc.fail
theorem zzV (hT:wy P tt)       (h:Sim C S Fp [] st a w)  {t:Nat}{s x:Operand}(ho:o.op=.call { callee:=.builtin .append,args:=#[s,x],argTypes:=#[t,t] })    (e0:apO tt C.n o.dst t s x st=some (u,R,U)):qO P C o a w (zh U st):=by
 unfold apO at e0;obtain⟨ts,R1,U1,R2,U2,h1,e1,rfl,rfl⟩:=bind_some e0;obtain⟨rfl,hs⟩:=zK h h1;obtain⟨tx,R3,U3,R4,U4,h3,e2,rfl,rfl⟩:=bind_some e1;obtain⟨rfl,hx⟩:=zK h h3;simp only[zh,p9]at e2 ⊢;split at e2
 ·rename_i sz tg es sz2 tg2 ys;split at e2
  ·rename_i hc;obtain⟨c1,rfl,rfl,c4,c5,c6⟩:=hc;obtain⟨el,i,hel,hi,hsz,c3,cz,c7⟩:∃el i,P.underlying t=some (.slice el)/\tt el=some i/\sz2=i.size/\i.bytes<=4096/\0<i.size/\i.zero.isSome=true:=by
    unfold zzU at c1;split at c1
    ·rename_i e _ _ _ _ ht;split at c1
     ·rename_i i hi;simp only[pJ,beq_iff_eq,decide_eq_true_eq]at c1;exact⟨e,i,(hT _ _ ht).kind,hi,c1.1.1.1,c1.1.1.2,c1.1.2,c1.2⟩
     ·cases c1
    ·cases c1
   obtain⟨f,f1,f2,f3,f4⟩:=(hT _ _ hi).info;obtain⟨z0,hz0⟩:=ro.1 c7;obtain⟨zv,v1,v2,v3⟩:=f4 z0 hz0;have hzs:zv.cells.size=f.size:=by have:=(v3 (λ_ _=>none) #[]).len;rw[v2,<-f2]at this;simpa using this
   have hs':wh S (.sl sz2 true es) (a.eval s):=hs;have hx':wh S (.sl sz2 tg2 ys) (a.eval x):=hx;obtain⟨p,d,news,ev,r1,r2,r3⟩:=z5e (y:=.sl sz2 tg2 ys) h (.inl ⟨tg2,rfl⟩) c6 (.inl hx');have fin:∀v w',(Builtin.append_ #[t,t] o.type #[a.eval s,a.eval x]).run P w=.ok v w'->(execOp a.eval o).run P w=.ok (.value v) w':=by intro v w' hrun;simp[execOp,ho,resolve,invoke,builtin,hrun]
   simp only[wh]at hs';obtain⟨cs,q1,q2⟩:=hs';simp only[Rep]at q1;obtain⟨pp,c,rfl,t1,t2,t3,t4⟩:=q1;have hcl:=t1 trivial;subst hcl;have es1:a.eval s=.slice pp es.length es.length:=q2;by_cases hne:ys=[]
   ·subst hne;obtain⟨Fp',hs2⟩:=wP h e2 (x:=.d (.sl sz2 false (es++[]))) (v:=.slice pp es.length es.length) (by simp only[TOk,wh,hU];refine⟨[.slice pp es.length es.length],?_,rfl⟩;simp only[Rep];exact⟨pp,_,rfl,by simp,pC _,t3,t4⟩)
    refine zr (fin _ _ ?_) hs2;rw[es1,ev];exact Jf hel f1 pp p es.length es.length d (pC _) w
   ·have hpos:0<ys.length:=nJ.2 hne;rcases r3 with⟨hy,_⟩|⟨ad,rfl,hnews⟩
    ·exact absurd hy hne
    subst hsz;rw[<-f2]at t3 r2 e2;have hold:∃olds,yK S es olds/\((pp=none/\es=[]/\es.length=0)\/∃b,pp=some b/\∀j v,olds[j]?=some v->w.cell? (b.add j)=some v):=by
     rcases t4 with rfl|⟨b,o',l,rfl,k1,k2⟩
     ·cases pp with
      | none=>exact⟨[],by simp[yK],.inl ⟨rfl,rfl,rfl⟩⟩
      | some b=>exact⟨[],by simp[yK],.inr ⟨b,rfl,by simp⟩⟩
     ·exact⟨l,k1,.inr ⟨_,rfl,z9A h k2⟩⟩
    obtain⟨olds,n1,n2⟩:=hold;have h':Sim C S Fp ([]++[]) st a w:=by simpa using h
    obtain⟨v,w',hrun,F',m1,m2,cs',m3,rfl⟩:=VH (ty:=o.type) hel f1 v1 hzs h' (n1.concs w.heap) (by simp) (r1.concs w.heap) t3 r2 n2 (d:=d) hnews (by omega) c4 (by omega) hpos;have hF:∀k∈F',∀o,S k o=none:=λk hk=>(m3.own k hk).2.1;have hs3:=m1.sealX hF;have hD:A.areD (es++ys)=true:=A.areD_app c5 c6;have hrep:=m3.shut (KT hF) (by simp only[A.live];exact A.lives_areD hD) (λk hk o=>by unfold yf;rw[if_pos hk]);simp only[A.shut]at hrep;rw[A.shuts_areD hD]at hrep;obtain⟨Fp'',hs'⟩:=wP hs3 e2 (x:=.d (.sl f.size false (es++ys))) (v:=y8 (.osl f.size false (es++ys)) cs') (by simp only[TOk,wh];exact⟨cs',hrep,rfl⟩)
    exact zr (fin _ _ (by rw[es1,ev];exact hrun)) hs'
  ·exact(z7 e2).elim
 ·exact(z7 e2).elim
def zyR (d:Nat)(o:Oper):Option (Nat×Operand×Operand):=match o.op with|.call ⟨.builtin .append,⟨[s,x]⟩,⟨[t,t']⟩⟩=>if o.dst=some d then(if t'=t then some (t,s,x) else none) else none|_=>none
def xAp (hT:wy P tt)(d:Nat):XH P :=
 xAt P (zyR d) (λn o q=>apO tt n o.dst q.1 q.2.1 q.2.2) (λn o q=>apH tt n o.dst q.1 q.2.1 q.2.2)
  (by
   intro C S Fp st a w o q hp h u R U e;unfold zyR at hp;split at hp
   ·rename_i ho;replace hp:=z8d hp;split at hp
    ·rename_i ht;subst ht;cases hp;exact zzV hT h ho e
    ·cases hp
   ·cases hp)
  (λn o q=>Loc.apO _ _ _ _ _ _) (λn o q=>zCL _ _ _ _ _ _)
theorem apM (f:α->A)[z4U f]{l m:List α}(h:l.length+m.length<=4294967296):(l.map f).length+(m.map f).length<=lim/\A.areD (l.map f)=true/\A.areD (m.map f)=true:=⟨by simpa[lim] using h,dM f l,dM f m⟩
variable {vals:List Value}{args caps xs:List A}{ys:List A}
theorem zoR {tt:TT}    {nt t:Nat}(is:List Nat){args caps xs:List A}{vals:List Value}{r:A}{ys:List A}(hT:wy P tt)(hf:P.funcs[k]?=some fn)(hnm:(fn.name == "runtime.NumGoroutine")=false)(hb:fn.body=some body)
  (hn:nt=fn.ntmps) (hr:fn.results=#[.tmp t]) (ha:(args++caps).length<=fn.ntmps) (hnd:is.Nodup) (hbase:is.map (λi=>(args++caps)[i]?)=vals.map (λv=>some (.atom v))) (hl:xs.length=vals.length) (hrd:r.isD=true) (hrn:Jq tt 0 r=r)
  (h:∀E:Exit->St->Prop,(∀ex st,(ex=.normal\/ex=.ret)->(∀p∈is.zip ys,(st p.1).t=.own p.2)->(st t).t=.d r->E ex st) ->
   AWP P ⟨nt,is.zip vals⟩ body (ofL (zhG 0 (z1C (args++caps) is xs))) (Qf P ⟨nt,is.zip vals⟩ [] E)) (hy:is.length=ys.length):Yr P (.fn k caps) args (vals.zip xs) r ys:=by
 subst hn;refine z9V (tt:=tt) (rs:=[(t,none)]) is hT hf hnm hb hr ha hnd hbase hl ?_;rw[zc7];refine h _ ?_;intro ex st hx hc hrt;refine⟨hx,?_⟩;have h2:=z9P hy hc;have hop:opnd (.tmp t) st=some (.d r,[t],[]):=by simp only[opnd,hrt,bind,SM.bind,rdE,pure,SM.pure,zh,hU]
 have hsh:shutT tt 0 (.d r) st=some (r,[],[]):=by
  have:shutT tt 0 (.d r)=pure r:=by cases r <;> first|(simp[A.isD]at hrd;done)|(simp only[shutT,hrn,A.shut_isD hrd])|skip
  rw[this];rfl
 have h1:shutArgs tt [(Operand.tmp t,0)] st=some ([r],[t],[]):=by simp only[shutArgs,bind,SM.bind,hop,zh,hsh,pure,SM.pure,hU,p9]
 refine⟨[t]++(is++[]),[],?_⟩;simp only[zw3,gM,nP,bind,SM.bind,h1,zh,h2,WQ,gH,pure,SM.pure,zz5,hU,p9]
variable {y:A}
theorem zBy {live:List Nat}  {l:List (Nat×T)}(hc:canon live st=ofL l)   (hk:live.contains k=true)(hy:(ofL l k).t=.d y):(st k).t=.d y:=by
 have:=congrFun hc k;rw[Qv,if_pos (nU.1 hk)]at this;rw[<-this]at hy;unfold zj9 at hy;cases hx:(st k).t with
 | als r p er ec=>simp only[hx]at hy;split at hy <;> cases hy
 | ptr r p er ec=>simp only[hx]at hy;split at hy <;> cases hy
 | own a=>simp only[hx]at hy;cases hy
 | d a=>simpa only[hx] using hy
 | gone=>simp only[hx]at hy;cases hy
def z44 (x:List UInt8):A:=.atom (.string ⟨x.toArray⟩)
def u8s (l:List Int):List UInt8:=l.map λn=>UInt8.ofNat n.toNat
def z1H:List A->Option (List Int)
 | []=>some []
 | .atom (.int .u8 n)::as_=>(z1H as_).map (n :: ·)
 | _=>none
theorem zcf:∀l:List Int,z1H (l.map (eI .u8))=some l
 | []=>rfl
 | n::l=>by simp only[gM,eI,z1H];rw[show l.map (eI .u8)=l.map (eI .u8) from rfl];simp only[zcf l,gH]
theorem zad:∀{as_:List A} {ns:List Int} {cs:List Value},z1H as_=some ns->yK S as_ cs->cs=ns.map (Value.int .u8)/\as_.length=ns.length
 | [],ns,cs,h,r=>by simp only[z1H,Option.some.injEq]at h;subst h;simp only[yK]at r;subst r;exact⟨rfl,rfl⟩
 | a::as_,ns,cs,h,r=>by
  unfold z1H at h;split at h
  ·cases ‹_=[]›
  ·rename_i n as' e;cases e;obtain⟨ms,h1,rfl⟩:=pZ.1 h;simp only[yK]at r;obtain⟨c1,c2,rfl,r1,r2⟩:=r;simp only[Rep]at r1;obtain⟨q1,q2⟩:=zad h1 r2;obtain⟨rfl,_⟩:=r1;subst q1;exact⟨rfl,by simp[q2]⟩
  ·cases h
theorem zhX:∀{as_:List A} {ns:List Int},z1H as_=some ns->A.areD as_=true
 | [],_,_=>rfl
 | a::as_,ns,h=>by
  unfold z1H at h;split at h
  ·cases ‹_=[]›
  ·rename_i n as' e;cases e;obtain⟨ms,h1,rfl⟩:=pZ.1 h;simp only[A.areD,A.isD,zhX h1,rC]
  ·cases h
theorem zbT:∀(ns:List Int) (s:List UInt8),ns.foldl (λr n=>r.push (UInt8.ofNat n.toNat)) (⟨s.toArray⟩:ByteArray)=⟨(s++u8s ns).toArray⟩
 | [],s=>by simp[u8s]
 | n::ns,s=>by
  rw[rc];have:(⟨s.toArray⟩:ByteArray).push (UInt8.ofNat n.toNat)=⟨(s++[UInt8.ofNat n.toNat]).toArray⟩:=by simp[ByteArray.push]
  rw[this,zbT ns];simp[u8s]
def zyT (P:Program)(s d:Nat):Prop:=∃e,P.underlying s=some (.slice e)/\P.underlying e=some (.int .u8)/\P.underlying d=some .string
theorem zrj {s d e:Nat}(h1:P.underlying s=some (.slice e))(h2:P.underlying e=some (.int .u8))(h3:P.underlying d=some .string):zyT P s d:=⟨e,h1,h2,h3⟩
def strO (n:Fr)(dst:Option Nat)(x:Operand):SM Unit:=do
 let tx <-opnd x;let y <-peek tx;match y with
 | .sl _ _ ys|.osl _ _ ys=>ofO ((z1H ys).map λns=>z44 (u8s ns)) >>= λr=>wrT n dst (.d r)
 | _=>zu
def zB4 (n:Fr)(dst:Option Nat)(x:Operand):HM Unit:=yg (opnd x) >>= λtx=>zbt tx >>= λy=>
 match y with
 | .sl _ _ ys|.osl _ _ ys=>zgM ((z1H ys).map λns=>z44 (u8s ns)) >>= λr=>yg (wrT n dst (.d r))
 | _=>zV
theorem zz8 (n:Fr)(dst:Option Nat)(x:Operand):Snd (strO n dst x) (zB4 n dst x):=by
 refine zj (zn _) λtx=>zj (z5k _) λy=>?_;cases y with
 | sl sz t ys=>exact zj (z5l _) λ_=>zn _
 | osl sz t ys=>exact zj (z5l _) λ_=>zn _
 | _=>exact zw _
theorem Loc.strO (n:Fr)(dst:Option Nat)(x:Operand):Loc (strO n dst x):=by
 unfold Go.Own.strO;refine Loc.bind (Loc.opnd _) λ_=>Loc.bind (Loc.peek _) λ_=>?_;split
 ·exact Loc.bind (Loc.ofO _) λ_=>Loc.wrT _ _ _
 ·exact Loc.bind (Loc.ofO _) λ_=>Loc.wrT _ _ _
 ·exact Loc.fail
theorem zuS {P:Program}       (h:Sim C S Fp [] st a w)  {s t:Nat}{x:Operand}(hs:zyT P s t)(ho:o.op=.convert s t x)    (e0:strO C.n o.dst x st=some (u,R,U)):qO P C o a w (zh U st):=by
 unfold strO at e0;obtain⟨tx,R1,U1,R2,U2,h1,e1,rfl,rfl⟩:=bind_some e0;obtain⟨rfl,hx⟩:=zK h h1;obtain⟨y,R3,U3,R4,U4,h3,e2,rfl,rfl⟩:=bind_some e1;obtain⟨rfl,q⟩:=z19 h hx h3;simp only[zh,p9]at e2 ⊢;obtain⟨el,k1,k2,k3⟩:=hs;have main:∀(sz:Nat) (ys:List A),((∃tg,y=.sl sz tg ys)\/∃tg,y=.osl sz tg ys)->(ofO ((z1H ys).map λns=>z44 (u8s ns)) >>= λr=>wrT C.n o.dst (.d r)) st=some (u,R4,U4)->qO P C o a w (zh U4 st):=by
  intro sz ys hy e3;obtain⟨r,R5,U5,R6,U6,h5,e4,rfl,rfl⟩:=bind_some e3;obtain⟨hm,rfl,rfl⟩:=kQ h5;simp only[zh,p9]at e4 ⊢;obtain⟨ns,hn,rfl⟩:=pZ.1 hm;obtain⟨p,d,news,ev,r1,r2,r3⟩:=z5e h hy (zhX hn) q;obtain⟨rfl,hl⟩:=zad hn r1;obtain⟨Fp',hs'⟩:=wP h e4 (x:=.d (z44 (u8s ns))) (v:=.string ⟨(u8s ns).toArray⟩) (zD.2 ⟨rfl,rfl⟩);refine zr ?_ hs';have hrun:(convert s t (a.eval x)).run P w=.ok (.string ⟨(u8s ns).toArray⟩) w:=by
   rw[ev,run_convert_bytes_string w s t el p ys.length d k1 k2 k3];rcases r3 with⟨rfl,hnil⟩|⟨ad,rfl,hc⟩
   ·have:ns=[]:=by simpa using hnil
    subst this;cases p with
    | none=>rfl
    | some ad=>rw[run_bytesToString w ad _ d [] (by simpa using run_loadCells_list w ad [] (by simp))];rfl
   ·have hlc:=run_loadCells_list (P:=P) w ad _ hc;rw[gD,<-hl]at hlc;rw[run_bytesToString w ad _ d ns hlc];have:=zbT ns [];simp only[p9]at this;exact congrArg (λz=>Result.ok (Value.string z) w) this
  simp[execOp,ho,hrun]
 cases y with
 | sl sz tg ys=>exact main sz ys (.inl ⟨tg,rfl⟩) e2
 | osl sz tg ys=>exact main sz ys (.inr ⟨tg,rfl⟩) e2
 | _=>exact(z7 e2).elim
def zvJ (s t:Nat)(o:Oper):Option Operand:=match o.op with|.convert s' t' x=>if s'=s/\t'=t then some x else none|_=>none
def zCo (P:Program){s t:Nat}(hs:zyT P s t):XH P :=
 xAt P (zvJ s t) (λn o x=>strO n o.dst x) (λn o x=>zB4 n o.dst x)
  (by
   intro C S Fp st a w o x hp h u R U e;unfold zvJ at hp;split at hp
   ·rename_i ho;split at hp
    ·rename_i ht;obtain⟨rfl,rfl⟩:=ht;cases hp;exact zuS h hs ho e
    ·cases hp
   ·cases hp)
  (λn o x=>Loc.strO _ _ _) (λn o x=>zz8 _ _ _)
theorem stM (l:List Int):((z1H (l.map (eI .u8))).map λns=>z44 (u8s ns))=some (z44 (u8s l)):=by rw[zcf];rfl
def zd7:A->Bool
 | .atom (.string _)=>true
 | _=>false
theorem z0l {a:A}(h:zd7 a=true):∃x,a=.atom (.string x):=by
 unfold zd7 at h;split at h
 ·exact⟨_,rfl⟩
 ·cases h
instance:zAz (K:=List UInt8) z44:=⟨λx y=>by
 simp only[z44,z6o,zbv,gH,Option.some.injEq,y8,nV,Value.string.injEq,ByteArray.mk.injEq,beq_iff_eq];constructor
 ·intro h;simpa using congrArg Array.toList h
 ·rintro rfl;rfl⟩
theorem zm3 (x y:ByteArray):(x==y)=true↔x=y:=by cases x;cases y;rw[ByteArray.mk.injEq];rename_i a b;show(a==b)=true↔a=b;exact beq_iff_eq
variable {z:A}
theorem zov {t kt et:Nat}  (hu:P.underlying t=some (.map kt et))(hk:P.underlying kt=some .string)(hz:∃zv,(∀w,(zeroValue et).run P w=.ok zv w)/\∀S,qa S z zv)(zd:z.isD=true):zmq P t kt et zd7 z:={
 und:=hu
 zero:=hz
 zd:=zd
 key:=λa h=>by obtain⟨x,rfl⟩:=z0l h;exact⟨_,rfl⟩
 check:=λa kv e w h hv=>by obtain⟨x,rfl⟩:=z0l h;cases hv;show(Instr.checkKey e (9999+1) kt _).run P w=_;generalize 9999=q;unfold Instr.checkKey;simp only[Sem.run_bind,run_underlying hk,Result.andThen_ok];simp
 bits:=λa kv h hv=>by obtain⟨x,rfl⟩:=z0l h;cases hv;simp[y8,Instr.sameBits,(zm3 x x).2 rfl]
 find:=λa kv h hv ents es hes hall w=>by
  obtain⟨x,rfl⟩:=z0l h;cases hv;have gen:∀(ents:List MapEntry) (es:List (A×A)) (i:Nat),(∀p∈es,zd7 p.1=true)->UR (λp (e:MapEntry)=>z6o p.1=some e.key) es ents->Instr.findNow .string (.string x) ents i=some (z4t (.string x) ents i):=by
   intro ents;induction ents with
   | nil=>intro es i _ _;rfl
   | cons e ents ih=>
    intro es i h1 h2;cases es with
    | nil=>exact h2.elim
    | cons p es=>
     obtain⟨y,hy⟩:=z0l (h1 p (by simp));have hk2:e.key=.string y:=by have:z6o p.1=some e.key:=h2.1;rw[hy]at this;simp only[z6o,zbv,gH,Option.some.injEq,y8,nV]at this;exact this.symm
     simp only[Instr.findNow,z4t,hk2,Instr.sameNow,Value.string.injEq];by_cases hxy:x=y
     ·subst hxy;rw[(zm3 x x).2 rfl];simp
     ·rw[if_neg (nX hxy),show(x==y)=false by cases hb:x==y with|false=>rfl|true=>exact absurd ((zm3 x y).1 hb) hxy];exact ih es (i+1) (λp hp=>h1 p (by simp[hp])) h2.2
  simp only[Instr.findKey,Sem.run_bind,run_underlying hk,Result.andThen_ok,y8,nV,gen ents es 0 hes hall,Sem.run_pure] }
mutual
def A.indep:A->Bool
 | .atom _=>true
 | .fn _ caps=>A.indeps caps
 | .agg fs=>A.indeps fs
 | .osl _ _ es=>A.indeps es
 | .box x=>x.indep
 | .dead _=>true
 | _=>false
def A.indeps:List A->Bool
 | []=>true
 | a::as_=>a.indep&&A.indeps as_
end
def zqn:T->Bool
 | .gone=>true
 | .d y=>y.indep
 | .own y=>y.indep
 | _=>false
theorem inB (sz:Nat)(t:Bool)(k:IntKind)(l:List Int):zqn (.own (.box (eOs sz t (eI k) l)))=true:=by
 have:A.indeps (l.map (eI k))=true:=by
  induction l with
  | nil=>rfl
  | cons x l ih=>simp only[gM,A.indeps,ih,rE];rfl
 simpa only[zqn,A.indep,eOs] using this
section
variable {α:Type}
instance SzA.opS {β:Type}(s s':Nat)(b b':Bool)(f:α->A)(g:β->A)(l:List α)(l':List β):SzA (eOs s b f l) (eOs s' b' g l'):=⟨rfl⟩
end
theorem Sim.retag (h:Sim C S Fp [] st a w)(k:Nat)(x y:A)(hx:(st k).t=.own x)(hl:LeA x y):Sim C S Fp [] (upd st k ⟨.own y,(st k).er+1,(st k).ec+1⟩) a w:=by
 refine { size:=h.size,pin:=h.pin,defers:=h.defers,below:=h.below,mine:=h.mine,still:=h.still,sinc:=h.sinc,sbase:=h.sbase,ent:=?_,disj:=h.disj,base:=h.base,xn:=h.xn,xd:=h.xd,xb:=h.xb };intro t;have q:=h.ent t;by_cases ht:t=k
 ·subst ht;rw[uT];unfold wv at q ⊢;simp only[hx]at q ⊢;obtain⟨cs,q1,q2,q3⟩:=q;exact⟨cs,hl.conc _ _ _ _ q1,q2,by rw[<-hl.val];exact q3⟩
 ·rw[Q6 _ _ ht];unfold wv at q ⊢;have als:∀{r p er' ec' v},XJ w.heap st (Act.tv a) r p er' ec' v->XJ w.heap (upd st k ⟨.own y,(st k).er+1,(st k).ec+1⟩) (Act.tv a) r p er' ec' v:=by
   intro r p er' ec' v q;by_cases hr:r=k
   ·subst hr;obtain⟨q1,q2,q3⟩:=q;unfold XJ;rw[uT];refine⟨nC q1,nC q2,?_⟩;simp only;intro e1;omega
   ·unfold XJ;rw[Q6 _ _ hr];exact q
  have ptr:∀{r p er' ec' v},Xj w.heap st (Act.tv a) r p er' ec' v->Xj w.heap (upd st k ⟨.own y,(st k).er+1,(st k).ec+1⟩) (Act.tv a) r p er' ec' v:=by
   intro r p er' ec' v q;by_cases hr:r=k
   ·subst hr;obtain⟨q1,q2,q3⟩:=q;unfold Xj;rw[uT];refine⟨nC q1,nC q2,?_⟩;simp only;intro e1;omega
   ·unfold Xj;rw[Q6 _ _ hr];exact q
  cases hz:(st t).t with
  | gone=>simp only[hz]at q ⊢;exact q
  | d y=>simp only[hz]at q ⊢;exact q
  | own y=>simp only[hz]at q ⊢;exact q
  | als r p er' ec'=>simp only[hz]at q ⊢;exact⟨q.1,als q.2⟩
  | ptr r p er' ec'=>simp only[hz]at q ⊢;exact⟨q.1,ptr q.2⟩
theorem qO.retag {st1:St}(hg:qO P C o a w st1)(k:Nat)(x y:A)(hx:(st1 k).t=.own x)(hl:LeA x y):qO P C o a w (upd st1 k ⟨.own y,(st1 k).er+1,(st1 k).ec+1⟩) :=
 λr m K Q hk=>hg r m K Q λS Fp a' w' hs=>hk S Fp a' w' (hs.retag k x y hx hl)
def rtM (y:T):Option (Nat×Bool×Nat×List A):=match y with|.own (.osl z b [.osl s true l])=>some (z,b,s,l)|_=>none
theorem znZ {y:T}{q:Nat×Bool×Nat×List A}(h:rtM y=some q):y=.own (.osl q.1 q.2.1 [.osl q.2.2.1 true q.2.2.2]):=by
 unfold rtM at h;split at h
 ·cases h;rfl
 ·cases h
def nbO (tt:TT)(n:Fr)(dst:Option Nat)(d t len:Nat)(ps:List (Nat×Operand)):SM Unit :=
 qZ tt n dst t len ps >>= λ_=>rdE d >>= λe=>ofO (rtM e.t) >>= λq=>wrE d ⟨.own (.osl q.1 false [.osl q.2.2.1 false q.2.2.2]),e.er+1,e.ec+1⟩
def nbH (tt:TT)(n:Fr)(dst:Option Nat)(d t len:Nat)(ps:List (Nat×Operand)):HM Unit :=
 JA tt n dst t len ps >>= λ_=>yg (rdE d) >>= λe=>yg (ofO (rtM e.t)) >>= λq=>yg (wrE d ⟨.own (.osl q.1 false [.osl q.2.2.1 false q.2.2.2]),e.er+1,e.ec+1⟩)
theorem zCD (tt:TT)(n:Fr)(dst:Option Nat)(d t len:Nat)(ps:List (Nat×Operand)):Snd (nbO tt n dst d t len ps) (nbH tt n dst d t len ps) :=
 zj (z2u _ _ _ _ _ _) λ_=>zj (zn _) λ_=>zj (zn _) λ_=>zn _
theorem Loc.nbO (tt:TT)(n:Fr)(dst:Option Nat)(d t len:Nat)(ps:List (Nat×Operand)):Loc (nbO tt n dst d t len ps) :=
 Loc.bind (by have q:=Loc.stepO tt z3y n ⟨dst,.buildSlice t len ⟨ps⟩,0,default,default,none⟩;exact q) λ_=>Loc.bind (Loc.rdE _) λ_=>Loc.bind (Loc.ofO _) λ_=>Loc.wrE _ _
variable {ps:Array (Nat×Operand)}
section
variable {C:Ctx}{S:zo}{Fp:Nat->List Nat}{st:St}{a:Act}{w:World}
theorem zzw (hT:wy P tt)(h:Sim C S Fp [] st a w)  {d t len:Nat}  (ho:o.op=.buildSlice t len ps)    (e0:nbO tt C.n o.dst d t len ps.toList st=some (u,R,U)):qO P C o a w (zh U st):=by obtain⟨y,R1,U1,R2,U2,h1,e1,rfl,rfl⟩:=bind_some e0;have g:=z1o hT h ho h1;rw[zB];generalize zh U1 st=s1 at g e1 ⊢;obtain⟨e,R7,U7,R8,U8,h7,e4,rfl,rfl⟩:=bind_some e1;obtain⟨rfl,rfl,rfl⟩:=yl h7;simp only[zh,p9]at e4 ⊢;obtain⟨q,R9,U9,R10,U10,h9,e5,rfl,rfl⟩:=bind_some e4;obtain⟨hq,rfl,rfl⟩:=kQ h9;simp only[zh,p9]at e5 ⊢;obtain⟨rfl,rfl⟩:=wO e5;have ht:=znZ hq;exact g.retag d _ _ ht (@LeA.osl _ _ _ _ (@zck.cons _ _ _ _ (LeA.osl _ _ _ _) ⟨rfl⟩ zck.nil))
end
def zyQ (d:Nat)(o:Oper):Option (Nat×Nat×Array (Nat×Operand)):=match o.op with|.buildSlice t len ps=>if o.dst=some d then some (t,len,ps) else none|_=>none
def xNb (hT:wy P tt)(d:Nat):XH P :=
 xAt P (zyQ d) (λn o b=>nbO tt n o.dst d b.1 b.2.1 b.2.2.toList) (λn o b=>nbH tt n o.dst d b.1 b.2.1 b.2.2.toList)
  (by
   intro C S Fp st a w o b hp h u R U e;unfold zyQ at hp;split at hp
   ·rename_i ho;cases z8d hp;exact zzw hT h ho e
   ·cases hp)
  (λn o b=>Loc.nbO _ _ _ _ _ _ _) (λn o b=>zCD _ _ _ _ _ _ _)
abbrev HO:=List H×List Ob
def hoH (l:List HO):List H:=List.rec [] (λx _ r=>x.1++r) l
def hoO (l:List HO):List Prop:=List.rec [] (λx _ r=>x.2.map Ob.p++r) l
def hoB (l:List HO):List Ob:=List.rec [] (λx _ r=>x.2++r) l
theorem z2K (l:List HO):hoO l=(hoB l).map Ob.p:=by
 induction l with
 | nil=>rfl
 | cons x l ih=>show x.2.map Ob.p++hoO l=(x.2++hoB l).map Ob.p;rw[mF,ih]
def Hq {t b:Bool}(h:t=b):HO:=([.b b],[ob h])
abbrev qT:HO:=Hq (Eq.refl true)
abbrev qF:HO:=Hq (Eq.refl false)
def Ha {x y:A}(h:x=y):HO:=([.a y],[ob h])
def Hs {x:Option A}  (h:x=some y):HO:=([.a y],[ob h])
def Hl {x y:List A}(h:x=y):HO:=([.l y],[ob h])
variable {p:Prop}
def Hm {x y:List A}(h:p/\x=y):HO:=([.l y],[ob h])
def Hx (a:H)  (h:p):HO:=([a],[ob h])
def Hn (h:p):HO:=([],[ob h])
def Hh (a:H):HO:=([a],[])
variable {i:Int}
def Hi (f:α->A){l:List α}  {u:α}(h:idx l i=some u):HO:=([.a (f u)],[ob (i0 h),ob (iM f h)])
def Hc {c:Ctr}  {α ρ:Type}{enc:α->List A}{encR:ρ->A}{F:α->Option ρ}  {inj:∀x y,enc x=enc y->x=y}(h:c.Has (spF k enc encR F gives inj)){x:α}{r:ρ}(hr:F x=some r)  (ha:as_.map A.loose=enc x):HO :=
 ([.g gives,.a (encR r)],[ob (JO h),ob (JP h hr ha)])
def Hg {c:Ctr}   (h:c.lend k=none/\c.gives k=gives):HO:=([.g gives],[ob h])
def z4p (l:List (Nat×T)):List Nat:=l.map (·.1)
variable {J:St->Prop}{keep:Bool}{τ:Type}
section
variable {P:Program}{tt:TT}{ctr:Ctr}{n:Fr}{Q:Exit->St->Prop}
theorem yE6 (X:XH P)(hT:wy P tt)(hC:zF P ctr)(hm:P.follows .mixedOrders=true){E:St->Prop}   {rs:List (Nat×Option Nat)}(hE:∀st x R U,zkc tt keep rs st=some (x,R,U)->LeV x r->E st){c:Code}{fs:List Fm}{st:St}(L:List HO)
  (e:ztE X tt ctr n keep rs 4000 c fs st (hoH L)=some (r,hoO L)):AWP P n c st (Qf P n fs (zj5 E)) :=
 zqy X hT hC hm hE 4000 (hoB L) (by rw[<-z2K];exact e) (LeV.refl _)
theorem zCl (X:XH P)(hT:wy P tt)(hC:zF P ctr)(hm:P.follows .mixedOrders=true){E:St->Prop}   {rs:List (Nat×Option Nat)}(hE:∀st x R U,zkc tt keep rs st=some (x,R,U)->LeV x r->E st){c:Code}{fs:List Fm}{st:St}(L:List HO)(x:A)(hle:LeV x r)
  (e:ztE X tt ctr n keep rs 4000 c fs st (hoH L)=some (x,hoO L)):AWP P n c st (Qf P n fs (zj5 E)) :=
 zqy X hT hC hm hE 4000 (hoB L) (by rw[<-z2K];exact e) hle
theorem yB6 (X:XH P)(hT:wy P tt)(hC:zF P ctr)(hm:P.follows .mixedOrders=true)   {live:List Nat}{S:τ->List (Nat×T)}{Inv:τ->Prop}(hJ:∀st' l' z,Inv z->canon live st'=ofL l'->LeL l' (S z)->J st')(z:τ)(hz:Inv z){c:Code}{fs:List Fm}{st:St}(L:List HO)
  (e:zbQ X tt ctr n live 4000 c fs st (hoH L)=some (.back J,ofL (S z),hoO L)):AWP P n c st (Qf P n fs Q) :=
 zm7 X hT hC hm live 4000 (hoH L) J (S z) (hoB L) (by rw[<-z2K];exact e) λst0 h0=>hJ st0 _ z hz h0 (LeL.refl _)
theorem zCm (X:XH P)(hT:wy P tt)(hC:zF P ctr)(hm:P.follows .mixedOrders=true)   {live:List Nat}{S:τ->List (Nat×T)}{Inv:τ->Prop}(hJ:∀st' l' z,Inv z->canon live st'=ofL l'->LeL l' (S z)->J st')(z:τ)(hz:Inv z){c:Code}{fs:List Fm}{st:St}(l:List (Nat×T))(hl:LeL l (S z))(L:List HO)
  (e:zbQ X tt ctr n live 4000 c fs st (hoH L)=some (.back J,ofL l,hoO L)):AWP P n c st (Qf P n fs Q) :=
 zm7 X hT hC hm live 4000 (hoH L) J l (hoB L) (by rw[<-z2K];exact e) λst0 h0=>hJ st0 _ z hz h0 hl
theorem yA6 (X:XH P)(hT:wy P tt)(hC:zF P ctr)(hm:P.follows .mixedOrders=true){c:Code}{fs:List Fm}{st:St}(bd:Code)(path:List Nat)(Js:List (St->Prop))(l:List (Nat×T))(L:List HO)
  (e:zbQ X tt ctr n (z4p l) 4000 c fs st (hoH L)=some (.at (sub path bd) (frs path Js bd []),ofL l,hoO L)) (h:AWP P n (sub path bd) (ofL l) (Qf P n (frs path Js bd []) Q)):AWP P n c st (Qf P n fs Q) :=
 zpB X hT hC hm (z4p l) 4000 (hoH L) _ _ l (hoB L) (by rw[<-z2K];exact e) λst0 h0=>zdB h0 h
theorem yL6 (X:XH P)(hT:wy P tt)(hC:zF P ctr)(hm:P.follows .mixedOrders=true){c:Code}{fs:List Fm}{st:St}(bd:Code)(path:List Nat)(Js:List (St->Prop)){σ τ:Type}(f:σ->Option (LR σ τ))(S:σ->List (Nat×T))(x0:σ){t:τ}(ht:loop f x0=some t)(l:List (Nat×T))(hl:LeL l (S x0))(L:List HO)
  (hk:∀x,z4p (S x)=z4p l)
  (e:zbQ X tt ctr n (z4p l) 4000 c fs st (hoH L)=some (.at (sub path bd) (frs path Js bd []),ofL l,hoO L))
  (e2:sub path bd=.loop (sub (path++[0]) bd))
  (round:∀x m lr,f x=some lr->zyU f m t lr->∀J:St->Prop,(∀st' l' x',z3x f m x'=some t->canon (z4p l) st'=ofL l'->LeL l' (S x')->J st')->AWP P n (sub (path++[0]) bd) (ofL (S x)) (Qf P n (.pre J::frs path Js bd []) Q)):AWP P n c st (Qf P n fs Q):=by
 refine zpB X hT hC hm (z4p l) 4000 (hoH L) _ _ l (hoB L) (by rw[<-z2K];exact e) λst0 h0=>?_;refine zpz (X:=σ×Nat) e2 (z4p l) (λx=>z3x f x.2 x.1=some t) (λx=>x.2) (λx=>S x.1) (x0,z1O) _ h0 hl ht ?_;rintro⟨x,k⟩ hx J hJ;obtain⟨m,lr,rfl,hf,hr⟩:=zzD hx;exact round x m lr hf hr J λst' l' x' h1 h2 h3=>hJ st' l' (x',m) h1 (gB m) h2 h3
theorem yJ6 (X:XH P)(hT:wy P tt)(hC:zF P ctr)(hm:P.follows .mixedOrders=true){c:Code}{fs:List Fm}{st:St}(bd:Code)(path:List Nat)(Js:List (St->Prop)){σ:Type}(live:List Nat)(Inv:σ->Prop)(S:σ->List (Nat×T))(l:List (Nat×T))(L:List HO)
  (e:zbQ X tt ctr n (z4p l) 4000 c fs st (hoH L)=some (.at (sub path bd) (frs path Js bd []),ofL l,hoO L))
  (e2:sub path bd=.seq (sub (path++[2]) bd) (sub (path++[1]) bd))
  (h1:∀z,Inv z->AWP P n (sub (path++[1]) bd) (ofL (S z)) (Qf P n (frs path Js bd []) Q))
  (h2:∀J:St->Prop,(∀st' l' z,Inv z->canon live st'=ofL l'->LeL l' (S z)->J st')->AWP P n (sub (path++[2]) bd) (ofL l) (Qf P n (.pre J::frs path Js bd []) Q)):AWP P n c st (Qf P n fs Q):=by
 refine zpB X hT hC hm (z4p l) 4000 (hoH L) _ _ l (hoB L) (by rw[<-z2K];exact e) λst0 h0=>?_;exact zpA e2 live (z4p l) _ h0 Inv S h1 h2
theorem yF6 (X:XH P)(hT:wy P tt)(hC:zF P ctr)(hm:P.follows .mixedOrders=true){c:Code}{fs:List Fm}{st:St}(ex:Exit)(l:List (Nat×T))(L:List HO)
  (e:zbQ X tt ctr n (z4p l) 4000 c fs st (hoH L)=some (.fin ex,ofL l,hoO L)) (h:∀st0,canon (z4p l) st0=ofL l->Q ex st0):AWP P n c st (Qf P n fs Q) :=
 zwf X hT hC hm (z4p l) 4000 (hoH L) ex l (hoB L) (by rw[<-z2K];exact e) h
theorem zCn (X:XH P)(hT:wy P tt)(hC:zF P ctr)(hm:P.follows .mixedOrders=true){c:Code}{fs:List Fm}{st:St}(c':Code)(fs':List Fm)(l:List (Nat×T))(L:List HO)
  (e:zbQ X tt ctr n (z4p l) 4000 c fs st (hoH L)=some (.at c' fs',ofL l,hoO L)) (h:∀st0,canon (z4p l) st0=ofL l->AWP P n c' st0 (Qf P n fs' Q)):AWP P n c st (Qf P n fs Q) :=
 zpB X hT hC hm (z4p l) 4000 (hoH L) _ _ l (hoB L) (by rw[<-z2K];exact e) h
theorem yO6 {r:A}{ls:List A}(hT:wy P tt)(keep:Bool)(rs:List (Nat×Option Nat))(body:Code)(nt:Nat)(hf:P.funcs[k]?=some fn)(hb:fn.body=some body)(hn:nt=fn.ntmps)(hr:fn.results=(rs.map ze6).toArray)(hnm:(fn.name == "runtime.NumGoroutine")=false)(ha:Nat.ble ls.length nt=true)
  (h:∀E:St->Prop,(∀st x R U,zkc tt keep rs st=some (x,R,U)->LeV x r->E st)->AWP P ⟨nt,[]⟩ body (ofL (zhG 0 ls)) (Qf P ⟨nt,[]⟩ [] (zj5 E))):V5 P k ls r:=by
 subst hn;exact zpt (tt:=tt) (keep:=keep) (rs:=rs) (n:=⟨fn.ntmps,[]⟩) (body:=body) hT hf hnm hb rfl hr (gR ha) h
end
section
variable {α β γ δ ε ζ η:Type}{f0:α->A}{f1:β->A}{f2:γ->A}{f3:δ->A}{f4:ε->A}{f5:ζ->A}{f6:η->A}
theorem Q7 [h0:kZ f0](x y:α)(h:[f0 x]=[f0 y]):x=y:=by simp only[List.cons.injEq,and_true]at h;exact h0.inj _ _ h
theorem W2 [h0:kZ f0][h1:kZ f1](x y:α×β)(h:[f0 x.1,f1 x.2]=[f0 y.1,f1 y.2]):x=y:=by simp only[List.cons.injEq,and_true]at h;exact Prod.ext (h0.inj _ _ h.1) (h1.inj _ _ h.2)
theorem zdJ [h0:kZ f0][h1:kZ f1][h2:kZ f2](x y:α×β×γ)(h:[f0 x.1,f1 x.2.1,f2 x.2.2]=[f0 y.1,f1 y.2.1,f2 y.2.2]):x=y:=by simp only[List.cons.injEq,and_true]at h;exact Prod.ext (h0.inj _ _ h.1) (Prod.ext (h1.inj _ _ h.2.1) (h2.inj _ _ h.2.2))
theorem zzG [h0:kZ f0][h1:kZ f1][h2:kZ f2][h3:kZ f3](x y:α×β×γ×δ)(h:[f0 x.1,f1 x.2.1,f2 x.2.2.1,f3 x.2.2.2]=[f0 y.1,f1 y.2.1,f2 y.2.2.1,f3 y.2.2.2]):x=y:=by simp only[List.cons.injEq,and_true]at h;exact Prod.ext (h0.inj _ _ h.1) (Prod.ext (h1.inj _ _ h.2.1) (Prod.ext (h2.inj _ _ h.2.2.1) (h3.inj _ _ h.2.2.2)))
end
def Qm (sz:Nat)(es:List A)(S:zo)(h:Array Obj)(v:Value)(F:List Nat):Prop :=
  (∀x∈es,x.size=sz)/\∃p c,v=.slice p es.length c/\es.length<=c/\c<=maxLen /\
    ((es=[]/\c=0/\p=none/\F=[]) \/
     ∃b off arr ty l,p=some ⟨b,off,none⟩/\h[b]?=some (.cells arr ty (0,0))/\off+c*sz<=arr.size/\(arr.toList.drop off).take (es.length*sz)=l/\yK S es l/\F=[b]/\∀o,S b o=none)
def z9F (sz:Nat)(es:List A):z8W:={
 holds:=Qm sz es
 one:=by rintro S h v F ⟨_,p,c,rfl,_⟩;rfl
 frame:=by rintro S S' h h' v F hS hF ⟨h1,p,c,rfl,h2,h3,h4⟩;refine⟨h1,p,c,rfl,h2,h3,h4.imp id ?_⟩;rintro⟨b,off,arr,ty,l,rfl,k1,k2,k3,k4,rfl,k6⟩;obtain⟨f1,f2⟩:=hF b (by simp);exact⟨b,off,arr,ty,l,rfl,by rw[f1];exact k1,k2,k3,k4.mono hS,rfl,f2⟩
 own:=by
  rintro S h v F ⟨h1,p,c,rfl,h2,h3,h4⟩ k hk;rcases h4 with⟨_,_,_,rfl⟩|⟨b,off,arr,ty,l,rfl,k1,k2,k3,k4,rfl,k6⟩
  ·simp at hk
  ·rw[pR]at hk;subst hk;exact⟨(pK.1 k1).1,k6⟩
 idx:=0 }
def eDq (sz:Nat)(f:α->A)(l:List α):A:=.opq (z9F sz (l.map f)).q
variable {cs:List Value}
theorem zkw {t:Bool}  (hd:A.areD es=true)   (q:zU S h (.osl sz t es) cs F):∃v,cs=[v]/\Qm sz es S h v F:=by
 simp only[zU]at q;obtain⟨p,c,rfl,t1,t2,t3,t4,t5⟩:=q;refine⟨_,rfl,t4,p,c,rfl,t2,t3,?_⟩;rcases t5 with⟨rfl,rfl,rfl,rfl⟩|⟨b,arr,ty,l,F',rfl,k1,k2,k3,k4,rfl,k6⟩
 ·exact .inl ⟨rfl,rfl,rfl,rfl⟩
 ·obtain⟨r1,rfl⟩:=k4.areD hd;exact .inr ⟨b,0,arr,ty,l,rfl,k1,by omega,by simpa using k3,r1,rfl,k6⟩
instance LeA.que {α:Type}(sz:Nat)(t:Bool)(f:α->A)[h:z4U f](l:List α):LeA (eOs sz t f l) (eDq sz f l):={
 rep:=λS cs q=>by simp only[eOs,Rep]at q
 conc:=λS hp cs F q=>by obtain⟨v,rfl,q2⟩:=zkw (zdC f l h.isD) q;simp only[eDq,zU];exact⟨v,rfl,q2⟩
 val:=λcs=>rfl
 tup:=λ_ e=>by cases e }
theorem zey:∀{es:List A} {l:List Value},(∀x∈es,x.size=sz)->yK S es l->∀k,yK S (es.drop k) (l.drop (k*sz))
 | es,l,h,r,0=>by simpa using r
 | [],l,h,r,k+1=>by simp only[yK]at r;subst r;simp[yK]
 | x::es,l,h,r,k+1=>by
  simp only[yK]at r;obtain⟨c1,c2,rfl,r1,r2⟩:=r;have hx:c1.length=sz:=by rw[r1.len];exact h x (by simp)
  have e:(k+1)*sz=c1.length+k*sz:=by rw[hx,mn];omega
  rw[e,List.drop_append,List.drop_succ_cons,mL (show c1.length<=c1.length+k*sz by omega),p9,mT];exact zey (λy hy=>h y (by simp[hy])) r2 k
theorem zyM [Decidable p]{m:SM Unit}  {q:Unit×List Nat×List (Nat×Ent)}(h:(if p then m else zu) st=some q):p/\m st=some q:=by
 by_cases hp:p
 ·rw[if_pos hp]at h;exact⟨hp,h⟩
 ·rw[if_neg hp]at h;exact(z7 h).elim
section
variable {C:Ctx}{S:zo}{Fp:Nat->List Nat}{X:List Nat}{st:St}{a:Act}{w:World}
open Classical in
def zyK (tt:TT)(n:Fr)(dst:Option Nat)(t sz:Nat)(es:List A)(z vl:A):SM Unit :=
 match vl with
 | .atom (.int _ j)=>if z=.opq (z9F sz es).q then(if wx tt t=some sz then(if 0<=j/\j.toNat<=es.length then wrT n dst (.own (.opq (z9F sz (es.drop j.toNat)).q)) else zu) else zu) else zu
 | _=>zu
def qslO (tt:TT)(n:Fr)(dst:Option Nat)(t sz:Nat)(es:List A)(x lo:Operand):SM Unit:=do
 let y <-opnd x;let z <-take y;let tl <-opnd lo;let vl <-val tl
 zyK tt n dst t sz es z vl
def zB8 (tt:TT)(n:Fr)(dst:Option Nat)(t sz:Nat)(es es':List A)(x lo:Operand):HM Unit:=yg (opnd x) >>= λy=>zfQ y >>= λz=>yg (opnd lo) >>= λtl=>z4f tl >>= λvl=>
 match vl with
 | .atom (.int _ j)=>XW (z=.opq (z9F sz es).q) (if wx tt t=some sz then XW (0<=j/\j.toNat<=es.length) (XW (es.drop j.toNat=es') (yg (wrT n dst (.own (.opq (z9F sz es').q))))) else zV)
 | _=>zV
open Classical in
theorem zza (tt:TT)(n:Fr)(dst:Option Nat)(t sz:Nat)(es es':List A)(x lo:Operand):Snd (qslO tt n dst t sz es x lo) (zB8 tt n dst t sz es es' x lo):=by
 refine zj (zn _) λy=>zj (zbM _) λz=>zj (zn _) λtl=>zj (W1 _) λvl=>?_;unfold zyK;cases vl with
 | atom u=>
  cases u with
  | int k j=>exact vL (jP (vL (z6D λe=>by rw[e];exact zn _)) (zw _))
  | _=>exact zw _
 | _=>exact zw _
open Classical in
theorem Loc.qslO (tt:TT)(n:Fr)(dst:Option Nat)(t sz:Nat)(es:List A)(x lo:Operand):Loc (qslO tt n dst t sz es x lo):=by
 unfold Go.Own.qslO;refine Loc.bind (Loc.opnd _) λ_=>Loc.bind (Loc.take _) λz=>Loc.bind (Loc.opnd _) λ_=>Loc.bind (Loc.val _) λvl=>?_;unfold Go.Own.zyK;split
 ·exact Loc.ite (Loc.ite (Loc.ite (Loc.wrT _ _ _) Loc.fail) Loc.fail) Loc.fail
 ·exact Loc.fail
theorem zq3 (q:(wh S (.opq (z9F sz es).q) v/\F=[])\/∃cs,zU S w.heap (.opq (z9F sz es).q) cs F/\F.Nodup/\v=y8 (.opq (z9F sz es).q) cs):Qm sz es S w.heap v F/\F.Nodup:=by
 rcases q with⟨q,_⟩|⟨cs,q1,q2,q3⟩
 ·simp only[wh,qa,Rep,false_and,exists_false]at q
 ·simp only[zU]at q1;obtain⟨u,rfl,q1⟩:=q1;exact⟨by rw[q3];exact q1,q2⟩
theorem zhQ (q:Qm sz es S h v F):zU S h (.opq (z9F sz es).q) [v] F:=by simp only[zU];exact⟨v,rfl,q⟩
theorem zvc {P:Program}  (hT:wy P tt)(h:Sim C S Fp [] st a w)  {t sz:Nat}  {x lo:Operand}(ho:o.op=.slice t x (some lo) none none)    (e0:qslO tt C.n o.dst t sz es x lo st=some (u,R,U)):qO P C o a w (zh U st):=by
 unfold qslO at e0;obtain⟨y,R1,U1,R2,U2,h1,e1,rfl,rfl⟩:=bind_some e0;obtain⟨rfl,hx⟩:=zK h h1;simp only[zh,p9]at e1 ⊢;obtain⟨z,R3,U3,R4,U4,h3,e2,rfl,rfl⟩:=bind_some e1;obtain⟨Fp',F,g1,g2⟩:=z6z h hx h3;rw[zB];obtain⟨tl,R5,U5,R6,U6,h5,e3,rfl,rfl⟩:=bind_some e2;obtain⟨rfl,hl⟩:=zK g1 h5;obtain⟨vl,R7,U7,R8,U8,h7,e4,rfl,rfl⟩:=bind_some e3;obtain⟨rfl,ql⟩:=jD g1 hl h7;simp only[zh,p9]at e4 ⊢;unfold zyK at e4;split at e4
 ·rename_i k j;split at e4
  ·rename_i hz;subst hz;split at e4
   ·rename_i hel;split at e4
    ·rename_i hj;obtain⟨j0,j1⟩:=hj;obtain⟨el,he,hsz⟩:=uk hT hel w;obtain⟨el',_⟩:=zD.1 ql;obtain⟨⟨t4,p,c,ev,t2,t3,t5⟩,hn⟩:=zq3 g2;have hrun:=Vq (P:=P) (w:=w) he hsz (p:=p) (len:=es.length) (c:=c) (m:=c) (lo:=some (.int k j)) (hi:=none) (mx:=none) (.inr ⟨k,j,rfl,j0,rfl⟩) (.inl ⟨rfl,rfl⟩) (.inl ⟨rfl,rfl⟩) j1 t2 (pC c) (by simp);have hq:Qm sz (es.drop j.toNat) S w.heap (.slice (if c=j.toNat then p else p.map (·.add (j.toNat*sz))) (es.length - j.toNat) (c - j.toNat)) F:=by
      refine⟨λy hy=>t4 y (List.mem_of_mem_drop hy),_,_,by rw[List.length_drop],by rw[List.length_drop];omega,by omega,?_⟩;rcases t5 with⟨rfl,rfl,rfl,rfl⟩|⟨b,off,arr,ty,l,rfl,k1,k2,k3,k4,rfl,k6⟩
      ·exact .inl ⟨by simp,by simp,by simp,rfl⟩
      ·have hr:=zey t4 k4 j.toNat;have hm:(es.length - j.toNat)*sz+j.toNat*sz=es.length*sz:=by rw[<-mn];congr 1;omega
       have hcj:(c - j.toNat)*sz+j.toNat*sz=c*sz:=by rw[<-mn];congr 1;omega
       by_cases hcc:c=j.toNat
       ·have:es.length=j.toNat:=by omega
        refine .inr ⟨b,off,arr,ty,[],by simp[hcc],k1,by rw[hcc];simp;omega,by simp[List.length_drop,this],?_,rfl,k6⟩;rw[mL (by omega)];simp[yK]
       ·refine .inr ⟨b,off+j.toNat*sz,arr,ty,l.drop (j.toNat*sz),by simp[hcc,Addr.add_lit],k1,by omega,?_,hr,rfl,k6⟩;rw[List.length_drop,<-k3,List.drop_take,mX];congr 1;omega
     obtain⟨Fp'',hs⟩:=Kc g1 e4 (zhQ hq) hn;refine zr ?_ hs;simp[execOp,ho,ev,el',hrun,y8]
    ·exact(z7 e4).elim
   ·exact(z7 e4).elim
  ·exact(z7 e4).elim
 ·exact(z7 e4).elim
open Classical in
def zyL (n:Fr)(dst:Option Nat)(sz:Nat)(es:List A)(x:Operand):SM Unit:=do
 let tx <-opnd x;let y <-peek tx
 if y=.opq (z9F sz es).q then wrT n dst (.d (.atom (.int .i64 (es.length:Nat)))) else zu
def zB9 (n:Fr)(dst:Option Nat)(sz:Nat)(es:List A)(x:Operand):HM Unit:=yg (opnd x) >>= λtx=>zbt tx >>= λy=>XW (y=.opq (z9F sz es).q) (eqA (.atom (.int .i64 (es.length:Nat))) >>= λr=>yg (wrT n dst (.d r)))
open Classical in
theorem zzb (n:Fr)(dst:Option Nat)(sz:Nat)(es:List A)(x:Operand):Snd (zyL n dst sz es x) (zB9 n dst sz es x) :=
 zj (zn _) λ_=>zj (z5k _) λ_=>vL (z3a (ye _ λr=>wrT n dst (.d r)).symm (zj (zbo _) λ_=>zn _))
theorem zve (hT:wy P tt)(h:Sim C S Fp [] st a w)  {t sz:Nat}  {x:Operand}(hty:jF tt t=true)(ho:o.op=.call ⟨.builtin .len,⟨[x]⟩,⟨[t]⟩⟩)    (e:zyL C.n o.dst sz es x st=some (u,R,U)):qO P C o a w (zh U st):=by
 unfold zyL at e;obtain⟨tx,R1,U1,R2,U2,h1,e1,rfl,rfl⟩:=bind_some e;obtain⟨rfl,hx⟩:=zK h h1;obtain⟨y,R3,U3,R4,U4,h3,e2,rfl,rfl⟩:=bind_some e1;obtain⟨rfl,qx⟩:=z19 h hx h3;simp only[zh,p9]at e2 ⊢;split at e2
 ·rename_i hc;subst hc;obtain⟨F,g⟩:=zdd qx;obtain⟨_,p,c,ev,_⟩:=g;obtain⟨el,hel⟩:=VC hT hty;obtain⟨Fp',hs⟩:=wP h e2 (x:=.d _) (zD.2 ⟨rfl,rfl⟩);refine zr ?_ hs;simp[execOp,ho,resolve,invoke,builtin,Builtin.len_,ev,run_underlying hel,goInt]
 ·exact(z7 e2).elim
def ziz (sz:Nat)(v:Value)(j:Int):Value :=
 match v with
 | .slice (some p) _ _=>.pointer (some (p.add (j.toNat*sz)))
 | _=>.pointer none
theorem zog:(ziz sz v j).oneCell'=true:=by unfold ziz;split <;> rfl
theorem zkh (h:Sim C S Fp [] st a w){r sz:Nat}  (hr:(st r).t=.own (.opq (z9F sz es).q)):∃F,Qm sz es S w.heap (Act.tv a r) F:=by have hq:=h.ent r;unfold wv at hq;simp only[hr]at hq;obtain⟨cs,c1,c2,c3⟩:=hq;simp only[zU]at c1;obtain⟨v,rfl,c1⟩:=c1;exact⟨_,by rw[c3];exact c1⟩
open Classical in
def qixO (tt:TT)(n:Fr)(dst:Option Nat)(t sz r:Nat)(v:Value)(es:List A)(x i:Operand):SM Unit:=do
 let tx <-opnd x;let ti <-opnd i;let vi <-val ti;let e <-rdE r;match vi with
 | .atom (.int _ j)=>if tx=.als r [] e.er e.ec/\z4T n.pin r=some v/\e.t=.own (.opq (z9F sz es).q)/\wx tt t=some sz/\0<=j/\j.toNat<es.length then wrT n dst (.d (.atom (ziz sz v j))) else zu
 | _=>zu
def zBb (tt:TT)(n:Fr)(dst:Option Nat)(t sz r:Nat)(v:Value)(es:List A)(x i:Operand):HM Unit:=yg (opnd x) >>= λtx=>yg (opnd i) >>= λti=>z4f ti >>= λvi=>yg (rdE r) >>= λe=>
 match vi with
 | .atom (.int _ j)=>XW (tx=.als r [] e.er e.ec/\z4T n.pin r=some v/\e.t=.own (.opq (z9F sz es).q)/\wx tt t=some sz/\0<=j/\j.toNat<es.length) (yg (wrT n dst (.d (.atom (ziz sz v j)))))
 | _=>zV
open Classical in
theorem zzd (tt:TT)(n:Fr)(dst:Option Nat)(t sz r:Nat)(v:Value)(es:List A)(x i:Operand):Snd (qixO tt n dst t sz r v es x i) (zBb tt n dst t sz r v es x i):=by
 refine zj (zn _) λtx=>zj (zn _) λti=>zj (W1 _) λvi=>zj (zn _) λe=>?_;cases vi with
 | atom u=>
  cases u with
  | int k j=>exact vL (zn _)
  | _=>exact zw _
 | _=>exact zw _
open Classical in
theorem Loc.qixO (tt:TT)(n:Fr)(dst:Option Nat)(t sz r:Nat)(v:Value)(es:List A)(x i:Operand):Loc (qixO tt n dst t sz r v es x i):=by
 unfold Go.Own.qixO;refine Loc.bind (Loc.opnd _) λ_=>Loc.bind (Loc.opnd _) λ_=>Loc.bind (Loc.val _) λvi=>Loc.bind (Loc.rdE _) λ_=>?_;split
 ·exact Loc.ite (Loc.wrT _ _ _) Loc.fail
 ·exact Loc.fail
open Classical in
theorem zvg {P:Program}  (hT:wy P tt)(h:Sim C S Fp [] st a w){o:Oper}{t sz r:Nat}{v:Value}  {x i:Operand}(ho:o.op=.indexAddr t x i)    (e0:qixO tt C.n o.dst t sz r v es x i st=some (u,R,U)):qO P C o a w (zh U st):=by
 unfold qixO at e0;obtain⟨tx,R1,U1,R2,U2,h1,e1,rfl,rfl⟩:=bind_some e0;obtain⟨rfl,hx⟩:=zK h h1;obtain⟨ti,R3,U3,R4,U4,h3,e2,rfl,rfl⟩:=bind_some e1;obtain⟨rfl,hi⟩:=zK h h3;obtain⟨vi,R5,U5,R6,U6,h5,e3,rfl,rfl⟩:=bind_some e2;obtain⟨rfl,qi⟩:=jD h hi h5;obtain⟨en,R7,U7,R8,U8,h7,e4,rfl,rfl⟩:=bind_some e3;obtain⟨rfl,rfl,rfl⟩:=yl h7;simp only[zh,p9]at e4 ⊢;split at e4
 ·rename_i k j;have hq:=zyM e4;clear e4;obtain⟨hc,e4⟩:=hq
  ·obtain⟨rfl,c2,c3,c4,c5,c6⟩:=hc;have hs:=h.pin r v (ZQ c2);obtain⟨F,t4,p,c,ev,t2,t3,t5⟩:=zkh h c3;have hxv:a.eval x=.slice p es.length c:=by rw[<-ev];exact zks hx c3 rfl
   obtain⟨e',he,hsz⟩:=uk hT c4 w;obtain⟨ei,_⟩:=zD.1 qi;rcases t5 with⟨rfl,_⟩|⟨b,off,arr,ty,l,rfl,k1,k2,k3,k4,rfl,k6⟩
   ·simp at c6
   ·have hrun:=z0Y (P:=P) (b:=b) (o:=off) (n:=es.length) (c:=c) (k:=k) he hsz c5 c6;obtain⟨Fp',hs'⟩:=wP h e4 (x:=.d (.atom (ziz sz v j))) (v:=ziz sz v j) (zD.2 ⟨rfl,zog⟩);refine zr ?_ hs';have hvv:v=.slice (some ⟨b,off,none⟩) es.length c:=by rw[<-hs,ev]
    rw[hvv];simp[execOp,ho,ei,hxv,hrun,ziz,Addr.add_lit]
 ·exact(z7 e4).elim
open Classical in
def qldO (tt:TT)(n:Fr)(dst:Option Nat)(t sz r:Nat)(v:Value)(j:Int)(es:List A)(y:A)(x:Operand):SM Unit:=do
 let tx <-opnd x;let e <-rdE r
 if tx=.d (.atom (ziz sz v j))/\z4T n.pin r=some v/\e.t=.own (.opq (z9F sz es).q)/\es[j.toNat]?=some y/\Ym tt t y=true/\y.isD=true then wrT n dst (.d y) else zu
def zBa (tt:TT)(n:Fr)(dst:Option Nat)(t sz r:Nat)(v:Value)(j:Int)(es:List A)(y:A)(x:Operand):HM Unit:=yg (opnd x) >>= λtx=>yg (rdE r) >>= λe=>XW (tx=.d (.atom (ziz sz v j))/\z4T n.pin r=some v/\e.t=.own (.opq (z9F sz es).q)/\es[j.toNat]?=some y/\Ym tt t y=true/\y.isD=true) (yg (wrT n dst (.d y)))
open Classical in
theorem zzc (tt:TT)(n:Fr)(dst:Option Nat)(t sz r:Nat)(v:Value)(j:Int)(es:List A)(y:A)(x:Operand):Snd (qldO tt n dst t sz r v j es y x) (zBa tt n dst t sz r v j es y x) :=
 zj (zn _) λtx=>zj (zn _) λe=>vL (zn _)
open Classical in
theorem Loc.qldO (tt:TT)(n:Fr)(dst:Option Nat)(t sz r:Nat)(v:Value)(j:Int)(es:List A)(y:A)(x:Operand):Loc (qldO tt n dst t sz r v j es y x):=by unfold Go.Own.qldO;exact Loc.bind (Loc.opnd _) λ_=>Loc.bind (Loc.rdE _) λ_=>Loc.ite (Loc.wrT _ _ _) Loc.fail
open Classical in
theorem zvf (hT:wy P tt)(h:Sim C S Fp [] st a w){o:Oper}{t sz r:Nat}{v:Value}    {x:Operand}(ho:o.op=.load t x)    (e0:qldO tt C.n o.dst t sz r v j es y x st=some (u,R,U)):qO P C o a w (zh U st):=by
 unfold qldO at e0;obtain⟨tx,R1,U1,R2,U2,h1,e1,rfl,rfl⟩:=bind_some e0;obtain⟨rfl,hx⟩:=zK h h1;obtain⟨en,R7,U7,R8,U8,h7,e4,rfl,rfl⟩:=bind_some e1;obtain⟨rfl,rfl,rfl⟩:=yl h7;simp only[zh,p9]at e4 ⊢;have hq:=zyM e4;clear e4;obtain⟨hc,e4⟩:=hq
 ·obtain⟨rfl,c2,c3,c4,c5,c6⟩:=hc;have hs:=h.pin r v (ZQ c2);obtain⟨F,t4,p,c,ev,t2,t3,t5⟩:=zkh h c3;have hxv:a.eval x=ziz sz v j:=(zD.1 hx).1;have hlt:=(p8.1 c4).1;rcases t5 with⟨rfl,_⟩|⟨b,off,arr,ty,l,rfl,k1,k2,k3,k4,rfl,k6⟩
  ·simp at hlt
  ·have hvv:v=.slice (some ⟨b,off,none⟩) es.length c:=by rw[<-hs,ev]
   obtain⟨d1,ci,d2,hl,hd1,hr⟩:=z11 k4 c4;have hd:d1.length=j.toNat*sz:=by rw[hd1,A.sizes_const (sz:=sz) (λz hz=>t4 z (gC hz)),pU];congr 1;omega
   have hsit:zmn w.heap b (off+j.toNat*sz) ci:=by
    intro i u hi;have hi2:l[d1.length+i]?=some u:=by rw[hl,pL,pF (by omega),mT,pG (p8.1 hi).1];exact hi
    rw[<-k3,pV]at hi2;split at hi2
    ·rw[mQ]at hi2;simp only[yj,k1];rw[<-hi2,mJ,hd,Nat.add_assoc]
    ·cases hi2
   have hld:=Vr hT c5 (w:=w) (b:=b) (o:=off+j.toNat*sz) hr.len hsit;obtain⟨Fp',hs'⟩:=wP h e4 (x:=.d y) (v:=y8 y ci) (qa.repV ⟨ci,hr,rfl⟩);refine zr ?_ hs';have ex:a.eval x=.pointer (some ⟨b,off+j.toNat*sz,none⟩):=by rw[hxv,hvv];simp[ziz,Addr.add_lit]
   simp[execOp,ho,ex,Instr.loadAt,Instr.sureAddr,hld]
theorem zbq {P:Program}{t ty e bty:TypeId}{i:TypeInfo}(ht:P.underlying t=some (.slice e))(hi:P.info? e=some i)(w:World)
  (g off n c:Nat) (cur:Array Value) (hg:w.heap[g]?=some (.cells cur bty (0,0)))
  (a:Addr) (m d:Nat) (news:List Value) (hl:news.length=m*i.size) (hnews:∀j u,news[j]?=some u->w.cell? (a.add j)=some u) (h1:∀u∈news,u.oneCell'=true)
  (hroom:n+m<=c) (hfit:off+n*i.size+news.length<=cur.size) :
  (Builtin.append_ #[t,t] ty #[.slice (some ⟨g,off,none⟩) n c,.slice (some a) m d]).run P w=.ok (.slice (some ⟨g,off,none⟩) (n+m) c) (w.setRow g (z1a cur (off+n*i.size) news)):=by
 have hf:=run_firstCells_some (P:=P) w i.size m a m d news hl hnews;have hst:=run_storeCells_at P g (off+n*i.size) bty news 0 cur w hg (by simpa using hfit) h1;simp only[mY]at hst;rw[Zb hfit]at hst;simp[Builtin.append_,run_underlying ht,Go.sizeOf,typeInfo,hi,Builtin.lenOf,hroom,hf,Addr.add_lit,hst]
theorem zj1 {P:Program}{t ty e:TypeId}{f:TypeInfo}{zv:Value}(ht:P.underlying t=some (.slice e))(hi:P.info? e=some f)(hz:f.zero=some zv)(hzs:zv.cells.size=f.size)
    {F:List Nat} (h:Sim C S Fp (F++[]) st a w) {es ys:List A} {v:Value} (hc:Qm f.size es S w.heap v F) (hFn:F.Nodup)
    {p:Option Addr} {d:Nat} {news:List Value} (hr:yK S ys news) (hsz2:∀x∈ys,x.size=f.size) (hsrc:(ys=[]/\news=[])\/∃ad,p=some ad/\∀j u,news[j]?=some u->w.cell? (ad.add j)=some u)
    (hlim:es.length+ys.length<=lim) (hb:f.bytes<=4096) (hD:A.areD (es++ys)=true) :
    ∃v' w',(Builtin.append_ #[t,t] ty #[v,.slice p ys.length d]).run P w=.ok v' w'/\∃F',Sim C S Fp (F' ++ []) st a w'/\F'.Nodup/\Qm f.size (es++ys) S w'.heap v' F':=by
  have hc0:=hc;obtain⟨t4,q,c,rfl,t2,t3,t5⟩:=hc;have fin:∀{F':List Nat} {v':Value} {w':World} {cs:List Value},zU S w'.heap (.osl f.size false (es++ys)) cs F'->v'=y8 (.osl f.size false (es++ys)) cs->Qm f.size (es++ys) S w'.heap v' F':=by intro F' v' w' cs k1 k2;obtain⟨u,rfl,k3⟩:=zkw hD k1;rw[k2];exact k3
  by_cases hy0:ys=[]
  · subst hy0;simp only[yK]at hr;subst hr;exact⟨_,w,Jf ht hi q p es.length c d t2 w,F,h,hFn,by simpa using hc0⟩
  · have hpos:0<ys.length:=nJ.2 hy0;rcases hsrc with⟨hy,_⟩|⟨ad,rfl,hnews⟩
    · exact absurd hy hy0
    have hl2:news.length=ys.length*f.size:=by rw[hr.len,A.sizes_const hsz2]
    rcases t5 with⟨rfl,rfl,rfl,rfl⟩|⟨b,off,arr,bty,l,rfl,k1,k2,k3,k4,rfl,k6⟩
    · obtain⟨v',w',g1,F',g2,g3,cs,g4,g5⟩:=VH (ty:=ty) ht hi hz hzs h (es:=[]) (olds:=[]) (by simp[zZ]) (by simp) (hr.concs w.heap) (by simp) hsz2 (.inl ⟨rfl,rfl,rfl⟩) hnews (by simpa using hpos) hlim hb hpos;exact⟨v',w',g1,F',g2,g3,fin g4 g5⟩
    · have hl1:l.length=es.length*f.size:=by rw[k4.len,A.sizes_const t4]
      by_cases hroom:es.length+ys.length<=c
      · have hm:=gF f.size hroom;rw[mn]at hm;have hfit:off+es.length*f.size+news.length<=arr.size:=by omega
        have hrun:=zbq (P:=P) (ty:=ty) ht hi w b off es.length c arr k1 ad ys.length d news hl2 hnews (λu hu=>hr.one u hu) hroom hfit;let w':=w.setRow b (z1a arr (off+es.length*f.size) news);have hheap:∀k,k≠b->w'.heap[k]?=w.heap[k]?:=λk hk=>setRow_other w b k _ hk;have hheapb:w'.heap[b]?=some (.cells (z1a arr (off+es.length*f.size) news) bty (0,0)):=setRow_heap w b arr _ bty (0,0) k1;have hbF:∀t',b∉Fp t':=λt'=>h.xd t' b (by simp);have hbase:C.M b:=h.xb b (by simp);refine⟨_,w',hrun,[b],?_,by simp,?_⟩
        · refine h.mem (h.below.trans ⟨rfl,rfl,rfl,pC _,by simp[w'],λk hk=>hheap k (λe=>hk (e ▸ hbase))⟩) (λ_ _ _ h=>h) ?_ h.sbase (λt' k hk=>⟨hheap k (by rintro rfl;exact hbF t' hk),(h.free t' k hk).2.1⟩) (by simp) (by simpa using h.xd) (by simpa using h.xb);intro b' o' v hs;rw[vD (h:=w.heap) (h':=w'.heap) (hheap b' (by rintro rfl;rw[k6]at hs;cases hs))];exact h.still b' o' v hs
        · refine⟨?_,_,c,by rw[pN],by rw[pN];exact hroom,t3,.inr ⟨b,off,z1a arr (off+es.length*f.size) news,bty,l++news,rfl,hheapb,by simp[k2],?_,k4.append hr,rfl,k6⟩⟩
          · intro x hx;rcases pA.1 hx with h|h
            · exact t4 x h
            · exact hsz2 x h
          · apply gX;intro k;rw[pV,mQ,mJ,YO,pN,mn];by_cases hk:k<es.length*f.size
            · rw[if_pos (by omega),if_neg (by omega),pG (by omega),<-k3,pV,if_pos hk,mQ,mJ];cases arr[off+k]? <;> rfl
            · by_cases hk2:k<es.length*f.size+ys.length*f.size
              · have ej:off+k - (off+es.length*f.size)=k - l.length:=by omega
                rw[if_pos hk2,if_pos (by omega),pF (by omega),ej,gS (show off+k<arr.size by omega),p7 (show k - l.length<news.length by omega)];rfl
              · rw[if_neg hk2,pQ (by rw[pN];omega)]
      · have hold:∀j v,l[j]?=some v->w.cell? ((⟨b,off,none⟩:Addr).add j)=some v:=by
          intro j u hj;rw[Addr.add_lit,z1n];simp only[yj,k1];rw[<-k3,pV]at hj;split at hj
          · rw[mQ]at hj;simpa using hj
          · cases hj
        have hsub:Sim C S Fp ([]++[]) st a w:=h.mem h.below (λ_ _ _ h=>h) h.still.cell h.sbase (λt' k hk=>⟨rfl,(h.free t' k hk).2.1⟩) (by simp) (λt' k hk=>by simp at hk) (λk hk=>by simp at hk);obtain⟨v',w',g1,F',g2,g3,cs,g4,g5⟩:=VH (ty:=ty) ht hi hz hzs hsub (k4.concs w.heap) (by simp) (hr.concs w.heap) t4 hsz2 (.inr ⟨⟨b,off,none⟩,rfl,hold⟩) (d:=d) (c:=c) hnews (by omega) hlim hb hpos;exact⟨v',w',g1,F',g2,g3,fin g4 g5⟩
def zsQ (tt:TT)(t sz:Nat):Bool:=match tt t with
 | some ⟨.slice e,_,_,_,_⟩=>match tt e with
  | some i=>i.size==sz&&decide (i.bytes<=4096)&&decide (0<i.size)&&i.zero.isSome
  | none=>false
 | _=>false
theorem areD_app {xs ys:List A}(h1:A.areD xs=true)(h2:A.areD ys=true):A.areD (xs++ys)=true:=by
 induction xs with
 | nil=>exact h2
 | cons x xs ih=>simp only[A.areD,pJ,gQ]at h1 ⊢;exact⟨h1.1,ih h1.2⟩
open Classical in
def qapO (tt:TT)(n:Fr)(dst:Option Nat)(t sz:Nat)(es:List A)(s x:Operand):SM Unit:=do
 let ts <-opnd s;let tx <-opnd x;let y <-peek tx;match y with
 | .osl s' _ ys=>if s'=sz/\A.areD ys=true/\zsQ tt t sz=true then(do
   let z <-take ts
   if z=.opq (z9F sz es).q/\es.length+ys.length<=lim/\A.areD es=true then wrT n dst (.own (.opq (z9F sz (es++ys)).q)) else zu) else zu
 | _=>zu
def zBc (tt:TT)(n:Fr)(dst:Option Nat)(t sz:Nat)(es es':List A)(s x:Operand):HM Unit:=yg (opnd s) >>= λts=>yg (opnd x) >>= λtx=>zbt tx >>= λy=>
 match y with
 | .osl s' _ ys=>XW (s'=sz/\A.areD ys=true/\zsQ tt t sz=true) (zfQ ts >>= λz=>XW (z=.opq (z9F sz es).q/\es.length+ys.length<=lim/\A.areD es=true) (XW (es++ys=es') (yg (wrT n dst (.own (.opq (z9F sz es').q))))))
 | _=>zV
open Classical in
theorem zze (tt:TT)(n:Fr)(dst:Option Nat)(t sz:Nat)(es es':List A)(s x:Operand):Snd (qapO tt n dst t sz es s x) (zBc tt n dst t sz es es' s x):=by
 refine zj (zn _) λts=>zj (zn _) λtx=>zj (z5k _) λy=>?_;cases y with
 | osl s' tg ys=>exact vL (zj (zbM _) λz=>vL (z6D λe=>by rw[e];exact zn _))
 | _=>exact zw _
open Classical in
theorem Loc.qapO (tt:TT)(n:Fr)(dst:Option Nat)(t sz:Nat)(es:List A)(s x:Operand):Loc (qapO tt n dst t sz es s x):=by
 unfold Go.Own.qapO;refine Loc.bind (Loc.opnd _) λ_=>Loc.bind (Loc.opnd _) λ_=>Loc.bind (Loc.peek _) λy=>?_;split
 ·exact Loc.ite (Loc.bind (Loc.take _) λz=>Loc.ite (Loc.wrT _ _ _) Loc.fail) Loc.fail
 ·exact Loc.fail
open Classical in
theorem zvh (hT:wy P tt)(h:Sim C S Fp [] st a w)  {t sz:Nat}  {s x:Operand}(ho:o.op=.call ⟨.builtin .append,⟨[s,x]⟩,⟨[t,t]⟩⟩)    (e0:qapO tt C.n o.dst t sz es s x st=some (u,R,U)):qO P C o a w (zh U st):=by
 unfold qapO at e0;obtain⟨ts,R1,U1,R2,U2,h1,e1,rfl,rfl⟩:=bind_some e0;obtain⟨rfl,hs⟩:=zK h h1;obtain⟨tx,R3,U3,R4,U4,h3,e2,rfl,rfl⟩:=bind_some e1;obtain⟨rfl,hx⟩:=zK h h3;obtain⟨y,R5,U5,R6,U6,h5,e3,rfl,rfl⟩:=bind_some e2;obtain⟨rfl,q⟩:=z19 h hx h5;simp only[zh,p9]at e3 ⊢;cases y with
 | osl s' tg ys=>
  have hq:=zyM e3;clear e3;obtain⟨⟨rfl,c2,c3⟩,e3⟩:=hq;obtain⟨z,R7,U7,R8,U8,h7,e4,rfl,rfl⟩:=bind_some e3;obtain⟨Fp',F,g1,g2⟩:=z6z h hs h7;rw[zB];have hq:=zyM e4;clear e4;obtain⟨⟨rfl,d2,d3⟩,e4⟩:=hq;unfold zsQ at c3;cases ht:tt t with
  | none=>simp only[ht]at c3;cases c3
  | some it=>
   obtain⟨kd,a1,a2,a3,a4⟩:=it;cases kd with
   | slice el=>
    simp only[ht]at c3;have hel:P.underlying t=some (.slice el):=(hT _ _ ht).kind;cases hi:tt el with
    | none=>simp only[hi]at c3;cases c3
    | some i=>
     simp only[hi,pJ,beq_iff_eq,decide_eq_true_eq]at c3;obtain⟨⟨⟨rfl,k2⟩,k3⟩,k4⟩:=c3;obtain⟨f,f1,f2,f3,f4⟩:=(hT _ _ hi).info;obtain⟨z0,hz0⟩:=ro.1 k4;obtain⟨zv,v1,v2,v3⟩:=f4 z0 hz0;have hzs:zv.cells.size=f.size:=by have:=(v3 (λ_ _=>none) #[]).len;rw[v2,<-f2]at this;simpa using this
     obtain⟨p,d,news,ev,r1,r2,r3⟩:=z5e h (.inr ⟨tg,rfl⟩) c2 q;obtain⟨m1,m2⟩:=zq3 g2;rw[<-f2]at m1 r2 e4;obtain⟨v,w',hrun,F',n1,n2,n3⟩:=zj1 (ty:=o.type) hel f1 v1 hzs g1 m1 m2 (p:=p) (d:=d) r1 r2 r3 d2 (by omega) (areD_app d3 c2);obtain⟨Fp'',hs'⟩:=Kc n1 e4 (zhQ n3) n2;refine zr ?_ hs';simp[execOp,ho,resolve,invoke,builtin,ev,hrun,y8]
   | _=>simp only[ht]at c3;cases c3
 | _=>exact(z7 e3).elim
theorem drM (f:α->A)(l:List α)(k:Nat):(l.map f).drop k=(l.drop k).map f:=by rw[List.map_drop]
end
def xQs (hT:wy P tt)(d sz:Nat)(es es':List A):XH P :=
 xAt P (zyN d) (λn o b=>qslO tt n o.dst b.1 sz es b.2.1 b.2.2) (λn o b=>zB8 tt n o.dst b.1 sz es es' b.2.1 b.2.2)
  (by
   intro C S Fp st a w o b hp h u R U e;unfold zyN at hp;split at hp
   ·rename_i ho;cases z8d hp;exact zvc hT h ho e
   ·cases hp)
  (λn o b=>Loc.qslO _ _ _ _ _ _ _ _) (λn o b=>zza _ _ _ _ _ _ _ _ _)
open Classical in
def xQl (hT:wy P tt)(d t sz:Nat)(es:List A)(hty:jF tt t=true):XH P :=
 xAt P (zyO d t) (λn o x=>zyL n o.dst sz es x) (λn o x=>zB9 n o.dst sz es x)
  (by
   intro C S Fp st a w o x hp h u R U e;unfold zyO at hp;split at hp
   ·rename_i ho;replace hp:=z8d hp;split at hp
    ·rename_i ht;subst ht;cases hp;exact zve hT h hty ho e
    ·cases hp
   ·cases hp)
  (λn o x=>Loc.bind (Loc.opnd _) λ_=>Loc.bind (Loc.peek _) λ_=>Loc.ite (Loc.wrT _ _ _) Loc.fail) (λn o x=>zzb _ _ _ _ _)
def xQi (hT:wy P tt)(d sz r:Nat)(v:Value)(es:List A):XH P :=
 xAt P (zql d) (λn o b=>qixO tt n o.dst b.1 sz r v es b.2.1 b.2.2) (λn o b=>zBb tt n o.dst b.1 sz r v es b.2.1 b.2.2)
  (by
   intro C S Fp st a w o b hp h u R U e;unfold zql at hp;split at hp
   ·rename_i ho;cases z8d hp;exact zvg hT h ho e
   ·cases hp)
  (λn o b=>Loc.qixO _ _ _ _ _ _ _ _ _ _) (λn o b=>zzd _ _ _ _ _ _ _ _ _ _)
def zBn (d:Nat)(o:Oper):Option (Nat×Operand):=match o.op with|.load t x=>if o.dst=some d then some (t,x) else none|_=>none
def xQd (hT:wy P tt)(d sz r:Nat)(v:Value)(j:Int)(es:List A)(y:A):XH P :=
 xAt P (zBn d) (λn o b=>qldO tt n o.dst b.1 sz r v j es y b.2) (λn o b=>zBa tt n o.dst b.1 sz r v j es y b.2)
  (by
   intro C S Fp st a w o b hp h u R U e;unfold zBn at hp;split at hp
   ·rename_i ho;cases z8d hp;exact zvf hT h ho e
   ·cases hp)
  (λn o b=>Loc.qldO _ _ _ _ _ _ _ _ _ _ _) (λn o b=>zzc _ _ _ _ _ _ _ _ _ _ _)
def xQa (hT:wy P tt)(d sz:Nat)(es es':List A):XH P :=
 xAt P (zyR d) (λn o b=>qapO tt n o.dst b.1 sz es b.2.1 b.2.2) (λn o b=>zBc tt n o.dst b.1 sz es es' b.2.1 b.2.2)
  (by
   intro C S Fp st a w o b hp h u R U e;unfold zyR at hp;split at hp
   ·rename_i ho;replace hp:=z8d hp;split at hp
    ·rename_i ht;subst ht;cases hp;exact zvh hT h ho e
    ·cases hp
   ·cases hp)
  (λn o b=>Loc.qapO _ _ _ _ _ _ _ _) (λn o b=>zze _ _ _ _ _ _ _ _ _)
def zrh (i:TI):TI:=match i.zero with
 | some (.osl sz true [])=>{ i with zero:=some (.sl sz true []) }
 | _=>i
def ttS (tt:TT)(e:Nat):TT:=λt=>if t=e then(tt t).map zrh else tt t
theorem znq {i:TI}(h:jC P t i):jC P t (zrh i):=by
 unfold zrh;split
 ·rename_i sz hz;obtain⟨f,f1,f2,f3,f4⟩:=h.info;refine⟨⟨f,f1,f2,f3,?_⟩,h.kind,h.eqn⟩;intro z hz';cases hz';obtain⟨zv,v1,v2,v3⟩:=f4 _ hz;refine⟨zv,v1,by simpa[A.size] using v2,λS hp=>?_⟩;have q:=v3 S hp;simp only[zU]at q ⊢;obtain⟨p,c,e,h1,h2,h3,h4,h5⟩:=q;rcases h5 with⟨_,rfl,rfl,_⟩|⟨b,arr,ty,l,F',_,_,_,_,_,hF,_⟩
  ·refine⟨?_,trivial⟩;simp only[Rep];exact⟨none,0,e,by simp,by simp,by simp,.inl trivial⟩
  ·cases hF
 ·exact h
theorem ztV (hT:wy P tt)(e:Nat):wy P (ttS tt e):=by
 intro t i h;unfold ttS at h;split at h
 ·cases ht:tt t with
  | none=>rw[ht]at h;cases h
  | some j=>rw[ht]at h;cases h;exact znq (hT _ _ ht)
 ·exact hT _ _ h
def zBk (d:Nat)(o:Oper):Option (Nat×Operand×Operand):=match o.op with|.makeSlice t l c=>if o.dst=some d then some (t,l,c) else none|_=>none
def xMs (hT:wy P tt)(d e:Nat):XH P :=
 xAt P (zBk d) (λn o b=>XX (ttS tt e) n o.dst b.1 b.2.1 b.2.2) (λn o b=>z6I (ttS tt e) n o.dst b.1 b.2.1 b.2.2)
  (by
   intro C S Fp st a w o b hp h u R U q;unfold zBk at hp;split at hp
   ·rename_i ho;cases z8d hp;exact z7M (ztV hT e) h ho q
   ·cases hp)
  (λn o b=>by have q:=Loc.stepO (ttS tt e) z3y n ⟨o.dst,.makeSlice b.1 b.2.1 b.2.2,0,default,default,none⟩;exact q) (λn o b=>z9t _ _ _ _ _ _)
def XG (pv:Value):List PanicEntry:=[{ v:=pv,recovered:=false }]
def z6l (P:Program)(k:Nat)(args:List A)(ls:List (Value×A))(pv:Value):Prop :=
 (∃fn,P.funcs[k]?=some fn/\(fn.name == "runtime.NumGoroutine")=false/\fn.body.isNone=false) /\
 ∀(S:zo) (w:World) (vs:List Value) (F:List Nat),xu S w->UR (qa S) args vs->QI S w.heap (ls.map (·.2)) (ls.map (·.1)) F->F.Nodup ->
  Calls P k vs.toArray w λe w'=>e=.panicked (XG pv)/\∃S':zo,UQ (λk=>w.heap.size<=k\/k∈F) w w'/\(∀b o u,S b o=some u->S' b o=some u)/\(∀b o,b<w.heap.size->b∉F->S' b o=S b o)/\xu S' w'
def zgO (P:Program)(k:Nat)(args:List A)(ls:List (Value×A))(died:Bool)(pv:Value)(r:A)(ys:List A):Prop :=
 (died=false->Yr P (.fn k []) args ls r ys)/\(died=true->z6l P k args ls pv)
variable {m:Nat}
section
variable {C:Ctx}{S:zo}{Fp:Nat->List Nat}{X:List Nat}{st:St}{a:Act}{w:World}
theorem zl8 {F:Fence}   {tmps:Array Value}{R:Ending->World->Prop}{u:FrameMode}(hu:u≠.run)(hres:∀w,Sim C S Fp [] st a w->LeavesIn F m P fn tmps R [] u w) :
  ∀(Ds:List Nat) (w:World),Sim C S Fp [] st a w->Ds.Nodup->(∀D∈Ds,C.M D/\w.heap[D]?=some (.deferred (some []))/\∀t,D∉Fp t)->LeavesInM F m P fn tmps R (Ds.map zs6) u w
 | [],w,h,_,_=>hres w h
 | D::Ds,w,h,hn,hd=>by rw[pY]at hn;obtain⟨h1,h2,h3⟩:=hd D (by simp);refine⟨hu,.inl ⟨D,_,rfl,run_takeDeferred h2,zl8 hu hres Ds _ (h.shutD h1 h2 (λi=>z5z h2) h3) hn.2 ?_⟩⟩;intro D' hD';obtain⟨q1,q2,q3⟩:=hd D' (by simp[hD']);refine⟨q1,?_,q3⟩;rw[World.putObj_heap_other (by rintro rfl;exact hn.1 hD')];exact q2
theorem zlW {n:Fr}   {args:List A}{R:World->Ending->World->Prop}{S:zo}{w:World}{vs:List Value}{F:List Nat}{ch:List PanicEntry}(hf:P.funcs[k]?=some fn)(hb:fn.body=some body)
  (hn:n.size=fn.ntmps) (hpin:∀i u,(i,u)∈n.pin->vs[i]?=some u) (ha:args.length<=fn.ntmps) (hS:xu S w) (hq:QI S w.heap args vs F) (hF:F.Nodup)
  (h:AWP P n body (ini args) (λex _=>ex=.panic ch))
  (hQ:∀df S' Fp' st' a' w',Sim ⟨n,df,w,S,λk=>w.heap.size<=k\/k∈F⟩ S' Fp' [] st' a' w'->R w (.panicked ch) w'):Calls P k vs.toArray w (R w):=by
 refine(callsIn_wide (n:=0)).1 (callsIn_of_wp_marks hf hb trivial ?_ rfl);obtain⟨Fp,hs⟩:=zlm (n:=n) hpin hS hq hF (by rw[hn];exact ha);rw[hn]at hs;refine wpIn_mono (h none 0 [] w S _ S Fp _ w ⟨by simp,by simp,by simp⟩ hs) ?_;rintro ex a' w' ⟨df',st',S',Fp',h1,h2,rfl⟩;show LeavesInM Fence.wide 0 P fn a'.tmps (R w) a'.defers (.panicking ch) w';rw[h1.defers];exact zl8 (u:=.panicking ch) (C:=⟨n,df',w,S,λk=>w.heap.size<=k\/k∈F⟩) (by simp) (λw2 hw2=>show R w (.panicked ch) w2 from hQ _ _ _ _ _ _ hw2) df' w' h1 h2.nodup λD hD=>⟨(h2.old D hD).elim (λq=>by simp at q) id,h2.ent D hD,h2.off D hD⟩
end
variable {pv:Value}
theorem zgu (is:List Nat){args xs:List A}{vals:List Value}{pv:Value}(hf:P.funcs[k]?=some fn)(hnm:(fn.name == "runtime.NumGoroutine")=false)(hb:fn.body=some body)
  (ha:args.length<=fn.ntmps) (hn:is.Nodup) (hbase:is.map (λi=>args[i]?)=vals.map (λv=>some (.atom v))) (hl:xs.length=vals.length)
  (h:AWP P ⟨fn.ntmps,is.zip vals⟩ body (ini (z1C args is xs)) (λex _=>ex=.panic (XG pv))):z6l P k args (vals.zip xs) pv:=by
 refine⟨⟨fn,hf,hnm,by rw[hb];rfl⟩,?_⟩;intro S w vs F hS havs hls hF;rw[z1c hl.symm,z4o hl.symm]at hls;obtain⟨F1,p1,p2,p3⟩:=za3 havs hn hbase hls;refine zlW (n:=⟨fn.ntmps,is.zip vals⟩) (R:=λw e w'=>e=.panicked (XG pv)/\∃S':zo,UQ (λk=>w.heap.size<=k\/k∈F) w w'/\(∀b o u,S b o=some u->S' b o=some u)/\(∀b o,b<w.heap.size->b∉F->S' b o=S b o)/\xu S' w')
  hf hb rfl (λi u hi=>zfA p3 hi) (by rw[z6C];exact ha) hS p1 (p2.nodup_iff.2 hF) h ?_
 intro df S' Fp' st' a' w' h1;refine⟨rfl,S',h1.below.mono (λk hk=>hk.imp id λq=>p2.mem_iff.1 q),λb o u hu=>h1.sinc _ _ _ hu,?_,h1.still⟩;intro b o hb' hbF;exact h1.sbase b o (by rintro(hq|hq) <;> first|omega|exact hbF (p2.mem_iff.1 hq))
theorem zde {nt:Nat}(is:List Nat){args xs:List A}{vals:List Value}{ys:List A}{died:Bool}{pv:Value}(hT:wy P tt)(hf:P.funcs[k]?=some fn)(hnm:(fn.name == "runtime.NumGoroutine")=false)(hb:fn.body=some body)
  (hn:nt=fn.ntmps) (hr:fn.results=#[]) (ha:args.length<=fn.ntmps) (hnd:is.Nodup) (hbase:is.map (λi=>args[i]?)=vals.map (λv=>some (.atom v))) (hl:xs.length=vals.length) (hy:is.length=ys.length)
  (h:∀E:Exit->St->Prop,(died=false->∀ex st,(ex=.normal\/ex=.ret)->(∀p∈is.zip ys,(st p.1).t=.own p.2)->E ex st)->(died=true->∀st,E (.panic (XG pv)) st) ->
   AWP P ⟨nt,is.zip vals⟩ body (ofL (zhG 0 (z1C args is xs))) (Qf P ⟨nt,is.zip vals⟩ [] E)):zgO P k args (vals.zip xs) died pv (.tup []) ys:=by
 constructor
 ·intro hd;refine zdf (nt:=nt) is hT hf hnm hb hn hr (by simpa using ha) hnd (by simpa using hbase) hl (λE hE=>?_) hy;have:=h E (λ_=>hE) (λhd'=>by rw[hd]at hd';cases hd');simpa using this
 ·intro hd;subst hn;refine zgu is hf hnm hb ha hnd hbase hl ?_;rw[zc7];exact h (λex _=>ex=.panic (XG pv)) (λhd'=>by rw[hd]at hd';cases hd') (λ_ _=>rfl)
def zzO (tt:TT)(n:Fr)(f:Operand)(as_:List (Operand×Nat))(L:List Nat):SM (List A×List A×List (Value×A)):=do
 let fs <-refArgs tt n [(f,0)];let xs <-refArgs tt n as_;let ls <-lentsA n L
 pure (fs,xs,ls)
def zw5 (tt:TT)(n:Fr)(f:Operand)(as_:List (Operand×Nat))(L:List Nat):HM (List A×List A×List (Value×A)) :=
 Ua tt n [(f,0)] >>= λfs=>Ua tt n as_ >>= λxs=>yg (lentsA n L) >>= λls=>pure (fs,xs,ls)
theorem zzl (tt:TT)(n:Fr)(f:Operand)(as_:List (Operand×Nat))(L:List Nat):Snd (zzO tt n f as_ L) (zw5 tt n f as_ L) :=
 zj (Wm _ _ _) λfs=>zj (Wm _ _ _) λxs=>zj (zn _) λls=>vw _
def zmp (P:Program)(n:Fr)(o:Oper)(st:St)(ch:List PanicEntry):Prop :=
 ∀(C:Ctx) (S:zo) (Fp:Nat->List Nat) (a:Act) (w:World),C.n=n->Sim C S Fp [] st a w->∀(rd:Option Nat) (m:Nat) (K:Act->World->Prop) (Q:Exit->Act->World->Prop),(∀S' Fp' st' w',Sim C S' Fp' [] st' a w'->Q (.panic ch) a w')->o.wpIn (fen rd) m P a w K Q
variable {ls:List (Value×A)}{tys:Array TypeId}{xs0:List A}
theorem zw4 {P:Program}{tt:TT}{n:Fr}     (hd:z6l P k xs0 ls pv){o:Oper}{f:Operand}{args:Array Operand}{tys:Array TypeId}{L:List Nat}{st:St}
  (ho:o.op=.call { callee:=.value f,args:=args,argTypes:=tys }) (hsz:args.size=tys.size) {xs:List A} {R:List Nat} {U:List (Nat×Ent)} (e:zzO tt n f (args.toList.zip tys.toList) L st=some (([.fn k []],xs,ls),R,U)) (hx:z3p xs xs0):zmp P n o st (XG pv):=by
 intro C S Fp a w hC h rd m K Q hQ;subst hC;unfold zzO at e;obtain⟨fs,R1,U1,R2,U2,e1,e2,rfl,rfl⟩:=bind_some e;obtain⟨S1,Fp1,g1,g2,g3⟩:=YG h e1;obtain⟨xs',R3,U3,R4,U4,e3,e4,rfl,rfl⟩:=bind_some e2;obtain⟨S2,Fp2,j1,j2,j3⟩:=YG g1 e3;obtain⟨ls',R5,U5,R6,U6,e5,e6,rfl,rfl⟩:=bind_some e4;obtain⟨Fp3,F,k1,k2,k3⟩:=z9U j1 e5;obtain⟨q1,rfl,rfl⟩:=zy e6;simp only[Prod.mk.injEq]at q1;obtain⟨rfl,rfl,rfl⟩:=q1;have hmapargs:(args.toList.zip tys.toList).map (λp=>a.eval p.1)=(args.map a.eval).toList:=by
  have:(args.toList.zip tys.toList).map (λp=>a.eval p.1)=((args.toList.zip tys.toList).map (·.1)).map a.eval:=by rw[mO];rfl
  rw[this,rp (by simp[hsz])];simp
 rw[hmapargs]at j3;have hF:F.Nodup:=by simpa using k1.xn
 obtain⟨⟨fn,h2,h3,h4⟩,hcall⟩:=hd;have h5:=hcall S2 w _ F j1.still (hx.all _ _ j3) k2 hF;obtain⟨cs0,hfv,hval⟩:=g3.1;simp only[Rep]at hfv;obtain⟨us,r1,r2,rfl⟩:=hfv;have hus:us=[]:=by have q:=z2x r1 r2;cases us <;> first|rfl|exact q.elim
 subst hus;have h1:a.eval f=.func (.func k) #[] #[]:=hval;have hexec:(execOp a.eval o).run P w=.ok (.enter k (args.map a.eval).toList.toArray) w:=by have hc:=z3b (P:=P) h2 h3 h4 (args.map a.eval) w;simp only[execOp,ho,resolve,h1,Deferred.ofValue,Sem.run_bind,Sem.run_pure,Result.andThen_ok,invoke,nL,Array.append_empty];rw[hc]
 refine⟨λ_ _=>trivial,?_⟩;rw[Uw hexec (by simp),Oper.uponIn_enter];refine⟨λh=>(by cases h),CallsIn.mono (z0x h5 rd (m - 1)) ?_⟩;rintro e' w' ⟨rfl,S',b1,b2,b3,b4⟩;exact hQ _ _ _ _ (k1.lentCall (Y:=[]) b1 b2 b3 b4 (by simp) (by simp))
variable {ops:Array Oper}{ctr:Ctr}
theorem zhd {rd:Option Nat}{m:Nat}    (hT:wy P tt)(hC:zF P ctr)  {Q:Exit->Act->World->Prop}  (rest:List Oper):∀(l:List Oper) {st st':St} {S:zo} {Fp:Nat->List Nat} {a:Act} {w:World},Sim C S Fp [] st a w->runL tt ctr C.n ops l st=some st' ->
  (∀S Fp a' w',Sim C S Fp [] st' a' w'->wpListIn (fen rd) m P ops Q rest a' w')->wpListIn (fen rd) m P ops Q (l++rest) a w
 | [],st,st',S,Fp,a,w,h,e,hQ=>by simp only[runL,Option.some.injEq]at e;subst e;exact hQ _ _ _ _ h
 | o::os,st,st',S,Fp,a,w,h,e,hQ=>by
  simp only[runL]at e;cases hs:stepG tt ctr C.n ops o st with
  | none=>simp[hs]at e
  | some q=>obtain⟨u,R,U⟩:=q;simp only[hs]at e;refine wpListIn_step λK hK=>?_;exact zcQ hT hC h hs rd m K Q λS' Fp' a' w' h'=>hK _ _ (zhd hT hC rest os h' e hQ)
theorem AWP.regDie (hT:wy P tt)(hC:zF P ctr){id:Nat}  {l1 l2:List Oper}  {ch:List PanicEntry}(hops:ops.toList=l1++o::l2)(hg:o.guard=none)(h1:zmu tt ctr n ops l1 st (λst1=>zmp P n o st1 ch))(hQ:∀st',Q (.panic ch) st'):AWP P n (.region id ops false) st Q:=by intro rd m df w0 S0 M S Fp a w hc hs;obtain⟨st1,h2,h3⟩:=zcT _ _ h1;refine wpIn_region_list ?_;rw[hops];refine zhd (C:=⟨n,df,w0,S0,M⟩) hT hC (o::l2) l1 hs h2 λS' Fp' a' w' h'=>?_;refine wpListIn_step λK hK=>?_;simp only[Region.wanted,hg,if_true];exact h3 _ _ _ _ _ rfl h' rd m K _ λS2 Fp2 st2 w2 h2=>hc.fin h2 (hQ st2)
def regOf:Code->Option (Array Oper)
 | .region _ ops false=>some ops
 | .seq (.region _ ops false) _=>some ops
 | _=>none
def zqv (o:Oper):Option (Operand×List (Operand×Nat)) :=
 match o.guard with
 | some _=>none
 | none=>
  match o.op with
  | .call ⟨.value f,args,tys⟩=>if args.size=tys.size then some (f,args.toList.zip tys.toList) else none
  | _=>none
def zzP (X:XH P)(tt:TT)(ctr:Ctr)(n:Fr)(c:Code)(i:Nat)(L:List Nat)(st:St)(hs:List H):Option (List A×List A×List (Value×A)×List Prop) :=
 match regOf c with
 | none=>none
 | some ops=>
  match zit X tt ctr n ops (ops.toList.take i) st hs with
  | none=>none
  | some (st1,hs1,ob,_)=>
   match ops.toList.drop i with
   | []=>none
   | o::_=>
    match zqv o with
    | none=>none
    | some (f,as_)=>
     match zw5 tt n f as_ L st1 hs1 with
     | none=>none
     | some ((fs,xs,ls),_,_,_,ob')=>some (fs,xs,ls,ob++ob')
theorem z3e {ch:List PanicEntry}  : ∀fs:List Fm,Q (.panic ch) st->Qf P n fs Q (.panic ch) st
 | [],h=>h
 | .seq _::fs,h=>z3e fs h
 | .blk _::fs,h=>z3e fs h
 | .pre _::fs,h=>z3e fs h
 | .rnd _ _::fs,h=>z3e fs h
theorem AWP.regOf {ch:List PanicEntry}(e:Own.regOf c=some ops)(h:∀id (Q:Exit->St->Prop),(∀st',Q (.panic ch) st')->AWP P n (.region id ops false) st Q)(hQ:∀st',Q (.panic ch) st'):AWP P n c st Q:=by
 unfold Own.regOf at e;split at e
 ·cases e;exact h _ _ hQ
 ·cases e;exact AWP.seq (h _ _ λst'=>hQ st')
 ·cases e
theorem yD6 {n:Fr}{Q:Exit->St->Prop}(X:XH P)(hT:wy P tt)(hC:zF P ctr){c:Code}{fs:List Fm}{st:St}(i:Nat)(L:List Nat)     (hd:z6l P k xs0 ls pv)(xs:List A)(hx:z3p xs xs0)(Lh:List HO)
  (e:zzP X tt ctr n c i L st (hoH Lh)=some ([.fn k []],xs,ls,hoO Lh)) (hQ:∀st',Q (.panic (XG pv)) st'):AWP P n c st (Qf P n fs Q):=by
 unfold zzP at e;split at e
 ·cases e
 rename_i ops hr;split at e
 ·cases e
 rename_i st1 hs1 ob lg h1;split at e
 ·cases e
 rename_i o l2 h2;split at e
 ·cases e
 rename_i f as_ h3;split at e
 ·cases e
 rename_i fs' xs' ls' R U hs2 ob' h4;simp only[Option.some.injEq,Prod.mk.injEq]at e;obtain⟨rfl,rfl,rfl,ho⟩:=e;have hall:z8X (hoO Lh):=by rw[z2K];exact zbZ _
 rw[<-ho]at hall;obtain⟨o1,o2⟩:=xw hall;refine AWP.regOf hr (ch:=XG pv) (λid Q' hQ'=>?_) (λst'=>z3e fs (hQ st'));unfold zqv at h3;split at h3
 ·cases h3
 rename_i hg;split at h3
 ·rename_i f0 args tys hop;split at h3
  ·rename_i hsz;simp only[Option.some.injEq,Prod.mk.injEq]at h3;obtain⟨rfl,rfl⟩:=h3;refine AWP.regDie hT (hC.withE X.ok) (l1:=ops.toList.take i) (l2:=l2) (o:=o) (by rw[<-h2,mD]) hg (z8N _ _ _ h1 o1 ?_) hQ';exact zw4 hd hop hsz (zzl tt n _ _ L _ _ _ _ _ _ _ h4 o2) hx
  ·cases h3
 ·cases h3
def nlQ (sz:Nat)(l:List A):Dpq:={
 holds:=λS v=>Rep S (.sl sz false l) [v]/\(l=[]->v=.slice none 0 0)
 one:=λh=>h.1.one _ (pR.2 rfl)
 mono:=λk h=>⟨h.1.mono k,h.2⟩ }
variable {l:List A}
theorem zkH:(nlQ sz l).holds S v↔(Rep S (.sl sz false l) [v]/\(l=[]->v=.slice none 0 0)):=Iff.rfl
section
variable {α:Type}
def eNl (sz:Nat)(f:α->A)(l:List α):A:=.dop (nlQ sz (l.map f))
instance (sz:Nat)(f:α->A):z4U (eNl sz f):=⟨λ_=>rfl⟩
instance (sz:Nat)(f:α->A):z7V (eNl sz f) (eNl sz f):=⟨λ_=>rfl,λ_=>rfl⟩
instance (sz:Nat)(f:α->A):ztM (eNl sz f) 1:=⟨λ_=>rfl⟩
theorem z12 {q:Dpq}  : Rep S (.dop q) cs↔∃v,cs=[v]/\q.holds S v:=by simp only[Rep]
instance (sz:Nat)(f:α->A)(l:List α):LeA (eNl sz f l) (eSl sz false f l):={
 rep:=by intro S cs h;obtain⟨v,rfl,h1,_⟩:=z12.1 h;exact h1
 conc:=by
  intro S h cs F q;have q':Rep S (.dop (nlQ sz (l.map f))) cs/\F=[]:=by simpa only[eNl,zU] using q
  obtain⟨v,rfl,h1,_⟩:=z12.1 q'.1;have:Rep S (.sl sz false (l.map f)) [v]/\F=[]:=⟨h1,q'.2⟩;simpa only[eSl,zU] using this
 val:=λcs=>rfl
 tup:=λfs h=>nomatch h }
theorem zuU {t:Bool}   (hl:l≠[])(h:Rep S (.sl sz t l) [v]):Rep S (.dop (nlQ sz l)) [v]:=by refine z12.2 ⟨v,rfl,?_,λe=>(hl e).elim⟩;simp only[Rep]at h ⊢;obtain⟨p,c,e,h1,h2,h3⟩:=h;exact⟨p,c,e,(λh=>by cases h),h2,h3⟩
theorem LeA.slNl (sz:Nat)(t:Bool)(f:α->A){l:List α}(hl:l≠[]):LeA (eSl sz t f l) (eNl sz f l):={
 rep:=by
  intro S cs h;have h':Rep S (.sl sz t (l.map f)) cs:=h;have:∃v,cs=[v]:=by simp only[Rep]at h';obtain⟨p,c,e,_⟩:=h';exact⟨_,e⟩
  obtain⟨v,rfl⟩:=this;exact zuU (by simpa using hl) h'
 conc:=by
  intro S h cs F q;have q':Rep S (.sl sz t (l.map f)) cs/\F=[]:=by simpa only[eSl,zU] using q
  have:∃v,cs=[v]:=by have h':=q'.1;simp only[Rep]at h';obtain⟨p,c,e,_⟩:=h';exact⟨_,e⟩
  obtain⟨v,rfl⟩:=this;have:Rep S (.dop (nlQ sz (l.map f))) [v]/\F=[]:=⟨zuU (by simpa using hl) q'.1,q'.2⟩;simpa only[eNl,zU] using this
 val:=λcs=>rfl
 tup:=λfs h=>nomatch h }
theorem zrN (S:zo)(sz:Nat):Rep S (.sl sz false []) [.slice none 0 0]:=by simp only[Rep];exact⟨none,0,rfl,(λh=>by cases h),pC _,(by simp),.inl trivial⟩
end
theorem zcZ {q:Dpq}  : wh S (.dop q) v↔q.holds S v:=by
 constructor
 ·intro h;simp only[wh]at h;obtain⟨cs,r1,r2⟩:=h;obtain⟨u,rfl,g⟩:=z12.1 r1;have e:v=u:=r2;rw[e];exact g
 ·intro h;exact qa.repV ⟨[v],z12.2 ⟨v,rfl,h⟩,rfl⟩
open Classical in
def nlqO (n:Fr)(dst:Option Nat)(sz:Nat)(l:List A)(b:Bool)(x y:Operand):SM Unit:=do
 let tx <-opnd x;let ty <-opnd y
 if tx=.d (.dop (nlQ sz l))/\ty=.d (.atom (.slice none 0 0)) then wrT n dst (.d (.atom (.bool b))) else zu
def zBd (n:Fr)(dst:Option Nat)(sz:Nat)(l:List A)(b:Bool)(x y:Operand):HM Unit:=yg (opnd x) >>= λtx=>yg (opnd y) >>= λty=>XW (tx=.d (.dop (nlQ sz l))/\ty=.d (.atom (.slice none 0 0))) (yg (wrT n dst (.d (.atom (.bool b)))))
open Classical in
theorem zzg (n:Fr)(dst:Option Nat)(sz:Nat)(l:List A)(b:Bool)(x y:Operand):Snd (nlqO n dst sz l b x y) (zBd n dst sz l b x y):=zj (zn _) λ_=>zj (zn _) λ_=>vL (zn _)
open Classical in
theorem Loc.nlqO (n:Fr)(dst:Option Nat)(sz:Nat)(l:List A)(b:Bool)(x y:Operand):Loc (nlqO n dst sz l b x y):=by unfold Go.Own.nlqO;exact Loc.bind (Loc.opnd _) λ_=>Loc.bind (Loc.opnd _) λ_=>Loc.ite (Loc.wrT _ _ _) Loc.fail
theorem zvp (h:(nlQ sz l).holds S v):zmv v=some l.isEmpty:=by
 obtain⟨h1,h2⟩:=zkH.1 h;cases l with
 | nil=>rw[h2 rfl];rfl
 | cons a l=>
  simp only[Rep]at h1;obtain⟨p,c,e,_,_,_,h3⟩:=h1;rcases h3 with h3|⟨b,o,l',rfl,_⟩
  ·cases h3
  ·cases e;rfl
theorem zvr (hT:wy P tt)  (hty:jF tt t=true)   (hv:zmv v=some b)(w:World):(Op.equal t v (.slice none 0 0)).run P w=.ok b w:=by
 obtain⟨el,hel⟩:=VC hT hty;unfold Op.equal Op.maxDepth;show(Op.equalIn (9999+1) t v _).run P w=_;generalize 9999=q;unfold Op.equalIn;simp only[Sem.run_bind,run_underlying hel,Result.andThen_ok];cases v with
 | slice p l c=>cases p <;> (simp only[zmv,Option.some.injEq]at hv;subst hv;simp)
 | _=>cases hv
theorem zqa (hT:wy P tt)       (h:Sim C S Fp [] st a w){o:Oper}{t yt sz:Nat}  {neg b:Bool}{x y:Operand}(hty:jF tt t=true)(hb:b=(neg ^^ l.isEmpty))
  (ho:o.op=.binOp (if neg then .neq else .eql) t x y yt) {u:Unit} {R:List Nat} {U:List (Nat×Ent)} (e0:nlqO C.n o.dst sz l b x y st=some (u,R,U)):qO P C o a w (zh U st):=by
 unfold nlqO at e0;obtain⟨tx,R1,U1,R2,U2,h1,e1,rfl,rfl⟩:=bind_some e0;obtain⟨rfl,hx⟩:=zK h h1;obtain⟨ty,R3,U3,R4,U4,h3,e2,rfl,rfl⟩:=bind_some e1;obtain⟨rfl,hy⟩:=zK h h3;simp only[zh,p9]at e2 ⊢;split at e2
 ·rename_i hc;obtain⟨rfl,rfl⟩:=hc;have ey:=(zD.1 hy).1;have hv:=zvp (zcZ.1 (show wh S (.dop (nlQ sz l)) (a.eval x) from hx));have heq:=zvr hT hty hv w;obtain⟨Fp',hs⟩:=wP h e2 (x:=.d (.atom (.bool b))) (zD.2 ⟨rfl,rfl⟩);refine zr ?_ hs;subst hb;cases hvx:a.eval x with
  | slice p n c=>
   rw[hvx]at hv heq;cases neg with
   | false=>simp[execOp,ho,hvx,ey,eqGuard,Go.binOp,heq]
   | true=>simp[execOp,ho,hvx,ey,eqGuard,Go.binOp,heq]
  | _=>rw[hvx]at hv;cases hv
 ·exact(z7 e2).elim
def zvL (neg:Bool)(d t:Nat)(o:Oper):Option (Operand×Operand):=match o.op with|.binOp .eql t' x y _=>if neg=false/\o.dst=some d then(if t'=t then some (x,y) else none) else none|.binOp .neq t' x y _=>if neg=true/\o.dst=some d then(if t'=t then some (x,y) else none) else none|_=>none
def ztO (hT:wy P tt)(d t sz:Nat)(l:List A)(neg b:Bool)(hty:jF tt t=true)(hb:b=(neg ^^ l.isEmpty)):XH P :=
 xAt P (zvL neg d t) (λn o q=>nlqO n o.dst sz l b q.1 q.2) (λn o q=>zBd n o.dst sz l b q.1 q.2)
  (by
   intro C S Fp st a w o q hp h u R U e;unfold zvL at hp;split at hp
   ·rename_i ho;split at hp
    ·rename_i hc;obtain⟨rfl,_⟩:=hc;split at hp
     ·rename_i ht;subst ht;cases hp;exact zqa hT h hty hb (by simpa using ho) e
     ·cases hp
    ·cases hp
   ·rename_i ho;split at hp
    ·rename_i hc;obtain⟨rfl,_⟩:=hc;split at hp
     ·rename_i ht;subst ht;cases hp;exact zqa hT h hty hb (by simpa using ho) e
     ·cases hp
    ·cases hp
   ·cases hp)
  (λn o q=>Loc.nlqO _ _ _ _ _ _ _) (λn o q=>zzg _ _ _ _ _ _ _)
open Classical in
def reO (n:Fr)(dst:Option Nat)(y0 y1:A)(x:Operand):SM Unit:=do
 let tx <-opnd x
 if tx=.d y0 then wrT n dst (.d y1) else zu
def reH (n:Fr)(dst:Option Nat)(y0 y1:A)(x:Operand):HM Unit:=yg (opnd x) >>= λtx=>XW (tx=.d y0) (yg (wrT n dst (.d y1)))
open Classical in
theorem zCz (n:Fr)(dst:Option Nat)(y0 y1:A)(x:Operand):Snd (reO n dst y0 y1 x) (reH n dst y0 y1 x):=zj (zn _) λ_=>vL (zn _)
open Classical in
theorem Loc.reO (n:Fr)(dst:Option Nat)(y0 y1:A)(x:Operand):Loc (reO n dst y0 y1 x):=by unfold Go.Own.reO;exact Loc.bind (Loc.opnd _) λ_=>Loc.ite (Loc.wrT _ _ _) Loc.fail
def zBi (d:Nat)(o:Oper):Option Operand:=match o.op with|.assign x=>if o.dst=some d then some x else none|.move x=>if o.dst=some d then some x else none|_=>none
variable {y0 y1:A}
theorem zvb (h:Sim C S Fp [] st a w)   (hl:∀S v,wh S y0 v->wh S y1 v){x:Operand}(ho:o.op=.assign x\/o.op=.move x)    (e0:reO C.n o.dst y0 y1 x st=some (u,R,U)):qO P C o a w (zh U st):=by
 unfold reO at e0;obtain⟨tx,R1,U1,R2,U2,h1,e1,rfl,rfl⟩:=bind_some e0;obtain⟨rfl,hx⟩:=zK h h1;simp only[zh,p9]at e1 ⊢;split at e1
 ·rename_i hc;subst hc;have hx':wh S y0 (a.eval x):=hx;obtain⟨Fp',hs⟩:=wP h e1 (x:=.d y1) (v:=a.eval x) (hl _ _ hx');rcases ho with ho|ho
  ·exact zr (by simp[execOp,ho]) hs
  ·exact zr (by simp[execOp,ho]) hs
 ·exact(z7 e1).elim
def xRe (P:Program)(d:Nat)(y0 y1:A)(hl:∀S v,wh S y0 v->wh S y1 v):XH P :=
 xAt P (zBi d) (λn o x=>reO n o.dst y0 y1 x) (λn o x=>reH n o.dst y0 y1 x)
  (by
   intro C S Fp st a w o x hp h u R U e;unfold zBi at hp;split at hp
   ·rename_i ho;cases z8d hp;exact zvb h hl (.inl ho) e
   ·rename_i ho;cases z8d hp;exact zvb h hl (.inr ho) e
   ·cases hp)
  (λn o x=>Loc.reO _ _ _ _ _) (λn o x=>zCz _ _ _ _ _)
theorem zq1 (sz:Nat)(S:zo)(v:Value)(h:wh S (.atom (.slice none 0 0)) v):wh S (.dop (nlQ sz [])) v:=by rw[(zD.1 h).1];exact zcZ.2 ⟨zrN S sz,λ_=>rfl⟩
theorem Sim.retagD (h:Sim C S Fp [] st a w)(k:Nat)(x y:A)(hx:(st k).t=.d x)(hl:LeA x y):Sim C S Fp [] (upd st k ⟨.d y,(st k).er+1,(st k).ec+1⟩) a w:=by
 refine { size:=h.size,pin:=h.pin,defers:=h.defers,below:=h.below,mine:=h.mine,still:=h.still,sinc:=h.sinc,sbase:=h.sbase,ent:=?_,disj:=h.disj,base:=h.base,xn:=h.xn,xd:=h.xd,xb:=h.xb };intro t;have q:=h.ent t;by_cases ht:t=k
 ·subst ht;rw[uT];unfold wv at q ⊢;simp only[hx]at q ⊢;exact⟨hl.repV q.1,q.2⟩
 ·rw[Q6 _ _ ht];unfold wv at q ⊢;have als:∀{r p er' ec' v},XJ w.heap st (Act.tv a) r p er' ec' v->XJ w.heap (upd st k ⟨.d y,(st k).er+1,(st k).ec+1⟩) (Act.tv a) r p er' ec' v:=by
   intro r p er' ec' v q;by_cases hr:r=k
   ·subst hr;obtain⟨q1,q2,q3⟩:=q;unfold XJ;rw[uT];refine⟨nC q1,nC q2,?_⟩;simp only;intro e1;omega
   ·unfold XJ;rw[Q6 _ _ hr];exact q
  have ptr:∀{r p er' ec' v},Xj w.heap st (Act.tv a) r p er' ec' v->Xj w.heap (upd st k ⟨.d y,(st k).er+1,(st k).ec+1⟩) (Act.tv a) r p er' ec' v:=by
   intro r p er' ec' v q;by_cases hr:r=k
   ·subst hr;obtain⟨q1,q2,q3⟩:=q;unfold Xj;rw[uT];refine⟨nC q1,nC q2,?_⟩;trivial
   ·unfold Xj;rw[Q6 _ _ hr];exact q
  cases hz:(st t).t with
  | gone=>simp only[hz]at q ⊢;exact q
  | d y=>simp only[hz]at q ⊢;exact q
  | own y=>simp only[hz]at q ⊢;exact q
  | als r p er' ec'=>simp only[hz]at q ⊢;exact⟨q.1,als q.2⟩
  | ptr r p er' ec'=>simp only[hz]at q ⊢;exact⟨q.1,ptr q.2⟩
theorem qO.retagD {st1:St}(hg:qO P C o a w st1)(k:Nat)(x y:A)(hx:(st1 k).t=.d x)(hl:LeA x y):qO P C o a w (upd st1 k ⟨.d y,(st1 k).er+1,(st1 k).ec+1⟩) :=
 λr m K Q hk=>hg r m K Q λS Fp a' w' hs=>hk S Fp a' w' (hs.retagD k x y hx hl)
open Classical in
def lsO (tt:TT)(n:Fr)(dst:Option Nat)(d:Nat)(y0 y1:A)(t:Nat)(x:Operand):SM Unit :=
 ziJ tt n dst t x >>= λ_=>rdE d >>= λe=>if e.t=.d y0 then wrE d ⟨.d y1,e.er+1,e.ec+1⟩ else zu
def lsH (tt:TT)(n:Fr)(dst:Option Nat)(d:Nat)(y0 y1:A)(t:Nat)(x:Operand):HM Unit :=
 (yg (opnd x) >>= λy=>zl0 tt n dst t y) >>= λ_=>yg (rdE d) >>= λe=>XW (e.t=.d y0) (yg (wrE d ⟨.d y1,e.er+1,e.ec+1⟩))
open Classical in
theorem zCG (tt:TT)(n:Fr)(dst:Option Nat)(d:Nat)(y0 y1:A)(t:Nat)(x:Operand):Snd (lsO tt n dst d y0 y1 t x) (lsH tt n dst d y0 y1 t x) :=
 zj (zj (zn _) λy=>zjX _ _ _ _ _) λ_=>zj (zn _) λ_=>vL (zn _)
open Classical in
theorem Loc.lsO (tt:TT)(n:Fr)(dst:Option Nat)(d:Nat)(y0 y1:A)(t:Nat)(x:Operand):Loc (lsO tt n dst d y0 y1 t x):=by unfold Go.Own.lsO;exact Loc.bind (by have q:=Loc.stepO tt z3y n ⟨dst,.load t x,0,default,default,none⟩;exact q) λ_=>Loc.bind (Loc.rdE _) λ_=>Loc.ite (Loc.wrE _ _) Loc.fail
theorem zzC (hT:wy P tt)       (h:Sim C S Fp [] st a w)  {d t:Nat}  (hl:LeA y0 y1)  (ho:o.op=.load t x)    (e0:lsO tt C.n o.dst d y0 y1 t x st=some (u,R,U)):qO P C o a w (zh U st):=by
 unfold lsO at e0;obtain⟨y,R1,U1,R2,U2,h1,e1,rfl,rfl⟩:=bind_some e0;have g:=zkZ hT h ho h1;rw[zB];generalize zh U1 st=s1 at g e1 ⊢;obtain⟨e,R7,U7,R8,U8,h7,e4,rfl,rfl⟩:=bind_some e1;obtain⟨rfl,rfl,rfl⟩:=yl h7;simp only[zh,p9]at e4 ⊢;split at e4
 ·rename_i hc;obtain⟨rfl,rfl⟩:=wO e4;exact g.retagD d y0 y1 hc hl
 ·exact(z7 e4).elim
def zBl (d:Nat)(o:Oper):Option (Nat×Operand):=match o.op with|.load t x=>if o.dst=some d then some (t,x) else none|_=>none
def xLs (hT:wy P tt)(d:Nat)(y0 y1:A)(hl:LeA y0 y1):XH P :=
 xAt P (zBl d) (λn o b=>lsO tt n o.dst d y0 y1 b.1 b.2) (λn o b=>lsH tt n o.dst d y0 y1 b.1 b.2)
  (by
   intro C S Fp st a w o b hp h u R U e;unfold zBl at hp;split at hp
   ·rename_i ho;cases z8d hp;exact zzC hT h hl ho e
   ·cases hp)
  (λn o b=>Loc.lsO _ _ _ _ _ _ _ _) (λn o b=>zCG _ _ _ _ _ _ _ _)
theorem nlB (neg:Bool)(f:α->A)(l:List α):(bif neg then !l.isEmpty else l.isEmpty)=(neg ^^ (l.map f).isEmpty):=by cases neg <;> cases l <;> rfl
section
variable {P:Program}
theorem Vh {b:Frame}{k:List Item}{cs:List Frame}  : step P (lone (b.atR a (.code (.scope c)::k)) cs w)=.next (lone (b.atR a (.code c :: .inScope c::k)) cs w) :=
 step_lone_go (by simp[Go.stepG,Go.stepG.exec,Frame.atR])
theorem zcM {b:Frame}{k:List Item}{cs:List Frame}  : step P (lone (b.atR a (.inScope c::k)) cs w)=.next (lone (b.atR a k) cs w) :=
 step_lone_go (by simp[Go.stepG,Go.stepG.exec,Frame.atR])
theorem zi6 {F:Fence}{n:Nat}{Q:Exit->Act->World->Prop}    (hQ:∀l a w,¬Q (.goto l) a w)(h:c.wpIn F n P Q a w):(Code.scope c).wpIn F n P Q a w:=by
 intro b k cs hro hb hr;have h0:(lone (b.atR a (.code (.scope c)::k)) cs w).fenced P F:=fenced_calm hb hr rfl;obtain⟨e,a₁,w₁,hq,harr⟩:=h b (.inScope c::k) cs hro hb hr;cases e with
 | normal=>exact⟨.normal,a₁,w₁,hq,.head h0 Vh (StepsIn.trans harr (.one (fenced_calm hb hr rfl) zcM))⟩
 | exit id=>
  have hx:exitTo id (.inScope c::k)=exitTo id k:=by simp[exitTo]
  exact⟨.exit id,a₁,w₁,hq,λk' hk=>.head h0 Vh (harr.1 k' (by rw[hx];exact hk)),
   λhr' hk=>let ⟨k₁,h1,h2⟩:=harr.2 hr' (by rw[hx];exact hk);⟨k₁,h1,.head h0 Vh h2⟩⟩
 | goto l=>exact(hQ l _ _ hq).elim
 | ret=>exact⟨_,a₁,w₁,hq,.of_steps (.one h0 Vh) harr⟩
 | panic ch=>exact⟨_,a₁,w₁,hq,.of_steps (.one h0 Vh) harr⟩
 | outgrown=>exact⟨_,a₁,w₁,hq,.of_steps (.one h0 Vh) harr⟩
variable {n:Fr}
theorem AWP.scope (hQ:∀l st,¬Q (.goto l) st)(h:AWP P n c st Q):AWP P n (.scope c) st Q:=by intro rd m df w0 S0 M S Fp a w hc hs;refine zi6 ?_ (h rd m df w0 S0 M S Fp a w hc hs);rintro l a' w' ⟨df',st1,S1,Fp1,h1,h2,h3⟩;exact hQ l _ h3
theorem zki (hQ:∀l st,¬Q (.goto l) st):∀(fs:List Fm) (l:Nat) (st:St),¬Qf P n fs Q (.goto l) st
 | [],l,st,h=>hQ l st h
 | .seq _::fs,l,st,h=>zki hQ fs l st h
 | .blk _::fs,l,st,h=>zki hQ fs l st h
 | .pre _::fs,l,st,h=>zki hQ fs l st h
 | .rnd _ _::fs,l,st,h=>zki hQ fs l st h
theorem zpy {c c':Code}  (e:c=.scope c')(hQ:∀l st,¬Q (.goto l) st)(h:AWP P n c' st (Qf P n fs Q)):AWP P n c st (Qf P n fs Q):=by subst e;exact AWP.scope (zki hQ fs) h
theorem zl6 {nt t:Nat}(is:List Nat){args caps xs:List A}{vals:List Value}{r:A}{ys:List A}(hT:wy P tt)(hf:P.funcs[k]?=some fn)(hnm:(fn.name == "runtime.NumGoroutine")=false)(hb:fn.body=some body)
  (hn:nt=fn.ntmps) (hr:fn.results=#[.tmp t]) (ha:(args++caps).length<=fn.ntmps) (hnd:is.Nodup) (hbase:is.map (λi=>(args++caps)[i]?)=vals.map (λv=>some (.atom v))) (hl:xs.length=vals.length) (hrd:r.isD=true) (hrn:Jq tt 0 r=r)
  (h:∀E:Exit->St->Prop,(∀l st,¬E (.goto l) st)->(∀ex st,(ex=.normal\/ex=.ret)->(∀p∈is.zip ys,(st p.1).t=.own p.2)->(st t).t=.d r->E ex st) ->
   AWP P ⟨nt,is.zip vals⟩ body (ofL (zhG 0 (z1C (args++caps) is xs))) (Qf P ⟨nt,is.zip vals⟩ [] E)) (hy:is.length=ys.length):Yr P (.fn k caps) args (vals.zip xs) r ys :=
 zoR is hT hf hnm hb hn hr ha hnd hbase hl hrd hrn (λE hE=>AWP.mono (h (λex st=>(∀l,ex≠.goto l)/\E ex st) (λl st q=>q.1 l rfl) λex st hx hp hq=>⟨λl e=>(by rcases hx with rfl|rfl <;> cases e),hE ex st hx hp hq⟩) λex st q=>q.2) hy
end
def LeP (xs ys:List A):Prop:=∀S vs,UR (qa S) xs vs->UR (qa S) ys vs
open Classical in
def lentI (tt:TT)(n:Fr)(dst:Option Nat)(f:Operand)(aL:List (Operand×Nat))(x:Operand)(aR:List (Operand×Nat))(s:Nat)(fa:A)(xl xr:List A)(z z' r:A):SM Unit:=do
 let fs <-refArgs tt n [(f,0)];let xs <-refArgs tt n aL;let zs <-refArgs tt n aR;let tx <-opnd x;let e <-rdE s
 if fs=[fa]/\LeP xs xl/\LeP zs xr/\tx=.als s [.deref] e.er e.ec/\e.t=.own (.box z) then
  (wrE s ⟨.own (.box (.dead 1)),e.er,e.ec+1⟩ >>= λ_=>wrE s ⟨.own (.box z'),e.er,e.ec+2⟩ >>= λ_=>wrT n dst (mkT r))
 else zu
def zqk (tt:TT)(n:Fr)(dst:Option Nat)(f:Operand)(aL:List (Operand×Nat))(x:Operand)(aR:List (Operand×Nat))(s:Nat)(fa:A)(xl xr:List A)(z z' r:A):HM Unit :=
 Ua tt n [(f,0)] >>= λfs=>Ua tt n aL >>= λxs=>Ua tt n aR >>= λzs=>yg (opnd x) >>= λtx=>yg (rdE s) >>= λe=>
 XW (fs=[fa]/\LeP xs xl/\LeP zs xr/\tx=.als s [.deref] e.er e.ec/\e.t=.own (.box z)) (yg (wrE s ⟨.own (.box (.dead 1)),e.er,e.ec+1⟩ >>= λ_=>wrE s ⟨.own (.box z'),e.er,e.ec+2⟩ >>= λ_=>wrT n dst (mkT r)))
open Classical in
theorem zrw (tt:TT)(n:Fr)(dst:Option Nat)(f:Operand)(aL:List (Operand×Nat))(x:Operand)(aR:List (Operand×Nat))(s:Nat)(fa:A)(xl xr:List A)(z z' r:A):Snd (lentI tt n dst f aL x aR s fa xl xr z z' r) (zqk tt n dst f aL x aR s fa xl xr z z' r) :=
 zj (Wm _ _ _) λ_=>zj (Wm _ _ _) λ_=>zj (Wm _ _ _) λ_=>zj (zn _) λ_=>zj (zn _) λ_=>vL (zn _)
open Classical in
theorem Loc.lentI (tt:TT)(n:Fr)(dst:Option Nat)(f:Operand)(aL:List (Operand×Nat))(x:Operand)(aR:List (Operand×Nat))(s:Nat)(fa:A)(xl xr:List A)(z z' r:A):Loc (lentI tt n dst f aL x aR s fa xl xr z z' r):=by unfold Go.Own.lentI;exact Loc.bind (Loc.refArgs _ _ _) λ_=>Loc.bind (Loc.refArgs _ _ _) λ_=>Loc.bind (Loc.refArgs _ _ _) λ_=>Loc.bind (Loc.opnd _) λ_=>Loc.bind (Loc.rdE _) λ_=>Loc.ite (Loc.bind (Loc.wrE _ _) λ_=>Loc.bind (Loc.wrE _ _) λ_=>Loc.wrT _ _ _) Loc.fail
variable {xl xr:List A}
section
variable {C:Ctx}{S:zo}{Fp:Nat->List Nat}{st:St}{a:Act}{w:World}
theorem zkB (h:z8P z=true):z.size=1:=by cases z <;> simp_all [z8P,A.size]
theorem zmf {s er ec:Nat}  {v:Value}{b:Nat}  {l:List Value}(ht:(st s).t=.own (.box z))(h1:(st s).er=er)(h2:(st s).ec=ec)(hz:z8P z=true)(hv:Act.tv a s=.pointer (some ⟨b,0,none⟩))(hb:w.heap[b]?=some (.cells l.toArray ty (0,0)))(hl:l=[y8 z l])
  (h:XJ w.heap st (Act.tv a) s [.deref] er ec v):v=y8 z l:=by
 obtain⟨_,_,hm⟩:=h;simp only[ht]at hm;rcases hm h1 (.inr h2) with⟨q,_⟩|⟨_,y2,b2,o2,cs2,k1,k2,k3,k4,k5⟩
 ·cases q
 ·simp only[vQ,Option.some.injEq]at k1;subst k1;rw[hv]at k2;simp only[uj,z7O,Option.some.injEq,Prod.mk.injEq]at k2;obtain⟨rfl,rfl⟩:=k2;have hs:z.size=1:=zkB hz;rw[hs]at k3;match cs2,k3 with
  | [u],_=>
   have hu:=k4 0 u rfl;unfold yj at hu;rw[hb]at hu;have h0:l.toArray[0+0]?=some (y8 z l):=by rw[rb];exact congrArg (λq:List Value=>q[0]?) hl
   have hu':l.toArray[0+0]?=some u:=hu;rw[h0]at hu';cases hu';rw[k5];exact(congrArg (y8 z) hl).symm
theorem zoS {P:Program}{tt:TT}(h:Sim C S Fp [] st a w){op:Oper}{f x:Operand}{args:Array Operand}{tys:Array TypeId}{aL aR:List (Operand×Nat)}{tx0 s:Nat}{fa z z' r:A}{xl xr:List A}(hz:z8P z=true)(hz':z8P z'=true)
  (hl:∀v,Yr P fa (xl ++ .atom v::xr) [(v,z)] r [z'])
  (ho:op.op=.call { callee:=.value f,args:=args,argTypes:=tys }) (hsz:args.size=tys.size) (hargs:args.toList.zip tys.toList=aL++(x,tx0)::aR) {u:Unit} {R:List Nat} {U:List (Nat×Ent)}
  (e:lentI tt C.n op.dst f aL x aR s fa xl xr z z' r st=some (u,R,U)):qO P C op a w (zh U st):=by
 unfold lentI at e;obtain⟨fs,R1,U1,R2,U2,e1,e2,rfl,rfl⟩:=bind_some e;obtain⟨S1,Fp1,g1,g2,g3⟩:=YG h e1;obtain⟨xs,R3,U3,R4,U4,e3,e4,rfl,rfl⟩:=bind_some e2;obtain⟨S2,Fp2,j1,j2,j3⟩:=YG g1 e3;obtain⟨zs,R5,U5,R6,U6,e5,e6,rfl,rfl⟩:=bind_some e4;obtain⟨S3,Fp3,q1,q2,q3⟩:=YG j1 e5;rw[zB,zB,zB];generalize zh U5 (zh U3 (zh U1 st))=s3 at q1 e6 ⊢;obtain⟨tx,R7,U7,R8,U8,e7,e8,rfl,rfl⟩:=bind_some e6;obtain⟨rfl,hx⟩:=zK q1 e7;simp only[zh,p9]at e8 ⊢;obtain⟨en,R9,U9,R10,U10,e9,e10,rfl,rfl⟩:=bind_some e8;obtain⟨rfl,rfl,rfl⟩:=yl e9;simp only[zh,p9]at e10 ⊢;split at e10
 ·rename_i hc;obtain⟨rfl,hxl,hxr,rfl,ht⟩:=hc;obtain⟨u1,R11,U11,R12,U12,e11,e12,rfl,rfl⟩:=bind_some e10;obtain⟨rfl,rfl⟩:=wO e11;obtain⟨u2,R13,U13,R14,U14,e13,e14,rfl,rfl⟩:=bind_some e12;obtain⟨rfl,rfl⟩:=wO e13;simp only[zh,gQ,p9]at e14 ⊢;have hr:=q1.ent s;unfold wv at hr;simp only[ht]at hr;obtain⟨cs,c1,c2,c3⟩:=hr;have c1':=c1;simp only[zU]at c1';obtain⟨b,ty,l,F',rfl,hb,ci,hFs,hSb⟩:=c1';rw[hFs]at c2;have hvs:Act.tv a s=.pointer (some ⟨b,0,none⟩):=c3;have hl1:=z1b hz ci;have hone:(y8 z l).oneCell'=true:=ci.one1 (z3j hz) _ (by have q:=rB (y8 z l);rwa[<-hl1]at q);have hev:a.eval x=y8 z l:=zmf ht rfl rfl hz hvs hb hl1 hx;obtain⟨hbF,hFn⟩:=pY.1 c2;have hbs:b∈Fp3 s:=by rw[hFs];exact rF
  have hFsub:∀k∈F',k∈Fp3 s:=λk hk=>by rw[hFs];exact nF _ hk
  have hblt:b<w.heap.size:=(q1.free s b hbs).1;have hs4:Sim C S3 (z2j Fp3 s [b]) F' (upd s3 s ⟨.own (.box (.dead 1)),(s3 s).er,(s3 s).ec+1⟩) a w:=by
   refine q1.change s (.own (.box (.dead 1))) _ _ [b] q1.below (λ_ _ _ q=>q) q1.still.cell q1.sbase (λt k _ hk=>⟨rfl,(q1.free t k hk).2.1⟩) ⟨⟨_,?_,by simp,c3⟩,_,ht⟩ (.inl ⟨_,ht⟩) (pC _) (gB _) ?_ ?_ hFn ?_ ?_ ?_
   ·simp only[zU];refine⟨b,ty,l,[],rfl,hb,⟨by rw[hl1];rfl,λu hu=>?_,rfl⟩,rfl,hSb⟩;rw[hl1]at hu;rw[pR.1 hu];exact hone
   ·intro t k hts hk hk';rw[pR.1 hk]at hk';exact hts (q1.disj t s b hk' hbs)
   ·intro k hk;rw[pR.1 hk];exact q1.base s b hbs
   ·exact λt k hts hk hk'=>hts (q1.disj t s k hk' (hFsub k hk))
   ·intro k hk hk';rw[pR.1 hk']at hk;exact hbF hk
   ·exact λk hk=>q1.base s k (hFsub k hk)
  have hmap:(args.map a.eval).toList=(aL.map λp=>a.eval p.1)++a.eval x::(aR.map λp=>a.eval p.1):=by
   have h1:(args.toList.zip tys.toList).map (λp=>a.eval p.1)=(args.map a.eval).toList:=by
    have:(args.toList.zip tys.toList).map (λp=>a.eval p.1)=((args.toList.zip tys.toList).map (·.1)).map a.eval:=by rw[mO];rfl
    rw[this,rp (by simp[hsz])];simp
   rw[<-h1,hargs];simp
  have hact:=hl (y8 z l) S3 w (a.eval f) ((args.map a.eval).toList) F' hs4.still ((g3.1.mono j2).mono q2)
   (by rw[hmap,hev];exact z8V (hxl _ _ (j3.mono λ_ _ q=>q.mono q2)) ⟨xY.2 ⟨rfl,hone⟩,hxr _ _ q3⟩)
   ⟨F',[],rfl,.inr ⟨l,ci,hFn,rfl⟩,rfl⟩ hFn
  intro rd m K Q hK;refine zqB ho hact rd m K Q ?_;rintro v' w' ⟨S',F2,G,b1,b2,b3,b4,b5,b6,b7,b8⟩;have hs':Sim C S' (z2j Fp3 s [b]) (G++F2) (upd s3 s ⟨.own (.box (.dead 1)),(s3 s).er,(s3 s).ec+1⟩) a w':=(show Sim C S3 (z2j Fp3 s [b]) (F' ++ []) _ a w by rw[hU];exact hs4).lentCall b1 b2 b3 b4 b7 b8;obtain⟨G1,G2,hG,b9,b10⟩:=b6;have hG2:G2=[]:=b10;subst hG2;rw[p9]at hG;subst hG;have notup:∀fs,z'≠.tup fs:=by rintro fs rfl;simp[z8P]at hz'
  obtain⟨cz,z1,z2,z3⟩:=b9.cells notup;have hcz:=z1b hz' z1;have hczl:cz=l:=by rw[hcz,hl1];exact congrArg (λq=>[q]) z3.symm
  subst hczl;have hnb:¬(w.heap.size<=b\/b∈F'):=by
   rintro(q|q)
   ·omega
   ·exact hbF q
  have hbG:b∉G:=λhk=>hnb (b8 b (ri _ hk));have hheap:=b1.block b hnb;have hu4:(upd s3 s ⟨.own (.box (.dead 1)),(s3 s).er,(s3 s).ec+1⟩ s).t=.own (.box (.dead 1)):=by rw[uT]
  obtain⟨xn1,xn2,xn3⟩:=pM.1 b7;have hub:b∈z2j Fp3 s [b] s:=by unfold z2j;rw[if_pos rfl];exact pR.2 rfl
  have hs5:Sim C S' (z2j (z2j Fp3 s [b]) s (b::G)) F2 (upd (upd s3 s ⟨.own (.box (.dead 1)),(s3 s).er,(s3 s).ec+1⟩) s ⟨.own (.box z'),(s3 s).er,(s3 s).ec+2⟩) a w':=by
   refine hs'.change s (.own (.box z')) _ _ (b::G) hs'.below (λ_ _ _ q=>q) hs'.still.cell hs'.sbase (λt k _ hk=>⟨rfl,(hs'.free t k hk).2.1⟩) ⟨⟨[.pointer (some ⟨b,0,none⟩)],?_,pY.2 ⟨hbG,xn1⟩,hvs⟩,_,hu4⟩ (.inl ⟨_,hu4⟩) ?_ ?_ ?_ ?_ xn2 ?_ ?_ ?_
   ·simp only[zU];exact⟨b,ty,cz,G,rfl,by rw[hheap];exact hb,z1,rfl,λo=>by rw[b3 b o hblt hbF];exact hSb o⟩
   ·rw[uT];exact pC _
   ·rw[uT];exact gB _
   ·intro t k hts hk hk';rcases pD.1 hk with rfl|hk
    ·exact hts (hs'.disj t s _ hk' hub)
    ·exact hs'.xd t k (ri _ hk) hk'
   ·intro k hk;rcases pD.1 hk with rfl|hk
    ·exact hs'.base s _ hub
    ·exact hs'.xb k (ri _ hk)
   ·exact λt k hts hk=>hs'.xd t k (rJ _ hk)
   ·intro k hk hk';rcases pD.1 hk' with rfl|hk'
    ·exact hs'.xd s _ (rJ _ hk) hub
    ·exact xn3 k hk' k hk rfl
   ·exact λk hk=>hs'.xb k (rJ _ hk)
  obtain⟨Fp5,m2⟩:=z8Y (X:=[]) (by simpa using hs5) e14 b5;exact hK _ _ _ _ m2
 ·exact(z7 e10).elim
end
def zBm (d i:Nat)(o:Oper):Option (Operand×List (Operand×Nat)×Operand×List (Operand×Nat)):=match o.op with
 | .call ⟨.value f,args,tys⟩=>if o.dst=some d/\args.size=tys.size then(match (args.toList.zip tys.toList).drop i with|(x,_)::aR=>some (f,(args.toList.zip tys.toList).take i,x,aR)|[]=>none) else none
 | _=>none
def zjd (tt:TT)(s i:Nat){fa z z' r:A}  (hz:z8P z=true)(hz':z8P z'=true)(hl:∀v,Yr P fa (xl ++ .atom v::xr) [(v,z)] r [z'])(d:Nat):XH P :=
 xAt P (zBm d i) (λn o b=>lentI tt n o.dst b.1 b.2.1 b.2.2.1 b.2.2.2 s fa xl xr z z' r) (λn o b=>zqk tt n o.dst b.1 b.2.1 b.2.2.1 b.2.2.2 s fa xl xr z z' r)
  (by
   intro C S Fp st a w o b hp h u R U e;unfold zBm at hp;split at hp
   ·rename_i f args tys ho;split at hp
    ·rename_i hc;split at hp
     ·rename_i x tx0 aR hd;cases hp;exact zoS h hz hz' hl ho hc.2 (by rw[<-hd,mD]) e
     ·cases hp
    ·cases hp
   ·cases hp)
  (λn o b=>Loc.lentI _ _ _ _ _ _ _ _ _ _ _ _ _ _) (λn o b=>zrw _ _ _ _ _ _ _ _ _ _ _ _ _ _)
theorem leP {xs ys:List A}(h:z3p xs ys):LeP xs ys:=h.all
def blM (y:T):Option (Nat×Bool×List A):=match y with|.own (.osl z b l)=>some (z,b,l)|_=>none
theorem zpv {y:T}{q:Nat×Bool×List A}(h:blM y=some q):y=.own (.osl q.1 q.2.1 q.2.2):=by
 unfold blM at h;split at h
 ·cases h;rfl
 ·cases h
def blO (tt:TT)(n:Fr)(dst:Option Nat)(d t len:Nat)(ps:List (Nat×Operand)):SM Unit :=
 qZ tt n dst t len ps >>= λ_=>rdE d >>= λe=>ofO (blM e.t) >>= λq=>wrE d ⟨.own (.osl q.1 false q.2.2),e.er+1,e.ec+1⟩
def blH (tt:TT)(n:Fr)(dst:Option Nat)(d t len:Nat)(ps:List (Nat×Operand)):HM Unit :=
 JA tt n dst t len ps >>= λ_=>yg (rdE d) >>= λe=>yg (ofO (blM e.t)) >>= λq=>yg (wrE d ⟨.own (.osl q.1 false q.2.2),e.er+1,e.ec+1⟩)
theorem zCJ (tt:TT)(n:Fr)(dst:Option Nat)(d t len:Nat)(ps:List (Nat×Operand)):Snd (blO tt n dst d t len ps) (blH tt n dst d t len ps) :=
 zj (z2u _ _ _ _ _ _) λ_=>zj (zn _) λ_=>zj (zn _) λ_=>zn _
theorem Loc.blO (tt:TT)(n:Fr)(dst:Option Nat)(d t len:Nat)(ps:List (Nat×Operand)):Loc (blO tt n dst d t len ps) :=
 Loc.bind (by have q:=Loc.stepO tt z3y n ⟨dst,.buildSlice t len ⟨ps⟩,0,default,default,none⟩;exact q) λ_=>Loc.bind (Loc.rdE _) λ_=>Loc.bind (Loc.ofO _) λ_=>Loc.wrE _ _
theorem zzS (hT:wy P tt)       (h:Sim C S Fp [] st a w)  {d t len:Nat}  (ho:o.op=.buildSlice t len ps)    (e0:blO tt C.n o.dst d t len ps.toList st=some (u,R,U)):qO P C o a w (zh U st):=by obtain⟨y,R1,U1,R2,U2,h1,e1,rfl,rfl⟩:=bind_some e0;have g:=z1o hT h ho h1;rw[zB];generalize zh U1 st=s1 at g e1 ⊢;obtain⟨e,R7,U7,R8,U8,h7,e4,rfl,rfl⟩:=bind_some e1;obtain⟨rfl,rfl,rfl⟩:=yl h7;simp only[zh,p9]at e4 ⊢;obtain⟨q,R9,U9,R10,U10,h9,e5,rfl,rfl⟩:=bind_some e4;obtain⟨hq,rfl,rfl⟩:=kQ h9;simp only[zh,p9]at e5 ⊢;obtain⟨rfl,rfl⟩:=wO e5;exact g.retag d _ _ (zpv hq) (@LeA.osl _ _ _ _ (zck.refl _))
def xBl (hT:wy P tt)(d:Nat):XH P :=
 xAt P (zyQ d) (λn o b=>blO tt n o.dst d b.1 b.2.1 b.2.2.toList) (λn o b=>blH tt n o.dst d b.1 b.2.1 b.2.2.toList)
  (by
   intro C S Fp st a w o b hp h u R U e;unfold zyQ at hp;split at hp
   ·rename_i ho;cases z8d hp;exact zzS hT h ho e
   ·cases hp)
  (λn o b=>Loc.blO _ _ _ _ _ _ _) (λn o b=>zCJ _ _ _ _ _ _ _)
abbrev z9J (b:Nat):Value:=.pointer (some ⟨b,0,none⟩)
theorem zsN (k:Nat)  (hk:∃z,(st k).t=.own (.box z))(hp:z4T n.pin k=some v)(h:∀b,v=z9J b->AWP P n c st Q):AWP P n c st Q:=by intro rd m df w0 S0 M S Fp a w hc hs;obtain⟨z,hz⟩:=hk;obtain⟨b,hb⟩:=zm1 hs hz;exact h b (by rw[<-hs.pin k v (ZQ hp),hb]) rd m df w0 S0 M S Fp a w hc hs
section
variable {C:Ctx}{S:zo}{Fp:Nat->List Nat}{st:St}{a:Act}{w:World}
open Classical in
def nrO (n:Fr)(dst:Option Nat)(b:Nat)(x:Operand):SM Unit:=do
 let tx <-opnd x
 if tx=.d (.atom (z9J b)) then wrT n dst (.d (.atom (z9J b))) else zu
def nrH (n:Fr)(dst:Option Nat)(b:Nat)(x:Operand):HM Unit:=yg (opnd x) >>= λtx=>XW (tx=.d (.atom (z9J b))) (yg (wrT n dst (.d (.atom (z9J b)))))
open Classical in
theorem zCB (n:Fr)(dst:Option Nat)(b:Nat)(x:Operand):Snd (nrO n dst b x) (nrH n dst b x):=zj (zn _) λ_=>vL (zn _)
open Classical in
theorem Loc.nrO (n:Fr)(dst:Option Nat)(b:Nat)(x:Operand):Loc (nrO n dst b x):=by unfold Go.Own.nrO;exact Loc.bind (Loc.opnd _) λ_=>Loc.ite (Loc.wrT _ _ _) Loc.fail
theorem zzu (h:Sim C S Fp [] st a w)  {b:Nat}{x:Operand}(ho:o.op=.nilCheck x)    (e:nrO C.n o.dst b x st=some (u,R,U)):qO P C o a w (zh U st):=by
 unfold nrO at e;obtain⟨tx,R1,U1,R2,U2,h1,e1,rfl,rfl⟩:=bind_some e;obtain⟨rfl,hx⟩:=zK h h1;simp only[zh,p9]at e1 ⊢;split at e1
 ·rename_i hc;subst hc;obtain⟨Fp',hs'⟩:=wP h e1 (x:=.d (.atom (z9J b))) (v:=z9J b) (zD.2 ⟨rfl,rfl⟩);refine zr ?_ hs';have ex:a.eval x=z9J b:=(zD.1 hx).1;simp[execOp,ho,ex]
 ·exact(z7 e1).elim
open Classical in
def riK (tt:TT)(n:Fr)(dst:Option Nat)(t m sz b:Nat)(tx:T):A->SM Unit
 | .atom (.int _ j)=>if tx=.d (.atom (z9J b))/\0<=j/\j.toNat<m then(if zft tt t=some (m,sz) then wrT n dst (.d (.atom (.pointer (some ⟨b,j.toNat*sz,none⟩)))) else zu) else zu
 | _=>zu
def zB7 (tt:TT)(n:Fr)(dst:Option Nat)(t m sz b:Nat)(tx:T):A->HM Unit
 | .atom (.int _ j)=>XW (tx=.d (.atom (z9J b))/\0<=j/\j.toNat<m) (if zft tt t=some (m,sz) then yg (wrT n dst (.d (.atom (.pointer (some ⟨b,j.toNat*sz,none⟩))))) else zV)
 | _=>zV
def riO (tt:TT)(n:Fr)(dst:Option Nat)(t m sz b:Nat)(x y:Operand):SM Unit:=do
 let tx <-opnd x;let ty <-opnd y;let vi <-val ty
 riK tt n dst t m sz b tx vi
def riH (tt:TT)(n:Fr)(dst:Option Nat)(t m sz b:Nat)(x y:Operand):HM Unit:=yg (opnd x) >>= λtx=>yg (opnd y) >>= λty=>z4f ty >>= λvi=>zB7 tt n dst t m sz b tx vi
open Classical in
theorem zCy (tt:TT)(n:Fr)(dst:Option Nat)(t m sz b:Nat)(x y:Operand):Snd (riO tt n dst t m sz b x y) (riH tt n dst t m sz b x y):=by
 refine zj (zn _) λtx=>zj (zn _) λty=>zj (W1 _) λvi=>?_;unfold riK zB7;cases vi with
 | atom v=>
  cases v with
  | int k j=>exact vL (jP (zn _) (zw _))
  | _=>exact zw _
 | _=>exact zw _
open Classical in
theorem Loc.riO (tt:TT)(n:Fr)(dst:Option Nat)(t m sz b:Nat)(x y:Operand):Loc (riO tt n dst t m sz b x y):=by
 unfold Go.Own.riO;refine Loc.bind (Loc.opnd _) λ_=>Loc.bind (Loc.opnd _) λ_=>Loc.bind (Loc.val _) λ_=>?_;unfold Go.Own.riK;split
 ·exact Loc.ite (Loc.ite (Loc.wrT _ _ _) Loc.fail) Loc.fail
 ·exact Loc.fail
theorem zzn (hT:wy P tt)(h:Sim C S Fp [] st a w)  {t m sz b:Nat}{x y:Operand}(ho:o.op=.indexAddr t x y)    (e0:riO tt C.n o.dst t m sz b x y st=some (u,R,U)):qO P C o a w (zh U st):=by
 unfold riO at e0;obtain⟨tx,R1,U1,R2,U2,h1,e1,rfl,rfl⟩:=bind_some e0;obtain⟨rfl,hx⟩:=zK h h1;obtain⟨ty,R3,U3,R4,U4,h3,e2,rfl,rfl⟩:=bind_some e1;obtain⟨rfl,hy⟩:=zK h h3;obtain⟨vi,R5,U5,R6,U6,h5,e4,rfl,rfl⟩:=bind_some e2;obtain⟨rfl,qi⟩:=jD h hy h5;simp only[zh,p9]at e4 ⊢;unfold riK at e4;cases vi with
 | atom v=>
  cases v with
  | int k j=>
   simp only at e4;split at e4
   ·rename_i hc;obtain⟨rfl,j0,jm⟩:=hc;split at e4
    ·rename_i ha;obtain⟨Fp',hs'⟩:=wP h e4 (x:=.d (.atom (.pointer (some ⟨b,j.toNat*sz,none⟩)))) (v:=.pointer (some ⟨b,j.toNat*sz,none⟩)) (zD.2 ⟨rfl,rfl⟩);refine zr ?_ hs';have ex:a.eval x=z9J b:=(zD.1 hx).1;have ey:a.eval y=.int k j:=(zD.1 qi).1;have hl:((List.replicate m (A.dead sz)).length)=m:=mN;have hk:XI tt t (List.replicate m (A.dead sz)) j=true:=by unfold XI;rw[ha];simp only[hl,beq_self_eq_true,rD,j0,decide_true];rw[gJ];intro z hz;rw[mR hz];exact beq_self_eq_true _
     have hr:=z2w hT hk (by rw[hl];exact jm) k b 0 w;have hz:A.sizes ((List.replicate m (A.dead sz)).take j.toNat)=j.toNat*sz:=by rw[A.sizes_const (sz:=sz) (λz hz=>by rw[mR (gC hz)];rfl),pU,hl,mH (Nat.le_of_lt jm)]
     rw[hz,gN]at hr;simp[execOp,ho,ex,ey,hr]
    ·exact(z7 e4).elim
   ·exact(z7 e4).elim
  | _=>exact(z7 e4).elim
 | _=>exact(z7 e4).elim
open Classical in
def irK (tt:TT)(n:Fr)(dst:Option Nat)(t r i b:Nat)(tx:T)(vi:A)(e:Ent):SM Unit :=
 match e.t with
 | .own (.box (.agg fs))=>if(tx=.d (.atom (.pointer (some ⟨b,A.sizes (fs.take i),none⟩)))/\i<fs.length)/\z4T n.pin r=some (z9J b) then indexArrA tt n dst t (.ptr r [.deref,.fld i] e.er e.ec) vi else zu
 | _=>zu
def irO (tt:TT)(n:Fr)(dst:Option Nat)(t r i b:Nat)(x y:Operand):SM Unit:=do
 let tx <-opnd x;let ty <-opnd y;let vi <-val ty;let e <-rdE r
 irK tt n dst t r i b tx vi e
def irH (tt:TT)(n:Fr)(dst:Option Nat)(t r i b:Nat)(x y:Operand):HM Unit:=yg (opnd x) >>= λtx=>yg (opnd y) >>= λty=>z4f ty >>= λvi=>yg (rdE r) >>= λe=>
 match e.t with
 | .own (.box (.agg fs))=>XW ((tx=.d (.atom (.pointer (some ⟨b,A.sizes (fs.take i),none⟩)))/\i<fs.length)/\z4T n.pin r=some (z9J b)) (z6K tt n dst t (.ptr r [.deref,.fld i] e.er e.ec) vi)
 | _=>zV
open Classical in
theorem zCH (tt:TT)(n:Fr)(dst:Option Nat)(t r i b:Nat)(x y:Operand):Snd (irO tt n dst t r i b x y) (irH tt n dst t r i b x y):=by
 refine zj (zn _) λtx=>zj (zn _) λty=>zj (W1 _) λvi=>zj (zn _) λe=>?_;unfold irK;cases e.t with
 | own q=>
  cases q with
  | box z=>
   cases z with
   | agg fs=>exact vL (z9u _ _ _ _ _ _)
   | _=>exact zw _
  | _=>exact zw _
 | _=>exact zw _
open Classical in
theorem Loc.irO (tt:TT)(n:Fr)(dst:Option Nat)(t r i b:Nat)(x y:Operand):Loc (irO tt n dst t r i b x y):=by
 unfold Go.Own.irO;refine Loc.bind (Loc.opnd _) λ_=>Loc.bind (Loc.opnd _) λ_=>Loc.bind (Loc.val _) λ_=>Loc.bind (Loc.rdE _) λ_=>?_;unfold Go.Own.irK;split
 ·exact Loc.ite (Loc.indexArrA _ _ _ _ _ _) Loc.fail
 ·exact Loc.fail
theorem zzE (hT:wy P tt)(h:Sim C S Fp [] st a w)  {t r i b:Nat}{x y:Operand}(ho:o.op=.indexAddr t x y)    (e0:irO tt C.n o.dst t r i b x y st=some (u,R,U)):qO P C o a w (zh U st):=by
 unfold irO at e0;obtain⟨tx,R1,U1,R2,U2,h1,e1,rfl,rfl⟩:=bind_some e0;obtain⟨rfl,hx⟩:=zK h h1;obtain⟨ty,R3,U3,R4,U4,h3,e2,rfl,rfl⟩:=bind_some e1;obtain⟨rfl,hy⟩:=zK h h3;obtain⟨vi,R5,U5,R6,U6,h5,e3,rfl,rfl⟩:=bind_some e2;obtain⟨rfl,qi⟩:=jD h hy h5;obtain⟨en,R7,U7,R8,U8,h7,e4,rfl,rfl⟩:=bind_some e3;obtain⟨rfl,rfl,rfl⟩:=yl h7;simp only[zh,p9]at e4 ⊢;unfold irK at e4;cases ht:(st r).t with
 | own y0=>
  cases y0 with
  | box z0=>
   cases z0 with
   | agg fs=>
    simp only[ht]at e4;split at e4
    ·rename_i hc;obtain⟨⟨rfl,hi⟩,c2⟩:=hc;have hs:Act.tv a r=z9J b:=h.pin r _ (ZQ c2);obtain⟨z,hz⟩:∃z,fs[i]?=some z:=⟨_,p7 hi⟩;refine za1 hT h ho (y:=.ptr r [.deref,.fld i] (st r).er (st r).ec) ⟨pC _,pC _,?_⟩ qi e4;simp only[ht];rw[(zD.1 hx).1,hs];refine λ_ _=>⟨rfl,z,b,A.sizes (fs.take i),?_,?_,rfl⟩
     ·simp[vQ,hz]
     ·simp[uj,z7O,hz]
    ·exact(z7 e4).elim
   | _=>simp only[ht]at e4;exact(z7 e4).elim
  | _=>simp only[ht]at e4;exact(z7 e4).elim
 | _=>simp only[ht]at e4;exact(z7 e4).elim
end
def xNr (P:Program)(d b:Nat):XH P :=
 xAt P (zyP d) (λn o x=>nrO n o.dst b x) (λn o x=>nrH n o.dst b x)
  (by
   intro C S Fp st a w o x hp h u R U e;unfold zyP at hp;split at hp
   ·rename_i ho;cases z8d hp;exact zzu h ho e
   ·cases hp)
  (λn o x=>Loc.nrO _ _ _ _) (λn o x=>zCB _ _ _ _)
def xRi (hT:wy P tt)(d m sz b:Nat):XH P :=
 xAt P (zql d) (λn o q=>riO tt n o.dst q.1 m sz b q.2.1 q.2.2) (λn o q=>riH tt n o.dst q.1 m sz b q.2.1 q.2.2)
  (by
   intro C S Fp st a w o q hp h u R U e;unfold zql at hp;split at hp
   ·rename_i ho;cases z8d hp;exact zzn hT h ho e
   ·cases hp)
  (λn o b=>Loc.riO _ _ _ _ _ _ _ _ _) (λn o b=>zCy _ _ _ _ _ _ _ _ _)
def xIr (hT:wy P tt)(d r i b:Nat):XH P :=
 xAt P (zql d) (λn o q=>irO tt n o.dst q.1 r i b q.2.1 q.2.2) (λn o q=>irH tt n o.dst q.1 r i b q.2.1 q.2.2)
  (by
   intro C S Fp st a w o q hp h u R U e;unfold zql at hp;split at hp
   ·rename_i ho;cases z8d hp;exact zzE hT h ho e
   ·cases hp)
  (λn o b=>Loc.irO _ _ _ _ _ _ _ _ _) (λn o b=>zCH _ _ _ _ _ _ _ _ _)
theorem zqA {n:Nat}{x:ArN n α}  {u:α}(h:idx x.l i=some u):i.toNat<n:=by have:=(p8.1 (iE h)).1;rwa[x.len]at this
theorem zsP {n:Nat}{f:α->A}  [h:ztM f s](x:ArN n α)  {u:α}(k:idx x.l i=some u):A.sizes ((x.l.map f).take i.toNat)=i.toNat*s:=by have hl:=zqA k;rw[A.sizes_const (sz:=s) (λz hz=>by obtain⟨v,_,rfl⟩:=pW.1 (gC hz);exact h.sz v),pU,gD,x.len,mH (Nat.le_of_lt hl)]
theorem ixV {k:IntKind}  {e:Nat}{l:List Int}{j u:Int}(hf:∀x,Ym tt e (eI k x)=true)(h:idx l j=some u)  (hm:l.length=m) :
  0<=j/\j<(m:Int)/\Ym tt e (eI k u)=true/\(eI k u).isD=true/\((l.map (eI k)).take j.toNat).all (λz=>z.size==(eI k u).size)=true:=by
 have h1:=i0 h;have h2:=(p8.1 (iE h)).1;refine⟨h1,by omega,hf u,rfl,?_⟩;rw[<-List.map_take,List.all_map,gJ];intro x _;simp[eI,A.size]
def zvO (d:Nat)(o:Oper):Option (Nat×Operand×Operand):=match o.op with|.index t x i=>if o.dst=some d then some (t,x,i) else none|_=>none
def zln (tt:TT)(n:Fr)(dst:Option Nat)(t:Nat)(x i:Operand):HM Unit:=yg (opnd x) >>= λtx=>z4f tx >>= λvx=>yg (opnd i) >>= λti=>z4f ti >>= λvi=>
 match vx,vi with
 | .agg fs,.atom (.int _ j)=>
  match zqz tt t with
  | some (m,e)=>zgM (fs[j.toNat]?) >>= λy=>XW (0<=j/\j<(m:Int)/\Ym tt e y=true/\y.isD=true/\(fs.take j.toNat).all (λz=>z.size==y.size)=true) (yg (wrT n dst (.d y)))
  | none=>zV
 | _,_=>zV
theorem znX (tt:TT)(n:Fr)(dst:Option Nat)(t:Nat)(x i:Operand):Snd (indexO tt n dst t x i) (zln tt n dst t x i):=by
 refine zj (zn _) λtx=>zj (W1 _) λvx=>zj (zn _) λti=>zj (W1 _) λvi=>?_;have main:∀fs k j,vx=.agg fs->vi=.atom (.int k j)->Snd (match vx,vi with
   | .agg fs,.atom (.int _ j)=>
    match zqz tt t with
    | some (m,e)=>match fs[j.toNat]? with
     | some y=>if 0<=j/\j<(m:Int)/\Ym tt e y=true/\y.isD=true/\(fs.take j.toNat).all (λz=>z.size==y.size)=true then wrT n dst (.d y) else zu
     | none=>zu
    | none=>zu
   | _,_=>zu) (match vx,vi with
   | .agg fs,.atom (.int _ j)=>
    match zqz tt t with
    | some (m,e)=>zgM (fs[j.toNat]?) >>= λy=>XW (0<=j/\j<(m:Int)/\Ym tt e y=true/\y.isD=true/\(fs.take j.toNat).all (λz=>z.size==y.size)=true) (yg (wrT n dst (.d y)))
    | none=>zV
   | _,_=>zV):=by
  rintro fs k j rfl rfl;simp only;cases zqz tt t with
  | none=>exact zw _
  | some q=>
   obtain⟨m,e⟩:=q;simp only;refine z3a (m':=ofO (fs[j.toNat]?) >>= λy=>if 0<=j/\j<(m:Int)/\Ym tt e y=true/\y.isD=true/\(fs.take j.toNat).all (λz=>z.size==y.size)=true then wrT n dst (.d y) else zu) ?_ (zj (z5l _) λ_=>vL (zn _));generalize fs[j.toNat]?=z;cases z with
   | none=>rfl
   | some y=>rw[zon,ye]
 cases vx with
 | agg fs=>
  cases vi with
  | atom v=>
   cases v with
   | int k j=>exact main _ _ _ rfl rfl
   | _=>exact zw _
  | _=>exact zw _
 | _=>exact zw _
def zAD (hT:wy P tt)(d:Nat):XH P :=
 xAt P (zvO d) (λn o b=>indexO tt n o.dst b.1 b.2.1 b.2.2) (λn o b=>zln tt n o.dst b.1 b.2.1 b.2.2)
  (by
   intro C S Fp st a w o b hp h u R U e;unfold zvO at hp;split at hp
   ·rename_i ho;cases z8d hp;exact zhH hT h ho e
   ·cases hp)
  (λn o b=>Loc.indexO _ _ _ _ _ _) (λn o b=>znX _ _ _ _ _ _)
end Go.Own
end
