/- -/
import Derived.Test.YtedigoohmnbjfaaGreatPartH
import Derived.Test.YtedigoohmnbjfaaGreatPartG
import Derived.Test.YtedigoohmnbjfaaGreatPartE
import Derived.Test.YtedigoohmnbjfaaGreatPartB
import Derived.OpenShut
import Derived.ChangeShapes
import Derived.Test.YtedigoohmnbjfaaGreatPartC
import Derived.WalkKit
import Derived.ProofKit
import Derived.Carry
import Derived.Test.YtedigoohmnbjfaaGreatRows
import Derived.Test.YtedigoohmnbjfaaGreatChecked
set_option linter.unusedVariables false
set_option linter.defProp false
set_option linter.unusedSimpArgs false
namespace Go.Own
open Go.Proofs.Tryz
abbrev z16:zz Int:=zz.mk 0 0 0 0 0 0 0 0 0 0 0 0 0 0 0 0
def zit (N:zz Int)(i v:Int):(zz.setI N i v).toL=N.toL.set i.toNat v:=zz.toL_ofL _ _ (by simp[zz.toL])
def z9X {s:Nat}(h:s<16):z16.toL[s]?=some 0:=by show(List.replicate 16 (0:Int))[s]?=_;rw[gQ,if_pos h]
variable {n:Nat}
def zkY (h:n<2147483648):IntKind.i32.wrap (n:Int)=n:=by simp only[IntKind.wrap,IntKind.bits,IntKind.signed];simp;omega
def z3L (wd:TA)(w:TB)(i:Nat):TA:=((List.range i).map λs:Nat=>w++[(s:Int)]).filter λx=>decide (x∈wd)
variable {wd:TA}{i:Nat}
def z8G {w x:TB}  : x∈z3L wd w i↔(∃s:Nat,s<i/\w++[(s:Int)]=x)/\x∈wd:=by simp[z3L]
def zbw (wd:TA)(w:TB)(i:Nat):z3L wd w (i+1)=z3L wd w i++if w++[(i:Int)]∈wd then [w++[(i:Int)]] else []:=by simp[z3L,nV,List.filter_append,List.filter_cons]
def jV (wd:TA)(x:TB):Bool:=(z3L wd x 16).isEmpty
variable {x:TB}
def Vb:jV wd x=true↔∀s:Nat,s<16->x++[(s:Int)]∉wd:=by unfold jV;rw[List.isEmpty_iff,List.eq_nil_iff_forall_not_mem];exact⟨λh s hs q=>h _ (z8G.2 ⟨⟨s,hs,rfl⟩,q⟩),λh y hy=>by obtain⟨⟨s,hs,rfl⟩,q⟩:=z8G.1 hy;exact h s hs q⟩
structure z0q (nodes:List (zz Int))(wd:TA):Prop where
 len:nodes.length=wd.length
 nod:wd.Nodup
 nxt:∀(i:Nat) (N:zz Int) (x:TB),nodes[i]?=some N->wd[i]?=some x->∀s:Nat,s<16->(N.toL[s]?=some 0/\(x++[(s:Int)])∉wd)\/∃j:Nat,N.toL[s]?=some (j:Int)/\0<j/\wd[j]?=some (x++[(s:Int)])
 root:wd[0]?=some []
 clo:∀(w:TB) (s:Int),w++[s]∈wd->w∈wd/\0<=s/\s<16
def z0q.one:z0q [z16] [[]]:=by
 refine⟨rfl,by simp,λi N x hN hx s hs=>.inl ?_,rfl,λw s h=>by simp at h⟩;match i,hN,hx with
 |0,hN,hx=>cases hN;cases hx;exact⟨z9X hs,by simp⟩
variable {nodes:List (zz Int)}
def z0q.mem_at (h:z0q nodes wd){i j:Nat}  (hi:wd[i]?=some x)(hj:wd[j]?=some x):i=j :=
 (List.getElem?_inj (pf.1 hi).1 h.nod).1 (hi.trans hj.symm)
variable {N:zz Int}
def z0q.grow (h:z0q nodes wd){p s:Nat}   (hN:nodes[p]?=some N)(hx:wd[p]?=some x)(hs:s<16)(hnew:x++[(s:Int)]∉wd) :
  z0q (nodes.set p (zz.setI N (s:Int) (nodes.length:Int))++[z16]) (wd++[x++[(s:Int)]]):=by
 have hp:p<nodes.length:=(pf.1 hN).1;have hl:=h.len;have hxm:x∈wd:=pI hx;have newN:∀(i:Nat) (M:zz Int),(nodes.set p (zz.setI N (s:Int) (nodes.length:Int))++[z16])[i]?=some M->(i=p/\M=zz.setI N (s:Int) (nodes.length:Int))\/(i≠p/\i<nodes.length/\nodes[i]?=some M)\/(i=nodes.length/\M=z16):=by
  intro i M hM;rcases pD i nodes.length with q|q
  ·rw[pA (by simpa using q)]at hM;by_cases hip:i=p
   ·subst hip;rw[gM hp]at hM;exact .inl ⟨rfl,by simpa using hM.symm⟩
   rw[gC (λe=>hip e.symm)]at hM;exact .inr (.inl ⟨hip,q,hM⟩)
  rw[po (by simpa using q),rW]at hM;have:i-nodes.length=0:=by have:=(pf.1 hM).1;simpa using this
  rw[this]at hM;exact .inr (.inr ⟨by omega,by simpa using hM.symm⟩)
 have newW:∀(i:Nat) (y:TB),(wd++[x++[(s:Int)]])[i]?=some y->(i<wd.length/\wd[i]?=some y)\/(i=wd.length/\y=x++[(s:Int)]):=by
  intro i y hy;rcases pD i wd.length with q|q
  ·rw[pA q]at hy;exact .inl ⟨q,hy⟩
  rw[po q]at hy;have:i-wd.length=0:=by have:=(pf.1 hy).1;simpa using this
  rw[this]at hy;exact .inr ⟨by omega,by simpa using hy.symm⟩
 have oldW:∀(i:Nat) (y:TB),wd[i]?=some y->(wd++[x++[(s:Int)]])[i]?=some y:=by intro i y hy;rw[pA (pf.1 hy).1];exact hy
 have lastW:(wd++[x++[(s:Int)]])[wd.length]?=some (x++[(s:Int)]):=by rw[po (pi _)];simp
 refine⟨by simp[hl],?_,?_,oldW 0 [] h.root,?_⟩
 ·rw[pH];exact⟨h.nod,by simp,λy hy z hz=>by simp at hz;subst hz;exact λe=>hnew (e▸hy)⟩
 ·intro i M y hM hy t ht;rcases newN i M hM with⟨rfl,rfl⟩|⟨hip,hil,q⟩|⟨rfl,rfl⟩
  ·have hyx:y=x:=by have:=oldW i x hx;rw[this]at hy;simpa using hy.symm
   subst hyx;rw[zit,ph];by_cases hts:t=s
   ·subst hts;right;refine⟨nodes.length,?_,by omega,by rw[hl];exact lastW⟩;rw[gM (by simpa[zz.toL] using ht)]
   rw[gC (λe=>hts e.symm)];rcases h.nxt i N y hN hx t ht with⟨q1,q2⟩|⟨j,q1,q2,q3⟩
   ·refine .inl ⟨q1,λhm=>?_⟩;rcases pg.1 hm with q|q
    ·exact q2 q
    simp at q;omega
   exact .inr ⟨j,q1,q2,oldW _ _ q3⟩
  ·have hy':wd[i]?=some y:=by
    rcases newW i y hy with⟨_,q⟩|⟨q,_⟩
    ·exact q
    omega
   rcases h.nxt i M y q hy' t ht with⟨q1,q2⟩|⟨j,q1,q2,q3⟩
   ·refine .inl ⟨q1,λhm=>?_⟩;rcases pg.1 hm with q|q
    ·exact q2 q
    obtain⟨e1,_⟩:=List.append_inj' (pK.1 q) rfl;subst e1;exact hip (h.mem_at hy' hx)
   exact .inr ⟨j,q1,q2,oldW _ _ q3⟩
  have hy':y=x++[(s:Int)]:=by rw[hl,lastW]at hy;simpa using hy.symm
  subst hy';refine .inl ⟨z9X ht,λhm=>?_⟩;rcases pg.1 hm with q|q
  ·exact hnew (h.clo _ _ q).1
  have:=congrArg List.length (pK.1 q);simp at this
 intro w t hw;rcases pg.1 hw with q|q
 ·have:=h.clo w t q;exact⟨by simp[this.1],this.2⟩
 obtain⟨e1,e2⟩:=List.append_inj' (pK.1 q) rfl;subst e1;simp at e2;subst e2;exact⟨by simp[hxm],by omega,by omega⟩
def z0q.empty (h:z0q nodes wd){p:Nat}   (hN:nodes[p]?=some N)(hx:wd[p]?=some x):N.toL.all (λc=>c==0)=jV wd x:=by
 rw[Bool.eq_iff_iff,Vb,gB];constructor
 ·intro q s hs;rcases h.nxt p N x hN hx s hs with⟨_,q2⟩|⟨j,q1,q2,_⟩
  ·exact q2
  have:=q _ (pI q1);simp at this;omega
 intro q c hc;obtain⟨s,hs⟩:=gD.1 hc;have hl:s<16:=(pf.1 hs).1;rcases h.nxt p N x hN hx s hl with⟨q1,_⟩|⟨j,q1,q2,q3⟩
 ·rw[hs]at q1;cases q1;rfl
 exact absurd (pI q3) (q s hl)
def lfc (wd:TA):Int:=if wd.length=1 then 0 else((wd.filter (jV wd)).length:Int)
def z2v {p:TB->Bool}{u:TB}:∀{l:TA},l.Nodup->u∈l->(l.filter p).length=(l.filter λx=>p x && !decide (x=u)).length+if p u=true then 1 else 0
 |[],_,h=>by simp at h
 |x::l,hn,h=>by
  obtain⟨n1,n2⟩:=pR.1 hn;by_cases e:x=u
  ·subst e;have:(l.filter λy=>p y && !decide (y=x))=l.filter p:=List.filter_congr λy hy=>by have:y≠x:=λe=>n1 (e ▸ hy);simp[this]
   cases hp:p x<;>simp[hp,this]
  have hu:u∈l:=by simpa[nL e] using h
  have ih:=z2v (p:=p) n2 hu;cases hp:p x
  ·simpa[List.filter_cons,hp] using ih
  simp[hp,e];omega
def zeB (h:z0q nodes wd){s:Nat}{u:TB}(hu:u∈wd)(hs:s<16)(hnew:u++[(s:Int)]∉wd) :
  lfc (wd++[u++[(s:Int)]])=lfc wd+(if jV wd u=true/\wd.length≠1 then 0 else 1)/\jV (wd++[u++[(s:Int)]]) (u++[(s:Int)])=true:=by
 have hl:jV (wd++[u++[(s:Int)]]) (u++[(s:Int)])=true:=Vb.2 λt ht hm=>by
  rcases pg.1 hm with q|q
  ·exact hnew (h.clo _ _ q).1
  have:=congrArg List.length (pK.1 q);simp at this
 have e1:wd.filter (jV (wd++[u++[(s:Int)]]))=wd.filter λx=>jV wd x && !decide (x=u):=List.filter_congr λx hx=>by
  rw[Bool.eq_iff_iff,pB,Vb,Vb,nY,decide_eq_false_iff_not];constructor
  ·intro q;exact⟨λt ht hm=>q t ht (by simp[hm]),λe=>q s hs (by simp[e])⟩
  rintro⟨q1,q2⟩ t ht hm;rcases pg.1 hm with q|q
  ·exact q1 t ht q
  exact q2 (List.append_inj' (pK.1 q) rfl).1
 have e2:=z2v (p:=jV wd) h.nod hu;have hpos:0<wd.length:=List.length_pos_of_mem hu;refine⟨?_,hl⟩;have e3:lfc (wd++[u++[(s:Int)]])=((wd.filter λx=>jV wd x && !decide (x=u)).length:Int)+1:=by unfold lfc;rw[if_neg (by rw[pF,List.length_singleton];omega),List.filter_append,e1,List.filter_cons,if_pos hl];simp
 rw[e3];unfold lfc;by_cases h1:wd.length=1
 ·have hone:(wd.filter (jV wd)).length<=1:=pm (mI _ _) (by omega);obtain⟨x,hx⟩:=gW.1 h1;have hxu:x=u:=by rw[hx]at hu;exact(pK.1 hu).symm
  subst hxu;rw[if_pos h1,if_neg (λq=>q.2 h1),hx];simp
 rw[if_neg h1];by_cases q:jV wd u=true
 ·rw[if_pos q]at e2;rw[if_pos ⟨q,h1⟩];omega
 rw[if_neg q]at e2;rw[if_neg (λr=>q r.1)];omega
def zgr (B:TB->Prop)(K:Nat)(nodes:List (zz Int))(leaves a:Int)(fresh:Bool)(u:TB):Prop :=
 ∃(wd:TA) (p:Nat),z0q nodes wd/\a=((p:Nat):Int)/\wd[p]?=some u/\(∀x,x∈wd↔B x\/∃j,j<=u.length/\x=u.take j)/\leaves=lfc wd/\(fresh=true->jV wd u=true/\u≠[])/\wd.length<=K+u.length
variable {u part:TB}{leaves a:Int}{fresh:Bool}
theorem zir {B:TB->Prop}{K:Nat}      (h:zgr B K nodes leaves a fresh u)(hK:K+u.length<=1000000000)(hi:i<part.length)(hl:part.length<=1000)(hc:0<=part[i]/\part[i]<16) :
  Ret (vB part nodes leaves a fresh (i:Int)) λr=>∃nodes' leaves' a' fresh',r=.next (nodes',leaves',a',fresh',((i+1:Nat):Int))/\zgr B K nodes' leaves' a' fresh' (u++[part[i]]):=by
 obtain⟨wd,p,hT,rfl,hp,hm,rfl,hf,hlen⟩:=h;obtain⟨s,hs⟩:∃s:Nat,part[i]=(s:Int):=⟨part[i].toNat,by omega⟩;have hs16:s<16:=by omega
 have hx:part[i]?=some (s:Int):=by rw[pe hi,hs]
 have hpl:p<nodes.length:=by rw[hT.len];exact(pf.1 hp).1
 have hN:nodes[p]?=some nodes[p]:=pe hpl;have hu:u∈wd:=pI hp;have hnl:nodes.length<=1000000000:=by rw[hT.len];omega
 have hi2:w64 ((i:Int)+1)=((i+1:Nat):Int):=by rw[zA (by omega) (by omega)];omega
 have htk:∀x:TB,(B x\/∃j,j<=(u++[(s:Int)]).length/\x=(u++[(s:Int)]).take j)↔x∈wd\/x=u++[(s:Int)]:=by
  intro x;rw[hm];constructor
  ·rintro(q|⟨j,q1,q2⟩)
   ·exact .inl (.inl q)
   rcases pD u.length j with r|r
   ·exact .inr (by rw[q2];exact mX (by simp;omega))
   exact .inl (.inr ⟨j,r,by rw[q2,List.take_append_of_le_length r]⟩)
  rintro((q|⟨j,q1,q2⟩)|q)
  ·exact .inl q
  ·exact .inr ⟨j,by simp;omega,by rw[q2,List.take_append_of_le_length q1]⟩
  exact .inr ⟨u.length+1,by simp,by rw[q];exact(mX (by simp)).symm⟩
 unfold vB;rw[decide_eq_true (by omega),cond_true,zr hx,oB,zr hN,oB,hs];rcases hT.nxt p _ _ hN hp s hs16 with⟨q1,q2⟩|⟨j,q1,q2,q3⟩
 ·have hg:=hT.grow hN hp hs16 q2;obtain⟨g1,g2⟩:=zeB hT hu hs16 q2;have hJ:∀lv:Int,yn nodes (p:Int) (i:Int) (s:Int) lv=some (.next (nodes.set p (zz.setI nodes[p] (s:Int) (nodes.length:Int))++[z16],lv,(nodes.length:Int),true,((i+1:Nat):Int))):=by intro lv;unfold yn vC;rw[zr hN,oB,zr q1,oB,oB,zkY (by omega),ph,gdT (by simp;omega),hi2]
  have fin:∀lv:Int,lv=lfc wd+(if jV wd u=true/\wd.length≠1 then 0 else 1)->Ret (yn nodes (p:Int) (i:Int) (s:Int) lv) λr=>∃nodes' leaves' a' fresh',r=.next (nodes',leaves',a',fresh',((i+1:Nat):Int))/\zgr B K nodes' leaves' a' fresh' (u++[(s:Int)]):=by
   intro lv hlv;rw[hJ,z7];refine⟨_,_,_,_,rfl,wd++[u++[(s:Int)]],nodes.length,hg,rfl,?_,λx=>?_,by rw[hlv,g1],λ_=>⟨g2,by simp⟩,by simp;omega⟩
   ·rw[hT.len,po (pi _)];simp
   rw[htk,pg,pK]
  have hlf:0<=lfc wd/\lfc wd<=1000000000:=by
   unfold lfc;split
   ·omega
   have:=mI (jV wd) wd;omega
  have hw:w64 (lfc wd+1)=lfc wd+1:=zA (by omega) (by omega);have he:=hT.empty hN hp;rw[zr q1,oB,show((0:Int)==0)=true from rfl,cond_true];cases fresh with
  |true=>
   rw[gP,cond_false];refine fin _ ?_;obtain⟨f1,f2⟩:=hf rfl;have:wd.length≠1:=λe=>by obtain⟨y,hy⟩:=gW.1 e;have r:=hT.root;rw[hy]at r hu;simp at r hu;exact f2 (hu.trans r)
   rw[if_pos ⟨f1,this⟩];omega
  |false=>
   rw[mF,cond_true];have hE:∀M:zz Int,((M.e0==0)&&((M.e1==0)&&((M.e2==0)&&((M.e3==0)&&((M.e4==0)&&((M.e5==0)&&((M.e6==0)&&((M.e7==0)&&((M.e8==0)&&((M.e9==0)&&((M.e10==0)&&((M.e11==0)&&((M.e12==0)&&((M.e13==0)&&((M.e14==0)&&((M.e15==0)&&true))))))))))))))))=M.toL.all (λc=>c==0):=λM=>rfl;by_cases h0:p=0
   ·subst h0;rw[show(((0:Nat):Int)==0)=true from rfl,cond_true];by_cases h1:nodes.length=1
    ·rw[show(((nodes.length:Nat):Int)==1)=true by rw[h1];rfl,cond_true,hw];exact fin _ (by rw[if_neg (λr=>r.2 (by rw[<-hT.len,h1]))])
    rw[show(((nodes.length:Nat):Int)==1)=false by simpa using (by omega:¬((nodes.length:Nat):Int)=1),cond_false,oB,hE,he];have h1':wd.length≠1:=by rw[<-hT.len];exact h1
    cases hlb:jV wd u with
    |true=>rw[gP,cond_false];exact fin _ (by rw[if_pos ⟨hlb,h1'⟩];omega)
    |false=>rw[mF,cond_true,hw];exact fin _ (by rw[if_neg (λr=>by rw[hlb]at r;cases r.1)])
   rw[show(((p:Nat):Int)==0)=false by simpa using h0,cond_false,oB,hE,he];have h1':wd.length≠1:=by rw[<-hT.len];omega
   cases hlb:jV wd u with
   |true=>rw[gP,cond_false];exact fin _ (by rw[if_pos ⟨hlb,h1'⟩];omega)
   |false=>rw[mF,cond_true,hw];exact fin _ (by rw[if_neg (λr=>by rw[hlb]at r;cases r.1)])
 rw[zr q1,oB,show(((j:Nat):Int)==0)=false by simpa using (by omega:¬j=0),cond_false];unfold vC;rw[hi2,z7];have hmem:u++[(s:Int)]∈wd:=pI q3;refine⟨_,_,_,_,rfl,wd,j,hT,rfl,q3,λx=>?_,rfl,λe=>absurd hmem (Vb.1 (hf e).1 s hs16),by simp;omega⟩;rw[htk];exact⟨.inl,λq=>q.elim id λe=>e▸hmem⟩
def zfv {B:TB->Prop}{K:Nat}     (h:zgr B K nodes leaves a fresh u)(hK:K+u.length+part.length<=1000000000)(hl:part.length<=1000)(hc:∀c∈part,0<=c/\c<16) :
  Ret (loop (λs=>vB part s.1 s.2.1 s.2.2.1 s.2.2.2.1 s.2.2.2.2) (nodes,leaves,a,fresh,0)) λr=>zgr B K r.1 r.2.1 r.2.2.1 r.2.2.2 (u++part):=by
 refine zG (λq=>∃i:Nat,q.2.2.2.2=(i:Int)/\i<=part.length/\zgr B K q.1 q.2.1 q.2.2.1 q.2.2.2.1 (u++part.take i)) (λq=>part.length-q.2.2.2.2.toNat) ⟨0,rfl,pM _,by simpa using h⟩ (by show part.length-_<_;omega) ?_;rintro⟨nodes,leaves,a,fresh,_⟩ ⟨i,rfl,hi,g⟩;dsimp only at g⊢;rcases pD i part.length with q|q
 ·refine(zir g (by simp;omega) q hl (hc _ (pC q))).mono λr hr=>?_;obtain⟨n',l',a',f',rfl,g'⟩:=hr;refine⟨⟨i+1,rfl,q,?_⟩,by simp only[ph];omega⟩;rw[pU,pe q];simpa using g'
 have:i=part.length:=by omega
 subst this;unfold vB;rw[decide_eq_false (by omega),cond_false,z7];rw[gL]at g;exact g
def z83 (T:TA)(nodes:List (zz Int))(leaves:Int):Prop :=
 ∃wd,z0q nodes wd/\(∀x,x∈wd↔x=[]\/∃w∈T,∃j,j<=w.length/\x=w.take j)/\leaves=lfc wd/\wd.length<=1+100*T.length
def z83.nil:z83 [] [z16] 0:=⟨[[]],.one,λx=>by simp,rfl,by simp⟩
theorem zij {T:TA}  {leaves most:Int}(h:z83 T nodes leaves){parts:TA}(hn:parts.length<=100)(hT:T.length<=100000)(hl:parts.flatten.length<=100)(hc:∀part∈parts,∀c∈part,0<=c/\c<16) :
  Ret (xp parts (zb.mk nodes leaves most)) λr=>∃nodes' leaves',z83 (T++[parts.flatten]) nodes' leaves'/\(leaves'<=most/\r=(zb.mk nodes' leaves' most,false)\/most<leaves'/\r.2=true):=by
 obtain⟨wd,hTr,hm,rfl,hlen⟩:=h;unfold xp;rw[zm];refine(zG (λq=>∃i:Nat,q.2.2.2.2=(i:Int)/\i<=parts.length/\zgr (λx=>x∈wd) (1+100*T.length) q.1 q.2.1 q.2.2.1 q.2.2.2.1 (parts.take i).flatten) (λq=>parts.length-q.2.2.2.2.toNat) (R:=λt=>∃a f,zgr (λx=>x∈wd) (1+100*T.length) t.1 t.2 a f parts.flatten) ⟨0,rfl,pM _,wd,0,hTr,rfl,hTr.root,λx=>?_,rfl,λe=>(by cases e),by simpa using hlen⟩ (by show parts.length-_<_;omega) ?_).mono ?_
 ·refine⟨.inl,λq=>q.elim id ?_⟩;rintro⟨j,_,e⟩;simp at e;exact e▸pI hTr.root
 ·rintro⟨nodes,leaves,a,fresh,_⟩ ⟨i,rfl,hi,g⟩;dsimp only at g ⊢;unfold WZ;rcases pD i parts.length with q|q
  ·have hx:parts[i]?=some parts[i]:=pe q;have htk:(parts.take (i+1)).flatten=(parts.take i).flatten++parts[i]:=by rw[pU,hx,List.flatten_append];simp
   have hle:(parts.take i).flatten.length+parts[i].length<=100:=by
    have:(parts.take (i+1)).flatten.length<=parts.flatten.length:=by
     conv=>rhs;rw[<-mw (i+1) parts,List.flatten_append,pF]
     omega
    rw[htk,pF]at this;omega
   rw[decide_eq_true (by omega),cond_true,zr hx,oB,zm];refine(zfv g (by omega) (by omega) (hc _ (pC q))).mono λt ht=>?_;unfold Zy;rw[zA (by omega) (by omega),z7];refine⟨⟨i+1,by simp,q,?_⟩,by show parts.length-((i:Int)+1).toNat<parts.length-(i:Int).toNat;omega⟩;rw[htk];exact ht
  have:i=parts.length:=by omega
  subst this;rw[decide_eq_false (by omega),cond_false,z7];rw[gL]at g;exact⟨_,_,g⟩
 rintro⟨nodes',leaves'⟩ ⟨a,f,wd',p,hTr',_,_,hm',rfl,_,hlen'⟩;have hB:z83 (T++[parts.flatten]) nodes' (lfc wd'):=by
  refine⟨wd',hTr',λx=>?_,rfl,by simp;omega⟩;rw[hm' x];show(x∈wd\/_)↔_;rw[hm];simp only[pg,pK];constructor
  ·rintro((q|⟨w,q1,q2⟩)|q)
   ·exact .inl q
   ·exact .inr ⟨w,.inl q1,q2⟩
   exact .inr ⟨_,.inr rfl,q⟩
  rintro(q|⟨w,q1|rfl,q2⟩)
  ·exact .inl (.inl q)
  ·exact .inl (.inr ⟨w,q1,q2⟩)
  exact .inr q2
 unfold Zz;dsimp only
 by_cases q:lfc wd'<=most
 ·rw[decide_eq_false (by omega),cond_false,z7];exact⟨_,_,hB,.inl ⟨q,rfl⟩⟩
 rw[decide_eq_true (by omega),cond_true,z7];exact⟨_,_,hB,.inr ⟨by omega,rfl⟩⟩
def plB (wd:TA)(w:TB):zh:=⟨((wd.idxOf w:Nat):Int),w⟩
def z8N (wd:TA)(w:TB)(i:Nat):(z3L wd w i).length<=i:=pm (mI _ _) (by simp)
variable {l:TA}{w:TB}
section
variable {nodes:List (zz Int)}{wd:TA}(h:z0q nodes wd)
include h
theorem zkP (hw:w∈wd)  (hN:nodes[wd.idxOf w]?=some N)(hl:w.length<=1000){nx:List zh}(hn:nx.length<=1000000000) :
  loop (λs=>yk (plB wd w) N s.1 s.2.1 s.2.2) (nx,true,0)=some (nx++(z3L wd w 16).map (plB wd),jV wd w):=by
 have h0:(nx++(z3L wd w 0).map (plB wd),(z3L wd w 0).isEmpty,((0:Nat):Int))=(nx,true,(0:Int)):=by simp[z3L]
 rw[<-h0];refine yY (step:=λs=>yk (plB wd w) N s.1 s.2.1 s.2.2) (λi=>(nx++(z3L wd w i).map (plB wd),(z3L wd w i).isEmpty,(i:Int))) 16 (by omega) (λi hi=>?_) ?_
 ·show yk (plB wd w) N _ _ (i:Int)=_;unfold yk wI;have hw0:wd[wd.idxOf w]?=some w:=zlj hw;have hk:=z8N wd w i;rw[decide_eq_true (by omega),cond_true,zA (by omega) (by omega),zbw];rcases h.nxt _ N w hN hw0 i hi with⟨q1,q2⟩|⟨j,q1,q2,q3⟩
  ·rw[zr (l:=[N.e0,N.e1,N.e2,N.e3,N.e4,N.e5,N.e6,N.e7,N.e8,N.e9,N.e10,N.e11,N.e12,N.e13,N.e14,N.e15]) q1,oB,decide_eq_false (by omega),cond_false,if_neg q2,pV];rfl
  rw[zr (l:=[N.e0,N.e1,N.e2,N.e3,N.e4,N.e5,N.e6,N.e7,N.e8,N.e9,N.e10,N.e11,N.e12,N.e13,N.e14,N.e15]) q1,oB,decide_eq_true (by omega),cond_true,z0m,oB,if_pos (pI q3)];have e:plB wd (w++[(i:Int)])=zh.mk (j:Int) (w++[(i:Int)]):=by unfold plB;rw[zgb h.nod q3]
  rw[gdT (by show w.length+1<=_;omega),gdT (by simp;omega),gV,pG];simp only[gE,nE,e];simp[plB]
 show yk (plB wd w) N _ _ 16=_;unfold yk;rfl
variable (hM:∀w∈wd,w.length<=1000)(hlen:wd.length<=20000000)
include hM
theorem zhU (hl:∀w∈l,w∈wd)(hn:l.length<=20000000){out:TA}(ho:out.length<=20000000){lv mo:Int} :
  loop (λs=>yl (zb.mk nodes lv mo) (l.map (plB wd)) s.1 s.2.1 s.2.2) (out,([]:List zh),0)=some (out++l.filter (jV wd),(l.flatMap λw=>z3L wd w 16).map (plB wd)):=by
 have hs:=yY (step:=λs=>yl (zb.mk nodes lv mo) (l.map (plB wd)) s.1 s.2.1 s.2.2) (λi=>(out++(l.take i).filter (jV wd),((l.take i).flatMap λw=>z3L wd w 16).map (plB wd),(i:Int))) l.length (t:=(out++l.filter (jV wd),(l.flatMap λw=>z3L wd w 16).map (plB wd))) (by omega) (λi hi=>?_) ?_
 ·simpa using hs
 ·show yl _ _ _ _ (i:Int)=_;have hx:l[i]?=some l[i]:=pe hi;have hw:=hl _ (pC hi);have hlt:wd.idxOf l[i]<nodes.length:=by rw[h.len];exact List.idxOf_lt_length_iff.2 hw
  have hN:nodes[wd.idxOf l[i]]?=some nodes[wd.idxOf l[i]]:=pe hlt;have hp:(l.map (plB wd))[i]?=some (plB wd l[i]):=by rw[gI,hx];rfl
  have hfl:∀m:TA,(m.flatMap λw=>z3L wd w 16).length<=m.length*16:=by
   intro m;induction m with
   |nil=>simp
   |cons v m ih=>have:=z8N wd v 16;rw[nM,pF,gv];omega
  have h1:=hfl (l.take i);rw[pN]at h1;have h2:((l.take i).filter (jV wd)).length<=i:=pm (mI _ _) (by rw[pN];omega);unfold yl;rw[decide_eq_true (by rw[pY];omega),cond_true,zr hp,oB];rw[show(plB wd l[i]).at_=((wd.idxOf l[i]:Nat):Int) from rfl,zr hN,oB,bdT (zkP h hw hN (hM _ hw) (by rw[pY];omega))];unfold vZ wJ;have t1:l.take (i+1)=l.take i++[l[i]]:=by rw[pU,hx];rfl
  rw[zA (by omega) (by omega),t1,List.filter_append,List.flatMap_append,gV];dsimp only
  cases hb:jV wd l[i] with
  |true=>rw[cond_true,show(plB wd l[i]).w_=l[i] from rfl,z0m,oB,gdT (by simp;omega)];simp[hb]
  |false=>simp[hb]
 show yl _ _ _ _ (l.length:Int)=_;unfold yl;rw[decide_eq_false (by rw[pY];omega),cond_false,gL]
omit hM in
theorem zfZ (k:Nat):((LW wd k).flatMap λw=>z3L wd w 16)=LW wd (k+1):=by
 have e:((LW wd k).flatMap λw=>z3L wd w 16)=((LW wd k).flatMap (KH 16)).filter λx=>decide (x∈wd):=by rw[List.filter_flatMap];rfl
 rw[e];refine SW.unique ((z7P 16 k (zfy wd k) λw hw=>(Uj.1 hw).2).filter _) (zfy _ _) λx=>?_;rw[gU,gO,Uj,decide_eq_true_eq];constructor
 ·rintro⟨⟨w,q1,q2⟩,q3⟩;simp only[KH,pQ]at q2;obtain⟨s,_,rfl⟩:=q2;exact⟨q3,by simp[(Uj.1 q1).2]⟩
 rintro⟨q1,q2⟩;rcases rK x with rfl|⟨w,s,rfl⟩
 ·simp at q2
 rw[List.concat_eq_append]at q1 q2⊢;obtain⟨c1,c2,c3⟩:=h.clo w s q1;refine⟨⟨w,Uj.2 ⟨c1,by simpa using q2⟩,?_⟩,q1⟩;simp only[KH,pQ,gJ];exact⟨s.toNat,by omega,by rw[mQ c2]⟩
include hlen
theorem zgt (hpre:∀v∈wd,∀j,v.take j∈wd)(lv mo:Int):wT (zb.mk nodes lv mo)=some ((srt wd).filter (jV wd)):=by
 have hsl:=Ws wd;unfold wT;refine Ret.eq ?_;rw[zm];refine(zG (λq:TA×List zh=>∃k:Nat,q.1=((srt wd).filter λx=>decide (x.length<k)&&jV wd x)/\q.2=(LW wd k).map (plB wd)) (λq=>match q.2 with|[]=>0|p::_=>1001-p.w_.length) (R:=λt=>t=(srt wd).filter (jV wd)) ⟨0,?_,?_⟩ ?_ ?_).mono λt ht=>?_
 ·simp
 ·have hL:LW wd 0=[[]]:=SW.unique (zfy wd 0) (by simp[SW]) λx=>by rw[Uj,pK];exact⟨λq=>mK q.2,λq=>q ▸ ⟨pI h.root,rfl⟩⟩
  rw[hL];simp[plB,zgb h.nod h.root]
 ·show 1001-0<_;omega
 ·rintro⟨_,_⟩ ⟨k,rfl,rfl⟩;unfold vY;by_cases he:LW wd k=[]
  ·rw[he,decide_eq_false (by simp),cond_false,z7];refine List.filter_congr λx hx=>?_;have:x.length<k:=Nat.lt_of_not_le λq=>by have:x.take k∈LW wd k:=Uj.2 ⟨hpre x (zS.1 hx) k,by rw[pN];omega⟩;rw[he]at this;cases this
   simp[this]
  have hpos:0<(LW wd k).length:=mZ.2 he;have hle:(LW wd k).length<=20000000:=pm (mI _ _) (by omega);have hle2:((srt wd).filter λx=>decide (x.length<k)&&jV wd x).length<=20000000:=pm (mI _ _) (by omega);rw[decide_eq_true (by rw[pY];omega),cond_true,bdT (zhU h hM (λw hw=>(Uj.1 hw).1) hle hle2)];unfold u6;rw[z7];refine⟨⟨k+1,?_,by rw[zfZ h]⟩,?_⟩
  ·refine SW.unique ?_ ((jA wd).filter _) λx=>?_
   ·unfold SW;rw[nC];refine⟨(jA wd).filter _,(zfy wd k).filter _,λx hx y hy=>?_⟩;have h1:x.length<k:=by have:=(gU.1 hx).2;rw[pB,decide_eq_true_eq]at this;exact this.1
    have h2:=(Uj.1 (gU.1 hy).1).2;unfold uT;rw[if_pos (by omega)];omega
   simp only[pg,gU,zS,Uj,pB,decide_eq_true_eq];constructor
   ·rintro(⟨q1,q2,q3⟩|⟨⟨q1,q2⟩,q3⟩)
    ·exact⟨q1,by omega,q3⟩
    exact⟨q1,by omega,q3⟩
   rintro⟨q1,q2,q3⟩;rcases pD x.length k with q|q
   ·exact .inl ⟨q1,q,q3⟩
   exact .inr ⟨⟨q1,by omega⟩,q3⟩
  obtain⟨w,l,hwl⟩:=List.exists_cons_of_ne_nil he;have hw1:w∈LW wd k:=by rw[hwl];simp
  have hw2:=(Uj.1 hw1).2;have hw3:=hM w (Uj.1 hw1).1;show(match ((LW wd k).flatMap λw=>z3L wd w 16).map (plB wd) with|[]=>0|p::_=>1001-p.w_.length)<(match (LW wd k).map (plB wd) with|[]=>0|p::_=>1001-p.w_.length);rw[zfZ h,hwl];show _<1001-w.length;cases hq:LW wd (k+1) with
  |nil=>show 0<_;omega
  |cons v r=>
   have:v∈LW wd (k+1):=by rw[hq];simp
   have:=(Uj.1 this).2;show 1001-v.length<_;omega
 subst ht;unfold u7;rw[show w7 ((srt wd).filter (jV wd))=some ((srt wd).filter (jV wd)) from rfl];exact z7.2 rfl
end
def lvT (T:TA):Int:=if T.all List.isEmpty then 0 else((Ud (srt T)).length:Int)
def z6h {l m:TA}(h1:l.Nodup)(h2:m.Nodup)(h:∀x,x∈l↔x∈m):l.length=m.length :=
 Nat.le_antisymm (z0A h1 λx q=>(h x).1 q).1 (z0A h2 λx q=>(h x).2 q).1
def z83.done {T:TA}  {leaves:Int}(h:z83 T nodes leaves)(hT:T≠[])(hn:T.length<=100000)(hw:∀w∈T,w.length<=1000/\∀c∈w,0<=c/\c<16)(mo:Int) :
  wT (zb.mk nodes leaves mo)=some (Ud (srt T))/\leaves=lvT T:=by
 obtain⟨wd,hTr,hm,rfl,hlen⟩:=h;have hpre:∀v∈wd,∀j,v.take j∈wd:=λv hv j=>by
  rcases(hm v).1 hv with rfl|⟨w,q1,i,q2,rfl⟩
  ·rw[List.take_nil];exact(hm _).2 (.inl rfl)
  exact(hm _).2 (.inr ⟨w,q1,min j i,by omega,by rw[nP]⟩)
 have hM:∀w∈wd,w.length<=1000:=λv hv=>by
  rcases(hm v).1 hv with rfl|⟨w,q1,i,q2,rfl⟩
  ·simp
  have:=(hw w q1).1;rw[pN];omega
 have hin:∀w∈T,w∈wd:=λw q=>(hm w).2 (.inr ⟨w,q,w.length,pi _,by simp⟩);have hred:(srt wd).filter (jV wd)=Ud (srt T):=by
  refine SW.unique ((jA wd).filter _) ((jA T).filter _) λx=>?_;rw[gU,zS,Vb,Wf,zS];constructor
  ·rintro⟨q1,q2⟩;have hx:∃w∈T,∃j,j<=w.length/\x=w.take j:=by
    rcases(hm x).1 q1 with rfl|q
    ·obtain⟨w,r,e⟩:=List.exists_cons_of_ne_nil hT;exact⟨w,by rw[e];simp,0,pM _,by simp⟩
    exact q
   have hno:∀v∈T,¬(x.length<v.length/\v.take x.length=x):=λv hv ⟨r1,r2⟩=>by have hc:=(hw v hv).2 _ (pC r1);refine q2 v[x.length].toNat (by omega) ((hm _).2 (.inr ⟨v,hv,x.length+1,r1,?_⟩));rw[mQ hc.1,pU,r2,pe r1];rfl
   obtain⟨w,r1,j,r2,rfl⟩:=hx;have:j=w.length:=Nat.le_antisymm r2 (Nat.le_of_not_lt λr=>hno w r1 ⟨by rw[pN];omega,by rw[pN,gX r2]⟩);subst this;rw[gL]at hno⊢;exact⟨r1,λv hv=>hno v (zS.1 hv)⟩
  rintro⟨q1,q2⟩;refine⟨hin x q1,λs hs q=>?_⟩;rcases(hm _).1 q with q|⟨v,r1,j,r2,r3⟩
  ·simp at q
  have hl:=congrArg List.length r3;rw[pF,List.length_singleton,pN,gX r2]at hl;refine q2 v (zS.2 r1) ⟨by omega,?_⟩;have:=congrArg (List.take x.length) r3;rw[List.take_append_of_le_length (pi _),gL,nP,gX (by omega)]at this;exact this.symm
 refine⟨by rw[zgt hTr hM (by omega) hpre,hred],?_⟩;unfold lfc lvT;have hroot:[]∈wd:=pI hTr.root;have hone:wd.length=1↔T.all List.isEmpty=true:=by
  rw[gB];constructor
  ·intro q w hw2;obtain⟨y,hy⟩:=gW.1 q;have h1:=hin w hw2;rw[hy,pK]at h1 hroot;rw[h1,<-hroot];rfl
  intro q;have:∀x,x∈wd↔x∈[([]:TB)]:=λx=>by
   rw[pK];refine⟨λr=>?_,λr=>r▸hroot⟩;rcases(hm x).1 r with r|⟨w,r1,j,r2,r3⟩
   ·exact r
   have:=List.isEmpty_iff.1 (q w r1);subst this;simpa using r3
  exact z6h hTr.nod (by simp) this
 by_cases q:wd.length=1
 ·rw[if_pos q,if_pos (hone.1 q)]
 rw[if_neg q,if_neg (λr=>q (hone.2 r)),<-hred,z6h (hTr.nod.filter _) ((jA wd).nodup.filter _) λx=>by rw[gU,gU,zS]]
def z65 {T':TA}(hw:∀w∈T',w.length<=1000)  (hwm:w∈T'):∃v∈Ud (srt T'),w.length<=v.length/\v.take w.length=w:=by
 have ext:∀(n:Nat) (w:TB),w∈T'->1001-w.length<=n->∃v∈Ud (srt T'),w.length<=v.length/\v.take w.length=w:=by
  intro n;induction n with
  |zero=>intro w q1 q2;have:=hw w q1;omega
  |succ n ih=>
   intro w q1 q2;by_cases c:∃v∈T',w.length<v.length/\v.take w.length=w
   ·obtain⟨v,r1,r2,r3⟩:=c;obtain⟨u,s1,s2,s3⟩:=ih v r1 (by omega);refine⟨u,s1,by omega,?_⟩;have:(u.take v.length).take w.length=u.take w.length:=by rw[nP,gX (by omega)]
    rw[s3,r3]at this;exact this.symm
   exact⟨w,Wf.2 ⟨zS.2 q1,λv hv q=>c ⟨v,zS.1 hv,q⟩⟩,pi _,by simp⟩
 exact ext 1001 w hwm (by omega)
def zaL {T T':TA}(h:∀w∈T,w∈T')(hw:∀w∈T',w.length<=1000):(Ud (srt T)).length<=(Ud (srt T')).length:=by
 let f:TB->TB:=λw=>if c:w∈T' then(z65 hw c).choose else w;have hf:∀w∈T',f w∈Ud (srt T')/\w.length<=(f w).length/\(f w).take w.length=w:=λw c=>by show(if c:w∈T' then _ else _)∈_/\_;have:=(z65 hw c).choose_spec;simp only[f,c,dif_pos];exact this
 have hR:∀w∈Ud (srt T),w∈T/\∀v∈T,¬(w.length<v.length/\v.take w.length=w):=λw q=>⟨zS.1 (Wf.1 q).1,λv hv=>(Wf.1 q).2 v (zS.2 hv)⟩;have hinj:∀w∈Ud (srt T),∀v∈Ud (srt T),f w=f v->w=v:=by
  intro w qw v qv e;obtain⟨w1,w2⟩:=hR w qw;obtain⟨v1,v2⟩:=hR v qv;obtain⟨_,a1,a2⟩:=hf w (h w w1);obtain⟨_,b1,b2⟩:=hf v (h v v1);rw[e]at a1 a2;rcases mT w.length v.length with q|q|q
  ·refine absurd ⟨q,?_⟩ (w2 v v1);rw[<-b2,nP,gX (by omega),a2]
  ·exact a2.symm.trans ((congrArg (λn=>(f v).take n) q).trans b2)
  refine absurd ⟨q,?_⟩ (v2 w w1);rw[<-a2,nP,gX (by omega),b2]
 have hnd:((Ud (srt T)).map f).Nodup:=by unfold List.Nodup;rw[rF];refine rt (λ{a b} ha hb q e=>q (hinj a ha b hb e)) ((jA T).filter _).nodup
 have:=(z0A hnd λx hx=>by obtain⟨w,q1,rfl⟩:=pQ.1 hx;exact(hf w (h w (hR w q1).1)).1).1
 simpa using this
def z8I {T T':TA}(h:∀w∈T,w∈T')(hw:∀w∈T',w.length<=1000):lvT T<=lvT T':=by
 have:=zaL h hw;unfold lvT;by_cases q:T.all List.isEmpty=true
 ·rw[if_pos q];split<;>omega
 rw[if_neg q,if_neg (λr=>q (by rw[gB]at r⊢;exact λw hw=>r w (h w hw)))];omega
abbrev NB:=List (zz Int)×Int×Int
def NOk (T W:TA)(most:Int)(r:NB⊕(zb×Bool)):Prop :=
 (∃nodes leaves,r=.inl (nodes,leaves,most)/\z83 (T++W) nodes leaves/\leaves<=most)\/∃b,r=.inr (b,true)/\most<lvT (T++W)
def NSt (f:NB->Option (NB⊕(zb×Bool)))(W:TA):Prop :=
 ∀T most nodes leaves,z83 T nodes leaves->leaves<=most->T.length+W.length<=100000->(∀w∈T,w.length<=100/\∀c∈w,0<=c/\c<16)->Ret (f (nodes,leaves,most)) (NOk T W most)
def LOk (L k:Nat)(l:TA):Prop:=l.length<=L/\∀w∈l,w.length<=k/\∀c∈w,0<=c/\c<16
variable {α:Type}
def LOk.flat {l:List α}{W:α->TA}{L k n:Nat}(hl:l.length<=n)(h:∀x∈l,LOk L k (W x)):LOk (n*L) k (l.flatMap W):=by
 constructor
 ·refine pm ?_ (hU L hl);clear hl;induction l with
  |nil=>simp
  |cons x l ih=>have h1:=(h x (by simp)).1;have h2:=ih λy hy=>h y (by simp[hy]);rw[nM,pF,gv,rq];omega
 intro w hw;obtain⟨x,q1,q2⟩:=gO.1 hw;exact(h x q1).2 w q2
def zel {α ρ:Type}{l:List α}{W:α->TA}{inner:α->NB->Option (NB⊕(zb×Bool))}{fin:NB->ρ}{bd:zb×Bool->ρ}
    {step:List (zz Int)×Int×Int×Int->Option (LR (List (zz Int)×Int×Int×Int) ρ)}
    (hs:∀nodes leaves most i,step (nodes,leaves,most,i)=bif decide (i<((l.length:Nat):Int)) then(Option.bind (idx l i) λx=>Option.bind (inner x (nodes,leaves,most)) λt=>match t with|.inl p=>some (.next (p.1,p.2.1,p.2.2,w64 (i+1)))|.inr p=>some (.done (bd p))) else some (.done (fin (nodes,leaves,most))))
    {L:Nat} (hl:l.length<=100000) (hw:∀x∈l,LOk L 100 (W x)) (hi:∀x∈l,NSt (inner x) (W x)) {T:TA} {most leaves:Int} {nodes:List (zz Int)} (hB:z83 T nodes leaves) (hm:leaves<=most) (hn:T.length+(l.flatMap W).length<=100000) (hT:∀w∈T,w.length<=100/\∀c∈w,0<=c/\c<16) :
    Ret (loop step (nodes,leaves,most,0)) λr=>∃t,NOk T (l.flatMap W) most t/\r=Sum.elim fin bd t:=by
  refine zG (λq=>∃i:Nat,q.2.2.2=(i:Int)/\q.2.2.1=most/\i<=l.length/\z83 (T++(l.take i).flatMap W) q.1 q.2.1/\q.2.1<=most) (λq=>l.length-q.2.2.2.toNat) ⟨0,rfl,rfl,pM _,by simpa using hB,hm⟩ (by show l.length-_<_;omega) ?_;rintro⟨nodes,leaves,_,_⟩ ⟨i,rfl,rfl,hi1,g,gm⟩;rw[hs];dsimp only at g gm⊢;rcases pD i l.length with q|q
  · have hx:l[i]?=some l[i]:=pe q;have htk:(l.take (i+1)).flatMap W=(l.take i).flatMap W++W l[i]:=by rw[pU,hx,List.flatMap_append];simp
    have hsub:(l.take (i+1)).flatMap W++(l.drop (i+1)).flatMap W=l.flatMap W:=by rw[<-List.flatMap_append,mw]
    have hlen:=congrArg List.length hsub;rw[pF,htk,pF]at hlen;have hwd:∀w∈l.flatMap W,w.length<=100/\∀c∈w,0<=c/\c<16:=(LOk.flat (pi _) hw).2;rw[decide_eq_true (by omega),cond_true,zr hx,oB,zm];refine(hi _ (pC q) (T++(l.take i).flatMap W) _ nodes leaves g gm (by rw[pF];omega) λw hw2=>?_).mono λt ht=>?_
    · rcases pg.1 hw2 with r|r
      · exact hT w r
      exact hwd w (by rw[<-hsub,htk];simp only[pg];exact .inl (.inl r))
    rw[NOk,pG,<-htk]at ht;rcases ht with⟨nodes',leaves',rfl,t2,t3⟩|⟨b,rfl,t2⟩
    · dsimp only
      rw[zA (by omega) (by omega),z7];exact⟨⟨i+1,by simp,rfl,q,t2,t3⟩,by show l.length-((i:Int)+1).toNat<l.length-(i:Int).toNat;omega⟩
    rw[z7];refine⟨.inr (b,true),.inr ⟨b,rfl,Int.lt_of_lt_of_le t2 (z8I (λw r=>?_) λw r=>?_)⟩,rfl⟩
    · rw[<-hsub];rcases pg.1 r with r|r
      · simp[r]
      exact pg.2 (.inr (pg.2 (.inl r)))
    rcases pg.1 r with r|r
    · have:=(hT w r).1;omega
    have:=(hwd w r).1;omega
  have:i=l.length:=by omega
  subst this;rw[gL]at g;rw[decide_eq_false (by omega),cond_false,z7];exact⟨.inl (nodes,leaves,_),.inl ⟨nodes,leaves,rfl,g,gm⟩,rfl⟩
def ziD {l:List α}{W:α->TA}{inner:α->NB->Option (NB⊕(zb×Bool))}{step:List (zz Int)×Int×Int×Int->Option (LR (List (zz Int)×Int×Int×Int) (NB⊕(zb×Bool)))}
    (hs:∀nodes leaves most i,step (nodes,leaves,most,i)=bif decide (i<((l.length:Nat):Int)) then(Option.bind (idx l i) λx=>Option.bind (inner x (nodes,leaves,most)) λt=>match t with|.inl p=>some (.next (p.1,p.2.1,p.2.2,w64 (i+1)))|.inr p=>some (.done (.inr p))) else some (.done (.inl (nodes,leaves,most))))
    {L:Nat} (hl:l.length<=100000) (hw:∀x∈l,LOk L 100 (W x)) (hi:∀x∈l,NSt (inner x) (W x)):NSt (λs=>loop step (s.1,s.2.1,s.2.2,0)) (l.flatMap W) :=
  λT most nodes leaves hB hm hn hT=>(zel hs hl hw hi hB hm hn hT).mono λr ⟨t,t1,t2⟩=>by
    have:r=t:=by rw[t2];cases t<;>rfl
    exact this▸t1
def zeJ {l:TA}{u v:TB}{b:zb}{step:List (zz Int)×Int×Int×Int->Option (LR (List (zz Int)×Int×Int×Int) (NB⊕(zb×Bool)))}
    (hs:∀nodes leaves most i,step (nodes,leaves,most,i)=bif decide (i<((l.length:Nat):Int)) then(Option.bind (idx l i) λw=>Option.bind (xp [u,v,w] (zb.mk nodes leaves most)) λr=>bif r.2 then some (.done (.inr (b,true))) else some (.next (r.1.x,r.1.s,r.1.w,w64 (i+1)))) else some (.done (.inl (nodes,leaves,most))))
    {L:Nat} (hl:LOk L 30 l) (hL:L<=1000) (hu:u.length<=30/\∀c∈u,0<=c/\c<16) (hv:v.length<=30/\∀c∈v,0<=c/\c<16):NSt (λs=>loop step (s.1,s.2.1,s.2.2,0)) (l.flatMap λw=>[[u,v,w].flatten])/\LOk L 100 (l.flatMap λw=>[[u,v,w].flatten]):=by
  have hf:∀w∈l,[u,v,w].flatten.length<=100/\∀c∈[u,v,w].flatten,0<=c/\c<16:=λw q=>by
    have:=hl.2 w q;refine⟨by simp;omega,λc hc=>?_⟩;simp at hc;rcases hc with r|r|r
    · exact hu.2 c r
    · exact hv.2 c r
    exact this.2 c r
  have h1:∀w∈l,LOk 1 100 [[u,v,w].flatten]:=λw q=>⟨by simp,λx hx=>by rw[pK]at hx;subst hx;exact hf w q⟩;refine⟨ziD (inner:=λw s=>Option.bind (xp [u,v,w] (zb.mk s.1 s.2.1 s.2.2)) λr=>some (bif r.2 then .inr (b,true) else .inl (r.1.x,r.1.s,r.1.w))) (λnodes leaves most i=>?_) (by have:=hl.1;omega) h1 λw hw=>?_,by simpa using LOk.flat hl.1 h1⟩
  · rw[hs];congr 2;funext w;cases xp [u,v,w] (zb.mk nodes leaves most) with
    |none=>rfl
    |some r=>simp only[oB];cases r.2<;>rfl
  intro T most nodes leaves hB hm hn hT;obtain⟨f1,f2⟩:=hf w hw;rw[zm];refine(zij hB (parts:=[u,v,w]) (by simp) (by omega) f1 λpart hp c hc=>f2 c (List.mem_flatten.2 ⟨part,hp,hc⟩)).mono λr hr=>?_;obtain⟨nodes',leaves',r1,⟨r2,rfl⟩|⟨r2,r3⟩⟩:=hr
  · exact z7.2 (.inl ⟨nodes',leaves',rfl,r1,r2⟩)
  rw[r3];refine z7.2 (.inr ⟨b,rfl,?_⟩);rw[<-(r1.done (by simp) (by simpa using hn) (λx hx=>?_) 0).2]
  · exact r2
  rcases pg.1 hx with q|q
  · have:=hT x q;exact⟨by omega,this.2⟩
  rw[pK]at q;subst q;exact⟨by omega,f2⟩
noncomputable def z14 (m:z6):TA:=(Ps m).filter λx=>!decide (x∈Qs m)
noncomputable def fw (m:z6)(k:Nat):Nat->TA
 |0=>(Ps m).flatMap λu=>(wz (kk m) 0 (k+1)).flatMap λv=>(wN (WA m)).flatMap λw=>[[u,v,w].flatten]
 |1=>((Qs m).flatMap λu=>(wz (kk m) 0 (k+1)).flatMap λv=>(wN (WA m)).flatMap λw=>[[u,v,w].flatten])++(z14 m).flatMap λu=>(exW (kk m) k).flatMap λv=>(wN (WS m (stA m (u++v)))).flatMap λw=>[[u,v,w].flatten]
 |_=>(Ps m).flatMap λu=>(wz (kk m) 0 (k+1)).flatMap λv=>(wN (WS m (stA m (u++v)))).flatMap λw=>[[u,v,w].flatten]
variable {most:Int}
section
variable {m:z6}(h:KM m){k:Nat}(hk:k<=3)
include h hk
theorem z8J:LOk 6 30 (Qs m)/\LOk 30 30 (Ps m)/\LOk 30 30 (z14 m)/\LOk 85 30 (wz (kk m) 0 (k+1))/\LOk 64 30 (exW (kk m) k)/\∀P,LOk 36 30 (wN (WL m P)):=by
 obtain⟨k1,k2,k3⟩:=h.k4;obtain⟨_,_,w1,w2,_⟩:=zfS h;have hi:=h.inp;have h2:∀{L j:Nat} {l:TA},Wq m.j L j l->j<=30->LOk L 30 l:=λq r=>⟨q.2.1,λw hw=>⟨pm (q.2.2 w hw).1 r,λc hc=>by have:=(q.2.2 w hw).2 c hc;omega⟩⟩;have h3:LOk 30 30 (Ps m):=h2 w2 (by omega);have e1:∀a,a<=4->∀k,k<=3->lnW a 0 (k+1)<=85:=by decide
 have e2:∀a,a<=4->∀k,k<=3->a^k<=64:=by decide
 refine⟨h2 w1 (by omega),h3,⟨pm (mI _ _) h3.1,λw hw=>h3.2 w (gU.1 hw).1⟩,⟨by rw[QO];exact e1 _ k2 _ hk,λw hw=>?_⟩,⟨by rw[XN];exact e2 _ k2 _ hk,λw hw=>?_⟩,λP=>?_⟩
 ·have:=Qo _ 0 k w hw;exact⟨by omega,λc hc=>by have:=Kx _ 0 _ w hw c hc;omega⟩
 ·have:=jR _ k w hw;exact⟨by omega,λc hc=>by have:=z2y _ _ w hw c hc;omega⟩
 obtain⟨a1,a2⟩:=z4Z h (P:=P);exact⟨a1,λw hw=>by have:=a2 w hw;exact⟨by omega,λc hc=>by have:=this.2 c hc;omega⟩⟩
theorem zfC {u v:TB}(hu:u∈Ps m\/u∈Qs m)(hv:v∈wz (kk m) 0 (k+1)\/v∈exW (kk m) k):xg (Yg m k) u v=some (wN (WS m (stA m (u++v)))):=by
 obtain⟨k1,k2,k3⟩:=h.k4;obtain⟨_,_,w1,w2,_⟩:=zfS h;have a1:u.length<=256/\∀c∈u,0<=c/\c<m.j:=by
  rcases hu with q|q
  ·have:=w2.2.2 u q;exact⟨by omega,this.2⟩
  have:=w1.2.2 u q;exact⟨by omega,this.2⟩
 have a2:v.length<=256/\∀c∈v,0<=c/\c<m.j:=by
  rcases hv with q|q
  ·have:=Qo _ 0 k v q;exact⟨by omega,λc hc=>by have:=Kx _ 0 _ v q c hc;omega⟩
  have:=jR _ k v q;exact⟨by omega,λc hc=>by have:=z2y _ _ v q c hc;omega⟩
 exact zfu h k a1.2 a2.2 a1.1 a2.1
def FOk (F:TA)(most:Int)(r:zb×Bool):Prop:=(∃nodes leaves,r=(zb.mk nodes leaves most,false)/\z83 F nodes leaves/\leaves<=most)\/r.2=true/\most<lvT F
omit h hk in
theorem FOk.of {F:TA}  {r:zb×Bool}(h:∃t,NOk [] F most t/\r=Sum.elim (λq:NB=>(zb.mk q.1 q.2.1 q.2.2,false)) id t):FOk F most r:=by
 obtain⟨t,⟨n,l,rfl,h1,h2⟩|⟨b,rfl,h1⟩,rfl⟩:=h
 ·exact .inl ⟨n,l,rfl,h1,h2⟩
 exact .inr ⟨rfl,h1⟩
theorem zl3 (hm:0<=most){s:Nat}(hs:s<=2):Ret (match s with|0=>wY ⟨⟩ (Yg m k) (zb.mk [z16] 0 most)|1=>wH ⟨⟩ (Yg m k) (zb.mk [z16] 0 most)|2=>wh ⟨⟩ (Yg m k) (zb.mk [z16] 0 most)|_=>none) (FOk (fw m k s) most)/\(fw m k s).length<=100000/\∀w∈fw m k s,w.length<=100/\∀c∈w,0<=c/\c<16:=by
 obtain⟨l1,l2,l3,l4,l5,l6⟩:=z8J h hk;have bag:∀{u v:TB} {L:Nat} {l:TA} (hu:LOk L 30 l) (q:u∈l),u.length<=30/\∀c∈u,0<=c/\c<16:=λhu q=>hu.2 _ q;match s,hs with
 |0,_=>have i1:∀u∈Ps m,∀v∈wz (kk m) 0 (k+1),_:=λu hu v hv=>zeJ (u:=u) (v:=v) (b:=zb.mk [z16] 0 most) (step:=λs=>Y6 (Yg m k) (zb.mk [z16] 0 most) u v s.1 s.2.1 s.2.2.1 s.2.2.2) (λ_ _ _ _=>rfl) (l6 λ_ _=>True) (by omega) (l2.2 u hu) (l4.2 v hv);have i2:∀u∈Ps m,NSt (λs=>loop (λs=>Y7 (Yg m k) (zb.mk [z16] 0 most) u s.1 s.2.1 s.2.2.1 s.2.2.2) (s.1,s.2.1,s.2.2,0)) _:=λu hu=>ziD (l:=wz (kk m) 0 (k+1)) (λ_ _ _ _=>rfl) (pm l4.1 (by omega)) (λv hv=>(i1 u hu v hv).2) λv hv=>(i1 u hu v hv).1;have j2:=λu hu=>LOk.flat l4.1 λv hv=>(i1 u hu v hv).2;have j3:=LOk.flat l2.1 j2;refine⟨?_,pm j3.1 (by omega),j3.2⟩;show Ret (wY _ _ _) _;unfold wY;rw[zm];refine(zel (l:=Ps m) (step:=λs=>Y8 (Yg m k) (zb.mk [z16] 0 most) s.1 s.2.1 s.2.2.1 s.2.2.2) (fin:=λq:NB=>(zb.mk q.1 q.2.1 q.2.2,false)) (bd:=id) (λ_ _ _ _=>rfl) (pm l2.1 (by omega)) j2 i2 z83.nil hm (pm (Nat.le_of_eq (gF _)) (pm j3.1 (by omega))) (λw q=>by cases q)).mono λr hr=>z7.2 (FOk.of hr)
 |1,_=>
  have hmin:Zw (Yg m k).p_ (Yg m k).q_ (Yg m k).m_.j=some (z14 m,0):=by obtain⟨_,_,w1,w2,_⟩:=zfS h;have a1:=h.vm.in1;have a2:=h.vm.in16;show Zw (Ps m) (Qs m) m.j=_;rw[zaa,if_neg (λq=>q (z5a.2 ⟨w2.ch ⟨a1,a2⟩ (by omega) (by omega) (by omega),w1.ch ⟨a1,a2⟩ (by omega) (by omega) (by omega)⟩))];rfl
  have hP:∀u∈z14 m,u∈Ps m:=λu q=>(gU.1 q).1;have i1:∀u∈Qs m,∀v∈wz (kk m) 0 (k+1),_:=λu hu v hv=>zeJ (u:=u) (v:=v) (b:=zb.mk [z16] 0 most) (step:=λs=>kJ (Yg m k) (zb.mk [z16] 0 most) u v s.1 s.2.1 s.2.2.1 s.2.2.2) (λ_ _ _ _=>rfl) (l6 λ_ _=>True) (by omega) (l1.2 u hu) (l4.2 v hv);have i2:∀u∈Qs m,NSt (λs=>loop (λs=>Zo (Yg m k) (zb.mk [z16] 0 most) u s.1 s.2.1 s.2.2.1 s.2.2.2) (s.1,s.2.1,s.2.2,0)) _:=λu hu=>ziD (l:=wz (kk m) 0 (k+1)) (λ_ _ _ _=>rfl) (pm l4.1 (by omega)) (λv hv=>(i1 u hu v hv).2) λv hv=>(i1 u hu v hv).1;have j2:=λu hu=>LOk.flat l4.1 λv hv=>(i1 u hu v hv).2;have j3:=LOk.flat l1.1 j2;have i3:=ziD (l:=Qs m) (step:=λs=>Zp (Yg m k) (zb.mk [z16] 0 most) s.1 s.2.1 s.2.2.1 s.2.2.2) (λ_ _ _ _=>rfl) (pm l1.1 (by omega)) j2 i2;have n1:∀u∈z14 m,∀v∈exW (kk m) k,_:=λu hu v hv=>zeJ (u:=u) (v:=v) (b:=zb.mk [z16] 0 most) (step:=λs=>uG (zb.mk [z16] 0 most) u v (wN (WS m (stA m (u++v)))) s.1 s.2.1 s.2.2.1 s.2.2.2) (λ_ _ _ _=>rfl) (l6 (pS (stA m (u++v)))) (by omega) (l3.2 u hu) (l5.2 v hv);have n2:∀u∈z14 m,NSt (λs=>loop (λs=>Zq (Yg m k) (zb.mk [z16] 0 most) u s.1 s.2.1 s.2.2.1 s.2.2.2) (s.1,s.2.1,s.2.2,0)) _:=λu hu=>ziD (l:=exW (kk m) k) (inner:=λv s=>Option.bind (xg (Yg m k) u v) λws=>loop (λs=>uG (zb.mk [z16] 0 most) u v ws s.1 s.2.1 s.2.2.1 s.2.2.2) (s.1,s.2.1,s.2.2,0)) (λ_ _ _ _=>by simp only[Option.bind_assoc];rfl) (pm l5.1 (by omega)) (λv hv=>(n1 u hu v hv).2) λv hv T mo no le a b c d=>by simp only[zfC h hk (.inl (hP u hu)) (.inr hv),oB];exact(n1 u hu v hv).1 T mo no le a b c d
  have o2:=λu hu=>LOk.flat l5.1 λv hv=>(n1 u hu v hv).2;have o3:=LOk.flat l3.1 o2;have hlen:(fw m k 1).length<=100000:=by show(_++_:TA).length<=_;rw[pF];exact pm (Nat.add_le_add j3.1 o3.1) (by omega)
  have hwd:∀w∈fw m k 1,w.length<=100/\∀c∈w,0<=c/\c<16:=λw q=>(pg.1 q).elim (j3.2 w) (o3.2 w);refine⟨?_,hlen,hwd⟩;show Ret (wH _ _ _) _;unfold wH;rw[zm];refine(i3 [] most [z16] 0 z83.nil hm (pm (Nat.le_of_eq (gF _)) (pm j3.1 (by omega))) (λw q=>by cases q)).mono λr hr=>?_;rcases hr with⟨nodes,leaves,rfl,r1,r2⟩|⟨b,rfl,r1⟩
  ·dsimp only
   unfold uH;rw[bdT hmin,zm];refine(zel (l:=z14 m) (step:=λs=>Zr (Yg m k) (zb.mk [z16] 0 most) (z14 m,0) s.1 s.2.1 s.2.2.1 s.2.2.2) (fin:=λq:NB=>(zb.mk q.1 q.2.1 q.2.2,false)) (bd:=id) (λ_ _ _ _=>rfl) (pm l3.1 (by omega)) o2 n2 r1 r2 (pm (Nat.add_le_add j3.1 o3.1) (by omega)) (λw q=>j3.2 w q)).mono λr hr=>z7.2 (FOk.of ?_);obtain⟨t,t1,t2⟩:=hr;exact⟨t,t1,t2⟩
  refine z7.2 (.inr ⟨rfl,Int.lt_of_lt_of_le r1 (z8I (λw q=>pg.2 (.inl q)) λw q=>by have:=(hwd w q).1;omega)⟩)
 |2,_=>
  have n1:∀u∈Ps m,∀v∈wz (kk m) 0 (k+1),_:=λu hu v hv=>zeJ (u:=u) (v:=v) (b:=zb.mk [z16] 0 most) (step:=λs=>vW (zb.mk [z16] 0 most) u v (wN (WS m (stA m (u++v)))) s.1 s.2.1 s.2.2.1 s.2.2.2) (λ_ _ _ _=>rfl) (l6 (pS (stA m (u++v)))) (by omega) (l2.2 u hu) (l4.2 v hv);have n2:∀u∈Ps m,NSt (λs=>loop (λs=>kL (Yg m k) (zb.mk [z16] 0 most) u s.1 s.2.1 s.2.2.1 s.2.2.2) (s.1,s.2.1,s.2.2,0)) _:=λu hu=>ziD (l:=wz (kk m) 0 (k+1)) (inner:=λv s=>Option.bind (xg (Yg m k) u v) λws=>loop (λs=>vW (zb.mk [z16] 0 most) u v ws s.1 s.2.1 s.2.2.1 s.2.2.2) (s.1,s.2.1,s.2.2,0)) (λ_ _ _ _=>by simp only[Option.bind_assoc];rfl) (pm l4.1 (by omega)) (λv hv=>(n1 u hu v hv).2) λv hv T mo no le a b c d=>by simp only[zfC h hk (.inl hu) (.inl hv),oB];exact(n1 u hu v hv).1 T mo no le a b c d
  have o2:=λu hu=>LOk.flat l4.1 λv hv=>(n1 u hu v hv).2;have o3:=LOk.flat l2.1 o2;refine⟨?_,pm o3.1 (by omega),o3.2⟩;show Ret (wh _ _ _) _;unfold wh;rw[zm];refine(zel (l:=Ps m) (step:=λs=>kM (Yg m k) (zb.mk [z16] 0 most) s.1 s.2.1 s.2.2.1 s.2.2.2) (fin:=λq:NB=>(zb.mk q.1 q.2.1 q.2.2,false)) (bd:=id) (λ_ _ _ _=>rfl) (pm l2.1 (by omega)) o2 n2 z83.nil hm (pm (Nat.le_of_eq (gF _)) (pm o3.1 (by omega))) (λw q=>by cases q)).mono λr hr=>z7.2 (FOk.of hr)
end
def z4U {a:Nat}:∀{k:Nat} {w:TB},w∈exW a k↔w.length=k/\∀c∈w,0<=c/\c<(a:Int)
 |0,w=>by simp only[exW,pK];exact⟨λq=>by subst q;simp,λq=>mK q.1⟩
 |k+1,w=>by
  refine⟨λq=>⟨jR a _ w q,z2y a _ w q⟩,λq=>?_⟩;rcases rK w with rfl|⟨v,s,rfl⟩
  ·simp at q
  rw[List.concat_eq_append]at q⊢;have hs:=q.2 s (by simp);rw[exW,gO];refine⟨v,z4U.2 ⟨by simpa using q.1,λc hc=>q.2 c (by simp[hc])⟩,?_⟩;rw[KH,pQ];exact⟨s.toNat,gJ.2 (by omega),by rw[mQ hs.1]⟩
def jP {a:Nat}:∀{k:Nat} {w:TB},w∈wz a 0 k↔w.length<k/\∀c∈w,0<=c/\c<(a:Int)
 |0,w=>by simp[wz]
 |k+1,w=>by
  rw[wz,if_pos (pM _),pg,jP,z4U];constructor
  ·rintro(q|q)
   ·exact⟨by omega,q.2⟩
   exact⟨by omega,q.2⟩
  rintro⟨q1,q2⟩;rcases pD w.length k with r|r
  ·exact .inl ⟨r,q2⟩
  exact .inr ⟨by omega,q2⟩
variable {m:z6}
def zg4:x∈Ps m↔∃q∈Qs m,∃i,i.length<=1/\(∀c∈i,0<=c/\c<(kk m:Int))/\q++i=x:=by
 unfold Ps;rw[zS,yi];constructor
 ·rintro⟨u,h1,v,h2,e⟩;have:=jP.1 h2;exact⟨u,h1,v,by omega,this.2,e⟩
 rintro⟨u,h1,v,h2,h3,e⟩;exact⟨u,h1,v,jP.2 ⟨by omega,h3⟩,e⟩
def zed (h:x∈Qs m):x∈Ps m:=zg4.2 ⟨x,h,[],by simp,by simp,by simp⟩
def Yh {P:Nat->Nat->Prop}  (h:x∈wN (WL m P)):x∈[]::WA m:=by
 unfold wN at h;split at h
 ·exact pl.2 (.inl (pK.1 h))
 obtain⟨a,b,h1,h2,_,e⟩:=z8H.1 h;exact mV _ (z8H.2 ⟨a,b,h1,h2,trivial,e⟩)
def z7H {k:Nat}  : x∈fw m k 0↔∃u∈Ps m,∃v∈wz (kk m) 0 (k+1),∃w∈wN (WA m),x=u++v++w:=by simp[fw]
def z7G {k:Nat}  : x∈fw m k 1↔(∃u∈Qs m,∃v∈wz (kk m) 0 (k+1),∃w∈wN (WA m),x=u++v++w)\/∃u∈z14 m,∃v∈exW (kk m) k,∃w∈wN (WS m (stA m (u++v))),x=u++v++w:=by simp[fw]
def z7F {k:Nat}  : x∈fw m k 2↔∃u∈Ps m,∃v∈wz (kk m) 0 (k+1),∃w∈wN (WS m (stA m (u++v))),x=u++v++w:=by simp[fw]
variable {k s:Nat}
def zg3 (hs:s<=2)  (h:x∈fw m k s):∃u∈Ps m,∃v∈wz (kk m) 0 (k+1),∃w∈[]::WA m,x=u++v++w:=by
 rcases(by omega:s=0\/s=1\/s=2) with rfl|rfl|rfl
 ·obtain⟨u,h1,v,h2,w,h3,e⟩:=z7H.1 h;exact⟨u,h1,v,h2,w,Yh h3,e⟩
 ·rcases z7G.1 h with⟨u,h1,v,h2,w,h3,e⟩|⟨u,h1,v,h2,w,h3,e⟩
  ·exact⟨u,zed h1,v,h2,w,Yh h3,e⟩
  have:=z4U.1 h2;exact⟨u,(gU.1 h1).1,v,jP.2 ⟨by omega,this.2⟩,w,Yh h3,e⟩
 obtain⟨u,h1,v,h2,w,h3,e⟩:=z7F.1 h;exact⟨u,h1,v,h2,w,Yh h3,e⟩
section
variable {m:z6}(h:KM m)
include h
theorem zkk:1<=(Qs m).length:=by obtain⟨_,_,_,_,ha⟩:=zfS h;have h1:(Ql m).length=m.i.length:=ha.1;have h2:=h.vm.J;obtain⟨x,hx⟩:=List.exists_mem_of_length_pos (l:=Ql m) (by omega);exact List.length_pos_of_mem (zS.2 hx)
theorem zl0 (hs:s<=2):fw m k s≠[]:=by
 obtain⟨q,hq⟩:=List.exists_mem_of_length_pos (l:=Qs m) (zkk h);have hn:∀P,∃w,w∈wN (WL m P):=λP=>List.exists_mem_of_length_pos (mZ.2 (zeQ _));have hv:[]∈wz (kk m) 0 (k+1):=jP.2 ⟨by simp,by simp⟩;rcases(by omega:s=0\/s=1\/s=2) with rfl|rfl|rfl
 ·obtain⟨w,hw⟩:=hn λ_ _=>True;exact List.ne_nil_of_mem (z7H.2 ⟨q,zed hq,[],hv,w,hw,rfl⟩)
 ·obtain⟨w,hw⟩:=hn λ_ _=>True;exact List.ne_nil_of_mem (z7G.2 (.inl ⟨q,hq,[],hv,w,hw,rfl⟩))
 obtain⟨w,hw⟩:=hn (pS (stA m (q++[])));exact List.ne_nil_of_mem (z7F.2 ⟨q,zed hq,[],hv,w,hw,rfl⟩)
theorem zbJ (hk:k<=3)(hs:s<=2)  (hx:x∈fw m k s):x.length<=16/\∀c∈x,0<=c/\c<m.j:=by
 obtain⟨k1,k2,k3⟩:=h.k4;obtain⟨_,_,_,w2,_⟩:=zfS h;obtain⟨u,h1,v,h2,w,h3,rfl⟩:=zg3 hs hx;have e1:=w2.2.2 u h1;have e2:=jP.1 h2;have e3:w.length<=5/\∀c∈w,0<=c/\c<m.j:=by
  rcases pl.1 h3 with rfl|q
  ·simp
  exact(za1 h).2 w q
 refine⟨by simp only[pF];omega,λc hc=>?_⟩;simp only[pg]at hc;rcases hc with(q|q)|q
 ·exact e1.2 c q
 ·have:=e2.2 c q;omega
 exact e3.2 c q
theorem big {k:Nat}(hk:kk m<=3/\k<=2\/k<=1):∃B:TA,B.length<=3840/\∀u∈Ps m,∀v∈wz (kk m) 0 (k+1),∀w∈[]::WA m,u++v++w∈B:=by
 obtain⟨k1,k2,k3⟩:=h.k4;obtain⟨_,_,w1,_,_⟩:=zfS h;refine⟨xK (xK (Qs m) (wz (kk m) 0 (k+2))) ([]::WA m),?_,λu hu v hv w hw=>?_⟩
 ·have e1:(wz (kk m) 0 (k+2)).length<=40:=by
   have c1:∀a,a<=3->∀k,k<=2->lnW a 0 (k+2)<=40:=by decide
   have c2:∀a,a<=4->∀k,k<=1->lnW a 0 (k+2)<=40:=by decide
   rw[QO];rcases hk with⟨q,r⟩|q
   ·exact c1 _ q _ r
   exact c2 _ k2 _ q
  have e2:(WA m).length<=15:=by
   refine pm (Ws _) ?_;rw[pY];have:∀n,n<=6->((prL n).filter λp=>decide (p.1<p.2)).length<=15:=by decide
   refine pm (Nat.le_of_eq ?_) (this _ h.len);congr 1;exact List.filter_congr λp _=>by simp
  rw[Qn,Qn,gv];exact pm (mE (mE w1.2.1 e1) (Nat.succ_le_succ e2)) (by omega)
 obtain⟨q,q1,i,i1,i2,rfl⟩:=zg4.1 hu;have:=jP.1 hv;refine yi.2 ⟨q++(i++v),yi.2 ⟨q,q1,i++v,jP.2 ⟨by rw[pF];omega,λc hc=>?_⟩,rfl⟩,w,hw,by simp⟩;rcases pg.1 hc with r|r
 ·exact i2 c r
 exact this.2 c r
theorem zaK (hk:kk m<=3/\k<=2\/k<=1)(hs:s<=2):(Ud (srt (fw m k s))).length<=3840:=by obtain⟨B,b1,b2⟩:=big h hk;refine pm (z0A ((jA _).filter _).nodup λx hx=>?_).1 b1;obtain⟨u,h1,v,h2,w,h3,rfl⟩:=zg3 hs (zS.1 (Wf.1 hx).1);exact b2 u h1 v h2 w h3
theorem zbI (hk:k<=3)(hs:s<=2)  (hm:0<=most) :
  (lvT (fw m k s)<=most/\∃nodes,vX (Yg m k) s most=some (some (zb.mk nodes (lvT (fw m k s)) most),true)/\wT (zb.mk nodes (lvT (fw m k s)) most)=some (Ud (srt (fw m k s))))\/most<lvT (fw m k s)/\vX (Yg m k) s most=some (none,false):=by
 obtain⟨⟨r,e,hr⟩,hl,hw⟩:=zl3 h hk hm hs;have hg:vX (Yg m k) s most=some (bif r.2 then none else some r.1,!r.2):=by rcases(by omega:s=0\/s=1\/s=2) with rfl|rfl|rfl <;> · unfold vX;exact(congrArg (λz=>Option.bind z _) e)
 rcases hr with⟨nodes,leaves,rfl,r1,r2⟩|⟨r1,r2⟩
 ·obtain⟨d1,d2⟩:=r1.done (zl0 h hs) hl (λw q=>by have:=hw w q;exact⟨by omega,this.2⟩) most;rw[d2]at d1 r2 hg;exact .inl ⟨r2,nodes,hg,d1⟩
 rw[r1]at hg;exact .inr ⟨r2,hg⟩
theorem zkI {k s:Nat}(hk:k<=3)(hs:s<=2):mx (lvT (fw m k s)) 1=((Ud (srt (fw m k s))).length:Int)/\∀b:Int,1<=b->(lvT (fw m k s)<=b↔((Ud (srt (fw m k s))).length:Int)<=b):=by
 obtain⟨x,hx⟩:=List.exists_mem_of_ne_nil _ (zl0 h (k:=k) hs);have h1:(1:Nat)<=(Ud (srt (fw m k s))).length:=by
  have:=zaL (T:=[x]) (T':=fw m k s) (λw hw=>by rw[pK]at hw;subst hw;exact hx) λw hw=>by have:=(zbJ h hk hs hw).1;omega
  have h2:(Ud (srt [x])).length=1:=by simp[srt,z3i,Ud,z3k]
  omega
 unfold lvT mx;by_cases q:(fw m k s).all List.isEmpty=true
 ·have h3:(Ud (srt (fw m k s))).length<=1:=(z0A (L:=[[]]) ((jA _).filter _).nodup λw hw=>by have:=gB.1 q w (zS.1 (Wf.1 hw).1);rw[List.isEmpty_iff]at this;simp[this]).1
  rw[if_pos q];refine⟨?_,λb hb=>?_⟩
  ·rw[if_pos (by omega)];omega
  omega
 rw[if_neg q];refine⟨?_,λb hb=>Iff.rfl⟩;split<;>omega
theorem zfh {k:Nat}(hk:k<=4):Yb m ((m.i.length+k:Nat):Int)=some 0:=by have:=h.len;unfold Yb;rw[bdT h.proper,show((0:Int) !=0)=false from rfl,cond_false,decide_eq_false (by omega),cond_false,zA (by omega) (by omega),decide_eq_false (by omega),cond_false]
theorem z1k (hk:k<=3)(hs:s<=2){b:Int}(h1:1<=b)(h2:b<=4096):ww s m ((m.i.length+k:Nat):Int) b=some (if((Ud (srt (fw m k s))).length:Int)<=b then(Ud (srt (fw m k s)),0) else([],13)):=by
 have a1:=h.vm.in1;have a2:=h.vm.in16;have hl:=(zkI h hk hs).2 b h1;unfold ww;rw[bdT (zfh h (by omega)),show((0:Int) !=0)=false from rfl,cond_false,decide_eq_false (by omega),cond_false,decide_eq_false (by omega),cond_false,bdT (z9D h hk)];dsimp only
 rw[show((0:Int) !=0)=false from rfl,cond_false,oB];rcases zbI h hk hs (most:=b) (by omega) with⟨g1,nodes,g2,g3⟩|⟨g1,g2⟩
 ·have hle:=hl.1 g1;have hw:Wq m.j 4096 16 (Ud (srt (fw m k s))):=⟨(jA _).filter _,by omega,λw hw=>zbJ h hk hs (zS.1 (Wf.1 hw).1)⟩;rw[bdT g2];dsimp only
  rw[gP,cond_false,oB,bdT g3,bdT (z5K _ _),hw.ch ⟨a1,a2⟩ (by omega) (by omega) (by omega),show((0:Int) !=0)=false from rfl,cond_false,if_pos hle]
 rw[bdT g2];dsimp only
 rw[mF,cond_true,if_neg (λq=>by have:=hl.2 q;omega)]
theorem zp5 {k:Nat}(hk:k<=3){b:Int}(h1:1<=b)(h2:b<=4096):W5 m ((m.i.length+k:Nat):Int) b=ww 0 m ((m.i.length+k:Nat):Int) b/\UU m ((m.i.length+k:Nat):Int) b=ww 1 m ((m.i.length+k:Nat):Int) b/\V0 m ((m.i.length+k:Nat):Int) b=ww 2 m ((m.i.length+k:Nat):Int) b:=by unfold W5 UU V0;rw[z1k h hk (by omega) h1 h2,z1k h hk (by omega) h1 h2,z1k h hk (by omega) h1 h2];exact⟨rfl,rfl,rfl⟩
end
def zaW {x v:TB}(hx:x.length<1000000000):W7 x v=some (z3k x v):=by
 unfold W7 z3k;by_cases h:x.length<v.length
 ·have hq:decide (((x.length:Nat):Int)<((v.length:Nat):Int))=true:=by rw[decide_eq_true_eq];omega
  have e:(v.drop 0).take (((x.length:Nat):Int).toNat-0)=v.take x.length:=by simp
  rw[hq,cond_true,gdT (by omega),e,Qx _ _ (λ_=>by omega),oB,decide_eq_true h,rB];by_cases he:v.take x.length=x
  ·rw[he,Ym,decide_eq_true rfl];rfl
  have hb:(uT x (v.take x.length)==0)=false:=by rw[beq_eq_false_iff_ne];exact λq=>he (Qy q).symm
  rw[hb,decide_eq_false he]
 have hq:decide (((x.length:Nat):Int)<((v.length:Nat):Int))=false:=by rw[decide_eq_false_iff_not];omega
 rw[hq,cond_false,decide_eq_false h,Bool.false_and]
def z9A (hl:l.length<=100000)(hw:∀w∈l,w.length<1000000000):qh l=some (Ud l):=by
 unfold qh;have h:=yY (step:=λs=>vM l s.1 s.2) (λi=>((l.take i).filter (λx=>!l.any (z3k x)),(i:Int))) l.length (t:=Ud l) (by omega) (by
  intro i hi;show vM l _ (i:Int)=_;unfold vM;have hq:decide ((i:Int)<(l.length:Int))=true:=by simpa using hi
  have hx:l[i]?=some l[i]:=pe hi;have hin:=yY (step:=λs=>vL l (i:Int) s.1 s.2) (λk=>((l.take k).any (z3k l[i]),(k:Int))) l.length (t:=l.any (z3k l[i])) (by omega) (by
   intro k hk;show vL l (i:Int) _ (k:Int)=_;unfold vL;have hq2:decide ((k:Int)<(l.length:Int))=true:=by simpa using hk
   have hy:l[k]?=some l[k]:=pe hk;have htk:(l.take (k+1)).any (z3k l[i])=((l.take k).any (z3k l[i]) || z3k l[i] l[k]):=by rw[pU,hy,List.any_append];simp
   rw[hq2,cond_true,zA (by omega) (by omega),htk];cases (l.take k).any (z3k l[i]) with
   |true=>rfl
   |false=>rw[cond_false,zr hx,oB,zr hy,oB,zaW (hw _ (pC hi)),oB,nF];rfl) (by
   show vL l (i:Int) _ (l.length:Int)=_;unfold vL;have hq2:decide (((l.length:Nat):Int)<(l.length:Int))=false:=by simp
   rw[hq2,cond_false,gL])
  have h0:((l.take 0).any (z3k l[i]),((0:Nat):Int))=(false,(0:Int)):=by simp
  rw[h0]at hin;rw[hq,cond_true,bdT hin];unfold Xq kW;rw[zA (by omega) (by omega)];have hfl:=mI (λx=>!l.any (z3k x)) (l.take i);rw[pN]at hfl;have htk:(l.take (i+1)).filter (λx=>!l.any (z3k x))=(l.take i).filter (λx=>!l.any (z3k x))++(if l.any (z3k l[i])=true then [] else [l[i]]):=by rw[pU,hx,List.filter_append];congr 1;rw[Option.toList_some,List.filter_cons,List.filter_nil];cases l.any (z3k l[i])<;>rfl
  rw[htk];cases hb:l.any (z3k l[i]) with
  |true=>simp
  |false=>rw[mF,cond_true,zr hx,oB,gdT (by exact pm (Nat.succ_le_succ hfl) (by omega))];rfl) (by
  show vM l _ (l.length:Int)=_;unfold vM;have hq:decide (((l.length:Nat):Int)<(l.length:Int))=false:=by simp
  rw[hq,cond_false,gL];rfl)
 have h0:((l.take 0).filter (λx=>!l.any (z3k x)),((0:Nat):Int))=(([]:TA),(0:Int)):=by simp
 rw[h0]at h;rw[bdT h];rfl
def z20 {l m:TA}(h:∀x,x∈l↔x∈m):Ud (srt l)=Ud (srt m):=by rw[Kf h]
def z7N (l:TA):X2 l=some (wN l):=by
 unfold X2 wN;cases l with
 |nil=>rfl
 |cons w l=>rw[show((((w::l).length:Nat):Int)==0)=false by simp;omega,cond_false,if_neg (by simp)]
section
variable {m:z6}(h:KM m)
include h
theorem zaN:Q3 m=some (WA m):=by
 have hl:=h.len;obtain⟨o,e,out,h1,h2,rfl⟩:=z3y h.vm h.cpl h.dist h.gg (by omega) (-1);unfold Q3;have hp:pP (-1)=λ_ _=>True:=by funext a b;simp[pP]
 rw[bdT e,h1.wl,hp]
theorem zke {z:Nat}(hz:z<m.i.length):z1d m (z:Int)=some (WS m z):=by
 have hl:=h.len;obtain⟨o,e,out,h1,h2,rfl⟩:=z3y h.vm h.cpl h.dist h.gg (by omega) (z:Int);unfold z1d;have hp:pP (z:Int)=pS z:=by funext a b;apply propext;unfold pP;omega
 rw[bdT e,h1.wl,hp]
theorem zmh:kp m=some (Qs m)/\wC m=some (Ps m):=by
 have hl:=h.len;obtain⟨k1,k2,k3⟩:=h.k4;have hr:=h.rall;obtain⟨⟨l3,is3⟩,g3,c3⟩:=z0p h.vm (pm (JY (by omega)) h.gg);have e3:=zhC hr c3;subst e3;obtain⟨hwq,hws⟩:=z9d h.vm hl c3 hr;have hl6:(Ql m).length<=6:=by have:(Ql m).length=m.i.length:=c3.1;omega
 have hst:kp m=some (Qs m):=by
  unfold kp;rw[bdT g3];dsimp only
  rw[z4J (by omega) (λw hw=>by have:=(hws w hw).1;omega)];rfl
 have hup:=zfQ (k:=1) k1 (by omega) (by omega);rw[k3]at hup;have hup:qN m.j ((1:Nat):Int)=some (wz (kk m) 0 2):=hup;obtain⟨o1,o2⟩:=zog h;refine⟨hst,?_⟩;unfold wC Wy;rw[bdT hst,show(1:Int)=((1:Nat):Int) from rfl,bdT hup,z0c (by have:=mE hwq.2.1 o1;exact pm this (by omega)) (by have:=hwq.2.1;exact pm this (by omega)) (by omega) (λw hw=>by have:=(hwq.2.2 w hw).1;omega) (λw hw=>by have:=o2 w hw;omega)];rfl
theorem z7O {l B:TA}(hl:l.length<=5000)(hw:∀w∈l,w.length<=100/\∀c∈w,0<=c/\c<m.j)(hB:B.length<=4096)(hs:∀w∈l,∀v∈wN (WS m (stA m w)),w++v∈B) :
  uA m l=some (srt (l.flatMap λw=>(wN (WS m (stA m w))).map λv=>w++v)):=by
 have hl1:=h.vm.J;have hsb:∀l':TA,(∀w∈l',w∈l)->(srt (l'.flatMap λw=>(wN (WS m (stA m w))).map λv=>w++v)).length<=4096/\∀x∈srt (l'.flatMap λw=>(wN (WS m (stA m w))).map λv=>w++v),x.length<=4294967296:=λl' hs'=>by
  have hm:∀x∈srt (l'.flatMap λw=>(wN (WS m (stA m w))).map λv=>w++v),∃w∈l,∃v∈wN (WS m (stA m w)),w++v=x:=λx hx=>by obtain⟨w,q1,q2⟩:=gO.1 (zS.1 hx);obtain⟨v,q3,q4⟩:=pQ.1 q2;exact⟨w,hs' w q1,v,q3,q4⟩
  refine⟨pm (z0A (jA _).nodup λx hx=>?_).1 hB,λx hx=>?_⟩
  ·obtain⟨w,q1,v,q2,rfl⟩:=hm x hx;exact hs w q1 v q2
  obtain⟨w,q1,v,q2,rfl⟩:=hm x hx;have:=(hw w q1).1;have:=((z4Z h).2 v q2).1;rw[pF];omega
 have hloop:loop (λs=>xO m l s.1 s.2) (([]:TA),0)=some (srt (l.flatMap λw=>(wN (WS m (stA m w))).map λv=>w++v)):=by
  refine yY (step:=λs=>xO m l s.1 s.2) (λi=>(srt ((l.take i).flatMap λw=>(wN (WS m (stA m w))).map λv=>w++v),(i:Int))) l.length (by omega) (λi hi=>?_) ?_
  ·show xO m l _ (i:Int)=_;have hx:l[i]?=some l[i]:=pe hi;have hmem:=pC hi;obtain⟨w1,w2⟩:=hw _ hmem;obtain⟨n1,n2⟩:=z8E h.vm w2;obtain⟨a1,a2⟩:=z5j h.vm h.cpl (l[i].map Int.toNat) 0 (by omega) (by omega) n1;have ha:=z9i h.vm (s:=0) ⟨by omega,by omega⟩ (l[i].map Int.toNat) n1;rw[n2,show aft m 0 (l[i].map Int.toNat)=((stA m l[i]:Nat):Int) by unfold stA;omega]at ha;have hz:stA m l[i]<m.i.length:=by unfold stA;omega
   obtain⟨f1,f2⟩:(wN (WS m (stA m l[i]))).length<=36/\∀x∈wN (WS m (stA m l[i])),x.length<=5/\∀c∈x,0<=c/\c<m.j:=z4Z h;have e1:(l.drop i).take ((i+1)-i)=[l[i]]:=by rw[mJ,mA hi];rfl
   have t1:l.take (i+1)=l.take i++[l[i]]:=by rw[pU,hx];rfl
   obtain⟨s1,s2⟩:=hsb (l.take i) λw=>pX;obtain⟨s3,s4⟩:=hsb [l[i]] λw q=>by rw[pK]at q;exact q▸hmem
   have e2:xK [l[i]] (wN (WS m (stA m l[i])))=([l[i]].flatMap λw=>(wN (WS m (stA m w))).map λv=>w++v):=by simp[xK]
   have hw64:w64 ((i:Int)+1)=((i+1:Nat):Int):=by rw[zA (by omega) (by omega)];omega
   unfold xO;rw[decide_eq_true (by omega),cond_true,zr hx,oB,bdT ha,bdT (zke h hz),bdT (z7N _),hw64,gdT (by omega),ph,ph,e1,
    bdT (z0c (by simp;omega) (by simp) (by omega) (λw q=>by rw[pK]at q;subst q;omega) (λw q=>by have:=(f2 w q).1;omega)),e2,bdT (z67 (by omega) (by omega) s2 s4)]
   congr 3;rw[t1,List.flatMap_append];exact Kf λx=>by rw[pg,pg,zS,zS]
  show xO m l _ (l.length:Int)=_;unfold xO;rw[decide_eq_false (by omega),cond_false,gL]
 unfold uA;rw[bdT hloop];rfl
variable {k:Nat}(hk:kk m<=3/\k<=2\/k<=1)
include hk
theorem zhz:z4H m ((m.i.length+k:Nat):Int)=some (Ud (srt (fw m k 0)))/\z1c m ((m.i.length+k:Nat):Int)=some (Ud (srt (fw m k 1)))/\Kq m ((m.i.length+k:Nat):Int)=some (Ud (srt (fw m k 2))):=by
 have hl:=h.len;obtain⟨k1,k2,k3⟩:=h.k4;have hk3:k<=3:=by omega
 obtain⟨_,_,w1,w2,_⟩:=zfS h;obtain⟨q3,q4⟩:=zmh h;obtain⟨l1,l2,l3,l4,l5,l6⟩:=z8J h hk3;obtain⟨B,b1,b2⟩:=big h hk;have hb:w64 (((m.i.length+k:Nat):Int)-((m.i.length:Nat):Int))=(k:Int):=by rw[zA (by omega) (by omega)];omega
 have hup:=zfQ (k:=k) k1 (by omega) hk3;have hex:=z68 (a:=kk m) (k:=k) ⟨k1,by omega⟩ (by omega) (z6b _ (by omega) k hk3);rw[k3]at hup hex;have sm:∀{L k:Nat} {l:TA},LOk L k l->k<=100->∀w∈l,w.length<=2147483648:=λq r w hw=>by have:=(q.2 w hw).1;omega
 have conc:∀{L M j i:Nat} {a b:TA},LOk L j a->LOk M i b->L*M<=100000->L<=100000->M<=100000->j<=100->i<=100->xE a b=some (srt (xK a b))/\LOk (L*M) (j+i) (srt (xK a b)):=λ{L M j i a b} ha hb2 c1 c2 c3 c4 c5=>by
  refine⟨z0c (pm (mE ha.1 hb2.1) c1) (pm ha.1 c2) (pm hb2.1 c3) (sm ha c4) (sm hb2 c5),pm (Ws _) (by rw[Qn];exact mE ha.1 hb2.1),λw hw=>?_⟩;obtain⟨u,h1,v,h2,rfl⟩:=yi.1 (zS.1 hw);have e1:=ha.2 u h1;have e2:=hb2.2 v h2;refine⟨by rw[pF];omega,λc hc=>?_⟩;rcases pg.1 hc with q|q
  ·exact e1.2 c q
  exact e2.2 c q
 have fol:∀{L:Nat} {a b:TA},(∀u∈a,u∈Ps m)->(∀v∈b,v∈wz (kk m) 0 (k+1))->LOk L 60 (srt (xK a b))->L<=5000->uA m (srt (xK a b))=some (srt ((srt (xK a b)).flatMap λw=>(wN (WS m (stA m w))).map λv=>w++v)):=λ{L a b} ha hb2 c1 c2=>by
  have hm:∀w∈srt (xK a b),∃u∈Ps m,∃v∈wz (kk m) 0 (k+1),u++v=w:=λw hw=>by obtain⟨u,h1,v,h2,e⟩:=yi.1 (zS.1 hw);exact⟨u,ha u h1,v,hb2 v h2,e⟩
  refine z7O h (pm c1.1 c2) (λw hw=>⟨by have:=(c1.2 w hw).1;omega,λc hc=>?_⟩) (pm b1 (by omega)) λw hw v hv=>?_
  ·obtain⟨u,h1,v,h2,rfl⟩:=hm w hw;rcases pg.1 hc with q|q
   ·exact(w2.2.2 u h1).2 c q
   have:=(jP.1 h2).2 c q;omega
  obtain⟨u,h1,v',h2,rfl⟩:=hm w hw;exact b2 u h1 v' h2 v (Yh hv)
 have red:∀{L j:Nat} {l:TA},LOk L j l->L<=100000->j<=100->qh l=some (Ud l):=λc1 c2 c3=>z9A (pm c1.1 c2) λw hw=>by have:=(c1.2 w hw).1;omega
 have hA:=l6 λ_ _=>True;have inB:∀l:TA,(∀x∈l,∃u∈Ps m,∃v∈wz (kk m) 0 (k+1),∃w∈[]::WA m,x=u++v++w)->LOk 3840 16 (srt l):=λl hx=>by
  refine⟨pm (z0A (jA _).nodup λx hx2=>?_).1 b1,λw hw=>?_⟩
  ·obtain⟨u,h1,v,h2,w,h3,rfl⟩:=hx x (zS.1 hx2);exact b2 u h1 v h2 w h3
  obtain⟨u,h1,v,h2,w,h3,rfl⟩:=hx w (zS.1 hw);have:=(w2.2.2 u h1);have:=jP.1 h2;have hi:=h.inp;have e3:w.length<=5/\∀c∈w,0<=c/\c<m.j:=by
   rcases pl.1 h3 with rfl|q
   ·simp
   exact(za1 h).2 w q
  refine⟨by simp only[pF];omega,λc hc=>?_⟩;simp only[pg]at hc;rcases hc with(q|q)|q
  ·have:=(w2.2.2 u h1).2 c q;omega
  ·have:=(jP.1 h2).2 c q;omega
  have:=e3.2 c q;omega
 obtain⟨c1,d1⟩:=conc l2 l4 (by omega) (by omega) (by omega) (by omega) (by omega);obtain⟨c2,d2⟩:=conc d1 hA (by omega) (by omega) (by omega) (by omega) (by omega);obtain⟨c3,d3⟩:=conc l1 l4 (by omega) (by omega) (by omega) (by omega) (by omega);obtain⟨c4,d4⟩:=conc d3 hA (by omega) (by omega) (by omega) (by omega) (by omega);obtain⟨c5,d5⟩:=conc l3 l5 (by omega) (by omega) (by omega) (by omega) (by omega);have hexo:∀v∈exW (kk m) k,v∈wz (kk m) 0 (k+1):=λv q=>by have:=z4U.1 q;exact jP.2 ⟨by omega,this.2⟩
 have hrp:∀u∈z14 m,u∈Ps m:=λu q=>(gU.1 q).1;have f2:=fol (λu q=>q) (λv q=>q) d1 (by omega);have f1:=fol hrp hexo d5 (by omega);have hmin:Xr (Ps m) (Qs m)=some (z14 m):=zaO (pm l2.1 (by omega)) (pm l1.1 (by omega)) λw hw=>by have:=(l2.2 w hw).1;omega
 refine⟨?_,?_,?_⟩
 ·unfold z4H;rw[hb,bdT hup,bdT q4,bdT c1,bdT (zaN h),bdT (z7N _),bdT c2,bdT (red d2 (by omega) (by omega)),z20 (m:=fw m k 0) λx=>?_];rw[z7H,yi];constructor
  ·rintro⟨y,q1,w,q2,rfl⟩;obtain⟨u,r1,v,r2,rfl⟩:=yi.1 (zS.1 q1);exact⟨u,r1,v,r2,w,q2,rfl⟩
  rintro⟨u,r1,v,r2,w,q2,rfl⟩;exact⟨u++v,zS.2 (yi.2 ⟨u,r1,v,r2,rfl⟩),w,q2,rfl⟩
 ·have hsub1:∀x∈xK (srt (xK (Qs m) (wz (kk m) 0 (k+1)))) (wN (WA m)),∃u∈Ps m,∃v∈wz (kk m) 0 (k+1),∃w∈[]::WA m,x=u++v++w:=λx hx=>by obtain⟨y,q1,w,q2,rfl⟩:=yi.1 hx;obtain⟨u,r1,v,r2,rfl⟩:=yi.1 (zS.1 q1);exact⟨u,zed r1,v,r2,w,Yh q2,rfl⟩
  have hsub2:∀x∈((srt (xK (z14 m) (exW (kk m) k))).flatMap λw=>(wN (WS m (stA m w))).map λv=>w++v),∃u∈Ps m,∃v∈wz (kk m) 0 (k+1),∃w∈[]::WA m,x=u++v++w:=λx hx=>by obtain⟨y,q1,q2⟩:=gO.1 hx;obtain⟨w,q3,rfl⟩:=pQ.1 q2;obtain⟨u,r1,v,r2,rfl⟩:=yi.1 (zS.1 q1);exact⟨u,hrp u r1,v,hexo v r2,w,Yh q3,rfl⟩
  have i1:=inB _ hsub1;have i2:=inB _ hsub2;have hun:=z67 (pm i1.1 (by omega)) (pm i2.1 (by omega)) (λw hw=>by have:=(i1.2 w hw).1;omega) (λw hw=>by have:=(i2.2 w hw).1;omega);have i3:=inB _ (λx hx=>(pg.1 hx).elim (λq=>hsub1 x (zS.1 q)) λq=>hsub2 x (zS.1 q));unfold z1c;rw[bdT q3,bdT q4,bdT hmin,hb,bdT hup,bdT c3,bdT (zaN h),bdT (z7N _),bdT c4,bdT hex,bdT c5,bdT f1,bdT hun,bdT (red i3 (by omega) (by omega)),z20 (m:=fw m k 1) λx=>?_];rw[z7G,pg,zS,zS,yi,gO];constructor
  ·rintro(⟨y,q1,w,q2,rfl⟩|⟨y,q1,q2⟩)
   ·obtain⟨u,r1,v,r2,rfl⟩:=yi.1 (zS.1 q1);exact .inl ⟨u,r1,v,r2,w,q2,rfl⟩
   obtain⟨w,q3,rfl⟩:=pQ.1 q2;obtain⟨u,r1,v,r2,rfl⟩:=yi.1 (zS.1 q1);exact .inr ⟨u,r1,v,r2,w,q3,rfl⟩
  rintro(⟨u,r1,v,r2,w,q2,rfl⟩|⟨u,r1,v,r2,w,q2,rfl⟩)
  ·exact .inl ⟨u++v,zS.2 (yi.2 ⟨u,r1,v,r2,rfl⟩),w,q2,rfl⟩
  exact .inr ⟨u++v,zS.2 (yi.2 ⟨u,r1,v,r2,rfl⟩),pQ.2 ⟨w,q2,rfl⟩⟩
 have hsub2:∀x∈((srt (xK (Ps m) (wz (kk m) 0 (k+1)))).flatMap λw=>(wN (WS m (stA m w))).map λv=>w++v),∃u∈Ps m,∃v∈wz (kk m) 0 (k+1),∃w∈[]::WA m,x=u++v++w:=λx hx=>by obtain⟨y,q1,q2⟩:=gO.1 hx;obtain⟨w,q3,rfl⟩:=pQ.1 q2;obtain⟨u,r1,v,r2,rfl⟩:=yi.1 (zS.1 q1);exact⟨u,r1,v,r2,w,Yh q3,rfl⟩
 unfold Kq;rw[hb,bdT hup,bdT q4,bdT c1,bdT f2,bdT (red (inB _ hsub2) (by omega) (by omega)),z20 (m:=fw m k 2) λx=>?_];rw[z7F,gO];constructor
 ·rintro⟨y,q1,q2⟩;obtain⟨w,q3,rfl⟩:=pQ.1 q2;obtain⟨u,r1,v,r2,rfl⟩:=yi.1 (zS.1 q1);exact⟨u,r1,v,r2,w,q3,rfl⟩
 rintro⟨u,r1,v,r2,w,q2,rfl⟩;exact⟨u++v,zS.2 (yi.2 ⟨u,r1,v,r2,rfl⟩),pQ.2 ⟨w,q2,rfl⟩⟩
end
def zhR {l:List α}  {x:α}(h:l[i]?=some x):i<l.length:=(pf.1 h).1
section
variable {m p:z6}{F:TC}(h:VM m)(hc:Cpl m)(hF:Zk m F)(hp:zfx m F p)
include h hc hF hp
theorem zkE:VM p:=by
 have hz:=(z3P h hF).1;have hl:=hF.len;have l64:=h.y;have hkk:kk p=kk m:=by unfold kk;rw[hp.inp]
 have hke:=h.kk_eq;refine⟨by rw[hp.inp];exact h.in1,by rw[hp.inp];exact h.in16,by rw[hp.out];exact h.out1,by rw[hp.out];exact h.out16,by rw[hp.len];omega,by rw[hp.len];omega,λr hr=>?_,λr hr x hx=>?_⟩
 ·obtain⟨k,hk⟩:=gD.1 hr;have hkl:=zhR hk;rw[hp.len]at hkl;obtain⟨row,q1,q2,_⟩:=hp.row k hkl;rw[hk]at q1;cases q1;rw[hp.inp];omega
 obtain⟨k,hk⟩:=gD.1 hr;have hkl:=zhR hk;rw[hp.len]at hkl;obtain⟨row,q1,q2,q3⟩:=hp.row k hkl;rw[hk]at q1;cases q1;obtain⟨i,hi⟩:=gD.1 hx;have hil:=zhR hi;rw[q2]at hil;obtain⟨e,e1,e2,e3⟩:=q3 i hil;rw[hi]at e1;cases e1;obtain⟨_,f2,_⟩:=hF.at hkl;have he:=h.edgeAt f2 hil;have hcc:=hc _ i f2 hil;rw[hp.len,hp.out];rcases e3 with⟨g0,n,g1,g2,_⟩|⟨g0,_⟩
 ·right;omega
 omega
omit h in
theorem zhN:Cpl p:=by
 intro s i hs hi;rw[hp.len]at hs;have hkk:kk p=kk m:=by unfold kk;rw[hp.inp]
 rw[hkk]at hi;obtain⟨_,f2,_⟩:=hF.at hs;have hcc:=hc _ i f2 hi;rcases(znz hp hkk hs hi).2 with⟨_,n,g,_⟩|⟨g,_⟩
 ·rw[g];exact nB n
 omega
omit h hc in
theorem zen:ziy p:=by
 intro s t hs ht hst;rw[hp.len]at hs ht;have hkk:kk p=kk m:=by unfold kk;rw[hp.inp]
 refine hF.uniq hs ht λw hw=>?_;rw[<-z7r hF hp w s hs hw,<-z7r hF hp w t ht hw];exact hst w (by rw[hkk];exact hw)
omit h hF hp in
theorem zdN {s t i:Nat}(hs:s<m.i.length)(ht:t<m.i.length)(hi:i<kk m)(q:SEq m s t):SEq m (E m s i).o.toNat (E m t i).o.toNat:=by
 have a:=hc s i hs hi;have b:=hc t i ht hi;intro w hw;have:=q (i::w) λj hj=>by
  rcases pl.1 hj with rfl|hj
  ·exact hi
  exact hw j hj
 simp only[rsp,uJ,List.cons.injEq]at this;rw[mQ a,mQ b];exact this.2
theorem zbi:∀(v:TC) (k s:Nat),k<F.length->s<m.i.length->Wd (kk m) v->SEq m F[k]! s->∃n t:Nat,aft p (k:Int) v=(n:Int)/\n<F.length/\aft m (s:Int) v=(t:Int)/\t<m.i.length/\SEq m F[n]! t
 |[],k,s,hk,hs,_,q=>⟨k,s,rfl,hk,rfl,hs,q⟩
 |i::v,k,s,hk,hs,hv,q=>by
  have hkk:kk p=kk m:=by unfold kk;rw[hp.inp]
  have hi:=hv i (by simp);obtain⟨_,f2,_⟩:=hF.at hk;have hcs:=hc s i hs hi;have hes:=h.edgeAt hs hi;rcases(znz hp hkk hk hi).2 with⟨g0,n,g1,g2,g3⟩|⟨g,_⟩
  ·have hstep:=zdN hc f2 hs hi q;obtain⟨n',t',r1,r2,r3,r4,r5⟩:=zbi v n (E m s i).o.toNat g2 (by omega) (λj hj=>hv j (by simp[hj])) (g3.trans hstep);refine⟨n',t',?_,r2,?_,r4,r5⟩
   ·simp only[aft,uJ,g1];exact r1
   simp only[aft,uJ];rw[<-mQ hcs];exact r3
  have:=hc _ i f2 hi;omega
theorem zem:ziv p:=by
 intro t ht;rw[hp.len]at ht;have hkk:kk p=kk m:=by unfold kk;rw[hp.inp]
 have hz:=z3P h hF;obtain⟨f1,f2,_⟩:=hF.at ht;obtain⟨_,v,hv⟩:=hF.acc _ f1;obtain⟨n,u,a,b,c,_,d⟩:=zbi h hc hF hp v 0 0 hz.1 (by have:=h.J;omega) hv.wd (by rw[hz.2];exact SEq.refl 0);have hu:u=F[t]!:=by have e:aft m 0 v=(u:Int):=c;rw[hv.aft]at e;omega
 subst hu;have hn:=hF.uniq b ht d;subst hn;exact⟨v,by rw[hkk];exact hv.wd,a⟩
end
def ed (rows:List (List z8))(s i:Nat):z8:=((rows[s]?.getD [])[i]?).getD ⟨-1,-1⟩
structure TM (n k o:Nat)(rows:List (List z8)):Prop where
 len:rows.length=n
 row:∀(s:Nat) (r:List z8),rows[s]?=some r->r.length=k
 edge:∀s i,s<n->i<k->-1<=(ed rows s i).o/\(ed rows s i).o<(n:Int)/\0<=(ed rows s i).r/\(ed rows s i).r<(o:Int)
section
variable {n k o:Nat}{rows:List (List z8)}
def TM.rowAt (h:TM n k o rows){s:Nat}(hs:s<n):∃r,rows[s]?=some r/\r.length=k/\∀i,i<k->r[i]?=some (ed rows s i):=by
 have hsl:s<rows.length:=by rw[h.len];exact hs
 have hr:rows[s]?=some rows[s]:=pe hsl;have hl:=h.row s _ hr;refine⟨_,hr,hl,λi hi=>?_⟩;unfold ed;rw[hr,pW,pe (by omega),pW]
def TM.upd (h:TM n k o rows){s i:Nat}(hs:s<n)(hi:i<k){r:List z8}(hr:rows[s]?=some r){t:Int}(t0:-1<=t)(t1:t<(n:Int)) :
  TM n k o (rows.set s (r.set i ⟨t,(ed rows s i).r⟩))/\∀s' i',ed (rows.set s (r.set i ⟨t,(ed rows s i).r⟩)) s' i'=if s'=s/\i'=i then⟨t,(ed rows s i).r⟩ else ed rows s' i':=by
 have hsl:s<rows.length:=by rw[h.len];exact hs
 have hrl:=h.row s r hr;have q2:=h.edge s i hs hi;generalize (ed rows s i).r=oo at q2⊢;have key:∀s' i',ed (rows.set s (r.set i ⟨t,oo⟩)) s' i'=if s'=s/\i'=i then⟨t,oo⟩ else ed rows s' i':=by
  intro s' i';by_cases e:s'=s
  ·subst e
   conv=>lhs;unfold ed
   rw[gM hsl,pW];by_cases e2:i'=i
   ·subst e2;rw[gM (by omega),if_pos ⟨rfl,rfl⟩,pW]
   rw[gC (λq=>e2 q.symm),if_neg (λq=>e2 q.2)];unfold ed;rw[hr,pW]
  conv=>lhs;unfold ed
  rw[gC (λq=>e q.symm),if_neg (λq=>e q.1)];rfl
 refine⟨⟨by rw[rW];exact h.len,λs' r' hr'=>?_,λs' i' hs' hi'=>?_⟩,key⟩
 ·rw[rE]at hr';split at hr'
  ·cases hr';rw[rW];exact hrl
  exact h.row s' r' hr'
 rw[key];have q:=h.edge s' i' hs' hi';split
 ·rename_i e;exact⟨t0,t1,q2.2.2.1,q2.2.2.2⟩
 exact q
def TM.idx2 (h:TM n k o rows){s i:Nat}(hs:s<n)(hi:i<k):∃r,rows[s]?=some r/\r.length=k/\r[i]?=some (ed rows s i):=by obtain⟨r,h1,h2,h3⟩:=h.rowAt hs;exact⟨r,h1,h2,h3 i hi⟩
end
def z3G (l:TB)(hl:∀v∈l,0<=v/\v<=65535){q:Int}(hq:0<=q):Ret (Yi l q) λv=>0<=v/\v<=65535:=by unfold Yi;rw[zy];refine⟨λhc=>?_,λ_=>z7.2 (by omega)⟩;have hc:q<((l.length:Nat):Int):=of_decide_eq_true hc;have hx:l[q.toNat]?=some l[q.toNat]:=pe (by omega);rw[zm,z7s];have:=hl _ (pI hx);exact⟨hq,_,hx,z7.2 (by rw[zA (by omega) (by omega)];exact this)⟩
structure zlQ (x:yj):Prop where
 s0:0<=x.G
 i0:0<=x.j
 o0:0<=x.m
 t0:∀v∈x.Tree,0<=v/\v<=255
 e0:∀v∈x.Edges,0<=v/\v<=65535
variable {rows:List (List z8)}
section
variable {x:yj}(h:zlQ x){n k o:Nat}(hn:w64 (1+w64 (Int.tmod x.G 6))=(n:Int))(hk:w64 (1+w64 (Int.tmod x.j 3))=(k:Int))(ho:w64 (1+w64 (Int.tmod x.m 3))=(o:Int))
 (n1:1<=n/\n<=6) (k1:1<=k/\k<=3) (o1:1<=o/\o<=3)
include h hn hk ho n1 k1 o1
theorem ze0 {s:Nat}(hs:s<n):Ret (loop (λst=>ZY x (s:Int) st.1 st.2) (([]:List z8),0)) λr=>r.length=k/\∀e∈r,e.o=-1/\0<=e.r/\e.r<(o:Int):=by
 refine zG (λst=>∃i:Nat,st.2=(i:Int)/\i<=k/\st.1.length=i/\∀e∈st.1,e.o=-1/\0<=e.r/\e.r<(o:Int)) (λst=>10-st.2.toNat) ⟨0,rfl,by omega,rfl,by simp⟩ (by show 10-_<_;omega) ?_;rintro⟨row,_⟩ ⟨i,rfl,h1,h2,h3⟩;simp only at h2 h3;show Ret (ZY x (s:Int) row (i:Int)) _;unfold ZY;rw[hk,hn,ho,zy];have hsk:s*k<=5*3:=mE (by omega) (by omega);have w1:w64 ((s:Int)*(k:Int))=((s*k:Nat):Int):=by rw[zA (by rw[<-mU];omega) (by rw[<-mU];omega)];exact(mU s k).symm
 refine⟨λhc=>?_,λhc=>z7.2 ⟨by have:=of_decide_eq_false hc;omega,h3⟩⟩;have hc:(i:Int)<(k:Int):=of_decide_eq_true hc;rw[w1,zA (x:=((s*k:Nat):Int)+(i:Int)) (by omega) (by omega),zm];refine(z3G x.Edges h.e0 (q:=((s*k:Nat):Int)+(i:Int)) (by omega)).mono λv hv=>?_;have d0:0<=Int.tdiv v n/\Int.tdiv v n<=v:=by rw[rT hv.1];exact⟨Int.ediv_nonneg hv.1 (by omega),Int.ediv_le_self _ hv.1⟩
 rw[gdT (by omega),gdT (by omega),gdT (by simp;omega),z7,zA (x:=Int.tdiv v n) (by omega) (by omega),zA (x:=(i:Int)+1) (by omega) (by omega)];refine⟨⟨i+1,rfl,by omega,by simp[h2],λe he=>?_⟩,by simp only;omega⟩;rcases pg.1 he with q|q
 ·exact h3 e q
 simp only[pl,hZ,or_false]at q;subst q;exact⟨rfl,rX _ d0.1,s5 _ (by omega)⟩
theorem zaF:Ret (loop (λst=>ZZ x st.1 st.2) (([]:List (List z8)),0)) λrows=>TM n k o rows/\∀s i,s<n->i<k->(ed rows s i).o=-1:=by
 refine zG (λst=>∃s:Nat,st.2=(s:Int)/\s<=n/\st.1.length=s/\∀r∈st.1,r.length=k/\∀e∈r,e.o=-1/\0<=e.r/\e.r<(o:Int)) (λst=>10-st.2.toNat) ⟨0,rfl,by omega,rfl,by simp⟩ (by show 10-_<_;omega) ?_;rintro⟨rows,_⟩ ⟨s,rfl,h1,h2,h3⟩;simp only at h2 h3;show Ret (ZZ x rows (s:Int)) _;unfold ZZ;rw[hn,zy];refine⟨λhc=>?_,λhc=>?_⟩
 ·have hc:(s:Int)<(n:Int):=of_decide_eq_true hc;rw[zm];refine(ze0 h hn hk ho n1 k1 o1 (s:=s) (by omega)).mono λr hr=>?_;unfold WI WJ;rw[gdT (by simp;omega),z7,zA (x:=(s:Int)+1) (by omega) (by omega)];refine⟨⟨s+1,rfl,by omega,by simp[h2],λr' hr'=>?_⟩,by simp only;omega⟩;rcases pg.1 hr' with q|q
  ·exact h3 r' q
  simp only[pl,hZ,or_false]at q;subst q;exact hr
 have hsn:s=n:=by have:=of_decide_eq_false hc;omega
 have all:∀s i,s<n->i<k->(ed rows s i).o=-1/\0<=(ed rows s i).r/\(ed rows s i).r<(o:Int):=by intro t i ht hi;have hr:rows[t]?=some rows[t]:=pe (by omega);obtain⟨g1,g2⟩:=h3 _ (pC (by omega:t<rows.length));have hx:(rows[t])[i]?=some (rows[t])[i]:=pe (by omega);unfold ed;rw[hr,pW,hx,pW];exact g2 _ (pC _)
 refine z7.2 ⟨⟨by omega,λt r hr=>(h3 r (pI hr)).1,λt i ht hi=>?_⟩,λt i ht hi=>(all t i ht hi).1⟩;obtain⟨a,b,c⟩:=all t i ht hi;omega
omit h hn hk ho n1 k1 o1 in
theorem zan:∀a:Nat,a<=100->w64 (a:Int)=(a:Int):=λa ha=>zA (by omega) (by omega)
omit h hn hk ho n1 o1 in
theorem zgf {c s:Nat}(hc:c<s*k):c/k<s/\c%k<k/\Int.tdiv (c:Int) (k:Int)=((c/k:Nat):Int)/\Int.tmod (c:Int) (k:Int)=((c%k:Nat):Int) :=
 ⟨Nat.div_lt_of_lt_mul (by rw[rJ];exact hc),Nat.mod_lt _ (by omega),by rw[rT (by omega)];rfl,by rw[Int.tmod_eq_emod_of_nonneg (by omega)];rfl⟩
omit h hn ho o1 in
theorem zeS (hT:TM n k o rows){s:Nat}(s1:1<=s)(sn:s<n)(hfree:∀i,i<k->(ed rows (s-1) i).o=-1) :
  Ret (loop (λst=>Y0 x rows (s:Int) st.1 st.2) (([]:TB),0)) λfr=>fr≠[]/\fr.length<=100/\∀c∈fr,∃q:Nat,c=(q:Int)/\q<s*k/\(ed rows (q/k) (q%k)).o<0:=by
 have hsk:s*k<=5*3:=mE (by omega) (by omega);refine zG (λst=>∃q:Nat,st.2=(q:Int)/\q<=s*k/\st.1.length<=q/\((s-1)*k<q->st.1≠[])/\∀c∈st.1,∃q:Nat,c=(q:Int)/\q<s*k/\(ed rows (q/k) (q%k)).o<0) (λst=>20-st.2.toNat) ⟨0,rfl,by omega,by simp,by omega,by simp⟩ (by show 20-_<_;omega) ?_;rintro⟨fr,_⟩ ⟨q,rfl,h1,h2,h3,h4⟩;simp only at h2 h3 h4;show Ret (Y0 x rows (s:Int) fr (q:Int)) _;unfold Y0;have w1:w64 ((s:Int)*(k:Int))=((s*k:Nat):Int):=by rw[zA (by rw[<-mU];omega) (by rw[<-mU];omega)];exact(mU s k).symm
 rw[hk,w1,zy];refine⟨λhc=>?_,λhc=>?_⟩
 ·have hc:((q:Nat):Int)<((s*k:Nat):Int):=of_decide_eq_true hc;have hqs:q<s*k:=by omega
  obtain⟨d1,d2,d3,d4⟩:=zgf k1 hqs;obtain⟨r,r1,r2,r3⟩:=hT.idx2 (s:=q/k) (i:=q%k) (by omega) d2;rw[gdT (by omega),d3,zan (q/k) (by omega),bdT (zr r1),gdT (by omega),d4,bdT (zr r3),zy];have w2:w64 ((q:Int)+1)=((q+1:Nat):Int):=by rw[zA (by omega) (by omega)];rfl
  unfold Y1;refine⟨λht=>?_,λht=>?_⟩
  ·have ht:(ed rows (q / k) (q % k)).o<0:=of_decide_eq_true ht;rw[gdT (by simp;omega),z7,w2];refine⟨⟨q+1,rfl,by omega,by simp;omega,λ_=>by simp,λc hc=>?_⟩,by simp only[ph];omega⟩;rcases pg.1 hc with g|g
   ·exact h4 c g
   simp only[pl,hZ,or_false]at g;exact⟨q,g,hqs,ht⟩
  have ht:=of_decide_eq_false ht;rw[z7,w2];refine⟨⟨q+1,rfl,by omega,by simp only;omega,λhlt=>?_,h4⟩,by simp only[ph];omega⟩;by_cases e:(s-1)*k<q
  ·exact h3 e
  exfalso;have e2:q=(s-1)*k:=by omega
  have:q/k=s-1:=by rw[e2];exact Nat.mul_div_cancel _ (by omega)
  have q2:=hfree (q%k) d2;rw[this,q2]at ht;omega
 have hc:=of_decide_eq_false hc;have e:(s-1)*k<s*k:=Nat.mul_lt_mul_of_pos_right (by omega) (by omega);exact z7.2 ⟨h3 (by omega),by omega,h4⟩
structure Tree (s:Nat)(rows:List (List z8)):Prop where
 tm:TM n k o rows
 par:∀t,1<=t->t<s->∃r i,r<t/\i<k/\(ed rows r i).o=(t:Int)
 free:∀r i,s<=r+1->r<n->i<k->(ed rows r i).o=-1
omit h hn ho o1 in
theorem zhD {rows:List (List z8)}{s:Nat}(s1:1<=s)(sn:s<n)(hT:Tree (n:=n) (k:=k) (o:=o) s rows){q:Nat}(hq:q<s*k)(hf:(ed rows (q/k) (q%k)).o<0) :
  ∃rows',uF x rows (s:Int) (q:Int)=some (.next (rows',((s+1:Nat):Int)))/\Tree (n:=n) (k:=k) (o:=o) (s+1) rows':=by
 have hsk:s*k<=5*3:=mE (by omega) (by omega);obtain⟨d1,d2,d3,d4⟩:=zgf k1 hq;obtain⟨r,r1,r2,r3⟩:=hT.tm.idx2 (s:=q/k) (i:=q%k) (by omega) d2;obtain⟨u1,u2⟩:=hT.tm.upd (s:=q/k) (i:=q%k) (by omega) d2 r1 (t:=(s:Int)) (by omega) (by omega);refine⟨_,?_,u1,λt t1 t2=>?_,λr' i g1 g2 g3=>?_⟩
 ·unfold uF VK;have w2:w64 ((s:Int)+1)=((s+1:Nat):Int):=by rw[zA (by omega) (by omega)];rfl
  rw[hk,gdT (by omega),d3,zan (q/k) (by omega),bdT (zr r1),gdT (by omega),d4,bdT (zr r3),w2];rfl
 ·by_cases e:t=s
  ·subst e;exact⟨q/k,q%k,d1,d2,by rw[u2,if_pos ⟨rfl,rfl⟩]⟩
  obtain⟨r',i,g1,g2,g3⟩:=hT.par t t1 (by omega);refine⟨r',i,g1,g2,?_⟩;rw[u2,if_neg,g3];rintro⟨rfl,rfl⟩;omega
 rw[u2,if_neg (by rintro⟨e,_⟩;omega)];exact hT.free r' i (by omega) g2 g3
omit ho o1 in
theorem zcK (hT:TM n k o rows)(hfree:∀s i,s<n->i<k->(ed rows s i).o=-1):Ret (loop (λst=>YS x st.1 st.2) (rows,1)) (Tree (n:=n) (k:=k) (o:=o) n):=by
 refine zG (λst=>∃s:Nat,st.2=(s:Int)/\1<=s/\s<=n/\Tree (n:=n) (k:=k) (o:=o) s st.1) (λst=>10-st.2.toNat) ⟨1,rfl,by omega,by omega,hT,λt _ _=>by omega,λr i _=>hfree r i⟩ (by show 10-_<_;omega) ?_;rintro⟨rows,_⟩ ⟨s,rfl,s1,sn,hS⟩;simp only at hS;show Ret (YS x rows (s:Int)) _;unfold YS;rw[hn,zy];refine⟨λhc=>?_,λhc=>?_⟩
 ·have hc:(s:Int)<(n:Int):=of_decide_eq_true hc;have hsn:s<n:=by omega
  rw[zm];refine(zeS hk n1 k1 hS.tm s1 hsn λi hi=>hS.free (s-1) i (by omega) (by omega) hi).mono λfr hfr=>?_;obtain⟨f1,f2,f3⟩:=hfr;have flen:0<fr.length:=mZ.2 f1;have fin:∀c∈fr,Ret (uF x rows (s:Int) c) (LRP (λs'=>(∃s:Nat,s'.2=(s:Int)/\1<=s/\s<=n/\Tree (n:=n) (k:=k) (o:=o) s s'.1)/\10-s'.2.toNat<10-(s:Int).toNat) (Tree (n:=n) (k:=k) (o:=o) n)):=by intro c hc;obtain⟨q,rfl,q1,q2⟩:=f3 c hc;obtain⟨rows',e,g⟩:=zhD hk n1 k1 s1 hsn hS q1 q2;rw[e,z7];exact⟨⟨s+1,rfl,by omega,by omega,g⟩,by simp only[ph];omega⟩
  unfold WK;have e0:fr[0]?=some fr[0]:=pe flen;have w3:w64 ((s:Int)-1)=((s-1:Nat):Int):=by rw[zA (by omega) (by omega)];omega
  rw[bdT (show idx fr 0=some fr[0] from e0),w3,zy];refine⟨λhc2=>?_,λ_=>fin _ (pC _)⟩;have hc2:((s-1:Nat):Int)<((x.Tree.length:Nat):Int):=of_decide_eq_true hc2;have hx:x.Tree[s-1]?=some x.Tree[s-1]:=pe (by omega);have hv:=h.t0 _ (pC (by omega:s-1<x.Tree.length));rw[bdT (zr hx),gdT (by omega),zA (x:=x.Tree[s-1]) (by omega) (by omega)];have m1:=rX (fr.length:Int) hv.1;have m2:=s5 x.Tree[s-1] (show(0:Int)<(fr.length:Int) by omega);have hy:fr[(Int.tmod x.Tree[s-1] (fr.length:Int)).toNat]?=some fr[(Int.tmod x.Tree[s-1] (fr.length:Int)).toNat]:=pe (by omega);rw[zm,z7s];exact⟨m1,_,hy,fin _ (pC _)⟩
 have hsn:s=n:=by have:=of_decide_eq_false hc;omega
 subst hsn;exact z7.2 hS
structure zlq (s i:Nat)(rows:List (List z8)):Prop where
 tm:TM n k o rows
 par:∀t,1<=t->t<n->∃r i,r<t/\i<k/\(ed rows r i).o=(t:Int)
 full:∀r j,r<n->j<k->r<s\/r=s/\j<i->0<=(ed rows r j).o
omit ho o1 in
theorem z7S {rows:List (List z8)}{s:Nat}(sn:s<n)(hF:zlq (n:=n) (k:=k) (o:=o) s 0 rows):Ret (loop (λst=>YT x (s:Int) st.1 st.2) (rows,0)) (zlq (n:=n) (k:=k) (o:=o) (s+1) 0):=by
 have hsk:s*k<=5*3:=mE (by omega) (by omega);refine zG (λst=>∃i:Nat,st.2=(i:Int)/\i<=k/\zlq (n:=n) (k:=k) (o:=o) s i st.1) (λst=>10-st.2.toNat) ⟨0,rfl,by omega,hF⟩ (by show 10-_<_;omega) ?_;rintro⟨rows,_⟩ ⟨i,rfl,ik,hS⟩;simp only at hS;show Ret (YT x (s:Int) rows (i:Int)) _;unfold YT;have w1:w64 ((s:Int)*(k:Int))=((s*k:Nat):Int):=by rw[zA (by rw[<-mU];omega) (by rw[<-mU];omega)];exact(mU s k).symm
 rw[hk,hn,w1,zy];refine⟨λhc=>?_,λhc=>?_⟩
 ·have hc:(i:Int)<(k:Int):=of_decide_eq_true hc;have hik:i<k:=by omega
  obtain⟨r,r1,r2,r3⟩:=hS.tm.idx2 sn hik;have w2:w64 ((i:Int)+1)=((i+1:Nat):Int):=by rw[zA (by omega) (by omega)];rfl
  rw[bdT (zr r1),bdT (zr r3),zy];unfold YV;refine⟨λht=>?_,λht=>?_⟩
  ·have ht:(ed rows s i).o<0:=of_decide_eq_true ht;rw[bdT (zr r1),zA (x:=((s*k:Nat):Int)+(i:Int)) (by omega) (by omega),zm];refine(z3G x.Edges h.e0 (q:=((s*k:Nat):Int)+(i:Int)) (by omega)).mono λv hv=>?_;have m1:=rX (n:Int) hv.1;have m2:=s5 v (show(0:Int)<(n:Int) by omega);obtain⟨u1,u2⟩:=hS.tm.upd sn hik r1 (t:=Int.tmod v n) (by omega) m2;rw[gdT (by omega),bdT (zr r3),z7,w2];refine⟨⟨i+1,rfl,by omega,u1,λt t1 t2=>?_,λr' j g1 g2 g3=>?_⟩,by simp only[ph];omega⟩
   ·obtain⟨r',j,g1,g2,g3⟩:=hS.par t t1 t2;refine⟨r',j,g1,g2,?_⟩;show(ed (rows.set s (r.set i ⟨Int.tmod v n,(ed rows s i).r⟩)) r' j).o=_;rw[u2,if_neg,g3];rintro⟨rfl,rfl⟩;omega
   show 0<=(ed (rows.set s (r.set i ⟨Int.tmod v n,(ed rows s i).r⟩)) r' j).o;rw[u2];split
   ·exact m1
   rename_i e;exact hS.full r' j g1 g2 (by rcases g3 with g3|⟨rfl,g3⟩;exact .inl g3;exact .inr ⟨rfl,by have:¬j=i:=λq=>e ⟨rfl,q⟩;omega⟩)
  have ht:=of_decide_eq_false ht;rw[z7,w2];refine⟨⟨i+1,rfl,by omega,hS.tm,hS.par,λr' j g1 g2 g3=>?_⟩,by simp only[ph];omega⟩;rcases g3 with g3|⟨rfl,g3⟩
  ·exact hS.full r' j g1 g2 (.inl g3)
  by_cases e:j=i
  ·subst e;show 0<=(ed rows r' j).o;omega
  exact hS.full r' j g1 g2 (.inr ⟨rfl,by omega⟩)
 have hik:i=k:=by have:=of_decide_eq_false hc;omega
 subst hik;exact z7.2 ⟨hS.tm,hS.par,λr' j g1 g2 g3=>hS.full r' j g1 g2 (by omega)⟩
omit ho o1 in
theorem zeU {rows:List (List z8)}(hT:Tree (n:=n) (k:=k) (o:=o) n rows):Ret (loop (λst=>YU x st.1 st.2) (rows,0)) (zlq (n:=n) (k:=k) (o:=o) n 0):=by
 refine zG (λst=>∃s:Nat,st.2=(s:Int)/\s<=n/\zlq (n:=n) (k:=k) (o:=o) s 0 st.1) (λst=>10-st.2.toNat) ⟨0,rfl,by omega,hT.tm,hT.par,λr j _ _ g=>by omega⟩ (by show 10-_<_;omega) ?_;rintro⟨rows,_⟩ ⟨s,rfl,sn,hS⟩;simp only at hS;show Ret (YU x rows (s:Int)) _;unfold YU;rw[hn,zy];refine⟨λhc=>?_,λhc=>?_⟩
 ·have hc:(s:Int)<(n:Int):=of_decide_eq_true hc;rw[zm];refine(z7S h hn hk n1 k1 (s:=s) (by omega) hS).mono λr hr=>?_;unfold VL;rw[z7,zA (x:=(s:Int)+1) (by omega) (by omega)];exact⟨⟨s+1,rfl,by omega,hr⟩,by simp only;omega⟩
 have hsn:s=n:=by have:=of_decide_eq_false hc;omega
 subst hsn;exact z7.2 hS
end
def zhG {x:yj}(h:zlQ x):Ret (QS x) λm=>VM m/\m.j<=3/\m.i.length<=6/\(∀s i,s<m.i.length->i<kk m->0<=(E m s i).o)/\∀t,t<m.i.length->Rch m t:=by
 have hn':=z7z h.s0 (k:=6) (by omega) (by omega);have hi':=z7z h.i0 (k:=3) (by omega) (by omega);have ho':=z7z h.o0 (k:=3) (by omega) (by omega);obtain⟨n,hn⟩:∃n:Nat,w64 (1+w64 (Int.tmod x.G 6))=(n:Int):=⟨(w64 (1+w64 (Int.tmod x.G 6))).toNat,by omega⟩;obtain⟨k,hk⟩:∃n:Nat,w64 (1+w64 (Int.tmod x.j 3))=(n:Int):=⟨(w64 (1+w64 (Int.tmod x.j 3))).toNat,by omega⟩;obtain⟨o,ho⟩:∃n:Nat,w64 (1+w64 (Int.tmod x.m 3))=(n:Int):=⟨(w64 (1+w64 (Int.tmod x.m 3))).toNat,by omega⟩;rw[hn]at hn';rw[hk]at hi';rw[ho]at ho';have n1:1<=n/\n<=6:=by omega
 have k1:1<=k/\k<=3:=by omega
 have o1:1<=o/\o<=3:=by omega
 unfold QS VP VO VN;rw[gdT (by decide),gdT (by decide),gdT (by decide),zm];refine(zaF h hn hk ho n1 k1 o1).mono λr0 h0=>?_;rw[zm];refine(zcK h hn hk n1 k1 h0.1 h0.2).mono λr1 h1=>?_;rw[zm];refine(zeU h hn hk n1 k1 h1).mono λr hF=>?_;rw[z7,hk,ho];have hlen:r.length=n:=hF.tm.len;have hkk:kk (z6.mk (k:Int) (o:Int) r)=k:=by show(k:Int).toNat=k;omega
 have hfull:∀s i,s<n->i<k->0<=(ed r s i).o:=λs i a b=>hF.full s i a b (.inl a);refine⟨⟨by show(1:Int)<=(k:Int);omega,by show(k:Int)<=16;omega,by show(1:Int)<=(o:Int);omega,by show(o:Int)<=16;omega,by show 1<=r.length;omega,by show r.length<=64;omega,λrow hr=>?_,λrow hr e he=>?_⟩,by show(k:Int)<=3;omega,by show r.length<=6;omega,λs i hs hi=>?_,?_⟩
 ·obtain⟨s,hs⟩:=gD.1 hr;have:=hF.tm.row s row hs;show((row.length:Nat):Int)=(k:Int);omega
 ·obtain⟨s,hs⟩:=gD.1 hr;have hrow:=hF.tm.row s row hs;have hsl:s<n:=by have:=(pf.1 hs).1;rw[hlen]at this;exact this
  obtain⟨i,hi⟩:=gD.1 he;have hil:i<k:=by have:=(pf.1 hi).1;omega
  have e1:ed r s i=e:=by unfold ed;rw[hs,pW,hi,pW]
  have q1:=hF.tm.edge s i hsl hil;have q2:=hfull s i hsl hil;rw[e1]at q1 q2;exact .inr ⟨q2,by show e.o<((r.length:Nat):Int);rw[hlen];exact q1.2.1,q1.2.2.1,q1.2.2.2⟩
 ·exact hfull s i (by have hs:s<r.length:=hs;omega) (by rw[hkk]at hi;exact hi)
 have gen:∀b t,t<b->t<n->Rch (z6.mk (k:Int) (o:Int) r) t:=by
  intro b;induction b with
  |zero=>intro t q;omega
  |succ b ih=>
   intro t q ht;by_cases e:t=0
   ·subst e;exact⟨[],(λi hi=>by cases hi),rfl⟩
   obtain⟨s,i,g1,g2,g3⟩:=hF.par t (by omega) ht;have e3:(E (z6.mk (k:Int) (o:Int) r) s i).o=(t:Int):=g3;have:=rch_step (m:=z6.mk (k:Int) (o:Int) r) (i:=i) (ih s (by omega) (by omega)) (by rw[hkk];exact g2) (by rw[e3];omega);rw[e3]at this;exact this
 intro t ht;exact gen (t+1) t (by omega) (by have ht:t<r.length:=ht;omega)
def zix {x:Yn}(h:zlQ x.C):Ret (QR x) λm=>KM m/\kk m<=3:=by
 unfold QR;rw[gdT (by decide),zm];have h':zlQ (yj.mk (Int.tmod x.C.G 5) x.C.j x.C.m x.C.Tree x.C.Edges):=⟨rX _ h.s0,h.i0,h.o0,h.t0,h.e0⟩;refine(zhG h').mono λm hm=>?_;obtain⟨h1,h2,h3,h4,h5⟩:=hm;have k1:=h1.kk_pos;have k2:=h1.kk_eq;have hG:GG (kk m) m.i.length<=1000000000:=by
  have e:kk m=1\/kk m=2\/kk m=3:=by omega
  have hm:GG (kk m) m.i.length<=GG (kk m) 8:=JY (by omega);rcases e with e|e|e<;>rw[e]at hm⊢<;>exact pm hm (by decide)
 rw[zm];refine(z7E h1 hG).mono λp hp=>?_;obtain⟨F,hF,hp⟩:=hp;have hc:Cpl m:=h4;have hl:=hF.len;have hi:=hp.inp;have hv:=zkE h1 hc hF hp;have hk:=hv.kk_eq;exact z7.2 ⟨⟨hv,zhN hc hF hp,zen hF hp,zem h1 hc hF hp,by rw[hi];omega,by rw[hp.len];omega⟩,by omega⟩
def z6r:JQ=some true:=by kernel_rfl
def Ok5 (a:Int):Prop:=(0)<=a/\a<=255
def zoT (l:TB):Prop:=∀a∈l,Ok5 a
def zlL (a:Int):Prop:=(0)<=a/\a<=65535
def zoS (l:TB):Prop:=∀a∈l,zlL a
def zoR (a:yj):Prop:=Ok5 a.G/\Ok5 a.j/\Ok5 a.m/\zoT a.Tree/\zoS a.Edges
def zoQ (a:Yn):Prop:=zoR a.C
def zdX (h:KM m)  (hk:kk m<=3/\k<=2\/k<=1)(hs:s<=2):qS (Ud (srt (fw m k s))) (Ud (srt (fw m k s)))=some true:=by have h1:=zaK h hk hs;unfold qS;rw[bdT (zeb _ _ (by omega) λx q=>by have:=(zbJ h (by omega) hs (zS.1 (Wf.1 q).1)).1;omega),decide_eq_true rfl,cond_true,beq_self_eq_true]
def zeK {x:Yn}{budget:Int}(hx:zoQ x)(he:zlL budget):Zf x budget=some true:=by
 obtain⟨m,e0,h,hk⟩:=zix (x:=x) ⟨hx.1.1,hx.2.1.1,hx.2.2.1.1,hx.2.2.2.1,hx.2.2.2.2⟩;have hl:=h.len;have hb:w64 (((m.i.length:Nat):Int)+1)=((m.i.length+1:Nat):Int):=by rw[zA (by omega) (by omega)];omega
 obtain⟨b,hb1,hb2,hbb⟩:∃b:Int,1<=b/\b<=200/\w64 (1+Int.tmod (w64 budget) 200)=b:=by have h1:=he.1;have h2:=he.2;have e1:Int.tmod budget 200=budget%200:=Int.tmod_eq_emod_of_nonneg h1;refine⟨1+budget%200,by omega,by omega,?_⟩;rw[zA (x:=budget) (by omega) (by omega),e1,zA (by omega) (by omega)]
 have hkk:kk m<=3/\1<=2\/1<=1:=.inr (by omega);obtain⟨w0,w1,w2⟩:=zp5 h (k:=1) (by omega) (b:=b) (by omega) (by omega);obtain⟨r0,r1,r2⟩:=zhz h hkk;obtain⟨R,hR⟩:∃R:Nat->TA,R=λs=>Ud (srt (fw m 1 s)):=⟨_,rfl⟩;obtain⟨G,hG⟩:∃G:Nat->TA×Int,G=λs=>if((R s).length:Int)<=b then(R s,0) else([],13):=⟨_,rfl⟩;have bd:∀s,s<=2->ww s m ((m.i.length+1:Nat):Int) b=some (G s):=λs hs=>by rw[z1k h (by omega) hs (by omega) (by omega),hG,hR]
 have hr:∀s,s<=2->qS (R s) (R s)=some true:=λs hs=>by rw[hR];exact zdX h hkk hs
 have hloop:loop (λs=>yz budget (R 0) (R 1) (R 2) (G 0) (G 1) (G 2) s) 0=some (.inl ()):=by
  refine yY (step:=λs=>yz budget (R 0) (R 1) (R 2) (G 0) (G 1) (G 2) s) (λi=>((i:Nat):Int)) 3 (by omega) (λs hs=>?_) ?_
  ·have x1:(xT.toL (xT.mk (R 0) (R 1) (R 2)))[s]?=some (R s)/\(xT.toL (xT.mk (G 0).2 (G 1).2 (G 2).2))[s]?=some (G s).2/\(xT.toL (xT.mk (G 0).1 (G 1).1 (G 2).1))[s]?=some (G s).1:=by rcases(by omega:s=0\/s=1\/s=2) with rfl|rfl|rfl <;> exact⟨rfl,rfl,rfl⟩
   obtain⟨x1,x2,x3⟩:=x1;have hg:G s=if((R s).length:Int)<=b then(R s,0) else([],13):=by rw[hG]
   show yz budget (R 0) (R 1) (R 2) (G 0) (G 1) (G 2) ((s:Nat):Int)=_;unfold yz xh;have hw:w64 ((s:Int)+1)=((s+1:Nat):Int):=by rw[zA (by omega) (by omega)];omega
   rw[decide_eq_true (by omega),cond_true,hbb,hw];simp only[zr x1,zr x2,zr x3,oB];by_cases q:((R s).length:Int)<=b
   ·rw[hg,if_pos q,decide_eq_false (by omega),decide_eq_true q];simp only[cond_false,cond_true,show((0:Int) !=0)=false from rfl,bdT (hr s (by omega)),gP]
   rw[hg,if_neg q,decide_eq_true (by omega),decide_eq_false q];rfl
  show yz budget (R 0) (R 1) (R 2) (G 0) (G 1) (G 2) 3=_;unfold yz;rfl
 rw[show Ud (srt (fw m 1 0))=R 0 by rw[hR]]at r0;rw[show Ud (srt (fw m 1 1))=R 1 by rw[hR]]at r1;rw[show Ud (srt (fw m 1 2))=R 2 by rw[hR]]at r2;unfold Zf;rw[bdT e0,gdT (by decide),hb,hbb,bdT r0,bdT r1,bdT r2,w0,w1,w2,bdT (bd 0 (by omega)),bdT (bd 1 (by omega)),bdT (bd 2 (by omega)),bdT hloop];show vd=some true;unfold vd;rw[z6r];rfl
def z6T (w:World):zj:=λb o=>y6 w.heap b o
variable {v:Value}
def zc6 {w:World}{a:Addr}  (h:w.cell? a=some v):a.spot=none/\y6 w.heap a.block a.off=some v:=by
 unfold World.cell? at h;unfold y6;split at h
 ·rename_i c ty fr he;rw[he];split at h
  ·cases h
  rename_i hs;exact⟨by simpa using hs,h⟩
 cases h
variable {cs:TE}{S:zj}
section
variable {H:Type}{enc:TypeId×Value->H}{P:Program}{w:World}{base:Nat}{spare:Nat->Bool}{held:Bool}
def zc4 {a:Addr}   (h:w.cells? base a n=some cs)(hn:0<n):a.spot=none/\cs.length=n/\z3o (z6T w) a.block a.off cs:=by
 obtain⟨_,h2,h3⟩:=World.cells?_some h;have h0:a.spot=none:=by
  have h4:=h3 0 hn;cases hc:cs[0]? with
  |none=>rw[nZ]at hc;omega
  |some v=>rw[hc]at h4;have:=(zc6 h4).1;simpa[Addr.add] using this
 refine⟨h0,h2,λj v hj=>?_⟩;have hlt:=(pf.1 hj).1;have h4:=h3 j (by omega);rw[hj]at h4;have q:=(zc6 h4).2;unfold Addr.add at q;split at q
 ·rename_i e;subst e;exact q
 exact q
def z61:∀{bs:List A} {cs:TE} {a:A} {c:TE},yb S bs cs->Rep S a c->yb S (bs++[a]) (cs++c)
 |[],cs,a,c,h1,h2=>by simp only[yb]at h1;subst h1;simp only[pL,yb];exact⟨c,[],by simp,h2,rfl⟩
 |x::bs,cs,a,c,h1,h2=>by simp only[yb]at h1;obtain⟨c1,c2,rfl,r1,r2⟩:=h1;simp only[gK,yb];exact⟨c1,c2++c,by simp,r1,z61 r2 h2⟩
def zeA {b o:Nat}{c1 c2:TE}(h1:z3o S b o c1)(h2:z3o S b (o+c1.length) c2):z3o S b o (c1++c2):=by
 intro j v hj;rcases pD j c1.length with q|q
 ·rw[pA q]at hj;exact h1 j v hj
 rw[po q]at hj;have:=h2 _ _ hj;rwa[show o+c1.length+(j-c1.length)=o+j by omega]at this
def z5P {t e sz:Nat}(f:α->A)(ok:α->Prop)(ht:P.underlying t=some (.slice e))(hsz:P.cellsOf e=sz)(h0:0<sz)(hf:∀a,(f a).size=sz)
    (hel:∀n cs x,DataW.trod enc P w base spare held n e cs=some x->∃a,ok a/\Rep (z6T w) (f a) cs)
    {Ur:Nat} {cs:TE} {x:DataW H×List MemPlace} (h:DataW.trod enc P w base spare held Ur t cs=some x):∃l:List α,(∀a∈l,ok a)/\Rep (z6T w) (.sl sz false (l.map f)) cs:=by
  rcases DataW.trod_slice ht h with⟨rfl,_⟩|⟨a,len,cap,elems,rest,n,_,rfl,_,_,hlc,_,hlen,hall,_,_⟩
  · refine⟨[],by simp,?_⟩;simp only[Rep,nE,List.length_nil];exact⟨none,0,rfl,by simp,pi _,by simp,.inl trivial⟩
  have key:∀k,k<=len->∃(l:List α) (cells:TE),l.length=k/\(∀a∈l,ok a)/\yb (z6T w) (l.map f) cells/\cells.length=k*sz/\(0<k->a.spot=none)/\z3o (z6T w) a.block a.off cells:=by
    intro k;induction k with
    |zero=>intro _;exact⟨[],[],rfl,by simp,by simp[yb],by simp,by simp,λj v h=>by simp at h⟩
    | succ k ih=>
      intro hk;obtain⟨l,cells,q1,q2,q3,q4,q5,q6⟩:=ih (by omega);have hk':=hall k (by omega);have hsome:elems[k]?=some elems[k]:=pe (by omega);rw[hsome,Option.bind_eq_some_iff,hsz]at hk';obtain⟨c,hc,htr⟩:=hk';obtain⟨y,hy,hr⟩:=hel _ _ _ htr;obtain⟨g1,g2,g3⟩:=zc4 hc h0;refine⟨l++[y],cells++c,by simp[q1],?_,?_,?_,?_,?_⟩
      · intro z hz;rcases pg.1 hz with q|q
        · exact q2 z q
        simp only[pl,hZ,or_false]at q;subst q;exact hy
      · rw[gV];exact z61 q3 hr
      · rw[pF,q4,g2,rq]
      · intro _;rcases nR k with rfl|hk0
        · simpa[Addr.add] using g1
        exact q5 hk0
      refine zeA q6 ?_;rw[q4];unfold Addr.add at g3;split at g3
      · rename_i e0;rw[e0,mO];exact g3
      exact g3
  obtain⟨l,cells,q1,q2,q3,q4,q5,q6⟩:=key len (pi _);refine⟨l,q2,?_⟩;simp only[Rep,pY];refine⟨some a,cap,by rw[q1],by simp,by omega,?_,?_⟩
  · intro y hy;obtain⟨z,_,rfl⟩:=pQ.1 hy;exact hf z
  rcases nR len with rfl|hl
  · left;rw[List.length_eq_zero_iff.1 q1];rfl
  right;refine⟨a.block,a.off,cells,?_,q3,q6⟩;have:=q5 hl;obtain⟨b,o,s⟩:=a;simp only at this;subst this;rfl
def zbA {t:Nat}{k:IntKind}{lo hi:Int}(ht:P.underlying t=some (.int k))(hlo:k.min=lo)(hhi:k.max=hi){Ur:Nat}  {x:DataW H×List MemPlace}(h:DataW.trod enc P w base spare held Ur t cs=some x) :
  ∃n:Int,(lo<=n/\n<=hi)/\cs=[.int k n]/\Rep (z6T w) (.atom (.int k n)) cs:=by
 obtain⟨n,rfl,_,hw⟩:=DataW.trod_int ht h;simp only[Lit.wf,pB,decide_eq_true_eq,hlo,hhi]at hw;exact⟨n,hw,rfl,by simp only[Rep];exact⟨trivial,rfl⟩⟩
def Kd {t:Nat}{fs:List Field}(ht:P.underlying t=some (.struct ⟨fs⟩)){Ur:Nat}  {x:DataW H×List MemPlace}(h:DataW.trod enc P w base spare held Ur t cs=some x) :
  cs.length=P.cellsOf t/\∀(i:Nat) (f:Field),fs[i]?=some f->∃n y,DataW.trod enc P w base spare held n f.type ((cs.drop f.offset).take (P.cellsOf f.type))=some y:=by
 obtain⟨xs,n,_,_,hl,hxl,hall⟩:=DataW.trod_struct ht h;refine⟨hl,λi f hf=>?_⟩;have hlt:=(pf.1 hf).1;have:=hall i f (by simpa using hf);rw[pe (by rw[hxl];simpa using hlt)]at this;exact⟨n,_,this⟩
end
def V1 {a:A}{bs:List A}   (h1:Rep S a (cs.take n))(h2:yb S bs (cs.drop n)):yb S (a::bs) cs:=by simp only[yb];exact⟨cs.take n,cs.drop n,(mw n cs).symm,h1,h2⟩
variable {P:Program}
section
open Go Go.ChangeShapes Go.WideShapes Go.ChangeAt Go.RowKit
def zaX {P:Program}{H:Type}{enc:TypeId×Value->H}{f:Func}{s:ChangeSpec}{apart fresh handsOn again:Bool}{W W':World}{args:Array Value}{v:Value}{ds:List (DataW H)}{pa:List MemPlace}
  (hvar:s.vars=[]) (hvars2:(s.fn H (ds++[])).vars=[]) (hW:DataW.Whole enc P f.params.toList s.vars apart W args.toList ds [] (pa++[])) (hb:Below W.heap.size W W')
  (hres:∀(b:Nat) (sp:Nat->Bool) (hd:Bool),DataW.TrodAll enc P W' b sp hd f.resultTypes.toList (v.resultList f.resultTypes.size) (s.fn H (ds++[])).results [])
  (hargs:∀sp:Nat->Bool,(∀p∈pa++[],sp p.block=true)->DataW.TrodAll enc P W' 0 sp true f.params.toList args.toList (s.fn H (ds++[])).args pa)
  (hok:∀(j:Nat) (t:TypeId) (r:Value),f.resultTypes[j]?=some t->(v.resultList f.resultTypes.size)[j]?=some r->Value.okWide P W' .any 0 t r) :
  s.post enc P f apart fresh handsOn again W args v W':=by
 have hlt:∀p∈pa++[],p.block<W.heap.size:=λp hp=>by simpa using hW.lt p hp
 have hvr:∀sp:Nat->Bool,DataW.TrodVars enc P W' sp s.vars (s.fn H (ds++[])).vars []:=λsp=>by rw[hvar,hvars2];rfl
 refine⟨ds,[],pa++[],[],pa,[],hW,hres _ _ _,hargs _ (λp hp=>by simpa using hlt p hp),hvr _,World.keptBut_mono (λ_ q=>q.elim) (hb.frame λ_=>False),λ_=>?_⟩;obtain⟨_,_,_,_,_,hz,hn⟩:=hW;refine⟨hok,_,_,([]++pa)++[],⟨[]++pa,[],trodAll_append (hargs _ (λ_ _=>rfl)) (hres _ _ _),hvr _,rfl,?_,?_⟩,?_⟩
 ·intro b off hp;have hp':MemPlace.cell b off∈pa++[]:=by simpa using hp
  rw[hb.frozen (p:=⟨b,off,none⟩) (hlt _ hp')];exact hz b off hp'
 ·intro ha;simpa using hn ha
 intro p hp _;simpa using hp
end
def zdI {k:Nat}{α ρ:Type}{enc:α->List A}{encR:ρ->A}{F:α->Option ρ}{gives:List Bool}{inj:∀x y,enc x=enc y->x=y}(h:(spF k enc encR F gives inj).Ok P){x:α}{r:ρ}(hr:F x=some r):uQ P k (enc x) (encR r):=by have:=h x ⟨r,hr⟩;simpa only[spF,hr] using this
variable {fs:Array Field}
section
variable {P:Program}{w:World}{r:Reach}{base t:Nat}{v:Value}
def za4 (h:∀cs,v≠.agg cs):v=v.cells.toList.headD undef:=by cases v<;>first|rfl|exact(h _ rfl).elim
def zgu {k:IntKind}(hu:P.underlying t=some (.int k))(h:Value.okWide P w r base t v):v=v.cells.toList.headD undef:=by refine za4 λcs e=>?_;subst e;unfold Value.okWide at h;rw[hu]at h;simp only[Cell.okWide,hu,Cell.ok]at h
def z9p (hu:P.underlying t=some (.struct fs))(h:Value.okWide P w r base t v):v=.agg v.cells.toList.toArray:=by unfold Value.okWide at h;rw[hu]at h;obtain⟨cs,rfl,_⟩:=h;rfl
def ze8 {k:IntKind}  {a:A}(hu:P.underlying t=some (.int k))(hr:Rep S a v.cells.toList)(h:Value.okWide P w r base t v)(ha:a.isAgg=false):wS S a v:=⟨_,hr,by cases a<;>first|exact zgu hu h|cases ha⟩
def z7t {a:A}(hu:P.underlying t=some (.struct fs))(hr:Rep S a v.cells.toList)(h:Value.okWide P w r base t v)(ha:a.isAgg=true):wS S a v:=⟨_,hr,by cases a<;>first|exact z9p hu h|cases ha⟩
def zeO {h:Array Obj}  {F:TC}(q:Has S h (.atom (.bool true)) v F):v=.bool true:=by
 rcases q with⟨q,_⟩|⟨cs,q,_,rfl⟩
 ·rw[(zt.1 q).1]
 simp only[zH,Rep]at q;obtain⟨⟨rfl,_⟩,_⟩:=q;rfl
end
open Go.Proofs
section
variable {H:Type}{enc:TypeId×Value->H}{w:World}{base:Nat}{spare:Nat->Bool}{held:Bool}
def zgi:prog.cellsOf 5=1:=by kernel_rfl
def rd5 {Ur:Nat}  {x:DataW H×List MemPlace}(h:DataW.trod enc prog w base spare held Ur 5 cs=some x):∃a:Int,Ok5 a/\Rep (z6T w) ((eI .u8) a) cs:=by obtain⟨n,h1,_,h2⟩:=zbA underlying5 (lo:=0) (hi:=255) rfl rfl h;exact⟨n,h1,h2⟩
def zie:prog.cellsOf 22=1:=by kernel_rfl
def zpt {Ur:Nat}  {x:DataW H×List MemPlace}(h:DataW.trod enc prog w base spare held Ur 22 cs=some x):∃a:TB,zoT a/\Rep (z6T w) ((eSl 1 false (eI .u8)) a) cs:=by exact z5P (eI .u8) Ok5 underlying22 zgi (by omega) (λ_=>rfl) (λ_ _ _ q=>rd5 q) h
def zib:prog.cellsOf 43=1:=by kernel_rfl
def zo9 {Ur:Nat}  {x:DataW H×List MemPlace}(h:DataW.trod enc prog w base spare held Ur 43 cs=some x):∃a:Int,zlL a/\Rep (z6T w) ((eI .u16) a) cs:=by obtain⟨n,h1,_,h2⟩:=zbA underlying43 (lo:=0) (hi:=65535) rfl rfl h;exact⟨n,h1,h2⟩
def zid:prog.cellsOf 23=1:=by kernel_rfl
def zps {Ur:Nat}  {x:DataW H×List MemPlace}(h:DataW.trod enc prog w base spare held Ur 23 cs=some x):∃a:TB,zoS a/\Rep (z6T w) ((eSl 1 false (eI .u16)) a) cs:=by exact z5P (eI .u16) zlL underlying23 zib (by omega) (λ_=>rfl) (λ_ _ _ q=>zo9 q) h
def zc5:prog.cellsOf 25=5:=by kernel_rfl
def zpr {Ur:Nat}  {x:DataW H×List MemPlace}(h:DataW.trod enc prog w base spare held Ur 25 cs=some x):∃a:yj,zoR a/\Rep (z6T w) ((jH (eI .u8) (eI .u8) (eI .u8) (eSl 1 false (eI .u8)) (eSl 1 false (eI .u16))) a) cs:=by obtain⟨hl,hf⟩:=Kd underlying25 h;rw[zc5]at hl;obtain⟨_,_,q0⟩:=hf 0 _ rfl;obtain⟨_,_,q1⟩:=hf 1 _ rfl;obtain⟨_,_,q2⟩:=hf 2 _ rfl;obtain⟨_,_,q3⟩:=hf 3 _ rfl;obtain⟨_,_,q4⟩:=hf 4 _ rfl;simp only[zie,zid,zgi]at q0 q1 q2 q3 q4;obtain⟨a0,k0,r0⟩:=rd5 q0;obtain⟨a1,k1,r1⟩:=rd5 q1;obtain⟨a2,k2,r2⟩:=rd5 q2;obtain⟨a3,k3,r3⟩:=zpt q3;obtain⟨a4,k4,r4⟩:=zps q4;refine⟨⟨a0,a1,a2,a3,a4⟩,⟨k0,k1,k2,k3,k4⟩,?_⟩;show Rep (z6T w) (.agg [(eI .u8) a0,(eI .u8) a1,(eI .u8) a2,(eSl 1 false (eI .u8)) a3,(eSl 1 false (eI .u16)) a4]) cs;simp only[Rep];refine V1 (n:=1) (by simpa[mN] using r0) (V1 (n:=1) (by simpa[mN] using r1) (V1 (n:=1) (by simpa[mN] using r2) (V1 (n:=1) (by simpa[mN] using r3) (V1 (n:=1) (by simpa[mN] using r4) ?_))));simp only[mN,yb];exact mC (by omega)
def zic:prog.cellsOf 27=5:=by kernel_rfl
def zpq {Ur:Nat}  {x:DataW H×List MemPlace}(h:DataW.trod enc prog w base spare held Ur 27 cs=some x):∃a:Yn,zoQ a/\Rep (z6T w) ((Yl (jH (eI .u8) (eI .u8) (eI .u8) (eSl 1 false (eI .u8)) (eSl 1 false (eI .u16)))) a) cs:=by obtain⟨hl,hf⟩:=Kd underlying27 h;rw[zic]at hl;obtain⟨_,_,q0⟩:=hf 0 _ rfl;simp only[zc5]at q0;obtain⟨a0,k0,r0⟩:=zpr q0;refine⟨⟨a0⟩,k0,?_⟩;show Rep (z6T w) (.agg [(jH (eI .u8) (eI .u8) (eI .u8) (eSl 1 false (eI .u8)) (eSl 1 false (eI .u16))) a0]) cs;simp only[Rep];refine V1 (n:=5) (by simpa[mN] using r0) ?_;simp only[yb];exact mC (by omega)
end
end Go.Own
namespace Go.Proofs.YtedigoohmnbjfaaGreat.suitesBudget
open Go.Proofs.Tryz
open Go Go.ChangeShapes Go.WideShapes Go.ChangeAt Go.RowKit
def own:ownKnob prog.godebug=none:=by kernel_rfl
def zhW:laidOutB prog=true:=by kernel_rfl
section
variable {H:Type}{enc:TypeId×Value->H}{W:World}
set_option maxRecDepth 100000 in
def zp4 {base:Nat}{v0:Value}{d0:DataW H}{p0:List MemPlace}{v1:Value}{d1:DataW H}{p1:List MemPlace}(h0:DataW.Trod enc prog W 0 (λ_=>true) true 27 v0 d0 p0)(h1:DataW.Trod enc prog W 0 (λ_=>true) true 43 v1 d1 p1)(k0:Value.okWide prog W .any base (27:Nat) v0)(k1:Value.okWide prog W .any base (43:Nat) v1) :
  Calls prog 4 #[v0,v1] W λe w'=>e=.returned (.bool true)/\Go.Own.X1 (λk=>W.heap.size<=k) W w':=by
 obtain⟨n0,h0⟩:=h0;obtain⟨x0,o0,r0⟩:=Go.Own.zpq h0;obtain⟨n1,h1⟩:=h1;obtain⟨x1,o1,r1⟩:=Go.Own.zo9 h1;have q:=(Go.Own.zdI (Go.Own.z9N Go.Own.ziw rD:Go.Own.OkH Go.Own.zmz) (x:=(x0,x1)) (r:=true) (Go.Own.zeK o0 o1)).2 (Go.Own.z6T W) W [v0,v1] [] ⟨λ_ _ _ h=>h,λ_ _ e=>(by cases e),λ_ _ e=>(by cases e)⟩ ?_ (by simp)
 ·refine Calls.mono q ?_;rintro e w' ⟨v,S',F',rfl,hk,_,_,_,hr,_,_⟩;refine⟨?_,hk.mono (by rintro k (h|h)<;>simp_all)⟩;rw[Go.Own.zeO hr]
 refine Go.Own.QB ?_;have g0:Go.Own.wS (Go.Own.z6T W) ((Go.Own.Yl (Go.Own.jH (Go.Own.eI .u8) (Go.Own.eI .u8) (Go.Own.eI .u8) (Go.Own.eSl 1 false (Go.Own.eI .u8)) (Go.Own.eSl 1 false (Go.Own.eI .u16)))) x0) v0:=Go.Own.z7t (t:=(27:Nat)) underlying27 r0 k0 rfl;have g1:Go.Own.wS (Go.Own.z6T W) ((Go.Own.eI .u16) x1) v1:=Go.Own.ze8 (t:=(43:Nat)) underlying43 r1 k1 rfl;exact⟨g0,g1,trivial⟩
end
set_option maxRecDepth 100000 in
def zkJ (os:Os)(started:os.Started)(H:Type)(enc:TypeId×Value->H) :
  ReturnsInHanded {} checked os 4 .any (Rows.suitesBudgetSpec.pre6 enc prog Tryz.f4 Rows.suitesBudgetRow.domain false) (Rows.suitesBudgetSpec.post enc prog Tryz.f4 false true false false):=by
 refine returnsInHanded_of_change (C:=checked) own started (by kernel_rfl) func4
  (ChangeSpec.witness6 (enc:=enc) (C:=checked) false ⟨#[],#[.agg #[.int .u8 0,.int .u8 0,.int .u8 0,.slice none 0 0,.slice none 0 0],.int .u16 0],[]⟩ 8 (by kernel_rfl) (by kernel_rfl) (by kernel_rfl) (by kernel_rfl)) ?_
 intro W base args ds gs before hval0 hW hcnd _;have hval:∀(j:Nat) t v,Tryz.f4.params[j]?=some t->args[j]?=some v->Value.okWide prog W .any base t v:=hval0;have hW':=hW;obtain⟨p,q,hA0,hV,rfl,hfz,hnd⟩:=hW;have hA:DataW.TrodAll enc prog W 0 (λ_=>true) true Tryz.f4.params.toList args.toList ds p:=hA0;rw[params4]at hA hval;obtain⟨v0,v1,d0,d1,p0,p1,rfl,rfl,rfl,h0,h1⟩:=trodAll_two hA;obtain⟨rfl,rfl⟩:=trodVars_none hV;clear hA0 hval0;refine(zp4 h0 h1 (hval 0 (27:Nat) v0 rfl rfl) (hval 1 (43:Nat) v1 rfl rfl)).mono λe W' ⟨he,hk⟩=>?_;subst he;have hb:Below W.heap.size W W':=⟨hk.os,hk.tape,hk.output,hk.size,λk q=>hk.block k (by omega)⟩;have hlt:∀x∈p0++p1,x.block<W.heap.size:=λx hx=>by simpa using hW'.lt x (by simpa using hx)
 refine⟨_,rfl,Go.Own.zaX rfl rfl hW' hb (λ_ _ _=>trodAll_cons_mk (shut_bool underlying4 _) trodAll_mk0) (λsp hsp=>?_) (ok_one (by kernel_rfl) rfl (okWide_bool_mk underlying4 _))⟩;have st:∀{t:Nat} {v:Value} {d:DataW H} {p':List MemPlace},DataW.Trod enc prog W 0 (λ_=>true) true t v d p'->prog.readableRec t=true->t<prog.types.size->(∀x∈p',x∈p0++p1)->DataW.Trod enc prog W' 0 sp true t v d p':=by intro t v d p' hd h1 h2 hp;exact WideElems.Trod_stays zhW h1 h2 hd (λx hx=>hb.same (hlt x (hp x hx))) (λx hx=>hsp x (by simpa using hp x hx))
 have:=trodAll_mk2 (st h0 (by kernel_rfl) (of_decide_eq_true (by kernel_rfl)) (λx hx=>by simp[hx])) (st h1 (by kernel_rfl) (of_decide_eq_true (by kernel_rfl)) (λx hx=>by simp[hx]));rw[params4];exact this
def VH:Rows.suitesBudgetRow.holds Tryz.pinned (OpenSpec.ofChange Rows.suitesBudgetSpec) :=
 OpenClaim.holds_of_wide 4 Tryz.f4 rfl rfl rfl rfl rfl rfl rfl ⟨rfl,rfl,rfl,rfl,rfl⟩ rfl rfl rfl rfl rfl (by kernel_rfl) func4 (by kernel_rfl)
  (of_decide_eq_true (by kernel_rfl)) (by unfold Func.isWrapper;first|(rw[if_pos (by decide +kernel)];kernel_rfl)|(rw[if_neg (by decide +kernel)];exact⟨rfl,rfl⟩))
  (λos started H enc _=>zkJ os started H enc)
theorem proved:Rows.SuitesBudgetSaid :=
 VH
#print axioms proved
end Go.Proofs.YtedigoohmnbjfaaGreat.suitesBudget
