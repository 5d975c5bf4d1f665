/- -/
import Derived.Test.YtedigoohmnbjfaaGreatPartJ
import Derived.Test.YtedigoohmnbjfaaGreatPartI
import Derived.Test.YtedigoohmnbjfaaGreatPartF
import Derived.Test.YtedigoohmnbjfaaGreatPartB
import Derived.OpenShut
import Derived.ChangeShapes
import Derived.Test.YtedigoohmnbjfaaGreatPartC
import Derived.WalkKit
import Derived.ProofKit
import Derived.Carry
import Derived.Test.YtedigoohmnbjfaaGreatRows
import Derived.Test.YtedigoohmnbjfaaGreatChecked
set_option linter.unusedVariables false
set_option linter.unusedSimpArgs false
namespace Go.Own
open Go.Proofs.Tryz
abbrev z16:zq Int:=zq.mk 0 0 0 0 0 0 0 0 0 0 0 0 0 0 0 0
theorem zsU (N:zq Int)(i v:Int):(zq.setI N i v).toL=N.toL.set i.toNat v:=zq.toL_ofL _ _ (by simp[zq.toL])
theorem zjb {s:Nat}(h:s<16):z16.toL[s]?=some 0:=by show(List.replicate 16 (0:Int))[s]?=_;rw[gZ,if_pos h]
variable {n:Nat}
theorem zvU (h:n<2147483648):IntKind.i32.wrap (n:Int)=n:=by simp only[IntKind.wrap,IntKind.bits,IntKind.signed];simp;omega
def zc5 (wd:List (List Int))(w:List Int)(i:Nat):List (List Int):=((List.range i).map λs:Nat=>w++[(s:Int)]).filter λx=>decide (x∈wd)
variable {wd:List (List Int)}{i:Nat}
theorem zht {w x:List Int}  : x∈zc5 wd w i↔(∃s:Nat,s<i/\w++[(s:Int)]=x)/\x∈wd:=by simp[zc5]
theorem zlb (wd:List (List Int))(w:List Int)(i:Nat):zc5 wd w (i+1)=zc5 wd w i++if w++[(i:Int)]∈wd then [w++[(i:Int)]] else []:=by simp[zc5,re,List.filter_append,List.filter_cons]
def XE (wd:List (List Int))(x:List Int):Bool:=(zc5 wd x 16).isEmpty
variable {x:List Int}
theorem z0o:XE wd x=true↔∀s:Nat,s<16->x++[(s:Int)]∉wd:=by unfold XE;rw[List.isEmpty_iff,List.eq_nil_iff_forall_not_mem];exact⟨λh s hs q=>h _ (zht.2 ⟨⟨s,hs,rfl⟩,q⟩),λh y hy=>by obtain⟨⟨s,hs,rfl⟩,q⟩:=zht.1 hy;exact h s hs q⟩
structure z6Z (nodes:List (zq Int))(wd:List (List Int)):Prop where
 len:nodes.length=wd.length
 nod:wd.Nodup
 nxt:∀(i:Nat) (N:zq Int) (x:List Int),nodes[i]?=some N->wd[i]?=some x->∀s:Nat,s<16->(N.toL[s]?=some 0/\(x++[(s:Int)])∉wd)\/∃j:Nat,N.toL[s]?=some (j:Int)/\0<j/\wd[j]?=some (x++[(s:Int)])
 root:wd[0]?=some []
 clo:∀(w:List Int) (s:Int),w++[s]∈wd->w∈wd/\0<=s/\s<16
theorem z6Z.one:z6Z [z16] [[]]:=by
 refine⟨rfl,by simp,λi N x hN hx s hs=>.inl ?_,rfl,λw s h=>by simp at h⟩;match i,hN,hx with
 | 0,hN,hx=>cases hN;cases hx;exact⟨zjb hs,by simp⟩
variable {nodes:List (zq Int)}
theorem z6Z.mem_at (h:z6Z nodes wd){i j:Nat}  (hi:wd[i]?=some x)(hj:wd[j]?=some x):i=j :=
 (List.getElem?_inj (p8.1 hi).1 h.nod).1 (hi.trans hj.symm)
variable {N:zq Int}
theorem z6Z.grow (h:z6Z nodes wd){p s:Nat}   (hN:nodes[p]?=some N)(hx:wd[p]?=some x)(hs:s<16)(hnew:x++[(s:Int)]∉wd) :
  z6Z (nodes.set p (zq.setI N (s:Int) (nodes.length:Int))++[z16]) (wd++[x++[(s:Int)]]):=by
 have hp:p<nodes.length:=(p8.1 hN).1;have hl:=h.len;have hxm:x∈wd:=pO hx;have newN:∀(i:Nat) (M:zq Int),(nodes.set p (zq.setI N (s:Int) (nodes.length:Int))++[z16])[i]?=some M->(i=p/\M=zq.setI N (s:Int) (nodes.length:Int))\/(i≠p/\i<nodes.length/\nodes[i]?=some M)\/(i=nodes.length/\M=z16):=by
  intro i M hM;rcases pH i nodes.length with q|q
  ·rw[pG (by simpa using q)]at hM;by_cases hip:i=p
   ·subst hip;rw[gW hp]at hM;exact .inl ⟨rfl,by simpa using hM.symm⟩
   ·rw[gK (λe=>hip e.symm)]at hM;exact .inr (.inl ⟨hip,q,hM⟩)
  ·rw[pF (by simpa using q),rX]at hM;have:i - nodes.length=0:=by have:=(p8.1 hM).1;simpa using this
   rw[this]at hM;exact .inr (.inr ⟨by omega,by simpa using hM.symm⟩)
 have newW:∀(i:Nat) (y:List Int),(wd++[x++[(s:Int)]])[i]?=some y->(i<wd.length/\wd[i]?=some y)\/(i=wd.length/\y=x++[(s:Int)]):=by
  intro i y hy;rcases pH i wd.length with q|q
  ·rw[pG q]at hy;exact .inl ⟨q,hy⟩
  ·rw[pF q]at hy;have:i - wd.length=0:=by have:=(p8.1 hy).1;simpa using this
   rw[this]at hy;exact .inr ⟨by omega,by simpa using hy.symm⟩
 have oldW:∀(i:Nat) (y:List Int),wd[i]?=some y->(wd++[x++[(s:Int)]])[i]?=some y:=by intro i y hy;rw[pG (p8.1 hy).1];exact hy
 have lastW:(wd++[x++[(s:Int)]])[wd.length]?=some (x++[(s:Int)]):=by rw[pF (pC _)];simp
 refine⟨by simp[hl],?_,?_,oldW 0 [] h.root,?_⟩
 ·rw[pM];exact⟨h.nod,by simp,λy hy z hz=>by simp at hz;subst hz;exact λe=>hnew (e ▸ hy)⟩
 ·intro i M y hM hy t ht;rcases newN i M hM with⟨rfl,rfl⟩|⟨hip,hil,q⟩|⟨rfl,rfl⟩
  ·have hyx:y=x:=by have:=oldW i x hx;rw[this]at hy;simpa using hy.symm
   subst hyx;rw[zsU,pB];by_cases hts:t=s
   ·subst hts;right;refine⟨nodes.length,?_,by omega,by rw[hl];exact lastW⟩;rw[gW (by simpa[zq.toL] using ht)]
   ·rw[gK (λe=>hts e.symm)];rcases h.nxt i N y hN hx t ht with⟨q1,q2⟩|⟨j,q1,q2,q3⟩
    ·refine .inl ⟨q1,λhm=>?_⟩;rcases pA.1 hm with q|q
     ·exact q2 q
     ·simp at q;omega
    ·exact .inr ⟨j,q1,q2,oldW _ _ q3⟩
  ·have hy':wd[i]?=some y:=by
    rcases newW i y hy with⟨_,q⟩|⟨q,_⟩
    ·exact q
    ·omega
   rcases h.nxt i M y q hy' t ht with⟨q1,q2⟩|⟨j,q1,q2,q3⟩
   ·refine .inl ⟨q1,λhm=>?_⟩;rcases pA.1 hm with q|q
    ·exact q2 q
    ·obtain⟨e1,_⟩:=List.append_inj' (pR.1 q) rfl;subst e1;exact hip (h.mem_at hy' hx)
   ·exact .inr ⟨j,q1,q2,oldW _ _ q3⟩
  ·have hy':y=x++[(s:Int)]:=by rw[hl,lastW]at hy;simpa using hy.symm
   subst hy';refine .inl ⟨zjb ht,λhm=>?_⟩;rcases pA.1 hm with q|q
   ·exact hnew (h.clo _ _ q).1
   ·have:=congrArg List.length (pR.1 q);simp at this
 ·intro w t hw;rcases pA.1 hw with q|q
  ·have:=h.clo w t q;exact⟨by simp[this.1],this.2⟩
  ·obtain⟨e1,e2⟩:=List.append_inj' (pR.1 q) rfl;subst e1;simp at e2;subst e2;exact⟨by simp[hxm],by omega,by omega⟩
theorem z6Z.empty (h:z6Z nodes wd){p:Nat}   (hN:nodes[p]?=some N)(hx:wd[p]?=some x):N.toL.all (λc=>c==0)=XE wd x:=by
 rw[Bool.eq_iff_iff,z0o,gJ];constructor
 ·intro q s hs;rcases h.nxt p N x hN hx s hs with⟨_,q2⟩|⟨j,q1,q2,_⟩
  ·exact q2
  ·have:=q _ (pO q1);simp at this;omega
 ·intro q c hc;obtain⟨s,hs⟩:=gL.1 hc;have hl:s<16:=(p8.1 hs).1;rcases h.nxt p N x hN hx s hl with⟨q1,_⟩|⟨j,q1,q2,q3⟩
  ·rw[hs]at q1;cases q1;rfl
  ·exact absurd (pO q3) (q s hl)
def lfc (wd:List (List Int)):Int:=if wd.length=1 then 0 else((wd.filter (XE wd)).length:Int)
theorem za4 {p:List Int->Bool}{u:List Int}:∀{l:List (List Int)},l.Nodup->u∈l->(l.filter p).length=(l.filter λx=>p x && !decide (x=u)).length+if p u=true then 1 else 0
 | [],_,h=>by simp at h
 | x::l,hn,h=>by
  obtain⟨n1,n2⟩:=pY.1 hn;by_cases e:x=u
  ·subst e;have:(l.filter λy=>p y && !decide (y=x))=l.filter p:=List.filter_congr λy hy=>by have:y≠x:=λe=>n1 (e ▸ hy);simp[this]
   cases hp:p x <;> simp[hp,this]
  ·have hu:u∈l:=by simpa[nX e] using h
   have ih:=za4 (p:=p) n2 hu;cases hp:p x
   ·simpa[List.filter_cons,hp] using ih
   ·simp[hp,e];omega
theorem zoO (h:z6Z nodes wd){s:Nat}{u:List Int}(hu:u∈wd)(hs:s<16)(hnew:u++[(s:Int)]∉wd) :
  lfc (wd++[u++[(s:Int)]])=lfc wd+(if XE wd u=true/\wd.length≠1 then 0 else 1)/\XE (wd++[u++[(s:Int)]]) (u++[(s:Int)])=true:=by
 have hl:XE (wd++[u++[(s:Int)]]) (u++[(s:Int)])=true:=z0o.2 λt ht hm=>by
  rcases pA.1 hm with q|q
  ·exact hnew (h.clo _ _ q).1
  ·have:=congrArg List.length (pR.1 q);simp at this
 have e1:wd.filter (XE (wd++[u++[(s:Int)]]))=wd.filter λx=>XE wd x && !decide (x=u):=List.filter_congr λx hx=>by
  rw[Bool.eq_iff_iff,pJ,z0o,z0o,rH,decide_eq_false_iff_not];constructor
  ·intro q;exact⟨λt ht hm=>q t ht (by simp[hm]),λe=>q s hs (by simp[e])⟩
  ·rintro⟨q1,q2⟩ t ht hm;rcases pA.1 hm with q|q
   ·exact q1 t ht q
   ·exact q2 (List.append_inj' (pR.1 q) rfl).1
 have e2:=za4 (p:=XE wd) h.nod hu;have hpos:0<wd.length:=List.length_pos_of_mem hu;refine⟨?_,hl⟩;have e3:lfc (wd++[u++[(s:Int)]])=((wd.filter λx=>XE wd x && !decide (x=u)).length:Int)+1:=by unfold lfc;rw[if_neg (by rw[pN,List.length_singleton];omega),List.filter_append,e1,List.filter_cons,if_pos hl];simp
 rw[e3];unfold lfc;by_cases h1:wd.length=1
 ·have hone:(wd.filter (XE wd)).length<=1:=pE (mS _ _) (by omega);obtain⟨x,hx⟩:=mG.1 h1;have hxu:x=u:=by rw[hx]at hu;exact(pR.1 hu).symm
  subst hxu;rw[if_pos h1,if_neg (λq=>q.2 h1),hx];simp
 ·rw[if_neg h1];by_cases q:XE wd u=true
  ·rw[if_pos q]at e2;rw[if_pos ⟨q,h1⟩];omega
  ·rw[if_neg q]at e2;rw[if_neg (λr=>q r.1)];omega
def zqH (B:List Int->Prop)(K:Nat)(nodes:List (zq Int))(leaves a:Int)(fresh:Bool)(u:List Int):Prop :=
 ∃(wd:List (List Int)) (p:Nat),z6Z nodes wd/\a=((p:Nat):Int)/\wd[p]?=some u/\(∀x,x∈wd↔B x\/∃j,j<=u.length/\x=u.take j)/\leaves=lfc wd/\(fresh=true->XE wd u=true/\u≠[])/\wd.length<=K+u.length
variable {u part:List Int}{leaves a:Int}{fresh:Bool}
theorem zsS {B:List Int->Prop}{K:Nat}      (h:zqH B K nodes leaves a fresh u)(hK:K+u.length<=1000000000)(hi:i<part.length)(hl:part.length<=1000)(hc:0<=part[i]/\part[i]<16) :
  Ret (wX part nodes leaves a fresh (i:Int)) λr=>∃nodes' leaves' a' fresh',r=.next (nodes',leaves',a',fresh',((i+1:Nat):Int))/\zqH B K nodes' leaves' a' fresh' (u++[part[i]]):=by
 obtain⟨wd,p,hT,rfl,hp,hm,rfl,hf,hlen⟩:=h;obtain⟨s,hs⟩:∃s:Nat,part[i]=(s:Int):=⟨part[i].toNat,by omega⟩;have hs16:s<16:=by omega
 have hx:part[i]?=some (s:Int):=by rw[p7 hi,hs]
 have hpl:p<nodes.length:=by rw[hT.len];exact(p8.1 hp).1
 have hN:nodes[p]?=some nodes[p]:=p7 hpl;have hu:u∈wd:=pO hp;have hnl:nodes.length<=1000000000:=by rw[hT.len];omega
 have hi2:w64 ((i:Int)+1)=((i+1:Nat):Int):=by rw[zJ (by omega) (by omega)];omega
 have htk:∀x:List Int,(B x\/∃j,j<=(u++[(s:Int)]).length/\x=(u++[(s:Int)]).take j)↔x∈wd\/x=u++[(s:Int)]:=by
  intro x;rw[hm];constructor
  ·rintro(q|⟨j,q1,q2⟩)
   ·exact .inl (.inl q)
   ·rcases pH u.length j with r|r
    ·exact .inr (by rw[q2];exact nH (by simp;omega))
    ·exact .inl (.inr ⟨j,r,by rw[q2,List.take_append_of_le_length r]⟩)
  ·rintro((q|⟨j,q1,q2⟩)|q)
   ·exact .inl q
   ·exact .inr ⟨j,by simp;omega,by rw[q2,List.take_append_of_le_length q1]⟩
   ·exact .inr ⟨u.length+1,by simp,by rw[q];exact(nH (by simp)).symm⟩
 unfold wX;rw[decide_eq_true (by omega),cond_true,zA hx,oB,zA hN,oB,hs];rcases hT.nxt p _ _ hN hp s hs16 with⟨q1,q2⟩|⟨j,q1,q2,q3⟩
 ·have hg:=hT.grow hN hp hs16 q2;obtain⟨g1,g2⟩:=zoO hT hu hs16 q2;have hJ:∀lv:Int,yQ nodes (p:Int) (i:Int) (s:Int) lv=some (.next (nodes.set p (zq.setI nodes[p] (s:Int) (nodes.length:Int))++[z16],lv,(nodes.length:Int),true,((i+1:Nat):Int))):=by intro lv;unfold yQ uv;rw[zA hN,oB,zA q1,oB,oB,zvU (by omega),pB,gdT (by simp;omega),hi2]
  have fin:∀lv:Int,lv=lfc wd+(if XE wd u=true/\wd.length≠1 then 0 else 1)->Ret (yQ nodes (p:Int) (i:Int) (s:Int) lv) λr=>∃nodes' leaves' a' fresh',r=.next (nodes',leaves',a',fresh',((i+1:Nat):Int))/\zqH B K nodes' leaves' a' fresh' (u++[(s:Int)]):=by
   intro lv hlv;rw[hJ,ze];refine⟨_,_,_,_,rfl,wd++[u++[(s:Int)]],nodes.length,hg,rfl,?_,λx=>?_,by rw[hlv,g1],λ_=>⟨g2,by simp⟩,by simp;omega⟩
   ·rw[hT.len,pF (pC _)];simp
   ·rw[htk,pA,pR]
  have hlf:0<=lfc wd/\lfc wd<=1000000000:=by
   unfold lfc;split
   ·omega
   ·have:=mS (XE wd) wd;omega
  have hw:w64 (lfc wd+1)=lfc wd+1:=zJ (by omega) (by omega);have he:=hT.empty hN hp;rw[zA q1,oB,show((0:Int)==0)=true from rfl,cond_true];cases fresh with
  | true=>
   rw[gP,cond_false];refine fin _ ?_;obtain⟨f1,f2⟩:=hf rfl;have:wd.length≠1:=λe=>by obtain⟨y,hy⟩:=mG.1 e;have r:=hT.root;rw[hy]at r hu;simp at r hu;exact f2 (hu.trans r)
   rw[if_pos ⟨f1,this⟩];omega
  | false=>
   rw[mM,cond_true];have hE:∀M:zq Int,((M.e0==0)&&((M.e1==0)&&((M.e2==0)&&((M.e3==0)&&((M.e4==0)&&((M.e5==0)&&((M.e6==0)&&((M.e7==0)&&((M.e8==0)&&((M.e9==0)&&((M.e10==0)&&((M.e11==0)&&((M.e12==0)&&((M.e13==0)&&((M.e14==0)&&((M.e15==0)&&true))))))))))))))))=M.toL.all (λc=>c==0):=λM=>rfl;by_cases h0:p=0
   ·subst h0;rw[show(((0:Nat):Int)==0)=true from rfl,cond_true];by_cases h1:nodes.length=1
    ·rw[show(((nodes.length:Nat):Int)==1)=true by rw[h1];rfl,cond_true,hw];exact fin _ (by rw[if_neg (λr=>r.2 (by rw[<-hT.len,h1]))])
    ·rw[show(((nodes.length:Nat):Int)==1)=false by simpa using (by omega:¬((nodes.length:Nat):Int)=1),cond_false,oB,hE,he];have h1':wd.length≠1:=by rw[<-hT.len];exact h1
     cases hlb:XE wd u with
     | true=>rw[gP,cond_false];exact fin _ (by rw[if_pos ⟨hlb,h1'⟩];omega)
     | false=>rw[mM,cond_true,hw];exact fin _ (by rw[if_neg (λr=>by rw[hlb]at r;cases r.1)])
   ·rw[show(((p:Nat):Int)==0)=false by simpa using h0,cond_false,oB,hE,he];have h1':wd.length≠1:=by rw[<-hT.len];omega
    cases hlb:XE wd u with
    | true=>rw[gP,cond_false];exact fin _ (by rw[if_pos ⟨hlb,h1'⟩];omega)
    | false=>rw[mM,cond_true,hw];exact fin _ (by rw[if_neg (λr=>by rw[hlb]at r;cases r.1)])
 ·rw[zA q1,oB,show(((j:Nat):Int)==0)=false by simpa using (by omega:¬j=0),cond_false];unfold uv;rw[hi2,ze];have hmem:u++[(s:Int)]∈wd:=pO q3;refine⟨_,_,_,_,rfl,wd,j,hT,rfl,q3,λx=>?_,rfl,λe=>absurd hmem (z0o.1 (hf e).1 s hs16),by simp;omega⟩;rw[htk];exact⟨.inl,λq=>q.elim id λe=>e ▸ hmem⟩
theorem zpI {B:List Int->Prop}{K:Nat}     (h:zqH B K nodes leaves a fresh u)(hK:K+u.length+part.length<=1000000000)(hl:part.length<=1000)(hc:∀c∈part,0<=c/\c<16) :
  Ret (loop (λs=>wX part s.1 s.2.1 s.2.2.1 s.2.2.2.1 s.2.2.2.2) (nodes,leaves,a,fresh,0)) λr=>zqH B K r.1 r.2.1 r.2.2.1 r.2.2.2 (u++part):=by
 refine zQ (λq=>∃i:Nat,q.2.2.2.2=(i:Int)/\i<=part.length/\zqH B K q.1 q.2.1 q.2.2.1 q.2.2.2.1 (u++part.take i)) (λq=>part.length - q.2.2.2.2.toNat) ⟨0,rfl,pT _,by simpa using h⟩ (by show part.length - _<_;omega) ?_;rintro⟨nodes,leaves,a,fresh,_⟩ ⟨i,rfl,hi,g⟩;dsimp only at g ⊢;rcases pH i part.length with q|q
 ·refine(zsS g (by simp;omega) q hl (hc _ (pI q))).mono λr hr=>?_;obtain⟨n',l',a',f',rfl,g'⟩:=hr;refine⟨⟨i+1,rfl,q,?_⟩,by simp only[pB];omega⟩;rw[hZ,p7 q];simpa using g'
 ·have:i=part.length:=by omega
  subst this;unfold wX;rw[decide_eq_false (by omega),cond_false,ze];rw[gV]at g;exact g
def zgQ (T:List (List Int))(nodes:List (zq Int))(leaves:Int):Prop :=
 ∃wd,z6Z nodes wd/\(∀x,x∈wd↔x=[]\/∃w∈T,∃j,j<=w.length/\x=w.take j)/\leaves=lfc wd/\wd.length<=1+100*T.length
theorem zgQ.nil:zgQ [] [z16] 0:=⟨[[]],.one,λx=>by simp,rfl,by simp⟩
theorem zsL {T:List (List Int)}  {leaves most:Int}(h:zgQ T nodes leaves){parts:List (List Int)}(hn:parts.length<=100)(hT:T.length<=100000)(hl:parts.flatten.length<=100)(hc:∀part∈parts,∀c∈part,0<=c/\c<16) :
  Ret (xW parts (zb.mk nodes leaves most)) λr=>∃nodes' leaves',zgQ (T++[parts.flatten]) nodes' leaves'/\(leaves'<=most/\r=(zb.mk nodes' leaves' most,false)\/most<leaves'/\r.2=true):=by
 obtain⟨wd,hTr,hm,rfl,hlen⟩:=h;unfold xW;rw[zt];refine(zQ (λq=>∃i:Nat,q.2.2.2.2=(i:Int)/\i<=parts.length/\zqH (λx=>x∈wd) (1+100*T.length) q.1 q.2.1 q.2.2.1 q.2.2.2.1 (parts.take i).flatten) (λq=>parts.length - q.2.2.2.2.toNat) (R:=λt=>∃a f,zqH (λx=>x∈wd) (1+100*T.length) t.1 t.2 a f parts.flatten) ⟨0,rfl,pT _,wd,0,hTr,rfl,hTr.root,λx=>?_,rfl,λe=>(by cases e),by simpa using hlen⟩ (by show parts.length - _<_;omega) ?_).mono ?_
 ·refine⟨.inl,λq=>q.elim id ?_⟩;rintro⟨j,_,e⟩;simp at e;exact e ▸ pO hTr.root
 ·rintro⟨nodes,leaves,a,fresh,_⟩ ⟨i,rfl,hi,g⟩;dsimp only at g ⊢;unfold Yw;rcases pH i parts.length with q|q
  ·have hx:parts[i]?=some parts[i]:=p7 q;have htk:(parts.take (i+1)).flatten=(parts.take i).flatten++parts[i]:=by rw[hZ,hx,List.flatten_append];simp
   have hle:(parts.take i).flatten.length+parts[i].length<=100:=by
    have:(parts.take (i+1)).flatten.length<=parts.flatten.length:=by
     conv=>rhs;rw[<-mD (i+1) parts,List.flatten_append,pN]
     omega
    rw[htk,pN]at this;omega
   rw[decide_eq_true (by omega),cond_true,zA hx,oB,zt];refine(zpI g (by omega) (by omega) (hc _ (pI q))).mono λt ht=>?_;unfold Yx;rw[zJ (by omega) (by omega),ze];refine⟨⟨i+1,by simp,q,?_⟩,by show parts.length - ((i:Int)+1).toNat<parts.length - (i:Int).toNat;omega⟩;rw[htk];exact ht
  ·have:i=parts.length:=by omega
   subst this;rw[decide_eq_false (by omega),cond_false,ze];rw[gV]at g;exact⟨_,_,g⟩
 ·rintro⟨nodes',leaves'⟩ ⟨a,f,wd',p,hTr',_,_,hm',rfl,_,hlen'⟩;have hB:zgQ (T++[parts.flatten]) nodes' (lfc wd'):=by
   refine⟨wd',hTr',λx=>?_,rfl,by simp;omega⟩;rw[hm' x];show(x∈wd\/_)↔_;rw[hm];simp only[pA,pR];constructor
   ·rintro((q|⟨w,q1,q2⟩)|q)
    ·exact .inl q
    ·exact .inr ⟨w,.inl q1,q2⟩
    ·exact .inr ⟨_,.inr rfl,q⟩
   ·rintro(q|⟨w,q1|rfl,q2⟩)
    ·exact .inl (.inl q)
    ·exact .inl (.inr ⟨w,q1,q2⟩)
    ·exact .inr q2
  unfold Yy;dsimp only
  by_cases q:lfc wd'<=most
  ·rw[decide_eq_false (by omega),cond_false,ze];exact⟨_,_,hB,.inl ⟨q,rfl⟩⟩
  ·rw[decide_eq_true (by omega),cond_true,ze];exact⟨_,_,hB,.inr ⟨by omega,rfl⟩⟩
def plB (wd:List (List Int))(w:List Int):zi:=⟨((wd.idxOf w:Nat):Int),w⟩
theorem zhA (wd:List (List Int))(w:List Int)(i:Nat):(zc5 wd w i).length<=i:=pE (mS _ _) (by simp)
variable {l:List (List Int)}
section
variable {nodes:List (zq Int)}{wd:List (List Int)}(h:z6Z nodes wd)
include h
theorem zvH {w:List Int}(hw:w∈wd)  (hN:nodes[wd.idxOf w]?=some N)(hl:w.length<=1000){nx:List zi}(hn:nx.length<=1000000000) :
  loop (λs=>yY (plB wd w) N s.1 s.2.1 s.2.2) (nx,true,0)=some (nx++(zc5 wd w 16).map (plB wd),XE wd w):=by
 have h0:(nx++(zc5 wd w 0).map (plB wd),(zc5 wd w 0).isEmpty,((0:Nat):Int))=(nx,true,(0:Int)):=by simp[zc5]
 rw[<-h0];refine ww (step:=λs=>yY (plB wd w) N s.1 s.2.1 s.2.2) (λi=>(nx++(zc5 wd w i).map (plB wd),(zc5 wd w i).isEmpty,(i:Int))) 16 (by omega) (λi hi=>?_) ?_
 ·show yY (plB wd w) N _ _ (i:Int)=_;unfold yY uB;have hw0:wd[wd.idxOf w]?=some w:=zwg hw;have hk:=zhA wd w i;rw[decide_eq_true (by omega),cond_true,zJ (by omega) (by omega),zlb];rcases h.nxt _ N w hN hw0 i hi with⟨q1,q2⟩|⟨j,q1,q2,q3⟩
  ·rw[zA (l:=[N.e0,N.e1,N.e2,N.e3,N.e4,N.e5,N.e6,N.e7,N.e8,N.e9,N.e10,N.e11,N.e12,N.e13,N.e14,N.e15]) q1,oB,decide_eq_false (by omega),cond_false,if_neg q2,hU];rfl
  ·rw[zA (l:=[N.e0,N.e1,N.e2,N.e3,N.e4,N.e5,N.e6,N.e7,N.e8,N.e9,N.e10,N.e11,N.e12,N.e13,N.e14,N.e15]) q1,oB,decide_eq_true (by omega),cond_true,z6L,oB,if_pos (pO q3)];have e:plB wd (w++[(i:Int)])=zi.mk (j:Int) (w++[(i:Int)]):=by unfold plB;rw[zqo h.nod q3]
   rw[gdT (by show w.length+1<=_;omega),gdT (by simp;omega),mF,pL];simp only[gM,nP,e];simp[plB]
 ·show yY (plB wd w) N _ _ 16=_;unfold yY;rfl
variable (hM:∀w∈wd,w.length<=1000)(hlen:wd.length<=20000000)
include hM
theorem zsd (hl:∀w∈l,w∈wd)(hn:l.length<=20000000){out:List (List Int)}(ho:out.length<=20000000){lv mo:Int} :
  loop (λs=>yZ (zb.mk nodes lv mo) (l.map (plB wd)) s.1 s.2.1 s.2.2) (out,([]:List zi),0)=some (out++l.filter (XE wd),(l.flatMap λw=>zc5 wd w 16).map (plB wd)):=by
 have hs:=ww (step:=λs=>yZ (zb.mk nodes lv mo) (l.map (plB wd)) s.1 s.2.1 s.2.2) (λi=>(out++(l.take i).filter (XE wd),((l.take i).flatMap λw=>zc5 wd w 16).map (plB wd),(i:Int))) l.length (t:=(out++l.filter (XE wd),(l.flatMap λw=>zc5 wd w 16).map (plB wd))) (by omega) (λi hi=>?_) ?_
 ·simpa using hs
 ·show yZ _ _ _ _ (i:Int)=_;have hx:l[i]?=some l[i]:=p7 hi;have hw:=hl _ (pI hi);have hlt:wd.idxOf l[i]<nodes.length:=by rw[h.len];exact List.idxOf_lt_length_iff.2 hw
  have hN:nodes[wd.idxOf l[i]]?=some nodes[wd.idxOf l[i]]:=p7 hlt;have hp:(l.map (plB wd))[i]?=some (plB wd l[i]):=by rw[gT,hx];rfl
  have hfl:∀m:List (List Int),(m.flatMap λw=>zc5 wd w 16).length<=m.length*16:=by
   intro m;induction m with
   | nil=>simp
   | cons v m ih=>have:=zhA wd v 16;rw[nY,pN,gI];omega
  have h1:=hfl (l.take i);rw[pU]at h1;have h2:((l.take i).filter (XE wd)).length<=i:=pE (mS _ _) (by rw[pU];omega);unfold yZ;rw[decide_eq_true (by rw[gD];omega),cond_true,zA hp,oB];rw[show(plB wd l[i]).at_=((wd.idxOf l[i]:Nat):Int) from rfl,zA hN,oB,bdT (zvH h hw hN (hM _ hw) (by rw[gD];omega))];unfold kI uC;have t1:l.take (i+1)=l.take i++[l[i]]:=by rw[hZ,hx];rfl
  rw[zJ (by omega) (by omega),t1,List.filter_append,List.flatMap_append,mF];dsimp only
  cases hb:XE wd l[i] with
  | true=>rw[cond_true,show(plB wd l[i]).w_=l[i] from rfl,z6L,oB,gdT (by simp;omega)];simp[hb]
  | false=>simp[hb]
 ·show yZ _ _ _ _ (l.length:Int)=_;unfold yZ;rw[decide_eq_false (by rw[gD];omega),cond_false,gV]
omit hM in
theorem zqb (k:Nat):((LW wd k).flatMap λw=>zc5 wd w 16)=LW wd (k+1):=by
 have e:((LW wd k).flatMap λw=>zc5 wd w 16)=((LW wd k).flatMap (z5v 16)).filter λx=>decide (x∈wd):=by rw[List.filter_flatMap];rfl
 rw[e];refine SW.unique ((zgz 16 k (zpL wd k) λw hw=>(z1F.1 hw).2).filter _) (zpL _ _) λx=>?_;rw[mE,gY,z1F,decide_eq_true_eq];constructor
 ·rintro⟨⟨w,q1,q2⟩,q3⟩;simp only[z5v,pW]at q2;obtain⟨s,_,rfl⟩:=q2;exact⟨q3,by simp[(z1F.1 q1).2]⟩
 ·rintro⟨q1,q2⟩;rcases rO x with rfl|⟨w,s,rfl⟩
  ·simp at q2
  ·rw[List.concat_eq_append]at q1 q2 ⊢;obtain⟨c1,c2,c3⟩:=h.clo w s q1;refine⟨⟨w,z1F.2 ⟨c1,by simpa using q2⟩,?_⟩,q1⟩;simp only[z5v,pW,gU];exact⟨s.toNat,by omega,by rw[nA c2]⟩
include hlen
theorem zqJ (hpre:∀v∈wd,∀j,v.take j∈wd)(lv mo:Int):vT (zb.mk nodes lv mo)=some ((srt wd).filter (XE wd)):=by
 have hsl:=KE wd;unfold vT;refine Ret.eq ?_;rw[zt];refine(zQ (λq:List (List Int)×List zi=>∃k:Nat,q.1=((srt wd).filter λx=>decide (x.length<k)&&XE wd x)/\q.2=(LW wd k).map (plB wd)) (λq=>match q.2 with|[]=>0|p::_=>1001 - p.w_.length) (R:=λt=>t=(srt wd).filter (XE wd)) ⟨0,?_,?_⟩ ?_ ?_).mono λt ht=>?_
 ·simp
 ·have hL:LW wd 0=[[]]:=SW.unique (zpL wd 0) (by simp[SW]) λx=>by rw[z1F,pR];exact⟨λq=>mU q.2,λq=>q ▸ ⟨pO h.root,rfl⟩⟩
  rw[hL];simp[plB,zqo h.nod h.root]
 ·show 1001 - 0<_;omega
 ·rintro⟨_,_⟩ ⟨k,rfl,rfl⟩;unfold kH;by_cases he:LW wd k=[]
  ·rw[he,decide_eq_false (by simp),cond_false,ze];refine List.filter_congr λx hx=>?_;have:x.length<k:=Nat.lt_of_not_le λq=>by have:x.take k∈LW wd k:=z1F.2 ⟨hpre x (yb.1 hx) k,by rw[pU];omega⟩;rw[he]at this;cases this
   simp[this]
  ·have hpos:0<(LW wd k).length:=nJ.2 he;have hle:(LW wd k).length<=20000000:=pE (mS _ _) (by omega);have hle2:((srt wd).filter λx=>decide (x.length<k)&&XE wd x).length<=20000000:=pE (mS _ _) (by omega);rw[decide_eq_true (by rw[gD];omega),cond_true,bdT (zsd h hM (λw hw=>(z1F.1 hw).1) hle hle2)];unfold kJ;rw[ze];refine⟨⟨k+1,?_,by rw[zqb h]⟩,?_⟩
   ·refine SW.unique ?_ ((X8 wd).filter _) λx=>?_
    ·unfold SW;rw[nN];refine⟨(X8 wd).filter _,(zpL wd k).filter _,λx hx y hy=>?_⟩;have h1:x.length<k:=by have:=(mE.1 hx).2;rw[pJ,decide_eq_true_eq]at this;exact this.1
     have h2:=(z1F.1 (mE.1 hy).1).2;unfold ZW;rw[if_pos (by omega)];omega
    ·simp only[pA,mE,yb,z1F,pJ,decide_eq_true_eq];constructor
     ·rintro(⟨q1,q2,q3⟩|⟨⟨q1,q2⟩,q3⟩)
      ·exact⟨q1,by omega,q3⟩
      ·exact⟨q1,by omega,q3⟩
     ·rintro⟨q1,q2,q3⟩;rcases pH x.length k with q|q
      ·exact .inl ⟨q1,q,q3⟩
      ·exact .inr ⟨⟨q1,by omega⟩,q3⟩
   ·obtain⟨w,l,hwl⟩:=List.exists_cons_of_ne_nil he;have hw1:w∈LW wd k:=by rw[hwl];simp
    have hw2:=(z1F.1 hw1).2;have hw3:=hM w (z1F.1 hw1).1;show(match ((LW wd k).flatMap λw=>zc5 wd w 16).map (plB wd) with|[]=>0|p::_=>1001 - p.w_.length)<(match (LW wd k).map (plB wd) with|[]=>0|p::_=>1001 - p.w_.length);rw[zqb h,hwl];show _<1001 - w.length;cases hq:LW wd (k+1) with
    | nil=>show 0<_;omega
    | cons v r=>
     have:v∈LW wd (k+1):=by rw[hq];simp
     have:=(z1F.1 this).2;show 1001 - v.length<_;omega
 ·subst ht;unfold kK;rw[show wn ((srt wd).filter (XE wd))=some ((srt wd).filter (XE wd)) from rfl];exact ze.2 rfl
end
def lvT (T:List (List Int)):Int:=if T.all List.isEmpty then 0 else((VL (srt T)).length:Int)
theorem zeL {l m:List (List Int)}(h1:l.Nodup)(h2:m.Nodup)(h:∀x,x∈l↔x∈m):l.length=m.length :=
 Nat.le_antisymm (z7J h1 λx q=>(h x).1 q).1 (z7J h2 λx q=>(h x).2 q).1
theorem zgQ.done {T:List (List Int)}  {leaves:Int}(h:zgQ T nodes leaves)(hT:T≠[])(hn:T.length<=100000)(hw:∀w∈T,w.length<=1000/\∀c∈w,0<=c/\c<16)(mo:Int) :
  vT (zb.mk nodes leaves mo)=some (VL (srt T))/\leaves=lvT T:=by
 obtain⟨wd,hTr,hm,rfl,hlen⟩:=h;have hpre:∀v∈wd,∀j,v.take j∈wd:=λv hv j=>by
  rcases(hm v).1 hv with rfl|⟨w,q1,i,q2,rfl⟩
  ·rw[List.take_nil];exact(hm _).2 (.inl rfl)
  ·exact(hm _).2 (.inr ⟨w,q1,min j i,by omega,by rw[r8]⟩)
 have hM:∀w∈wd,w.length<=1000:=λv hv=>by
  rcases(hm v).1 hv with rfl|⟨w,q1,i,q2,rfl⟩
  ·simp
  ·have:=(hw w q1).1;rw[pU];omega
 have hin:∀w∈T,w∈wd:=λw q=>(hm w).2 (.inr ⟨w,q,w.length,pC _,by simp⟩);have hred:(srt wd).filter (XE wd)=VL (srt T):=by
  refine SW.unique ((X8 wd).filter _) ((X8 T).filter _) λx=>?_;rw[mE,yb,z0o,Ku,yb];constructor
  ·rintro⟨q1,q2⟩;have hx:∃w∈T,∃j,j<=w.length/\x=w.take j:=by
    rcases(hm x).1 q1 with rfl|q
    ·obtain⟨w,r,e⟩:=List.exists_cons_of_ne_nil hT;exact⟨w,by rw[e];simp,0,pT _,by simp⟩
    ·exact q
   have hno:∀v∈T,¬(x.length<v.length/\v.take x.length=x):=λv hv ⟨r1,r2⟩=>by have hc:=(hw v hv).2 _ (pI r1);refine q2 v[x.length].toNat (by omega) ((hm _).2 (.inr ⟨v,hv,x.length+1,r1,?_⟩));rw[nA hc.1,hZ,r2,p7 r1];rfl
   obtain⟨w,r1,j,r2,rfl⟩:=hx;have:j=w.length:=Nat.le_antisymm r2 (Nat.le_of_not_lt λr=>hno w r1 ⟨by rw[pU];omega,by rw[pU,mH r2]⟩);subst this;rw[gV]at hno ⊢;exact⟨r1,λv hv=>hno v (yb.1 hv)⟩
  ·rintro⟨q1,q2⟩;refine⟨hin x q1,λs hs q=>?_⟩;rcases(hm _).1 q with q|⟨v,r1,j,r2,r3⟩
   ·simp at q
   ·have hl:=congrArg List.length r3;rw[pN,List.length_singleton,pU,mH r2]at hl;refine q2 v (yb.2 r1) ⟨by omega,?_⟩;have:=congrArg (List.take x.length) r3;rw[List.take_append_of_le_length (pC _),gV,r8,mH (by omega)]at this;exact this.symm
 refine⟨by rw[zqJ hTr hM (by omega) hpre,hred],?_⟩;unfold lfc lvT;have hroot:[]∈wd:=pO hTr.root;have hone:wd.length=1↔T.all List.isEmpty=true:=by
  rw[gJ];constructor
  ·intro q w hw2;obtain⟨y,hy⟩:=mG.1 q;have h1:=hin w hw2;rw[hy,pR]at h1 hroot;rw[h1,<-hroot];rfl
  ·intro q;have:∀x,x∈wd↔x∈[([]:List Int)]:=λx=>by
    rw[pR];refine⟨λr=>?_,λr=>r ▸ hroot⟩;rcases(hm x).1 r with r|⟨w,r1,j,r2,r3⟩
    ·exact r
    ·have:=List.isEmpty_iff.1 (q w r1);subst this;simpa using r3
   exact zeL hTr.nod (by simp) this
 by_cases q:wd.length=1
 ·rw[if_pos q,if_pos (hone.1 q)]
 ·rw[if_neg q,if_neg (λr=>q (hone.2 r)),<-hred,zeL (hTr.nod.filter _) ((X8 wd).nodup.filter _) λx=>by rw[mE,mE,yb]]
theorem zke {T T':List (List Int)}(h:∀w∈T,w∈T')(hw:∀w∈T',w.length<=1000):(VL (srt T)).length<=(VL (srt T')).length:=by
 have ext:∀(n:Nat) (w:List Int),w∈T'->1001 - w.length<=n->∃v∈VL (srt T'),w.length<=v.length/\v.take w.length=w:=by
  intro n;induction n with
  | zero=>intro w q1 q2;have:=hw w q1;omega
  | succ n ih=>
   intro w q1 q2;by_cases c:∃v∈T',w.length<v.length/\v.take w.length=w
   ·obtain⟨v,r1,r2,r3⟩:=c;obtain⟨u,s1,s2,s3⟩:=ih v r1 (by omega);refine⟨u,s1,by omega,?_⟩;have:(u.take v.length).take w.length=u.take w.length:=by rw[r8,mH (by omega)]
    rw[s3,r3]at this;exact this.symm
   ·exact⟨w,Ku.2 ⟨yb.2 q1,λv hv q=>c ⟨v,yb.1 hv,q⟩⟩,pC _,by simp⟩
 let f:List Int->List Int:=λw=>if c:w∈T' then(ext 1001 w c (by omega)).choose else w
 have hf:∀w∈T',f w∈VL (srt T')/\w.length<=(f w).length/\(f w).take w.length=w:=λw c=>by show(if c:w∈T' then _ else _)∈_/\_;have:=(ext 1001 w c (by omega)).choose_spec;simp only[f,c,dif_pos];exact this
 have hR:∀w∈VL (srt T),w∈T/\∀v∈T,¬(w.length<v.length/\v.take w.length=w):=λw q=>⟨yb.1 (Ku.1 q).1,λv hv=>(Ku.1 q).2 v (yb.2 hv)⟩;have hinj:∀w∈VL (srt T),∀v∈VL (srt T),f w=f v->w=v:=by
  intro w qw v qv e;obtain⟨w1,w2⟩:=hR w qw;obtain⟨v1,v2⟩:=hR v qv;obtain⟨_,a1,a2⟩:=hf w (h w w1);obtain⟨_,b1,b2⟩:=hf v (h v v1);rw[e]at a1 a2;rcases nD w.length v.length with q|q|q
  ·refine absurd ⟨q,?_⟩ (w2 v v1);rw[<-b2,r8,mH (by omega),a2]
  ·exact a2.symm.trans ((congrArg (λn=>(f v).take n) q).trans b2)
  ·refine absurd ⟨q,?_⟩ (v2 w w1);rw[<-a2,r8,mH (by omega),b2]
 have hnd:((VL (srt T)).map f).Nodup:=by unfold List.Nodup;rw[rI];refine rt (λ{a b} ha hb q e=>q (hinj a ha b hb e)) ((X8 T).filter _).nodup
 have:=(z7J hnd λx hx=>by obtain⟨w,q1,rfl⟩:=pW.1 hx;exact(hf w (h w (hR w q1).1)).1).1
 simpa using this
theorem zhv {T T':List (List Int)}(h:∀w∈T,w∈T')(hw:∀w∈T',w.length<=1000):lvT T<=lvT T':=by
 have:=zke h hw;unfold lvT;by_cases q:T.all List.isEmpty=true
 ·rw[if_pos q];split <;> omega
 ·rw[if_neg q,if_neg (λr=>q (by rw[gJ]at r ⊢;exact λw hw=>r w (h w hw)))];omega
abbrev NB:=List (zq Int)×Int×Int
def NOk (T W:List (List Int))(most:Int)(r:NB⊕(zb×Bool)):Prop :=
 (∃nodes leaves,r=.inl (nodes,leaves,most)/\zgQ (T++W) nodes leaves/\leaves<=most)\/∃b,r=.inr (b,true)/\most<lvT (T++W)
def NSt (f:NB->Option (NB⊕(zb×Bool)))(W:List (List Int)):Prop :=
 ∀T most nodes leaves,zgQ T nodes leaves->leaves<=most->T.length+W.length<=100000->(∀w∈T,w.length<=100/\∀c∈w,0<=c/\c<16)->Ret (f (nodes,leaves,most)) (NOk T W most)
def LOk (L k:Nat)(l:List (List Int)):Prop:=l.length<=L/\∀w∈l,w.length<=k/\∀c∈w,0<=c/\c<16
variable {α:Type}
theorem LOk.flat {l:List α}{W:α->List (List Int)}{L k n:Nat}(hl:l.length<=n)(h:∀x∈l,LOk L k (W x)):LOk (n*L) k (l.flatMap W):=by
 constructor
 ·refine pE ?_ (gF L hl);clear hl;induction l with
  | nil=>simp
  | cons x l ih=>have h1:=(h x (by simp)).1;have h2:=ih λy hy=>h y (by simp[hy]);rw[nY,pN,gI,rq];omega
 ·intro w hw;obtain⟨x,q1,q2⟩:=gY.1 hw;exact(h x q1).2 w q2
theorem zoq {α ρ:Type}{l:List α}{W:α->List (List Int)}{inner:α->NB->Option (NB⊕(zb×Bool))}{fin:NB->ρ}{bd:zb×Bool->ρ}
    {step:List (zq Int)×Int×Int×Int->Option (LR (List (zq Int)×Int×Int×Int) ρ)}
    (hs:∀nodes leaves most i,step (nodes,leaves,most,i)=bif decide (i<((l.length:Nat):Int)) then(Option.bind (idx l i) λx=>Option.bind (inner x (nodes,leaves,most)) λt=>match t with|.inl p=>some (.next (p.1,p.2.1,p.2.2,w64 (i+1)))|.inr p=>some (.done (bd p))) else some (.done (fin (nodes,leaves,most))))
    {L:Nat} (hl:l.length<=100000) (hw:∀x∈l,LOk L 100 (W x)) (hi:∀x∈l,NSt (inner x) (W x)) {T:List (List Int)} {most leaves:Int} {nodes:List (zq Int)} (hB:zgQ T nodes leaves) (hm:leaves<=most) (hn:T.length+(l.flatMap W).length<=100000) (hT:∀w∈T,w.length<=100/\∀c∈w,0<=c/\c<16) :
    Ret (loop step (nodes,leaves,most,0)) λr=>∃t,NOk T (l.flatMap W) most t/\r=Sum.elim fin bd t:=by
  refine zQ (λq=>∃i:Nat,q.2.2.2=(i:Int)/\q.2.2.1=most/\i<=l.length/\zgQ (T++(l.take i).flatMap W) q.1 q.2.1/\q.2.1<=most) (λq=>l.length - q.2.2.2.toNat) ⟨0,rfl,rfl,pT _,by simpa using hB,hm⟩ (by show l.length - _<_;omega) ?_;rintro⟨nodes,leaves,_,_⟩ ⟨i,rfl,rfl,hi1,g,gm⟩;rw[hs];dsimp only at g gm ⊢;rcases pH i l.length with q|q
  · have hx:l[i]?=some l[i]:=p7 q;have htk:(l.take (i+1)).flatMap W=(l.take i).flatMap W++W l[i]:=by rw[hZ,hx,List.flatMap_append];simp
    have hsub:(l.take (i+1)).flatMap W++(l.drop (i+1)).flatMap W=l.flatMap W:=by rw[<-List.flatMap_append,mD]
    have hlen:=congrArg List.length hsub;rw[pN,htk,pN]at hlen;have hwd:∀w∈l.flatMap W,w.length<=100/\∀c∈w,0<=c/\c<16:=(LOk.flat (pC _) hw).2;rw[decide_eq_true (by omega),cond_true,zA hx,oB,zt];refine(hi _ (pI q) (T++(l.take i).flatMap W) _ nodes leaves g gm (by rw[pN];omega) λw hw2=>?_).mono λt ht=>?_
    · rcases pA.1 hw2 with r|r
      · exact hT w r
      · exact hwd w (by rw[<-hsub,htk];simp only[pA];exact .inl (.inl r))
    · rw[NOk,pL,<-htk]at ht;rcases ht with⟨nodes',leaves',rfl,t2,t3⟩|⟨b,rfl,t2⟩
      · dsimp only
        rw[zJ (by omega) (by omega),ze];exact⟨⟨i+1,by simp,rfl,q,t2,t3⟩,by show l.length - ((i:Int)+1).toNat<l.length - (i:Int).toNat;omega⟩
      · rw[ze];refine⟨.inr (b,true),.inr ⟨b,rfl,Int.lt_of_lt_of_le t2 (zhv (λw r=>?_) λw r=>?_)⟩,rfl⟩
        · rw[<-hsub];rcases pA.1 r with r|r
          · simp[r]
          · exact pA.2 (.inr (pA.2 (.inl r)))
        · rcases pA.1 r with r|r
          · have:=(hT w r).1;omega
          · have:=(hwd w r).1;omega
  · have:i=l.length:=by omega
    subst this;rw[gV]at g;rw[decide_eq_false (by omega),cond_false,ze];exact⟨.inl (nodes,leaves,_),.inl ⟨nodes,leaves,rfl,g,gm⟩,rfl⟩
theorem ztG {l:List α}{W:α->List (List Int)}{inner:α->NB->Option (NB⊕(zb×Bool))}{step:List (zq Int)×Int×Int×Int->Option (LR (List (zq Int)×Int×Int×Int) (NB⊕(zb×Bool)))}
    (hs:∀nodes leaves most i,step (nodes,leaves,most,i)=bif decide (i<((l.length:Nat):Int)) then(Option.bind (idx l i) λx=>Option.bind (inner x (nodes,leaves,most)) λt=>match t with|.inl p=>some (.next (p.1,p.2.1,p.2.2,w64 (i+1)))|.inr p=>some (.done (.inr p))) else some (.done (.inl (nodes,leaves,most))))
    {L:Nat} (hl:l.length<=100000) (hw:∀x∈l,LOk L 100 (W x)) (hi:∀x∈l,NSt (inner x) (W x)):NSt (λs=>loop step (s.1,s.2.1,s.2.2,0)) (l.flatMap W) :=
  λT most nodes leaves hB hm hn hT=>(zoq hs hl hw hi hB hm hn hT).mono λr ⟨t,t1,t2⟩=>by
    have:r=t:=by rw[t2];cases t <;> rfl
    exact this ▸ t1
theorem zoW {l:List (List Int)}{u v:List Int}{b:zb}{step:List (zq Int)×Int×Int×Int->Option (LR (List (zq Int)×Int×Int×Int) (NB⊕(zb×Bool)))}
    (hs:∀nodes leaves most i,step (nodes,leaves,most,i)=bif decide (i<((l.length:Nat):Int)) then(Option.bind (idx l i) λw=>Option.bind (xW [u,v,w] (zb.mk nodes leaves most)) λr=>bif r.2 then some (.done (.inr (b,true))) else some (.next (r.1.nodes_,r.1.leaves_,r.1.most_,w64 (i+1)))) else some (.done (.inl (nodes,leaves,most))))
    {L:Nat} (hl:LOk L 30 l) (hL:L<=1000) (hu:u.length<=30/\∀c∈u,0<=c/\c<16) (hv:v.length<=30/\∀c∈v,0<=c/\c<16):NSt (λs=>loop step (s.1,s.2.1,s.2.2,0)) (l.flatMap λw=>[[u,v,w].flatten])/\LOk L 100 (l.flatMap λw=>[[u,v,w].flatten]):=by
  have hf:∀w∈l,[u,v,w].flatten.length<=100/\∀c∈[u,v,w].flatten,0<=c/\c<16:=λw q=>by
    have:=hl.2 w q;refine⟨by simp;omega,λc hc=>?_⟩;simp at hc;rcases hc with r|r|r
    · exact hu.2 c r
    · exact hv.2 c r
    · exact this.2 c r
  have h1:∀w∈l,LOk 1 100 [[u,v,w].flatten]:=λw q=>⟨by simp,λx hx=>by rw[pR]at hx;subst hx;exact hf w q⟩;refine⟨ztG (inner:=λw s=>Option.bind (xW [u,v,w] (zb.mk s.1 s.2.1 s.2.2)) λr=>some (bif r.2 then .inr (b,true) else .inl (r.1.nodes_,r.1.leaves_,r.1.most_))) (λnodes leaves most i=>?_) (by have:=hl.1;omega) h1 λw hw=>?_,by simpa using LOk.flat hl.1 h1⟩
  · rw[hs];congr 2;funext w;cases xW [u,v,w] (zb.mk nodes leaves most) with
    | none=>rfl
    | some r=>simp only[oB];cases r.2 <;> rfl
  · intro T most nodes leaves hB hm hn hT;obtain⟨f1,f2⟩:=hf w hw;rw[zt];refine(zsL hB (parts:=[u,v,w]) (by simp) (by omega) f1 λpart hp c hc=>f2 c (List.mem_flatten.2 ⟨part,hp,hc⟩)).mono λr hr=>?_;obtain⟨nodes',leaves',r1,⟨r2,rfl⟩|⟨r2,r3⟩⟩:=hr
    · exact ze.2 (.inl ⟨nodes',leaves',rfl,r1,r2⟩)
    · rw[r3];refine ze.2 (.inr ⟨b,rfl,?_⟩);rw[<-(r1.done (by simp) (by simpa using hn) (λx hx=>?_) 0).2]
      · exact r2
      · rcases pA.1 hx with q|q
        · have:=hT x q;exact⟨by omega,this.2⟩
        · rw[pR]at q;subst q;exact⟨by omega,f2⟩
noncomputable def z8c (m:z6):List (List Int):=(Ps m).filter λx=>!decide (x∈Qs m)
noncomputable def fw (m:z6)(k:Nat):Nat->List (List Int)
 | 0=>(Ps m).flatMap λu=>(uz (kk m) 0 (k+1)).flatMap λv=>(uP (WA m)).flatMap λw=>[[u,v,w].flatten]
 | 1=>((Qs m).flatMap λu=>(uz (kk m) 0 (k+1)).flatMap λv=>(uP (WA m)).flatMap λw=>[[u,v,w].flatten])++(z8c m).flatMap λu=>(exW (kk m) k).flatMap λv=>(uP (WS m (stA m (u++v)))).flatMap λw=>[[u,v,w].flatten]
 | _=>(Ps m).flatMap λu=>(uz (kk m) 0 (k+1)).flatMap λv=>(uP (WS m (stA m (u++v)))).flatMap λw=>[[u,v,w].flatten]
variable {most:Int}
section
variable {m:z6}(h:KM m){k:Nat}(hk:k<=3)
include h hk
theorem zhw:LOk 6 30 (Qs m)/\LOk 30 30 (Ps m)/\LOk 30 30 (z8c m)/\LOk 85 30 (uz (kk m) 0 (k+1))/\LOk 64 30 (exW (kk m) k)/\∀P,LOk 36 30 (uP (WL m P)):=by
 obtain⟨k1,k2,k3⟩:=h.k4;obtain⟨_,_,_,_,w1,w2,_⟩:=zq4 h;have hi:=h.inp;have h2:∀{L j:Nat} {l:List (List Int)},Wq m.Inputs L j l->j<=30->LOk L 30 l:=λq r=>⟨q.2.1,λw hw=>⟨pE (q.2.2 w hw).1 r,λc hc=>by have:=(q.2.2 w hw).2 c hc;omega⟩⟩;have h3:LOk 30 30 (Ps m):=h2 w2 (by omega);have e1:∀a,a<=4->∀k,k<=3->lnW a 0 (k+1)<=85:=by decide
 have e2:∀a,a<=4->∀k,k<=3->a ^ k<=64:=by decide
 refine⟨h2 w1 (by omega),h3,⟨pE (mS _ _) h3.1,λw hw=>h3.2 w (mE.1 hw).1⟩,⟨by rw[z3i];exact e1 _ k2 _ hk,λw hw=>?_⟩,⟨by rw[Jw];exact e2 _ k2 _ hk,λw hw=>?_⟩,λP=>?_⟩
 ·have:=z2D _ 0 k w hw;exact⟨by omega,λc hc=>by have:=z5p _ 0 _ w hw c hc;omega⟩
 ·have:=Xy _ k w hw;exact⟨by omega,λc hc=>by have:=za7 _ _ w hw c hc;omega⟩
 ·obtain⟨a1,a2⟩:=zdh h (P:=P);exact⟨a1,λw hw=>by have:=a2 w hw;exact⟨by omega,λc hc=>by have:=this.2 c hc;omega⟩⟩
theorem zpP {u v:List Int}(hu:u∈Ps m\/u∈Qs m)(hv:v∈uz (kk m) 0 (k+1)\/v∈exW (kk m) k):xG (V7 m k) u v=some (uP (WS m (stA m (u++v)))):=by
 obtain⟨k1,k2,k3⟩:=h.k4;obtain⟨_,_,_,_,w1,w2,_⟩:=zq4 h;have a1:u.length<=256/\∀c∈u,0<=c/\c<m.Inputs:=by
  rcases hu with q|q
  ·have:=w2.2.2 u q;exact⟨by omega,this.2⟩
  ·have:=w1.2.2 u q;exact⟨by omega,this.2⟩
 have a2:v.length<=256/\∀c∈v,0<=c/\c<m.Inputs:=by
  rcases hv with q|q
  ·have:=z2D _ 0 k v q;exact⟨by omega,λc hc=>by have:=z5p _ 0 _ v q c hc;omega⟩
  ·have:=Xy _ k v q;exact⟨by omega,λc hc=>by have:=za7 _ _ v q c hc;omega⟩
 exact zpH h k a1.2 a2.2 a1.1 a2.1
def FOk (F:List (List Int))(most:Int)(r:zb×Bool):Prop:=(∃nodes leaves,r=(zb.mk nodes leaves most,false)/\zgQ F nodes leaves/\leaves<=most)\/r.2=true/\most<lvT F
omit h hk in
theorem FOk.of {F:List (List Int)}  {r:zb×Bool}(h:∃t,NOk [] F most t/\r=Sum.elim (λq:NB=>(zb.mk q.1 q.2.1 q.2.2,false)) id t):FOk F most r:=by
 obtain⟨t,⟨n,l,rfl,h1,h2⟩|⟨b,rfl,h1⟩,rfl⟩:=h
 ·exact .inl ⟨n,l,rfl,h1,h2⟩
 ·exact .inr ⟨rfl,h1⟩
theorem zvZ (hm:0<=most){s:Nat}(hs:s<=2):Ret (match s with|0=>vF ⟨⟩ (V7 m k) (zb.mk [z16] 0 most)|1=>wW ⟨⟩ (V7 m k) (zb.mk [z16] 0 most)|2=>wI ⟨⟩ (V7 m k) (zb.mk [z16] 0 most)|_=>none) (FOk (fw m k s) most)/\(fw m k s).length<=100000/\∀w∈fw m k s,w.length<=100/\∀c∈w,0<=c/\c<16:=by
 obtain⟨l1,l2,l3,l4,l5,l6⟩:=zhw h hk;have bag:∀{u v:List Int} {L:Nat} {l:List (List Int)} (hu:LOk L 30 l) (q:u∈l),u.length<=30/\∀c∈u,0<=c/\c<16:=λhu q=>hu.2 _ q;match s,hs with
 | 0,_=>have i1:∀u∈Ps m,∀v∈uz (kk m) 0 (k+1),_:=λu hu v hv=>zoW (u:=u) (v:=v) (b:=zb.mk [z16] 0 most) (step:=λs=>qr (V7 m k) (zb.mk [z16] 0 most) u v s.1 s.2.1 s.2.2.1 s.2.2.2) (λ_ _ _ _=>rfl) (l6 λ_ _=>True) (by omega) (l2.2 u hu) (l4.2 v hv);have i2:∀u∈Ps m,NSt (λs=>loop (λs=>qt (V7 m k) (zb.mk [z16] 0 most) u s.1 s.2.1 s.2.2.1 s.2.2.2) (s.1,s.2.1,s.2.2,0)) _:=λu hu=>ztG (l:=uz (kk m) 0 (k+1)) (λ_ _ _ _=>rfl) (pE l4.1 (by omega)) (λv hv=>(i1 u hu v hv).2) λv hv=>(i1 u hu v hv).1;have j2:=λu hu=>LOk.flat l4.1 λv hv=>(i1 u hu v hv).2;have j3:=LOk.flat l2.1 j2;refine⟨?_,pE j3.1 (by omega),j3.2⟩;show Ret (vF _ _ _) _;unfold vF;rw[zt];refine(zoq (l:=Ps m) (step:=λs=>qu (V7 m k) (zb.mk [z16] 0 most) s.1 s.2.1 s.2.2.1 s.2.2.2) (fin:=λq:NB=>(zb.mk q.1 q.2.1 q.2.2,false)) (bd:=id) (λ_ _ _ _=>rfl) (pE l2.1 (by omega)) j2 i2 zgQ.nil hm (pE (Nat.le_of_eq (gN _)) (pE j3.1 (by omega))) (λw q=>by cases q)).mono λr hr=>ze.2 (FOk.of hr)
 | 1,_=>
  have hmin:Xz (V7 m k).p_ (V7 m k).q_ (V7 m k).m_.Inputs=some (z8c m,0):=by obtain⟨_,_,_,_,w1,w2,_⟩:=zq4 h;have a1:=h.vm.in1;have a2:=h.vm.in16;show Xz (Ps m) (Qs m) m.Inputs=_;rw[zjs,if_neg (λq=>q (zdp.2 ⟨w2.ch ⟨a1,a2⟩ (by omega) (by omega) (by omega),w1.ch ⟨a1,a2⟩ (by omega) (by omega) (by omega)⟩))];rfl
  have hP:∀u∈z8c m,u∈Ps m:=λu q=>(mE.1 q).1;have i1:∀u∈Qs m,∀v∈uz (kk m) 0 (k+1),_:=λu hu v hv=>zoW (u:=u) (v:=v) (b:=zb.mk [z16] 0 most) (step:=λs=>u9 (V7 m k) (zb.mk [z16] 0 most) u v s.1 s.2.1 s.2.2.1 s.2.2.2) (λ_ _ _ _=>rfl) (l6 λ_ _=>True) (by omega) (l1.2 u hu) (l4.2 v hv);have i2:∀u∈Qs m,NSt (λs=>loop (λs=>uU (V7 m k) (zb.mk [z16] 0 most) u s.1 s.2.1 s.2.2.1 s.2.2.2) (s.1,s.2.1,s.2.2,0)) _:=λu hu=>ztG (l:=uz (kk m) 0 (k+1)) (λ_ _ _ _=>rfl) (pE l4.1 (by omega)) (λv hv=>(i1 u hu v hv).2) λv hv=>(i1 u hu v hv).1;have j2:=λu hu=>LOk.flat l4.1 λv hv=>(i1 u hu v hv).2;have j3:=LOk.flat l1.1 j2;have i3:=ztG (l:=Qs m) (step:=λs=>uV (V7 m k) (zb.mk [z16] 0 most) s.1 s.2.1 s.2.2.1 s.2.2.2) (λ_ _ _ _=>rfl) (pE l1.1 (by omega)) j2 i2;have n1:∀u∈z8c m,∀v∈exW (kk m) k,_:=λu hu v hv=>zoW (u:=u) (v:=v) (b:=zb.mk [z16] 0 most) (step:=λs=>wQ (zb.mk [z16] 0 most) u v (uP (WS m (stA m (u++v)))) s.1 s.2.1 s.2.2.1 s.2.2.2) (λ_ _ _ _=>rfl) (l6 (pS (stA m (u++v)))) (by omega) (l3.2 u hu) (l5.2 v hv);have n2:∀u∈z8c m,NSt (λs=>loop (λs=>uW (V7 m k) (zb.mk [z16] 0 most) u s.1 s.2.1 s.2.2.1 s.2.2.2) (s.1,s.2.1,s.2.2,0)) _:=λu hu=>ztG (l:=exW (kk m) k) (inner:=λv s=>Option.bind (xG (V7 m k) u v) λws=>loop (λs=>wQ (zb.mk [z16] 0 most) u v ws s.1 s.2.1 s.2.2.1 s.2.2.2) (s.1,s.2.1,s.2.2,0)) (λ_ _ _ _=>by simp only[Option.bind_assoc];rfl) (pE l5.1 (by omega)) (λv hv=>(n1 u hu v hv).2) λv hv T mo no le a b c d=>by simp only[zpP h hk (.inl (hP u hu)) (.inr hv),oB];exact(n1 u hu v hv).1 T mo no le a b c d
  have o2:=λu hu=>LOk.flat l5.1 λv hv=>(n1 u hu v hv).2;have o3:=LOk.flat l3.1 o2;have hlen:(fw m k 1).length<=100000:=by show(_++_:List (List Int)).length<=_;rw[pN];exact pE (Nat.add_le_add j3.1 o3.1) (by omega)
  have hwd:∀w∈fw m k 1,w.length<=100/\∀c∈w,0<=c/\c<16:=λw q=>(pA.1 q).elim (j3.2 w) (o3.2 w);refine⟨?_,hlen,hwd⟩;show Ret (wW _ _ _) _;unfold wW;rw[zt];refine(i3 [] most [z16] 0 zgQ.nil hm (pE (Nat.le_of_eq (gN _)) (pE j3.1 (by omega))) (λw q=>by cases q)).mono λr hr=>?_;rcases hr with⟨nodes,leaves,rfl,r1,r2⟩|⟨b,rfl,r1⟩
  ·dsimp only
   unfold uY;rw[bdT hmin,zt];refine(zoq (l:=z8c m) (step:=λs=>uX (V7 m k) (zb.mk [z16] 0 most) (z8c m,0) s.1 s.2.1 s.2.2.1 s.2.2.2) (fin:=λq:NB=>(zb.mk q.1 q.2.1 q.2.2,false)) (bd:=id) (λ_ _ _ _=>rfl) (pE l3.1 (by omega)) o2 n2 r1 r2 (pE (Nat.add_le_add j3.1 o3.1) (by omega)) (λw q=>j3.2 w q)).mono λr hr=>ze.2 (FOk.of ?_);obtain⟨t,t1,t2⟩:=hr;exact⟨t,t1,t2⟩
  ·refine ze.2 (.inr ⟨rfl,Int.lt_of_lt_of_le r1 (zhv (λw q=>pA.2 (.inl q)) λw q=>by have:=(hwd w q).1;omega)⟩)
 | 2,_=>
  have n1:∀u∈Ps m,∀v∈uz (kk m) 0 (k+1),_:=λu hu v hv=>zoW (u:=u) (v:=v) (b:=zb.mk [z16] 0 most) (step:=λs=>wB (zb.mk [z16] 0 most) u v (uP (WS m (stA m (u++v)))) s.1 s.2.1 s.2.2.1 s.2.2.2) (λ_ _ _ _=>rfl) (l6 (pS (stA m (u++v)))) (by omega) (l2.2 u hu) (l4.2 v hv);have n2:∀u∈Ps m,NSt (λs=>loop (λs=>ua (V7 m k) (zb.mk [z16] 0 most) u s.1 s.2.1 s.2.2.1 s.2.2.2) (s.1,s.2.1,s.2.2,0)) _:=λu hu=>ztG (l:=uz (kk m) 0 (k+1)) (inner:=λv s=>Option.bind (xG (V7 m k) u v) λws=>loop (λs=>wB (zb.mk [z16] 0 most) u v ws s.1 s.2.1 s.2.2.1 s.2.2.2) (s.1,s.2.1,s.2.2,0)) (λ_ _ _ _=>by simp only[Option.bind_assoc];rfl) (pE l4.1 (by omega)) (λv hv=>(n1 u hu v hv).2) λv hv T mo no le a b c d=>by simp only[zpP h hk (.inl hu) (.inl hv),oB];exact(n1 u hu v hv).1 T mo no le a b c d
  have o2:=λu hu=>LOk.flat l4.1 λv hv=>(n1 u hu v hv).2;have o3:=LOk.flat l2.1 o2;refine⟨?_,pE o3.1 (by omega),o3.2⟩;show Ret (wI _ _ _) _;unfold wI;rw[zt];refine(zoq (l:=Ps m) (step:=λs=>ub (V7 m k) (zb.mk [z16] 0 most) s.1 s.2.1 s.2.2.1 s.2.2.2) (fin:=λq:NB=>(zb.mk q.1 q.2.1 q.2.2,false)) (bd:=id) (λ_ _ _ _=>rfl) (pE l2.1 (by omega)) o2 n2 zgQ.nil hm (pE (Nat.le_of_eq (gN _)) (pE o3.1 (by omega))) (λw q=>by cases q)).mono λr hr=>ze.2 (FOk.of hr)
end
theorem zdb {a:Nat}:∀{k:Nat} {w:List Int},w∈exW a k↔w.length=k/\∀c∈w,0<=c/\c<(a:Int)
 | 0,w=>by simp only[exW,pR];exact⟨λq=>by subst q;simp,λq=>mU q.1⟩
 | k+1,w=>by
  refine⟨λq=>⟨Xy a _ w q,za7 a _ w q⟩,λq=>?_⟩;rcases rO w with rfl|⟨v,s,rfl⟩
  ·simp at q
  ·rw[List.concat_eq_append]at q ⊢;have hs:=q.2 s (by simp);rw[exW,gY];refine⟨v,zdb.2 ⟨by simpa using q.1,λc hc=>q.2 c (by simp[hc])⟩,?_⟩;rw[z5v,pW];exact⟨s.toNat,gU.2 (by omega),by rw[nA hs.1]⟩
theorem Xw {a:Nat}:∀{k:Nat} {w:List Int},w∈uz a 0 k↔w.length<k/\∀c∈w,0<=c/\c<(a:Int)
 | 0,w=>by simp[uz]
 | k+1,w=>by
  rw[uz,if_pos (pT _),pA,Xw,zdb];constructor
  ·rintro(q|q)
   ·exact⟨by omega,q.2⟩
   ·exact⟨by omega,q.2⟩
  ·rintro⟨q1,q2⟩;rcases pH w.length k with r|r
   ·exact .inl ⟨r,q2⟩
   ·exact .inr ⟨by omega,q2⟩
variable {m:z6}
theorem zqg:x∈Ps m↔∃q∈Qs m,∃i,i.length<=1/\(∀c∈i,0<=c/\c<(kk m:Int))/\q++i=x:=by
 unfold Ps;rw[yb,yV];constructor
 ·rintro⟨u,h1,v,h2,e⟩;have:=Xw.1 h2;exact⟨u,h1,v,by omega,this.2,e⟩
 ·rintro⟨u,h1,v,h2,h3,e⟩;exact⟨u,h1,v,Xw.2 ⟨by omega,h3⟩,e⟩
theorem zoe (h:x∈Qs m):x∈Ps m:=zqg.2 ⟨x,h,[],by simp,by simp,by simp⟩
theorem UF {P:Nat->Nat->Prop}  (h:x∈uP (WL m P)):x∈[]::WA m:=by
 unfold uP at h;split at h
 ·exact pD.2 (.inl (pR.1 h))
 ·obtain⟨a,b,h1,h2,_,e⟩:=zhu.1 h;exact nF _ (zhu.2 ⟨a,b,h1,h2,trivial,e⟩)
theorem zgp {k:Nat}  : x∈fw m k 0↔∃u∈Ps m,∃v∈uz (kk m) 0 (k+1),∃w∈uP (WA m),x=u++v++w:=by simp[fw]
theorem zgo {k:Nat}  : x∈fw m k 1↔(∃u∈Qs m,∃v∈uz (kk m) 0 (k+1),∃w∈uP (WA m),x=u++v++w)\/∃u∈z8c m,∃v∈exW (kk m) k,∃w∈uP (WS m (stA m (u++v))),x=u++v++w:=by simp[fw]
theorem zgn {k:Nat}  : x∈fw m k 2↔∃u∈Ps m,∃v∈uz (kk m) 0 (k+1),∃w∈uP (WS m (stA m (u++v))),x=u++v++w:=by simp[fw]
variable {k s:Nat}
theorem zqf (hs:s<=2)  (h:x∈fw m k s):∃u∈Ps m,∃v∈uz (kk m) 0 (k+1),∃w∈[]::WA m,x=u++v++w:=by
 rcases(by omega:s=0\/s=1\/s=2) with rfl|rfl|rfl
 ·obtain⟨u,h1,v,h2,w,h3,e⟩:=zgp.1 h;exact⟨u,h1,v,h2,w,UF h3,e⟩
 ·rcases zgo.1 h with⟨u,h1,v,h2,w,h3,e⟩|⟨u,h1,v,h2,w,h3,e⟩
  ·exact⟨u,zoe h1,v,h2,w,UF h3,e⟩
  ·have:=zdb.1 h2;exact⟨u,(mE.1 h1).1,v,Xw.2 ⟨by omega,this.2⟩,w,UF h3,e⟩
 ·obtain⟨u,h1,v,h2,w,h3,e⟩:=zgn.1 h;exact⟨u,h1,v,h2,w,UF h3,e⟩
section
variable {m:z6}(h:KM m)
include h
theorem zvd:1<=(Qs m).length:=by obtain⟨_,_,_,_,_,_,ha⟩:=zq4 h;have h1:(Ql m).length=m.Rows.length:=ha.1;have h2:=h.vm.len1;obtain⟨x,hx⟩:=List.exists_mem_of_length_pos (l:=Ql m) (by omega);exact List.length_pos_of_mem (yb.2 hx)
theorem zvW (hs:s<=2):fw m k s≠[]:=by
 obtain⟨q,hq⟩:=List.exists_mem_of_length_pos (l:=Qs m) (zvd h);have hn:∀P,∃w,w∈uP (WL m P):=λP=>List.exists_mem_of_length_pos (nJ.2 (zp7 _));have hv:[]∈uz (kk m) 0 (k+1):=Xw.2 ⟨by simp,by simp⟩;rcases(by omega:s=0\/s=1\/s=2) with rfl|rfl|rfl
 ·obtain⟨w,hw⟩:=hn λ_ _=>True;exact List.ne_nil_of_mem (zgp.2 ⟨q,zoe hq,[],hv,w,hw,rfl⟩)
 ·obtain⟨w,hw⟩:=hn λ_ _=>True;exact List.ne_nil_of_mem (zgo.2 (.inl ⟨q,hq,[],hv,w,hw,rfl⟩))
 ·obtain⟨w,hw⟩:=hn (pS (stA m (q++[])));exact List.ne_nil_of_mem (zgn.2 ⟨q,zoe hq,[],hv,w,hw,rfl⟩)
theorem zlu (hk:k<=3)(hs:s<=2)  (hx:x∈fw m k s):x.length<=16/\∀c∈x,0<=c/\c<m.Inputs:=by
 obtain⟨k1,k2,k3⟩:=h.k4;obtain⟨_,_,_,_,_,w2,_⟩:=zq4 h;obtain⟨u,h1,v,h2,w,h3,rfl⟩:=zqf hs hx;have e1:=w2.2.2 u h1;have e2:=Xw.1 h2;have e3:w.length<=5/\∀c∈w,0<=c/\c<m.Inputs:=by
  rcases pD.1 h3 with rfl|q
  ·simp
  ·exact(zjf h).2 w q
 refine⟨by simp only[pN];omega,λc hc=>?_⟩;simp only[pA]at hc;rcases hc with(q|q)|q
 ·exact e1.2 c q
 ·have:=e2.2 c q;omega
 ·exact e3.2 c q
theorem big {k:Nat}(hk:kk m<=3/\k<=2\/k<=1):∃B:List (List Int),B.length<=3840/\∀u∈Ps m,∀v∈uz (kk m) 0 (k+1),∀w∈[]::WA m,u++v++w∈B:=by
 obtain⟨k1,k2,k3⟩:=h.k4;obtain⟨_,_,_,_,w1,_,_⟩:=zq4 h;refine⟨wS (wS (Qs m) (uz (kk m) 0 (k+2))) ([]::WA m),?_,λu hu v hv w hw=>?_⟩
 ·have e1:(uz (kk m) 0 (k+2)).length<=40:=by
   have c1:∀a,a<=3->∀k,k<=2->lnW a 0 (k+2)<=40:=by decide
   have c2:∀a,a<=4->∀k,k<=1->lnW a 0 (k+2)<=40:=by decide
   rw[z3i];rcases hk with⟨q,r⟩|q
   ·exact c1 _ q _ r
   ·exact c2 _ k2 _ q
  have e2:(WA m).length<=15:=by
   refine pE (KE _) ?_;rw[gD];have:∀n,n<=6->((prL n).filter λp=>decide (p.1<p.2)).length<=15:=by decide
   refine pE (Nat.le_of_eq ?_) (this _ h.len);congr 1;exact List.filter_congr λp _=>by simp
  rw[z2B,z2B,gI];exact pE (mP (mP w1.2.1 e1) (Nat.succ_le_succ e2)) (by omega)
 ·obtain⟨q,q1,i,i1,i2,rfl⟩:=zqg.1 hu;have:=Xw.1 hv;refine yV.2 ⟨q++(i++v),yV.2 ⟨q,q1,i++v,Xw.2 ⟨by rw[pN];omega,λc hc=>?_⟩,rfl⟩,w,hw,by simp⟩;rcases pA.1 hc with r|r
  ·exact i2 c r
  ·exact this.2 c r
theorem zeB (hk:kk m<=3/\k<=2\/k<=1)(hs:s<=2):(VL (srt (fw m k s))).length<=3840:=by obtain⟨B,b1,b2⟩:=big h hk;refine pE (z7J ((X8 _).filter _).nodup λx hx=>?_).1 b1;obtain⟨u,h1,v,h2,w,h3,rfl⟩:=zqf hs (yb.1 (Ku.1 hx).1);exact b2 u h1 v h2 w h3
theorem zfb (hk:k<=3)(hs:s<=2)  (hm:0<=most) :
  (lvT (fw m k s)<=most/\∃nodes,kG (V7 m k) s most=some (some (zb.mk nodes (lvT (fw m k s)) most),true)/\vT (zb.mk nodes (lvT (fw m k s)) most)=some (VL (srt (fw m k s))))\/most<lvT (fw m k s)/\kG (V7 m k) s most=some (none,false):=by
 obtain⟨⟨r,e,hr⟩,hl,hw⟩:=zvZ h hk hm hs;have hg:kG (V7 m k) s most=some (bif r.2 then none else some r.1,!r.2):=by rcases(by omega:s=0\/s=1\/s=2) with rfl|rfl|rfl <;> · unfold kG;exact(congrArg (λz=>Option.bind z _) e)
 rcases hr with⟨nodes,leaves,rfl,r1,r2⟩|⟨r1,r2⟩
 ·obtain⟨d1,d2⟩:=r1.done (zvW h hs) hl (λw q=>by have:=hw w q;exact⟨by omega,this.2⟩) most;rw[d2]at d1 r2 hg;exact .inl ⟨r2,nodes,hg,d1⟩
 ·rw[r1]at hg;exact .inr ⟨r2,hg⟩
theorem zqh {k s:Nat}(hk:k<=3)(hs:s<=2):mx (lvT (fw m k s)) 1=((VL (srt (fw m k s))).length:Int)/\∀b:Int,1<=b->(lvT (fw m k s)<=b↔((VL (srt (fw m k s))).length:Int)<=b):=by
 obtain⟨x,hx⟩:=List.exists_mem_of_ne_nil _ (zvW h (k:=k) hs);have h1:(1:Nat)<=(VL (srt (fw m k s))).length:=by
  have:=zke (T:=[x]) (T':=fw m k s) (λw hw=>by rw[pR]at hw;subst hw;exact hx) λw hw=>by have:=(zlu h hk hs hw).1;omega
  have h2:(VL (srt [x])).length=1:=by simp[srt,zbs,VL,zbu]
  omega
 unfold lvT mx;by_cases q:(fw m k s).all List.isEmpty=true
 ·have h3:(VL (srt (fw m k s))).length<=1:=(z7J (L:=[[]]) ((X8 _).filter _).nodup λw hw=>by have:=gJ.1 q w (yb.1 (Ku.1 hw).1);rw[List.isEmpty_iff]at this;simp[this]).1
  rw[if_pos q];refine⟨?_,λb hb=>?_⟩
  ·rw[if_pos (by omega)];omega
  ·omega
 ·rw[if_neg q];refine⟨?_,λb hb=>Iff.rfl⟩;split <;> omega
theorem zhY {k:Nat}(hk:k<=4):XQ m ((m.Rows.length+k:Nat):Int)=some 0:=by have:=h.len;unfold XQ;rw[bdT h.proper,show((0:Int) != 0)=false from rfl,cond_false,decide_eq_false (by omega),cond_false,zJ (by omega) (by omega),decide_eq_false (by omega),cond_false]
theorem z8T (hk:k<=3)(hs:s<=2){b:Int}(h1:1<=b)(h2:b<=4096):vn s m ((m.Rows.length+k:Nat):Int) b=some (if((VL (srt (fw m k s))).length:Int)<=b then(VL (srt (fw m k s)),0) else([],13)):=by
 have a1:=h.vm.in1;have a2:=h.vm.in16;have hl:=(zqh h hk hs).2 b h1;unfold vn;rw[bdT (zhY h (by omega)),show((0:Int) != 0)=false from rfl,cond_false,decide_eq_false (by omega),cond_false,decide_eq_false (by omega),cond_false,bdT (zbV h hk)];dsimp only
 rw[show((0:Int) != 0)=false from rfl,cond_false,oB];rcases zfb h hk hs (most:=b) (by omega) with⟨g1,nodes,g2,g3⟩|⟨g1,g2⟩
 ·have hle:=hl.1 g1;have hw:Wq m.Inputs 4096 16 (VL (srt (fw m k s))):=⟨(X8 _).filter _,by omega,λw hw=>zlu h hk hs (yb.1 (Ku.1 hw).1)⟩;rw[bdT g2];dsimp only
  rw[gP,cond_false,oB,bdT g3,bdT (ze9 _ _),hw.ch ⟨a1,a2⟩ (by omega) (by omega) (by omega),show((0:Int) != 0)=false from rfl,cond_false,if_pos hle]
 ·rw[bdT g2];dsimp only
  rw[mM,cond_true,if_neg (λq=>by have:=hl.2 q;omega)]
theorem zCr {k:Nat}(hk:k<=3){b:Int}(h1:1<=b)(h2:b<=4096):Qd m ((m.Rows.length+k:Nat):Int) b=vn 0 m ((m.Rows.length+k:Nat):Int) b/\z0d m ((m.Rows.length+k:Nat):Int) b=vn 1 m ((m.Rows.length+k:Nat):Int) b/\QE m ((m.Rows.length+k:Nat):Int) b=vn 2 m ((m.Rows.length+k:Nat):Int) b:=by unfold Qd z0d QE;rw[z8T h hk (by omega) h1 h2,z8T h hk (by omega) h1 h2,z8T h hk (by omega) h1 h2];exact⟨rfl,rfl,rfl⟩
theorem zlN {k:Nat}(hk:k<=3):Ret (XP m ((m.Rows.length+k:Nat):Int)) λr=>(∀s,s<=2->(VL (srt (fw m k s))).length<=4096)->r=(Q9.mk ((VL (srt (fw m k 0))).length:Int) ((VL (srt (fw m k 1))).length:Int) ((VL (srt (fw m k 2))).length:Int),0):=by
 unfold XP;rw[bdT (zhY h (by omega)),show((0:Int) != 0)=false from rfl,cond_false,bdT (zbV h hk)];dsimp only
 rw[show((0:Int) != 0)=false from rfl,cond_false];have step:∀s:Nat,s<=2->∀n:Q9 Int,(∃r,jI (some (V7 m k),0) n (s:Int)=some (.done (.inr r))/\¬(VL (srt (fw m k s))).length<=4096)\/jI (some (V7 m k),0) n (s:Int)=some (.next (Q9.setI n (s:Int) ((VL (srt (fw m k s))).length:Int),((s+1:Nat):Int))):=by
  intro s hs n;have hx:([0,1,2]:List Nat)[s]?=some s:=by rcases(by omega:s=0\/s=1\/s=2) with rfl|rfl|rfl <;> rfl
  obtain⟨c,hc⟩:∃c,(Q9.toL n)[s]?=some c:=by rcases(by omega:s=0\/s=1\/s=2) with rfl|rfl|rfl <;> exact⟨_,rfl⟩
  obtain⟨l1,l2⟩:=zqh h hk hs;unfold jI;rw[decide_eq_true (by simp only[gI,rW];omega),cond_true,zA hx,oB,oB];rcases zfb h hk hs (most:=4096) (by omega) with⟨g1,nodes,g2,g3⟩|⟨g1,g2⟩
  ·right;rw[bdT g2];dsimp only
   rw[gP,cond_false,oB,zA hc,oB,oB,l1,zJ (by omega) (by omega)];rfl
  ·left;rw[bdT g2];dsimp only
   rw[mM,cond_true];exact⟨_,rfl,λq=>by have:=(l2 4096 (by omega)).2 (by omega);omega⟩
 have fin:∀r,(∀s,s<=2->(VL (srt (fw m k s))).length<=4096)->r=Q9.mk ((VL (srt (fw m k 0))).length:Int) ((VL (srt (fw m k 1))).length:Int) ((VL (srt (fw m k 2))).length:Int)->(r,(0:Int))=(Q9.mk ((VL (srt (fw m k 0))).length:Int) ((VL (srt (fw m k 1))).length:Int) ((VL (srt (fw m k 2))).length:Int),0):=λr _ e=>by rw[e]
 rw[zt];refine(zQ (λq:Q9 Int×Int=>∃s:Nat,q.2=(s:Int)/\s<=3/\(0<s->q.1.e0=((VL (srt (fw m k 0))).length:Int))/\(1<s->q.1.e1=((VL (srt (fw m k 1))).length:Int))/\(2<s->q.1.e2=((VL (srt (fw m k 2))).length:Int))) (λq=>3 - q.2.toNat) (R:=λt=>(∃n:Q9 Int,t=.inl n/\n.e0=((VL (srt (fw m k 0))).length:Int)/\n.e1=((VL (srt (fw m k 1))).length:Int)/\n.e2=((VL (srt (fw m k 2))).length:Int))\/∃r s,t=.inr r/\s<=2/\¬(VL (srt (fw m k s))).length<=4096) ⟨0,rfl,by omega,by omega,by omega,by omega⟩ (by show 3 - _<_;omega) ?_).mono ?_
 ·rintro⟨n,_⟩ ⟨s,rfl,hs,c0,c1,c2⟩;dsimp only at c0 c1 c2 ⊢;rcases pH s 3 with q|q
  ·rcases step s (by omega) n with⟨r,e,e2⟩|e
   ·rw[e];exact ze.2 (.inr ⟨r,s,rfl,by omega,e2⟩)
   ·rw[e];refine ze.2 ⟨⟨s+1,rfl,q,?_⟩,by simp only[pB];omega⟩;rcases(by omega:s=0\/s=1\/s=2) with rfl|rfl|rfl
    ·exact⟨λ_=>rfl,by omega,by omega⟩
    ·exact⟨λ_=>c0 (by omega),λ_=>rfl,by omega⟩
    ·exact⟨λ_=>c0 (by omega),λ_=>c1 (by omega),λ_=>rfl⟩
  ·have:s=3:=by omega
   subst this;refine ze.2 (.inl ⟨n,?_,c0 (by omega),c1 (by omega),c2 (by omega)⟩);rfl
 ·rintro t (⟨⟨n0,n1,n2⟩,rfl,e0,e1,e2⟩|⟨r,s,rfl,hs,e⟩)
  ·dsimp only at e0 e1 e2 ⊢;unfold W8;rw[e0,e1,e2];exact ze.2 λ_=>rfl
  ·exact ze.2 λq=>absurd (q s hs) e
end
theorem z9D {l m:List (List Int)}(h:∀x,x∈l↔x∈m):VL (srt l)=VL (srt m):=by rw[z5c h]
section
variable {m:z6}(h:KM m)
include h
theorem zgy {l B:List (List Int)}(hl:l.length<=5000)(hw:∀w∈l,w.length<=100/\∀c∈w,0<=c/\c<m.Inputs)(hB:B.length<=4096)(hs:∀w∈l,∀v∈uP (WS m (stA m w)),w++v∈B) :
  qV m l=some (srt (l.flatMap λw=>(uP (WS m (stA m w))).map λv=>w++v)):=by
 have hl1:=h.vm.len1;have hsb:∀l':List (List Int),(∀w∈l',w∈l)->(srt (l'.flatMap λw=>(uP (WS m (stA m w))).map λv=>w++v)).length<=4096/\∀x∈srt (l'.flatMap λw=>(uP (WS m (stA m w))).map λv=>w++v),x.length<=4294967296:=λl' hs'=>by
  have hm:∀x∈srt (l'.flatMap λw=>(uP (WS m (stA m w))).map λv=>w++v),∃w∈l,∃v∈uP (WS m (stA m w)),w++v=x:=λx hx=>by obtain⟨w,q1,q2⟩:=gY.1 (yb.1 hx);obtain⟨v,q3,q4⟩:=pW.1 q2;exact⟨w,hs' w q1,v,q3,q4⟩
  refine⟨pE (z7J (X8 _).nodup λx hx=>?_).1 hB,λx hx=>?_⟩
  ·obtain⟨w,q1,v,q2,rfl⟩:=hm x hx;exact hs w q1 v q2
  ·obtain⟨w,q1,v,q2,rfl⟩:=hm x hx;have:=(hw w q1).1;have:=((zdh h).2 v q2).1;rw[pN];omega
 have hloop:loop (λs=>xK m l s.1 s.2) (([]:List (List Int)),0)=some (srt (l.flatMap λw=>(uP (WS m (stA m w))).map λv=>w++v)):=by
  refine ww (step:=λs=>xK m l s.1 s.2) (λi=>(srt ((l.take i).flatMap λw=>(uP (WS m (stA m w))).map λv=>w++v),(i:Int))) l.length (by omega) (λi hi=>?_) ?_
  ·show xK m l _ (i:Int)=_;have hx:l[i]?=some l[i]:=p7 hi;have hmem:=pI hi;obtain⟨w1,w2⟩:=hw _ hmem;obtain⟨n1,n2⟩:=zhr h.vm w2;obtain⟨a1,a2⟩:=zdH h.vm h.cpl (l[i].map Int.toNat) 0 (by omega) (by omega) n1;have ha:=zi4 h.vm (s:=0) ⟨by omega,by omega⟩ (l[i].map Int.toNat) n1;rw[n2,show aft m 0 (l[i].map Int.toNat)=((stA m l[i]:Nat):Int) by unfold stA;omega]at ha;have hz:stA m l[i]<m.Rows.length:=by unfold stA;omega
   obtain⟨f1,f2⟩:(uP (WS m (stA m l[i]))).length<=36/\∀x∈uP (WS m (stA m l[i])),x.length<=5/\∀c∈x,0<=c/\c<m.Inputs:=zdh h;have e1:(l.drop i).take ((i+1) - i)=[l[i]]:=by rw[mT,mB hi];rfl
   have t1:l.take (i+1)=l.take i++[l[i]]:=by rw[hZ,hx];rfl
   obtain⟨s1,s2⟩:=hsb (l.take i) λw=>gC;obtain⟨s3,s4⟩:=hsb [l[i]] λw q=>by rw[pR]at q;exact q ▸ hmem
   have e2:wS [l[i]] (uP (WS m (stA m l[i])))=([l[i]].flatMap λw=>(uP (WS m (stA m w))).map λv=>w++v):=by simp[wS]
   have hw64:w64 ((i:Int)+1)=((i+1:Nat):Int):=by rw[zJ (by omega) (by omega)];omega
   unfold xK;rw[decide_eq_true (by omega),cond_true,zA hx,oB,bdT ha,bdT (zkC h hz).2,bdT (zgx _),hw64,gdT (by omega),pB,pB,e1,
    bdT (z6F (by simp;omega) (by simp) (by omega) (λw q=>by rw[pR]at q;subst q;omega) (λw q=>by have:=(f2 w q).1;omega)),e2,bdT (zeC (by omega) (by omega) s2 s4)]
   congr 3;rw[t1,List.flatMap_append];exact z5c λx=>by rw[pA,pA,yb,yb]
  ·show xK m l _ (l.length:Int)=_;unfold xK;rw[decide_eq_false (by omega),cond_false,gV]
 unfold qV;rw[bdT hloop];rfl
variable {k:Nat}(hk:kk m<=3/\k<=2\/k<=1)
include hk
theorem zrO:z9C m ((m.Rows.length+k:Nat):Int)=some (VL (srt (fw m k 0)))/\z5n m ((m.Rows.length+k:Nat):Int)=some (VL (srt (fw m k 1)))/\z2y m ((m.Rows.length+k:Nat):Int)=some (VL (srt (fw m k 2))):=by
 have hl:=h.len;obtain⟨k1,k2,k3⟩:=h.k4;have hk3:k<=3:=by omega
 obtain⟨_,_,q3,q4,w1,w2,_⟩:=zq4 h;obtain⟨l1,l2,l3,l4,l5,l6⟩:=zhw h hk3;obtain⟨B,b1,b2⟩:=big h hk;have hb:w64 (((m.Rows.length+k:Nat):Int) - ((m.Rows.length:Nat):Int))=(k:Int):=by rw[zJ (by omega) (by omega)];omega
 have hup:=zq2 (k:=k) k1 (by omega) hk3;have hex:=(zhO (k:=k) k1 (by omega) hk3).2;rw[k3]at hup hex;have sm:∀{L k:Nat} {l:List (List Int)},LOk L k l->k<=100->∀w∈l,w.length<=2147483648:=λq r w hw=>by have:=(q.2 w hw).1;omega
 have conc:∀{L M j i:Nat} {a b:List (List Int)},LOk L j a->LOk M i b->L*M<=100000->L<=100000->M<=100000->j<=100->i<=100->wp a b=some (srt (wS a b))/\LOk (L*M) (j+i) (srt (wS a b)):=λ{L M j i a b} ha hb2 c1 c2 c3 c4 c5=>by
  refine⟨z6F (pE (mP ha.1 hb2.1) c1) (pE ha.1 c2) (pE hb2.1 c3) (sm ha c4) (sm hb2 c5),pE (KE _) (by rw[z2B];exact mP ha.1 hb2.1),λw hw=>?_⟩;obtain⟨u,h1,v,h2,rfl⟩:=yV.1 (yb.1 hw);have e1:=ha.2 u h1;have e2:=hb2.2 v h2;refine⟨by rw[pN];omega,λc hc=>?_⟩;rcases pA.1 hc with q|q
  ·exact e1.2 c q
  ·exact e2.2 c q
 have fol:∀{L:Nat} {a b:List (List Int)},(∀u∈a,u∈Ps m)->(∀v∈b,v∈uz (kk m) 0 (k+1))->LOk L 60 (srt (wS a b))->L<=5000->qV m (srt (wS a b))=some (srt ((srt (wS a b)).flatMap λw=>(uP (WS m (stA m w))).map λv=>w++v)):=λ{L a b} ha hb2 c1 c2=>by
  have hm:∀w∈srt (wS a b),∃u∈Ps m,∃v∈uz (kk m) 0 (k+1),u++v=w:=λw hw=>by obtain⟨u,h1,v,h2,e⟩:=yV.1 (yb.1 hw);exact⟨u,ha u h1,v,hb2 v h2,e⟩
  refine zgy h (pE c1.1 c2) (λw hw=>⟨by have:=(c1.2 w hw).1;omega,λc hc=>?_⟩) (pE b1 (by omega)) λw hw v hv=>?_
  ·obtain⟨u,h1,v,h2,rfl⟩:=hm w hw;rcases pA.1 hc with q|q
   ·exact(w2.2.2 u h1).2 c q
   ·have:=(Xw.1 h2).2 c q;omega
  ·obtain⟨u,h1,v',h2,rfl⟩:=hm w hw;exact b2 u h1 v' h2 v (UF hv)
 have red:∀{L j:Nat} {l:List (List Int)},LOk L j l->L<=100000->j<=100->kC l=some (VL l):=λc1 c2 c3=>ziy (pE c1.1 c2) λw hw=>by have:=(c1.2 w hw).1;omega
 have hA:=l6 λ_ _=>True;have inB:∀l:List (List Int),(∀x∈l,∃u∈Ps m,∃v∈uz (kk m) 0 (k+1),∃w∈[]::WA m,x=u++v++w)->LOk 3840 16 (srt l):=λl hx=>by
  refine⟨pE (z7J (X8 _).nodup λx hx2=>?_).1 b1,λw hw=>?_⟩
  ·obtain⟨u,h1,v,h2,w,h3,rfl⟩:=hx x (yb.1 hx2);exact b2 u h1 v h2 w h3
  ·obtain⟨u,h1,v,h2,w,h3,rfl⟩:=hx w (yb.1 hw);have:=(w2.2.2 u h1);have:=Xw.1 h2;have hi:=h.inp;have e3:w.length<=5/\∀c∈w,0<=c/\c<m.Inputs:=by
    rcases pD.1 h3 with rfl|q
    ·simp
    ·exact(zjf h).2 w q
   refine⟨by simp only[pN];omega,λc hc=>?_⟩;simp only[pA]at hc;rcases hc with(q|q)|q
   ·have:=(w2.2.2 u h1).2 c q;omega
   ·have:=(Xw.1 h2).2 c q;omega
   ·have:=e3.2 c q;omega
 obtain⟨c1,d1⟩:=conc l2 l4 (by omega) (by omega) (by omega) (by omega) (by omega);obtain⟨c2,d2⟩:=conc d1 hA (by omega) (by omega) (by omega) (by omega) (by omega);obtain⟨c3,d3⟩:=conc l1 l4 (by omega) (by omega) (by omega) (by omega) (by omega);obtain⟨c4,d4⟩:=conc d3 hA (by omega) (by omega) (by omega) (by omega) (by omega);obtain⟨c5,d5⟩:=conc l3 l5 (by omega) (by omega) (by omega) (by omega) (by omega);have hexo:∀v∈exW (kk m) k,v∈uz (kk m) 0 (k+1):=λv q=>by have:=zdb.1 q;exact Xw.2 ⟨by omega,this.2⟩
 have hrp:∀u∈z8c m,u∈Ps m:=λu q=>(mE.1 q).1;have f2:=fol (λu q=>q) (λv q=>q) d1 (by omega);have f1:=fol hrp hexo d5 (by omega);have hmin:Vx (Ps m) (Qs m)=some (z8c m):=zkg (pE l2.1 (by omega)) (pE l1.1 (by omega)) λw hw=>by have:=(l2.2 w hw).1;omega
 refine⟨?_,?_,?_⟩
 ·unfold z9C;rw[hb,bdT hup,bdT q4,bdT c1,bdT (zdE h).2,bdT (zgx _),bdT c2,bdT (red d2 (by omega) (by omega)),z9D (m:=fw m k 0) λx=>?_];rw[zgp,yV];constructor
  ·rintro⟨y,q1,w,q2,rfl⟩;obtain⟨u,r1,v,r2,rfl⟩:=yV.1 (yb.1 q1);exact⟨u,r1,v,r2,w,q2,rfl⟩
  ·rintro⟨u,r1,v,r2,w,q2,rfl⟩;exact⟨u++v,yb.2 (yV.2 ⟨u,r1,v,r2,rfl⟩),w,q2,rfl⟩
 ·have hsub1:∀x∈wS (srt (wS (Qs m) (uz (kk m) 0 (k+1)))) (uP (WA m)),∃u∈Ps m,∃v∈uz (kk m) 0 (k+1),∃w∈[]::WA m,x=u++v++w:=λx hx=>by obtain⟨y,q1,w,q2,rfl⟩:=yV.1 hx;obtain⟨u,r1,v,r2,rfl⟩:=yV.1 (yb.1 q1);exact⟨u,zoe r1,v,r2,w,UF q2,rfl⟩
  have hsub2:∀x∈((srt (wS (z8c m) (exW (kk m) k))).flatMap λw=>(uP (WS m (stA m w))).map λv=>w++v),∃u∈Ps m,∃v∈uz (kk m) 0 (k+1),∃w∈[]::WA m,x=u++v++w:=λx hx=>by obtain⟨y,q1,q2⟩:=gY.1 hx;obtain⟨w,q3,rfl⟩:=pW.1 q2;obtain⟨u,r1,v,r2,rfl⟩:=yV.1 (yb.1 q1);exact⟨u,hrp u r1,v,hexo v r2,w,UF q3,rfl⟩
  have i1:=inB _ hsub1;have i2:=inB _ hsub2;have hun:=zeC (pE i1.1 (by omega)) (pE i2.1 (by omega)) (λw hw=>by have:=(i1.2 w hw).1;omega) (λw hw=>by have:=(i2.2 w hw).1;omega);have i3:=inB _ (λx hx=>(pA.1 hx).elim (λq=>hsub1 x (yb.1 q)) λq=>hsub2 x (yb.1 q));unfold z5n;rw[bdT q3,bdT q4,bdT hmin,hb,bdT hup,bdT c3,bdT (zdE h).2,bdT (zgx _),bdT c4,bdT hex,bdT c5,bdT f1,bdT hun,bdT (red i3 (by omega) (by omega)),z9D (m:=fw m k 1) λx=>?_];rw[zgo,pA,yb,yb,yV,gY];constructor
  ·rintro(⟨y,q1,w,q2,rfl⟩|⟨y,q1,q2⟩)
   ·obtain⟨u,r1,v,r2,rfl⟩:=yV.1 (yb.1 q1);exact .inl ⟨u,r1,v,r2,w,q2,rfl⟩
   ·obtain⟨w,q3,rfl⟩:=pW.1 q2;obtain⟨u,r1,v,r2,rfl⟩:=yV.1 (yb.1 q1);exact .inr ⟨u,r1,v,r2,w,q3,rfl⟩
  ·rintro(⟨u,r1,v,r2,w,q2,rfl⟩|⟨u,r1,v,r2,w,q2,rfl⟩)
   ·exact .inl ⟨u++v,yb.2 (yV.2 ⟨u,r1,v,r2,rfl⟩),w,q2,rfl⟩
   ·exact .inr ⟨u++v,yb.2 (yV.2 ⟨u,r1,v,r2,rfl⟩),pW.2 ⟨w,q2,rfl⟩⟩
 ·have hsub2:∀x∈((srt (wS (Ps m) (uz (kk m) 0 (k+1)))).flatMap λw=>(uP (WS m (stA m w))).map λv=>w++v),∃u∈Ps m,∃v∈uz (kk m) 0 (k+1),∃w∈[]::WA m,x=u++v++w:=λx hx=>by obtain⟨y,q1,q2⟩:=gY.1 hx;obtain⟨w,q3,rfl⟩:=pW.1 q2;obtain⟨u,r1,v,r2,rfl⟩:=yV.1 (yb.1 q1);exact⟨u,r1,v,r2,w,UF q3,rfl⟩
  unfold z2y;rw[hb,bdT hup,bdT q4,bdT c1,bdT f2,bdT (red (inB _ hsub2) (by omega) (by omega)),z9D (m:=fw m k 2) λx=>?_];rw[zgn,gY];constructor
  ·rintro⟨y,q1,q2⟩;obtain⟨w,q3,rfl⟩:=pW.1 q2;obtain⟨u,r1,v,r2,rfl⟩:=yV.1 (yb.1 q1);exact⟨u,r1,v,r2,w,q3,rfl⟩
  ·rintro⟨u,r1,v,r2,w,q2,rfl⟩;exact⟨u++v,yb.2 (yV.2 ⟨u,r1,v,r2,rfl⟩),pW.2 ⟨w,q2,rfl⟩⟩
end
theorem zs8 {l:List α}  {x:α}(h:l[i]?=some x):i<l.length:=(p8.1 h).1
section
variable {m p:z6}{F:List Nat}(h:VM m)(hc:Cpl m)(hF:V4 m F)(hp:zpK m F p)
include h hc hF hp
theorem zvz:VM p:=by
 have hz:=(zc9 h hF).1;have hl:=hF.len;have l64:=h.len64;have hkk:kk p=kk m:=by unfold kk;rw[hp.inp]
 have hke:=h.kk_eq;refine⟨by rw[hp.inp];exact h.in1,by rw[hp.inp];exact h.in16,by rw[hp.out];exact h.out1,by rw[hp.out];exact h.out16,by rw[hp.len];omega,by rw[hp.len];omega,λr hr=>?_,λr hr x hx=>?_⟩
 ·obtain⟨k,hk⟩:=gL.1 hr;have hkl:=zs8 hk;rw[hp.len]at hkl;obtain⟨row,q1,q2,_⟩:=hp.row k hkl;rw[hk]at q1;cases q1;rw[hp.inp];omega
 ·obtain⟨k,hk⟩:=gL.1 hr;have hkl:=zs8 hk;rw[hp.len]at hkl;obtain⟨row,q1,q2,q3⟩:=hp.row k hkl;rw[hk]at q1;cases q1;obtain⟨i,hi⟩:=gL.1 hx;have hil:=zs8 hi;rw[q2]at hil;obtain⟨e,e1,e2,e3⟩:=q3 i hil;rw[hi]at e1;cases e1;obtain⟨_,f2,_⟩:=hF.at hkl;have he:=h.edgeAt f2 hil;have hcc:=hc _ i f2 hil;rw[hp.len,hp.out];rcases e3 with⟨g0,n,g1,g2,_⟩|⟨g0,_⟩
  ·right;omega
  ·omega
omit h in
theorem zs4:Cpl p:=by
 intro s i hs hi;rw[hp.len]at hs;have hkk:kk p=kk m:=by unfold kk;rw[hp.inp]
 rw[hkk]at hi;obtain⟨_,f2,_⟩:=hF.at hs;have hcc:=hc _ i f2 hi;rcases(zAA hp hkk hs hi).2 with⟨_,n,g,_⟩|⟨g,_⟩
 ·rw[g];exact nM n
 ·omega
omit h hc in
theorem zou:ztC p:=by
 intro s t hs ht hst;rw[hp.len]at hs ht;have hkk:kk p=kk m:=by unfold kk;rw[hp.inp]
 refine hF.uniq hs ht λw hw=>?_;rw[<-zg6 hF hp w s hs hw,<-zg6 hF hp w t ht hw];exact hst w (by rw[hkk];exact hw)
omit h hF hp in
theorem znN {s t i:Nat}(hs:s<m.Rows.length)(ht:t<m.Rows.length)(hi:i<kk m)(q:SEq m s t):SEq m (E m s i).To.toNat (E m t i).To.toNat:=by
 have a:=hc s i hs hi;have b:=hc t i ht hi;intro w hw;have:=q (i::w) λj hj=>by
  rcases pD.1 hj with rfl|hj
  ·exact hi
  ·exact hw j hj
 simp only[rsp,ZH,List.cons.injEq]at this;rw[nA a,nA b];exact this.2
theorem zkO:∀(v:List Nat) (k s:Nat),k<F.length->s<m.Rows.length->Wd (kk m) v->SEq m F[k]! s->∃n t:Nat,aft p (k:Int) v=(n:Int)/\n<F.length/\aft m (s:Int) v=(t:Int)/\t<m.Rows.length/\SEq m F[n]! t
 | [],k,s,hk,hs,_,q=>⟨k,s,rfl,hk,rfl,hs,q⟩
 | i::v,k,s,hk,hs,hv,q=>by
  have hkk:kk p=kk m:=by unfold kk;rw[hp.inp]
  have hi:=hv i (by simp);obtain⟨_,f2,_⟩:=hF.at hk;have hcs:=hc s i hs hi;have hes:=h.edgeAt hs hi;rcases(zAA hp hkk hk hi).2 with⟨g0,n,g1,g2,g3⟩|⟨g,_⟩
  ·have hstep:=znN hc f2 hs hi q;obtain⟨n',t',r1,r2,r3,r4,r5⟩:=zkO v n (E m s i).To.toNat g2 (by omega) (λj hj=>hv j (by simp[hj])) (g3.trans hstep);refine⟨n',t',?_,r2,?_,r4,r5⟩
   ·simp only[aft,ZH,g1];exact r1
   ·simp only[aft,ZH];rw[<-nA hcs];exact r3
  ·have:=hc _ i f2 hi;omega
theorem zot:zsW p:=by
 intro t ht;rw[hp.len]at ht;have hkk:kk p=kk m:=by unfold kk;rw[hp.inp]
 have hz:=zc9 h hF;obtain⟨f1,f2,_⟩:=hF.at ht;obtain⟨_,v,hv⟩:=hF.acc _ f1;obtain⟨n,u,a,b,c,_,d⟩:=zkO h hc hF hp v 0 0 hz.1 (by have:=h.len1;omega) hv.wd (by rw[hz.2];exact SEq.refl 0);have hu:u=F[t]!:=by have e:aft m 0 v=(u:Int):=c;rw[hv.aft]at e;omega
 subst hu;have hn:=hF.uniq b ht d;subst hn;exact⟨v,by rw[hkk];exact hv.wd,a⟩
end
def ed (rows:List (List z8))(s i:Nat):z8:=((rows[s]?.getD [])[i]?).getD ⟨-1,-1⟩
structure TM (n k o:Nat)(rows:List (List z8)):Prop where
 len:rows.length=n
 row:∀(s:Nat) (r:List z8),rows[s]?=some r->r.length=k
 edge:∀s i,s<n->i<k->-1<=(ed rows s i).To/\(ed rows s i).To<(n:Int)/\0<=(ed rows s i).Out/\(ed rows s i).Out<(o:Int)
section
variable {n k o:Nat}{rows:List (List z8)}
theorem TM.rowAt (h:TM n k o rows){s:Nat}(hs:s<n):∃r,rows[s]?=some r/\r.length=k/\∀i,i<k->r[i]?=some (ed rows s i):=by
 have hsl:s<rows.length:=by rw[h.len];exact hs
 have hr:rows[s]?=some rows[s]:=p7 hsl;have hl:=h.row s _ hr;refine⟨_,hr,hl,λi hi=>?_⟩;unfold ed;rw[hr,gA,p7 (by omega),gA]
theorem TM.upd (h:TM n k o rows){s i:Nat}(hs:s<n)(hi:i<k){r:List z8}(hr:rows[s]?=some r){t:Int}(t0:-1<=t)(t1:t<(n:Int)) :
  TM n k o (rows.set s (r.set i ⟨t,(ed rows s i).Out⟩))/\∀s' i',ed (rows.set s (r.set i ⟨t,(ed rows s i).Out⟩)) s' i'=if s'=s/\i'=i then⟨t,(ed rows s i).Out⟩ else ed rows s' i':=by
 have hsl:s<rows.length:=by rw[h.len];exact hs
 have hrl:=h.row s r hr;have q2:=h.edge s i hs hi;generalize (ed rows s i).Out=oo at q2 ⊢;have key:∀s' i',ed (rows.set s (r.set i ⟨t,oo⟩)) s' i'=if s'=s/\i'=i then⟨t,oo⟩ else ed rows s' i':=by
  intro s' i';by_cases e:s'=s
  ·subst e
   conv=>lhs;unfold ed
   rw[gW hsl,gA];by_cases e2:i'=i
   ·subst e2;rw[gW (by omega),if_pos ⟨rfl,rfl⟩,gA]
   ·rw[gK (λq=>e2 q.symm),if_neg (λq=>e2 q.2)];unfold ed;rw[hr,gA]
  ·conv=>lhs;unfold ed
   rw[gK (λq=>e q.symm),if_neg (λq=>e q.1)];rfl
 refine⟨⟨by rw[rX];exact h.len,λs' r' hr'=>?_,λs' i' hs' hi'=>?_⟩,key⟩
 ·rw[rG]at hr';split at hr'
  ·cases hr';rw[rX];exact hrl
  ·exact h.row s' r' hr'
 ·rw[key];have q:=h.edge s' i' hs' hi';split
  ·rename_i e;exact⟨t0,t1,q2.2.2.1,q2.2.2.2⟩
  ·exact q
theorem TM.idx2 (h:TM n k o rows){s i:Nat}(hs:s<n)(hi:i<k):∃r,rows[s]?=some r/\r.length=k/\r[i]?=some (ed rows s i):=by obtain⟨r,h1,h2,h3⟩:=h.rowAt hs;exact⟨r,h1,h2,h3 i hi⟩
end
theorem zc0 (l:List Int)(hl:∀v∈l,0<=v/\v<=65535){q:Int}(hq:0<=q):Ret (XY l q) λv=>0<=v/\v<=65535:=by unfold XY;rw[zG];refine⟨λhc=>?_,λ_=>ze.2 (by omega)⟩;have hc:q<((l.length:Nat):Int):=of_decide_eq_true hc;have hx:l[q.toNat]?=some l[q.toNat]:=p7 (by omega);rw[zt,zg7];have:=hl _ (pO hx);exact⟨hq,_,hx,ze.2 (by rw[zJ (by omega) (by omega)];exact this)⟩
structure zyY (x:zT):Prop where
 s0:0<=x.States
 i0:0<=x.Inputs
 o0:0<=x.Outputs
 t0:∀v∈x.Tree,0<=v/\v<=255
 e0:∀v∈x.Edges,0<=v/\v<=65535
variable {rows:List (List z8)}
section
variable {x:zT}(h:zyY x){n k o:Nat}(hn:w64 (1+w64 (Int.tmod x.States 6))=(n:Int))(hk:w64 (1+w64 (Int.tmod x.Inputs 3))=(k:Int))(ho:w64 (1+w64 (Int.tmod x.Outputs 3))=(o:Int))
 (n1:1<=n/\n<=6) (k1:1<=k/\k<=3) (o1:1<=o/\o<=3)
include h hn hk ho n1 k1 o1
theorem zo0 {s:Nat}(hs:s<n):Ret (loop (λst=>Zx x (s:Int) st.1 st.2) (([]:List z8),0)) λr=>r.length=k/\∀e∈r,e.To=-1/\0<=e.Out/\e.Out<(o:Int):=by
 refine zQ (λst=>∃i:Nat,st.2=(i:Int)/\i<=k/\st.1.length=i/\∀e∈st.1,e.To=-1/\0<=e.Out/\e.Out<(o:Int)) (λst=>10 - st.2.toNat) ⟨0,rfl,by omega,rfl,by simp⟩ (by show 10 - _<_;omega) ?_;rintro⟨row,_⟩ ⟨i,rfl,h1,h2,h3⟩;simp only at h2 h3;show Ret (Zx x (s:Int) row (i:Int)) _;unfold Zx;rw[hk,hn,ho,zG];have hsk:s*k<=5*3:=mP (by omega) (by omega);have w1:w64 ((s:Int)*(k:Int))=((s*k:Nat):Int):=by rw[zJ (by rw[<-nE];omega) (by rw[<-nE];omega)];exact(nE s k).symm
 refine⟨λhc=>?_,λhc=>ze.2 ⟨by have:=of_decide_eq_false hc;omega,h3⟩⟩;have hc:(i:Int)<(k:Int):=of_decide_eq_true hc;rw[w1,zJ (x:=((s*k:Nat):Int)+(i:Int)) (by omega) (by omega),zt];refine(zc0 x.Edges h.e0 (q:=((s*k:Nat):Int)+(i:Int)) (by omega)).mono λv hv=>?_;have d0:0<=Int.tdiv v n/\Int.tdiv v n<=v:=by rw[rT hv.1];exact⟨Int.ediv_nonneg hv.1 (by omega),Int.ediv_le_self _ hv.1⟩
 rw[gdT (by omega),gdT (by omega),gdT (by simp;omega),ze,zJ (x:=Int.tdiv v n) (by omega) (by omega),zJ (x:=(i:Int)+1) (by omega) (by omega)];refine⟨⟨i+1,rfl,by omega,by simp[h2],λe he=>?_⟩,by simp only;omega⟩;rcases pA.1 he with q|q
 ·exact h3 e q
 ·simp only[pD,pX,or_false]at q;subst q;exact⟨rfl,rY _ d0.1,s6 _ (by omega)⟩
theorem zk8:Ret (loop (λst=>Zy x st.1 st.2) (([]:List (List z8)),0)) λrows=>TM n k o rows/\∀s i,s<n->i<k->(ed rows s i).To=-1:=by
 refine zQ (λst=>∃s:Nat,st.2=(s:Int)/\s<=n/\st.1.length=s/\∀r∈st.1,r.length=k/\∀e∈r,e.To=-1/\0<=e.Out/\e.Out<(o:Int)) (λst=>10 - st.2.toNat) ⟨0,rfl,by omega,rfl,by simp⟩ (by show 10 - _<_;omega) ?_;rintro⟨rows,_⟩ ⟨s,rfl,h1,h2,h3⟩;simp only at h2 h3;show Ret (Zy x rows (s:Int)) _;unfold Zy;rw[hn,zG];refine⟨λhc=>?_,λhc=>?_⟩
 ·have hc:(s:Int)<(n:Int):=of_decide_eq_true hc;rw[zt];refine(zo0 h hn hk ho n1 k1 o1 (s:=s) (by omega)).mono λr hr=>?_;unfold Um Un;rw[gdT (by simp;omega),ze,zJ (x:=(s:Int)+1) (by omega) (by omega)];refine⟨⟨s+1,rfl,by omega,by simp[h2],λr' hr'=>?_⟩,by simp only;omega⟩;rcases pA.1 hr' with q|q
  ·exact h3 r' q
  ·simp only[pD,pX,or_false]at q;subst q;exact hr
 ·have hsn:s=n:=by have:=of_decide_eq_false hc;omega
  have all:∀s i,s<n->i<k->(ed rows s i).To=-1/\0<=(ed rows s i).Out/\(ed rows s i).Out<(o:Int):=by intro t i ht hi;have hr:rows[t]?=some rows[t]:=p7 (by omega);obtain⟨g1,g2⟩:=h3 _ (pI (by omega:t<rows.length));have hx:(rows[t])[i]?=some (rows[t])[i]:=p7 (by omega);unfold ed;rw[hr,gA,hx,gA];exact g2 _ (pI _)
  refine ze.2 ⟨⟨by omega,λt r hr=>(h3 r (pO hr)).1,λt i ht hi=>?_⟩,λt i ht hi=>(all t i ht hi).1⟩;obtain⟨a,b,c⟩:=all t i ht hi;omega
omit h hn hk ho n1 k1 o1 in
theorem zjH:∀a:Nat,a<=100->w64 (a:Int)=(a:Int):=λa ha=>zJ (by omega) (by omega)
omit h hn hk ho n1 o1 in
theorem zqs {c s:Nat}(hc:c<s*k):c / k<s/\c % k<k/\Int.tdiv (c:Int) (k:Int)=((c / k:Nat):Int)/\Int.tmod (c:Int) (k:Int)=((c % k:Nat):Int) :=
 ⟨Nat.div_lt_of_lt_mul (by rw[rN];exact hc),Nat.mod_lt _ (by omega),by rw[rT (by omega)];rfl,by rw[Int.tmod_eq_emod_of_nonneg (by omega)];rfl⟩
omit h hn ho o1 in
theorem zp9 (hT:TM n k o rows){s:Nat}(s1:1<=s)(sn:s<n)(hfree:∀i,i<k->(ed rows (s - 1) i).To=-1) :
  Ret (loop (λst=>Zz x rows (s:Int) st.1 st.2) (([]:List Int),0)) λfr=>fr≠[]/\fr.length<=100/\∀c∈fr,∃q:Nat,c=(q:Int)/\q<s*k/\(ed rows (q / k) (q % k)).To<0:=by
 have hsk:s*k<=5*3:=mP (by omega) (by omega);refine zQ (λst=>∃q:Nat,st.2=(q:Int)/\q<=s*k/\st.1.length<=q/\((s - 1)*k<q->st.1≠[])/\∀c∈st.1,∃q:Nat,c=(q:Int)/\q<s*k/\(ed rows (q / k) (q % k)).To<0) (λst=>20 - st.2.toNat) ⟨0,rfl,by omega,by simp,by omega,by simp⟩ (by show 20 - _<_;omega) ?_;rintro⟨fr,_⟩ ⟨q,rfl,h1,h2,h3,h4⟩;simp only at h2 h3 h4;show Ret (Zz x rows (s:Int) fr (q:Int)) _;unfold Zz;have w1:w64 ((s:Int)*(k:Int))=((s*k:Nat):Int):=by rw[zJ (by rw[<-nE];omega) (by rw[<-nE];omega)];exact(nE s k).symm
 rw[hk,w1,zG];refine⟨λhc=>?_,λhc=>?_⟩
 ·have hc:((q:Nat):Int)<((s*k:Nat):Int):=of_decide_eq_true hc;have hqs:q<s*k:=by omega
  obtain⟨d1,d2,d3,d4⟩:=zqs k1 hqs;obtain⟨r,r1,r2,r3⟩:=hT.idx2 (s:=q / k) (i:=q % k) (by omega) d2;rw[gdT (by omega),d3,zjH (q / k) (by omega),bdT (zA r1),gdT (by omega),d4,bdT (zA r3),zG];have w2:w64 ((q:Int)+1)=((q+1:Nat):Int):=by rw[zJ (by omega) (by omega)];rfl
  unfold Xg;refine⟨λht=>?_,λht=>?_⟩
  ·have ht:(ed rows (q / k) (q % k)).To<0:=of_decide_eq_true ht;rw[gdT (by simp;omega),ze,w2];refine⟨⟨q+1,rfl,by omega,by simp;omega,λ_=>by simp,λc hc=>?_⟩,by simp only[pB];omega⟩;rcases pA.1 hc with g|g
   ·exact h4 c g
   ·simp only[pD,pX,or_false]at g;exact⟨q,g,hqs,ht⟩
  ·have ht:=of_decide_eq_false ht;rw[ze,w2];refine⟨⟨q+1,rfl,by omega,by simp only;omega,λhlt=>?_,h4⟩,by simp only[pB];omega⟩;by_cases e:(s - 1)*k<q
   ·exact h3 e
   ·exfalso;have e2:q=(s - 1)*k:=by omega
    have:q / k=s - 1:=by rw[e2];exact Nat.mul_div_cancel _ (by omega)
    have q2:=hfree (q % k) d2;rw[this,q2]at ht;omega
 ·have hc:=of_decide_eq_false hc;have e:(s - 1)*k<s*k:=Nat.mul_lt_mul_of_pos_right (by omega) (by omega);exact ze.2 ⟨h3 (by omega),by omega,h4⟩
structure Tree (s:Nat)(rows:List (List z8)):Prop where
 tm:TM n k o rows
 par:∀t,1<=t->t<s->∃r i,r<t/\i<k/\(ed rows r i).To=(t:Int)
 free:∀r i,s<=r+1->r<n->i<k->(ed rows r i).To=-1
omit h hn ho o1 in
theorem zrS {rows:List (List z8)}{s:Nat}(s1:1<=s)(sn:s<n)(hT:Tree (n:=n) (k:=k) (o:=o) s rows){q:Nat}(hq:q<s*k)(hf:(ed rows (q / k) (q % k)).To<0) :
  ∃rows',qX x rows (s:Int) (q:Int)=some (.next (rows',((s+1:Nat):Int)))/\Tree (n:=n) (k:=k) (o:=o) (s+1) rows':=by
 have hsk:s*k<=5*3:=mP (by omega) (by omega);obtain⟨d1,d2,d3,d4⟩:=zqs k1 hq;obtain⟨r,r1,r2,r3⟩:=hT.tm.idx2 (s:=q / k) (i:=q % k) (by omega) d2;obtain⟨u1,u2⟩:=hT.tm.upd (s:=q / k) (i:=q % k) (by omega) d2 r1 (t:=(s:Int)) (by omega) (by omega);refine⟨_,?_,u1,λt t1 t2=>?_,λr' i g1 g2 g3=>?_⟩
 ·unfold qX Qo;have w2:w64 ((s:Int)+1)=((s+1:Nat):Int):=by rw[zJ (by omega) (by omega)];rfl
  rw[hk,gdT (by omega),d3,zjH (q / k) (by omega),bdT (zA r1),gdT (by omega),d4,bdT (zA r3),w2];rfl
 ·by_cases e:t=s
  ·subst e;exact⟨q / k,q % k,d1,d2,by rw[u2,if_pos ⟨rfl,rfl⟩]⟩
  ·obtain⟨r',i,g1,g2,g3⟩:=hT.par t t1 (by omega);refine⟨r',i,g1,g2,?_⟩;rw[u2,if_neg,g3];rintro⟨rfl,rfl⟩;omega
 ·rw[u2,if_neg (by rintro⟨e,_⟩;omega)];exact hT.free r' i (by omega) g2 g3
omit ho o1 in
theorem zmA (hT:TM n k o rows)(hfree:∀s i,s<n->i<k->(ed rows s i).To=-1):Ret (loop (λst=>YQ x st.1 st.2) (rows,1)) (Tree (n:=n) (k:=k) (o:=o) n):=by
 refine zQ (λst=>∃s:Nat,st.2=(s:Int)/\1<=s/\s<=n/\Tree (n:=n) (k:=k) (o:=o) s st.1) (λst=>10 - st.2.toNat) ⟨1,rfl,by omega,by omega,hT,λt _ _=>by omega,λr i _=>hfree r i⟩ (by show 10 - _<_;omega) ?_;rintro⟨rows,_⟩ ⟨s,rfl,s1,sn,hS⟩;simp only at hS;show Ret (YQ x rows (s:Int)) _;unfold YQ;rw[hn,zG];refine⟨λhc=>?_,λhc=>?_⟩
 ·have hc:(s:Int)<(n:Int):=of_decide_eq_true hc;have hsn:s<n:=by omega
  rw[zt];refine(zp9 hk n1 k1 hS.tm s1 hsn λi hi=>hS.free (s - 1) i (by omega) (by omega) hi).mono λfr hfr=>?_;obtain⟨f1,f2,f3⟩:=hfr;have flen:0<fr.length:=nJ.2 f1;have fin:∀c∈fr,Ret (qX x rows (s:Int) c) (LRP (λs'=>(∃s:Nat,s'.2=(s:Int)/\1<=s/\s<=n/\Tree (n:=n) (k:=k) (o:=o) s s'.1)/\10 - s'.2.toNat<10 - (s:Int).toNat) (Tree (n:=n) (k:=k) (o:=o) n)):=by intro c hc;obtain⟨q,rfl,q1,q2⟩:=f3 c hc;obtain⟨rows',e,g⟩:=zrS hk n1 k1 s1 hsn hS q1 q2;rw[e,ze];exact⟨⟨s+1,rfl,by omega,by omega,g⟩,by simp only[pB];omega⟩
  unfold Uo;have e0:fr[0]?=some fr[0]:=p7 flen;have w3:w64 ((s:Int) - 1)=((s - 1:Nat):Int):=by rw[zJ (by omega) (by omega)];omega
  rw[bdT (show idx fr 0=some fr[0] from e0),w3,zG];refine⟨λhc2=>?_,λ_=>fin _ (pI _)⟩;have hc2:((s - 1:Nat):Int)<((x.Tree.length:Nat):Int):=of_decide_eq_true hc2;have hx:x.Tree[s - 1]?=some x.Tree[s - 1]:=p7 (by omega);have hv:=h.t0 _ (pI (by omega:s - 1<x.Tree.length));rw[bdT (zA hx),gdT (by omega),zJ (x:=x.Tree[s - 1]) (by omega) (by omega)];have m1:=rY (fr.length:Int) hv.1;have m2:=s6 x.Tree[s - 1] (show(0:Int)<(fr.length:Int) by omega);have hy:fr[(Int.tmod x.Tree[s - 1] (fr.length:Int)).toNat]?=some fr[(Int.tmod x.Tree[s - 1] (fr.length:Int)).toNat]:=p7 (by omega);rw[zt,zg7];exact⟨m1,_,hy,fin _ (pI _)⟩
 ·have hsn:s=n:=by have:=of_decide_eq_false hc;omega
  subst hsn;exact ze.2 hS
structure zyE (s i:Nat)(rows:List (List z8)):Prop where
 tm:TM n k o rows
 par:∀t,1<=t->t<n->∃r i,r<t/\i<k/\(ed rows r i).To=(t:Int)
 full:∀r j,r<n->j<k->r<s\/r=s/\j<i->0<=(ed rows r j).To
omit ho o1 in
theorem zgC {rows:List (List z8)}{s:Nat}(sn:s<n)(hF:zyE (n:=n) (k:=k) (o:=o) s 0 rows):Ret (loop (λst=>YR x (s:Int) st.1 st.2) (rows,0)) (zyE (n:=n) (k:=k) (o:=o) (s+1) 0):=by
 have hsk:s*k<=5*3:=mP (by omega) (by omega);refine zQ (λst=>∃i:Nat,st.2=(i:Int)/\i<=k/\zyE (n:=n) (k:=k) (o:=o) s i st.1) (λst=>10 - st.2.toNat) ⟨0,rfl,by omega,hF⟩ (by show 10 - _<_;omega) ?_;rintro⟨rows,_⟩ ⟨i,rfl,ik,hS⟩;simp only at hS;show Ret (YR x (s:Int) rows (i:Int)) _;unfold YR;have w1:w64 ((s:Int)*(k:Int))=((s*k:Nat):Int):=by rw[zJ (by rw[<-nE];omega) (by rw[<-nE];omega)];exact(nE s k).symm
 rw[hk,hn,w1,zG];refine⟨λhc=>?_,λhc=>?_⟩
 ·have hc:(i:Int)<(k:Int):=of_decide_eq_true hc;have hik:i<k:=by omega
  obtain⟨r,r1,r2,r3⟩:=hS.tm.idx2 sn hik;have w2:w64 ((i:Int)+1)=((i+1:Nat):Int):=by rw[zJ (by omega) (by omega)];rfl
  rw[bdT (zA r1),bdT (zA r3),zG];unfold WO;refine⟨λht=>?_,λht=>?_⟩
  ·have ht:(ed rows s i).To<0:=of_decide_eq_true ht;rw[bdT (zA r1),zJ (x:=((s*k:Nat):Int)+(i:Int)) (by omega) (by omega),zt];refine(zc0 x.Edges h.e0 (q:=((s*k:Nat):Int)+(i:Int)) (by omega)).mono λv hv=>?_;have m1:=rY (n:Int) hv.1;have m2:=s6 v (show(0:Int)<(n:Int) by omega);obtain⟨u1,u2⟩:=hS.tm.upd sn hik r1 (t:=Int.tmod v n) (by omega) m2;rw[gdT (by omega),bdT (zA r3),ze,w2];refine⟨⟨i+1,rfl,by omega,u1,λt t1 t2=>?_,λr' j g1 g2 g3=>?_⟩,by simp only[pB];omega⟩
   ·obtain⟨r',j,g1,g2,g3⟩:=hS.par t t1 t2;refine⟨r',j,g1,g2,?_⟩;show(ed (rows.set s (r.set i ⟨Int.tmod v n,(ed rows s i).Out⟩)) r' j).To=_;rw[u2,if_neg,g3];rintro⟨rfl,rfl⟩;omega
   ·show 0<=(ed (rows.set s (r.set i ⟨Int.tmod v n,(ed rows s i).Out⟩)) r' j).To;rw[u2];split
    ·exact m1
    ·rename_i e;exact hS.full r' j g1 g2 (by rcases g3 with g3|⟨rfl,g3⟩;exact .inl g3;exact .inr ⟨rfl,by have:¬j=i:=λq=>e ⟨rfl,q⟩;omega⟩)
  ·have ht:=of_decide_eq_false ht;rw[ze,w2];refine⟨⟨i+1,rfl,by omega,hS.tm,hS.par,λr' j g1 g2 g3=>?_⟩,by simp only[pB];omega⟩;rcases g3 with g3|⟨rfl,g3⟩
   ·exact hS.full r' j g1 g2 (.inl g3)
   ·by_cases e:j=i
    ·subst e;show 0<=(ed rows r' j).To;omega
    ·exact hS.full r' j g1 g2 (.inr ⟨rfl,by omega⟩)
 ·have hik:i=k:=by have:=of_decide_eq_false hc;omega
  subst hik;exact ze.2 ⟨hS.tm,hS.par,λr' j g1 g2 g3=>hS.full r' j g1 g2 (by omega)⟩
omit ho o1 in
theorem zph {rows:List (List z8)}(hT:Tree (n:=n) (k:=k) (o:=o) n rows):Ret (loop (λst=>YS x st.1 st.2) (rows,0)) (zyE (n:=n) (k:=k) (o:=o) n 0):=by
 refine zQ (λst=>∃s:Nat,st.2=(s:Int)/\s<=n/\zyE (n:=n) (k:=k) (o:=o) s 0 st.1) (λst=>10 - st.2.toNat) ⟨0,rfl,by omega,hT.tm,hT.par,λr j _ _ g=>by omega⟩ (by show 10 - _<_;omega) ?_;rintro⟨rows,_⟩ ⟨s,rfl,sn,hS⟩;simp only at hS;show Ret (YS x rows (s:Int)) _;unfold YS;rw[hn,zG];refine⟨λhc=>?_,λhc=>?_⟩
 ·have hc:(s:Int)<(n:Int):=of_decide_eq_true hc;rw[zt];refine(zgC h hn hk n1 k1 (s:=s) (by omega) hS).mono λr hr=>?_;unfold Qp;rw[ze,zJ (x:=(s:Int)+1) (by omega) (by omega)];exact⟨⟨s+1,rfl,by omega,hr⟩,by simp only;omega⟩
 ·have hsn:s=n:=by have:=of_decide_eq_false hc;omega
  subst hsn;exact ze.2 hS
end
theorem zrU {x:zT}(h:zyY x):Ret (z0q x) λm=>VM m/\m.Inputs<=3/\m.Rows.length<=6/\(∀s i,s<m.Rows.length->i<kk m->0<=(E m s i).To)/\∀t,t<m.Rows.length->Rch m t:=by
 have hn':=zgh h.s0 (k:=6) (by omega) (by omega);have hi':=zgh h.i0 (k:=3) (by omega) (by omega);have ho':=zgh h.o0 (k:=3) (by omega) (by omega);obtain⟨n,hn⟩:∃n:Nat,w64 (1+w64 (Int.tmod x.States 6))=(n:Int):=⟨(w64 (1+w64 (Int.tmod x.States 6))).toNat,by omega⟩;obtain⟨k,hk⟩:∃n:Nat,w64 (1+w64 (Int.tmod x.Inputs 3))=(n:Int):=⟨(w64 (1+w64 (Int.tmod x.Inputs 3))).toNat,by omega⟩;obtain⟨o,ho⟩:∃n:Nat,w64 (1+w64 (Int.tmod x.Outputs 3))=(n:Int):=⟨(w64 (1+w64 (Int.tmod x.Outputs 3))).toNat,by omega⟩;rw[hn]at hn';rw[hk]at hi';rw[ho]at ho';have n1:1<=n/\n<=6:=by omega
 have k1:1<=k/\k<=3:=by omega
 have o1:1<=o/\o<=3:=by omega
 unfold z0q Qt Qr Qq;rw[gdT (by decide),gdT (by decide),gdT (by decide),zt];refine(zk8 h hn hk ho n1 k1 o1).mono λr0 h0=>?_;rw[zt];refine(zmA h hn hk n1 k1 h0.1 h0.2).mono λr1 h1=>?_;rw[zt];refine(zph h hn hk n1 k1 h1).mono λr hF=>?_;rw[ze,hk,ho];have hlen:r.length=n:=hF.tm.len;have hkk:kk (z6.mk (k:Int) (o:Int) r)=k:=by show(k:Int).toNat=k;omega
 have hfull:∀s i,s<n->i<k->0<=(ed r s i).To:=λs i a b=>hF.full s i a b (.inl a);refine⟨⟨by show(1:Int)<=(k:Int);omega,by show(k:Int)<=16;omega,by show(1:Int)<=(o:Int);omega,by show(o:Int)<=16;omega,by show 1<=r.length;omega,by show r.length<=64;omega,λrow hr=>?_,λrow hr e he=>?_⟩,by show(k:Int)<=3;omega,by show r.length<=6;omega,λs i hs hi=>?_,?_⟩
 ·obtain⟨s,hs⟩:=gL.1 hr;have:=hF.tm.row s row hs;show((row.length:Nat):Int)=(k:Int);omega
 ·obtain⟨s,hs⟩:=gL.1 hr;have hrow:=hF.tm.row s row hs;have hsl:s<n:=by have:=(p8.1 hs).1;rw[hlen]at this;exact this
  obtain⟨i,hi⟩:=gL.1 he;have hil:i<k:=by have:=(p8.1 hi).1;omega
  have e1:ed r s i=e:=by unfold ed;rw[hs,gA,hi,gA]
  have q1:=hF.tm.edge s i hsl hil;have q2:=hfull s i hsl hil;rw[e1]at q1 q2;exact .inr ⟨q2,by show e.To<((r.length:Nat):Int);rw[hlen];exact q1.2.1,q1.2.2.1,q1.2.2.2⟩
 ·exact hfull s i (by have hs:s<r.length:=hs;omega) (by rw[hkk]at hi;exact hi)
 ·have gen:∀b t,t<b->t<n->Rch (z6.mk (k:Int) (o:Int) r) t:=by
   intro b;induction b with
   | zero=>intro t q;omega
   | succ b ih=>
    intro t q ht;by_cases e:t=0
    ·subst e;exact⟨[],(λi hi=>by cases hi),rfl⟩
    ·obtain⟨s,i,g1,g2,g3⟩:=hF.par t (by omega) ht;have e3:(E (z6.mk (k:Int) (o:Int) r) s i).To=(t:Int):=g3;have:=rch_step (m:=z6.mk (k:Int) (o:Int) r) (i:=i) (ih s (by omega) (by omega)) (by rw[hkk];exact g2) (by rw[e3];omega);rw[e3]at this;exact this
  intro t ht;exact gen (t+1) t (by omega) (by have ht:t<r.length:=ht;omega)
theorem ztB {x:qM}(h:zyY x.C):Ret (z0p x) λm=>KM m/\kk m<=3:=by
 unfold z0p;rw[gdT (by decide),zt];have h':zyY (zT.mk (Int.tmod x.C.States 5) x.C.Inputs x.C.Outputs x.C.Tree x.C.Edges):=⟨rY _ h.s0,h.i0,h.o0,h.t0,h.e0⟩;refine(zrU h').mono λm hm=>?_;obtain⟨h1,h2,h3,h4,h5⟩:=hm;have k1:=h1.kk_pos;have k2:=h1.kk_eq;have hG:GG (kk m) m.Rows.length<=1000000000:=by
  have e:kk m=1\/kk m=2\/kk m=3:=by omega
  have hm:GG (kk m) m.Rows.length<=GG (kk m) 8:=z4R (by omega);rcases e with e|e|e <;> rw[e]at hm ⊢ <;> exact pE hm (by decide)
 rw[zt];refine(zgm h1 hG).mono λp hp=>?_;obtain⟨F,hF,hp⟩:=hp;have hc:Cpl m:=h4;have hl:=hF.len;have hi:=hp.inp;have hv:=zvz h1 hc hF hp;have hk:=hv.kk_eq;exact ze.2 ⟨⟨hv,zs4 hc hF hp,zou hF hp,zot h1 hc hF hp,by rw[hi];omega,by rw[hp.len];omega⟩,by omega⟩
theorem zeV:z1d=some true:=by kernel_rfl
def Ok5 (a:Int):Prop:=(0)<=a/\a<=255
def zBE (l:List Int):Prop:=∀a∈l,Ok5 a
def zAl (a:Int):Prop:=(0)<=a/\a<=65535
def zBD (l:List Int):Prop:=∀a∈l,zAl a
def zBC (a:zT):Prop:=Ok5 a.States/\Ok5 a.Inputs/\Ok5 a.Outputs/\zBE a.Tree/\zBD a.Edges
def zBB (a:qM):Prop:=zBC a.C
theorem zcW (h:KM m)  (hk:kk m<=3/\k<=2\/k<=1)(hs:s<=2):Zw (VL (srt (fw m k s))) (VL (srt (fw m k s)))=some true:=by have h1:=zeB h hk hs;unfold Zw;rw[bdT (zoc _ _ (by omega) λx q=>by have:=(zlu h (by omega) hs (yb.1 (Ku.1 q).1)).1;omega),decide_eq_true rfl,cond_true,beq_self_eq_true]
theorem zoX {x:qM}{extra:Int}(hx:zBB x)(he:Ok5 extra):YP x extra=some true:=by
 obtain⟨m,e0,h,hk⟩:=ztB (x:=x) ⟨hx.1.1,hx.2.1.1,hx.2.2.1.1,hx.2.2.2.1,hx.2.2.2.2⟩;have hl:=h.len;obtain⟨k,hk2,hb⟩:∃k:Nat,k<=2/\w64 (((m.Rows.length:Nat):Int)+w64 (Int.tmod extra 3))=((m.Rows.length+k:Nat):Int):=by have h1:=he.1;have e1:Int.tmod extra 3=extra % 3:=Int.tmod_eq_emod_of_nonneg h1;refine⟨(extra % 3).toNat,by omega,?_⟩;rw[e1,zJ (x:=extra % 3) (by omega) (by omega),zJ (by omega) (by omega)];omega
 have hkk:kk m<=3/\k<=2\/k<=1:=.inl ⟨hk,hk2⟩;have sm:=λs (hs:s<=2)=>zeB h hkk hs;have bd:∀s,s<=2->vn s m ((m.Rows.length+k:Nat):Int) 4096=some (VL (srt (fw m k s)),0):=λs hs=>by have:=sm s hs;rw[z8T h (by omega) hs (by omega) (by omega),if_pos (by omega)]
 obtain⟨w0,w1,w2⟩:=zCr h (k:=k) (by omega) (b:=4096) (by omega) (by omega);obtain⟨r0,r1,r2⟩:=zrO h hkk;obtain⟨c,c1,c2⟩:=zlN h (k:=k) (by omega);have c2:=c2 λs hs=>by have:=sm s hs;omega
 subst c2;unfold YP;rw[show(qM.mk x.C)=x from rfl,bdT e0,gdT (by decide),hb,w0,w1,w2,bdT (bd 0 (by omega)),bdT (bd 1 (by omega)),bdT (bd 2 (by omega)),bdT c1];simp only[show((0:Int) != 0)=false from rfl,cond_false];rw[bdT r0,bdT (zcW h hkk (by omega)),gP,cond_false,bdT r1,bdT (zcW h hkk (by omega)),gP,cond_false,bdT r2,bdT (zcW h hkk (by omega)),gP,cond_false];simp only[beq_self_eq_true,rC,cond_true];rw[zeV];rfl
def zfw (w:World):zo:=λb o=>yj w.heap b o
variable {v:Value}
theorem zlT {w:World}{a:Addr}  (h:w.cell? a=some v):a.spot=none/\yj w.heap a.block a.off=some v:=by
 unfold World.cell? at h;unfold yj;split at h
 ·rename_i c ty fr he;rw[he];split at h
  ·cases h
  ·rename_i hs;exact⟨by simpa using hs,h⟩
 ·cases h
variable {cs:List Value}{S:zo}
section
variable {H:Type}{enc:TypeId×Value->H}{P:Program}{w:World}{base:Nat}{spare:Nat->Bool}{held:Bool}
theorem zlR {a:Addr}   (h:w.cells? base a n=some cs)(hn:0<n):a.spot=none/\cs.length=n/\zbH (zfw w) a.block a.off cs:=by
 obtain⟨_,h2,h3⟩:=World.cells?_some h;have h0:a.spot=none:=by
  have h4:=h3 0 hn;cases hc:cs[0]? with
  | none=>rw[rh]at hc;omega
  | some v=>rw[hc]at h4;have:=(zlT h4).1;simpa[Addr.add] using this
 refine⟨h0,h2,λj v hj=>?_⟩;have hlt:=(p8.1 hj).1;have h4:=h3 j (by omega);rw[hj]at h4;have q:=(zlT h4).2;unfold Addr.add at q;split at q
 ·rename_i e;subst e;exact q
 ·exact q
theorem zex:∀{bs:List A} {cs:List Value} {a:A} {c:List Value},yK S bs cs->Rep S a c->yK S (bs++[a]) (cs++c)
 | [],cs,a,c,h1,h2=>by simp only[yK]at h1;subst h1;simp only[p9,yK];exact⟨c,[],by simp,h2,rfl⟩
 | x::bs,cs,a,c,h1,h2=>by simp only[yK]at h1;obtain⟨c1,c2,rfl,r1,r2⟩:=h1;simp only[gQ,yK];exact⟨c1,c2++c,by simp,r1,zex r2 h2⟩
theorem zoN {b o:Nat}{c1 c2:List Value}(h1:zbH S b o c1)(h2:zbH S b (o+c1.length) c2):zbH S b o (c1++c2):=by
 intro j v hj;rcases pH j c1.length with q|q
 ·rw[pG q]at hj;exact h1 j v hj
 ·rw[pF q]at hj;have:=h2 _ _ hj;rwa[show o+c1.length+(j - c1.length)=o+j by omega]at this
theorem zeh {t e sz:Nat}(f:α->A)(ok:α->Prop)(ht:P.underlying t=some (.slice e))(hsz:P.cellsOf e=sz)(h0:0<sz)(hf:∀a,(f a).size=sz)
    (hel:∀n cs x,DataW.trod enc P w base spare held n e cs=some x->∃a,ok a/\Rep (zfw w) (f a) cs)
    {z1O:Nat} {cs:List Value} {x:DataW H×List MemPlace} (h:DataW.trod enc P w base spare held z1O t cs=some x):∃l:List α,(∀a∈l,ok a)/\Rep (zfw w) (.sl sz false (l.map f)) cs:=by
  rcases DataW.trod_slice ht h with⟨rfl,_⟩|⟨a,len,cap,elems,rest,n,_,rfl,_,_,hlc,_,hlen,hall,_,_⟩
  · refine⟨[],by simp,?_⟩;simp only[Rep,nP,rW];exact⟨none,0,rfl,by simp,pC _,by simp,.inl trivial⟩
  · have key:∀k,k<=len->∃(l:List α) (cells:List Value),l.length=k/\(∀a∈l,ok a)/\yK (zfw w) (l.map f) cells/\cells.length=k*sz/\(0<k->a.spot=none)/\zbH (zfw w) a.block a.off cells:=by
      intro k;induction k with
      | zero=>intro _;exact⟨[],[],rfl,by simp,by simp[yK],by simp,by simp,λj v h=>by simp at h⟩
      | succ k ih=>
        intro hk;obtain⟨l,cells,q1,q2,q3,q4,q5,q6⟩:=ih (by omega);have hk':=hall k (by omega);have hsome:elems[k]?=some elems[k]:=p7 (by omega);rw[hsome,Option.bind_eq_some_iff,hsz]at hk';obtain⟨c,hc,htr⟩:=hk';obtain⟨y,hy,hr⟩:=hel _ _ _ htr;obtain⟨g1,g2,g3⟩:=zlR hc h0;refine⟨l++[y],cells++c,by simp[q1],?_,?_,?_,?_,?_⟩
        · intro z hz;rcases pA.1 hz with q|q
          · exact q2 z q
          · simp only[pD,pX,or_false]at q;subst q;exact hy
        · rw[mF];exact zex q3 hr
        · rw[pN,q4,g2,rq]
        · intro _;rcases ra k with rfl|hk0
          · simpa[Addr.add] using g1
          · exact q5 hk0
        · refine zoN q6 ?_;rw[q4];unfold Addr.add at g3;split at g3
          · rename_i e0;rw[e0,mY];exact g3
          · exact g3
    obtain⟨l,cells,q1,q2,q3,q4,q5,q6⟩:=key len (pC _);refine⟨l,q2,?_⟩;simp only[Rep,gD];refine⟨some a,cap,by rw[q1],by simp,by omega,?_,?_⟩
    · intro y hy;obtain⟨z,_,rfl⟩:=pW.1 hy;exact hf z
    · rcases ra len with rfl|hl
      · left;rw[List.length_eq_zero_iff.1 q1];rfl
      · right;refine⟨a.block,a.off,cells,?_,q3,q6⟩;have:=q5 hl;obtain⟨b,o,s⟩:=a;simp only at this;subst this;rfl
theorem zlk {t:Nat}{k:IntKind}{lo hi:Int}(ht:P.underlying t=some (.int k))(hlo:k.min=lo)(hhi:k.max=hi){z1O:Nat}  {x:DataW H×List MemPlace}(h:DataW.trod enc P w base spare held z1O t cs=some x) :
  ∃n:Int,(lo<=n/\n<=hi)/\cs=[.int k n]/\Rep (zfw w) (.atom (.int k n)) cs:=by
 obtain⟨n,rfl,_,hw⟩:=DataW.trod_int ht h;simp only[Lit.wf,pJ,decide_eq_true_eq,hlo,hhi]at hw;exact⟨n,hw,rfl,by simp only[Rep];exact⟨trivial,rfl⟩⟩
theorem z5a {t:Nat}{fs:List Field}(ht:P.underlying t=some (.struct ⟨fs⟩)){z1O:Nat}  {x:DataW H×List MemPlace}(h:DataW.trod enc P w base spare held z1O t cs=some x) :
  cs.length=P.cellsOf t/\∀(i:Nat) (f:Field),fs[i]?=some f->∃n y,DataW.trod enc P w base spare held n f.type ((cs.drop f.offset).take (P.cellsOf f.type))=some y:=by
 obtain⟨xs,n,_,_,hl,hxl,hall⟩:=DataW.trod_struct ht h;refine⟨hl,λi f hf=>?_⟩;have hlt:=(p8.1 hf).1;have:=hall i f (by simpa using hf);rw[p7 (by rw[hxl];simpa using hlt)]at this;exact⟨n,_,this⟩
end
theorem z0e {a:A}{bs:List A}   (h1:Rep S a (cs.take n))(h2:yK S bs (cs.drop n)):yK S (a::bs) cs:=by simp only[yK];exact⟨cs.take n,cs.drop n,(mD n cs).symm,h1,h2⟩
variable {P:Program}
section
open Go Go.ChangeShapes Go.WideShapes Go.ChangeAt Go.RowKit
theorem zkp {P:Program}{H:Type}{enc:TypeId×Value->H}{f:Func}{s:ChangeSpec}{apart fresh handsOn again:Bool}{W W':World}{args:Array Value}{v:Value}{ds:List (DataW H)}{pa:List MemPlace}
  (hvar:s.vars=[]) (hvars2:(s.fn H (ds++[])).vars=[]) (hW:DataW.Whole enc P f.params.toList s.vars apart W args.toList ds [] (pa++[])) (hb:Below W.heap.size W W')
  (hres:∀(b:Nat) (sp:Nat->Bool) (hd:Bool),DataW.TrodAll enc P W' b sp hd f.resultTypes.toList (v.resultList f.resultTypes.size) (s.fn H (ds++[])).results [])
  (hargs:∀sp:Nat->Bool,(∀p∈pa++[],sp p.block=true)->DataW.TrodAll enc P W' 0 sp true f.params.toList args.toList (s.fn H (ds++[])).args pa)
  (hok:∀(j:Nat) (t:TypeId) (r:Value),f.resultTypes[j]?=some t->(v.resultList f.resultTypes.size)[j]?=some r->Value.okWide P W' .any 0 t r) :
  s.post enc P f apart fresh handsOn again W args v W':=by
 have hlt:∀p∈pa++[],p.block<W.heap.size:=λp hp=>by simpa using hW.lt p hp
 have hvr:∀sp:Nat->Bool,DataW.TrodVars enc P W' sp s.vars (s.fn H (ds++[])).vars []:=λsp=>by rw[hvar,hvars2];rfl
 refine⟨ds,[],pa++[],[],pa,[],hW,hres _ _ _,hargs _ (λp hp=>by simpa using hlt p hp),hvr _,World.keptBut_mono (λ_ q=>q.elim) (hb.frame λ_=>False),λ_=>?_⟩;obtain⟨_,_,_,_,_,hz,hn⟩:=hW;refine⟨hok,_,_,([]++pa)++[],⟨[]++pa,[],trodAll_append (hargs _ (λ_ _=>rfl)) (hres _ _ _),hvr _,rfl,?_,?_⟩,?_⟩
 ·intro b off hp;have hp':MemPlace.cell b off∈pa++[]:=by simpa using hp
  rw[hb.frozen (p:=⟨b,off,none⟩) (hlt _ hp')];exact hz b off hp'
 ·intro ha;simpa using hn ha
 ·intro p hp _;simpa using hp
end
theorem zny {k:Nat}{α ρ:Type}{enc:α->List A}{encR:ρ->A}{F:α->Option ρ}{gives:List Bool}{inj:∀x y,enc x=enc y->x=y}(h:(spF k enc encR F gives inj).Ok P){x:α}{r:ρ}(hr:F x=some r):V5 P k (enc x) (encR r):=by have:=h x ⟨r,hr⟩;simpa only[spF,hr] using this
variable {fs:Array Field}
section
variable {P:Program}{w:World}{r:Reach}{base t:Nat}{v:Value}
theorem zjk (h:∀cs,v≠.agg cs):v=v.cells.toList.headD undef:=by cases v <;> first|rfl|exact(h _ rfl).elim
theorem zqK {k:IntKind}(hu:P.underlying t=some (.int k))(h:Value.okWide P w r base t v):v=v.cells.toList.headD undef:=by refine zjk λcs e=>?_;subst e;unfold Value.okWide at h;rw[hu]at h;simp only[Cell.okWide,hu,Cell.ok]at h
theorem zid (hu:P.underlying t=some (.struct fs))(h:Value.okWide P w r base t v):v=.agg v.cells.toList.toArray:=by unfold Value.okWide at h;rw[hu]at h;obtain⟨cs,rfl,_⟩:=h;rfl
theorem zo9 {k:IntKind}  {a:A}(hu:P.underlying t=some (.int k))(hr:Rep S a v.cells.toList)(h:Value.okWide P w r base t v)(ha:a.isAgg=false):qa S a v:=⟨_,hr,by cases a <;> first|exact zqK hu h|cases ha⟩
theorem zg9 {a:A}(hu:P.underlying t=some (.struct fs))(hr:Rep S a v.cells.toList)(h:Value.okWide P w r base t v)(ha:a.isAgg=true):qa S a v:=⟨_,hr,by cases a <;> first|exact zid hu h|cases ha⟩
theorem zp5 {h:Array Obj}  {F:List Nat}(q:Has S h (.atom (.bool true)) v F):v=.bool true:=by
 rcases q with⟨q,_⟩|⟨cs,q,_,rfl⟩
 ·rw[(zD.1 q).1]
 ·simp only[zU,Rep]at q;obtain⟨⟨rfl,_⟩,_⟩:=q;rfl
end
open Go.Proofs
section
variable {H:Type}{enc:TypeId×Value->H}{w:World}{base:Nat}{spare:Nat->Bool}{held:Bool}
theorem zqu:prog.cellsOf 5=1:=by kernel_rfl
theorem rd5 {z1O:Nat}  {x:DataW H×List MemPlace}(h:DataW.trod enc prog w base spare held z1O 5 cs=some x):∃a:Int,Ok5 a/\Rep (zfw w) ((eI .u8) a) cs:=by obtain⟨n,h1,_,h2⟩:=zlk underlying5 (lo:=0) (hi:=255) rfl rfl h;exact⟨n,h1,h2⟩
theorem zsI:prog.cellsOf 22=1:=by kernel_rfl
theorem zCQ {z1O:Nat}  {x:DataW H×List MemPlace}(h:DataW.trod enc prog w base spare held z1O 22 cs=some x):∃a:List Int,zBE a/\Rep (zfw w) ((eSl 1 false (eI .u8)) a) cs:=by exact zeh (eI .u8) Ok5 underlying22 zqu (by omega) (λ_=>rfl) (λ_ _ _ q=>rd5 q) h
theorem zsF:prog.cellsOf 43=1:=by kernel_rfl
theorem zCM {z1O:Nat}  {x:DataW H×List MemPlace}(h:DataW.trod enc prog w base spare held z1O 43 cs=some x):∃a:Int,zAl a/\Rep (zfw w) ((eI .u16) a) cs:=by obtain⟨n,h1,_,h2⟩:=zlk underlying43 (lo:=0) (hi:=65535) rfl rfl h;exact⟨n,h1,h2⟩
theorem zsH:prog.cellsOf 23=1:=by kernel_rfl
theorem zCP {z1O:Nat}  {x:DataW H×List MemPlace}(h:DataW.trod enc prog w base spare held z1O 23 cs=some x):∃a:List Int,zBD a/\Rep (zfw w) ((eSl 1 false (eI .u16)) a) cs:=by exact zeh (eI .u16) zAl underlying23 zsF (by omega) (λ_=>rfl) (λ_ _ _ q=>zCM q) h
theorem zlS:prog.cellsOf 25=5:=by kernel_rfl
theorem zCO {z1O:Nat}  {x:DataW H×List MemPlace}(h:DataW.trod enc prog w base spare held z1O 25 cs=some x):∃a:zT,zBC a/\Rep (zfw w) ((Xi (eI .u8) (eI .u8) (eI .u8) (eSl 1 false (eI .u8)) (eSl 1 false (eI .u16))) a) cs:=by obtain⟨hl,hf⟩:=z5a underlying25 h;rw[zlS]at hl;obtain⟨_,_,q0⟩:=hf 0 _ rfl;obtain⟨_,_,q1⟩:=hf 1 _ rfl;obtain⟨_,_,q2⟩:=hf 2 _ rfl;obtain⟨_,_,q3⟩:=hf 3 _ rfl;obtain⟨_,_,q4⟩:=hf 4 _ rfl;simp only[zsI,zsH,zqu]at q0 q1 q2 q3 q4;obtain⟨a0,k0,r0⟩:=rd5 q0;obtain⟨a1,k1,r1⟩:=rd5 q1;obtain⟨a2,k2,r2⟩:=rd5 q2;obtain⟨a3,k3,r3⟩:=zCQ q3;obtain⟨a4,k4,r4⟩:=zCP q4;refine⟨⟨a0,a1,a2,a3,a4⟩,⟨k0,k1,k2,k3,k4⟩,?_⟩;show Rep (zfw w) (.agg [(eI .u8) a0,(eI .u8) a1,(eI .u8) a2,(eSl 1 false (eI .u8)) a3,(eSl 1 false (eI .u16)) a4]) cs;simp only[Rep];refine z0e (n:=1) (by simpa[mX] using r0) (z0e (n:=1) (by simpa[mX] using r1) (z0e (n:=1) (by simpa[mX] using r2) (z0e (n:=1) (by simpa[mX] using r3) (z0e (n:=1) (by simpa[mX] using r4) ?_))));simp only[mX,yK];exact mL (by omega)
theorem zsG:prog.cellsOf 27=5:=by kernel_rfl
theorem zCN {z1O:Nat}  {x:DataW H×List MemPlace}(h:DataW.trod enc prog w base spare held z1O 27 cs=some x):∃a:qM,zBB a/\Rep (zfw w) ((Xh (Xi (eI .u8) (eI .u8) (eI .u8) (eSl 1 false (eI .u8)) (eSl 1 false (eI .u16)))) a) cs:=by obtain⟨hl,hf⟩:=z5a underlying27 h;rw[zsG]at hl;obtain⟨_,_,q0⟩:=hf 0 _ rfl;simp only[zlS]at q0;obtain⟨a0,k0,r0⟩:=zCO q0;refine⟨⟨a0⟩,k0,?_⟩;show Rep (zfw w) (.agg [(Xi (eI .u8) (eI .u8) (eI .u8) (eSl 1 false (eI .u8)) (eSl 1 false (eI .u16))) a0]) cs;simp only[Rep];refine z0e (n:=5) (by simpa[mX] using r0) ?_;simp only[yK];exact mL (by omega)
end
end Go.Own
namespace Go.Proofs.YtedigoohmnbjfaaGreat.suitesBuild
open Go.Proofs.Tryz
open Go Go.ChangeShapes Go.WideShapes Go.ChangeAt Go.RowKit
theorem own:ownKnob prog.godebug=none:=by kernel_rfl
theorem zsg:laidOutB prog=true:=by kernel_rfl
section
variable {H:Type}{enc:TypeId×Value->H}{W:World}
set_option maxRecDepth 100000 in
theorem zCq {base:Nat}{v0:Value}{d0:DataW H}{p0:List MemPlace}{v1:Value}{d1:DataW H}{p1:List MemPlace}(h0:DataW.Trod enc prog W 0 (λ_=>true) true 27 v0 d0 p0)(h1:DataW.Trod enc prog W 0 (λ_=>true) true 5 v1 d1 p1)(k0:Value.okWide prog W .any base (27:Nat) v0)(k1:Value.okWide prog W .any base (5:Nat) v1) :
  Calls prog 3 #[v0,v1] W λe w'=>e=.returned (.bool true)/\Go.Own.UQ (λk=>W.heap.size<=k) W w':=by
 obtain⟨n0,h0⟩:=h0;obtain⟨x0,o0,r0⟩:=Go.Own.zCN h0;obtain⟨n1,h1⟩:=h1;obtain⟨x1,o1,r1⟩:=Go.Own.rd5 h1;have q:=(Go.Own.zny (Go.Own.ziU Go.Own.zsX rF:Go.Own.X6.Ok prog) (x:=(x0,x1)) (r:=true) (Go.Own.zoX o0 o1)).2 (Go.Own.zfw W) W [v0,v1] [] ⟨λ_ _ _ h=>h,λ_ _ e=>(by cases e),λ_ _ e=>(by cases e)⟩ ?_ (by simp)
 ·refine Calls.mono q ?_;rintro e w' ⟨v,S',F',rfl,hk,_,_,_,hr,_,_⟩;refine⟨?_,hk.mono (by rintro k (h|h) <;> simp_all)⟩;rw[Go.Own.zp5 hr]
 ·refine Go.Own.JH ?_;have g0:Go.Own.qa (Go.Own.zfw W) ((Go.Own.Xh (Go.Own.Xi (Go.Own.eI .u8) (Go.Own.eI .u8) (Go.Own.eI .u8) (Go.Own.eSl 1 false (Go.Own.eI .u8)) (Go.Own.eSl 1 false (Go.Own.eI .u16)))) x0) v0:=Go.Own.zg9 (t:=(27:Nat)) underlying27 r0 k0 rfl;have g1:Go.Own.qa (Go.Own.zfw W) ((Go.Own.eI .u8) x1) v1:=Go.Own.zo9 (t:=(5:Nat)) underlying5 r1 k1 rfl;exact⟨g0,g1,trivial⟩
end
set_option maxRecDepth 100000 in
theorem zvD (os:Os)(started:os.Started)(H:Type)(enc:TypeId×Value->H) :
  ReturnsInHanded {} checked os 3 .any (Rows.suitesBuildSpec.pre6 enc prog Tryz.f3 Rows.suitesBuildRow.domain false) (Rows.suitesBuildSpec.post enc prog Tryz.f3 false true false false):=by
 refine returnsInHanded_of_change (C:=checked) own started (by kernel_rfl) func3
  (ChangeSpec.witness6 (enc:=enc) (C:=checked) false ⟨#[],#[.agg #[.int .u8 0,.int .u8 0,.int .u8 0,.slice none 0 0,.slice none 0 0],.int .u8 0],[]⟩ 8 (by kernel_rfl) (by kernel_rfl) (by kernel_rfl) (by kernel_rfl)) ?_
 intro W base args ds gs before hval0 hW hcnd _;have hval:∀(j:Nat) t v,Tryz.f3.params[j]?=some t->args[j]?=some v->Value.okWide prog W .any base t v:=hval0;have hW':=hW;obtain⟨p,q,hA0,hV,rfl,hfz,hnd⟩:=hW;have hA:DataW.TrodAll enc prog W 0 (λ_=>true) true Tryz.f3.params.toList args.toList ds p:=hA0;rw[params3]at hA hval;obtain⟨v0,v1,d0,d1,p0,p1,rfl,rfl,rfl,h0,h1⟩:=trodAll_two hA;obtain⟨rfl,rfl⟩:=trodVars_none hV;clear hA0 hval0;refine(zCq h0 h1 (hval 0 (27:Nat) v0 rfl rfl) (hval 1 (5:Nat) v1 rfl rfl)).mono λe W' ⟨he,hk⟩=>?_;subst he;have hb:Below W.heap.size W W':=⟨hk.os,hk.tape,hk.output,hk.size,λk q=>hk.block k (by omega)⟩;have hlt:∀x∈p0++p1,x.block<W.heap.size:=λx hx=>by simpa using hW'.lt x (by simpa using hx)
 refine⟨_,rfl,Go.Own.zkp rfl rfl hW' hb (λ_ _ _=>trodAll_cons_mk (shut_bool underlying4 _) trodAll_mk0) (λsp hsp=>?_) (ok_one (by kernel_rfl) rfl (okWide_bool_mk underlying4 _))⟩;have st:∀{t:Nat} {v:Value} {d:DataW H} {p':List MemPlace},DataW.Trod enc prog W 0 (λ_=>true) true t v d p'->prog.readableRec t=true->t<prog.types.size->(∀x∈p',x∈p0++p1)->DataW.Trod enc prog W' 0 sp true t v d p':=by intro t v d p' hd h1 h2 hp;exact WideElems.Trod_stays zsg h1 h2 hd (λx hx=>hb.same (hlt x (hp x hx))) (λx hx=>hsp x (by simpa using hp x hx))
 have:=trodAll_mk2 (st h0 (by kernel_rfl) (of_decide_eq_true (by kernel_rfl)) (λx hx=>by simp[hx])) (st h1 (by kernel_rfl) (of_decide_eq_true (by kernel_rfl)) (λx hx=>by simp[hx]));rw[params3];exact this
theorem z1a:Rows.suitesBuildRow.holds Tryz.pinned (OpenSpec.ofChange Rows.suitesBuildSpec) :=
 OpenClaim.holds_of_wide 3 Tryz.f3 rfl rfl rfl rfl rfl rfl rfl ⟨rfl,rfl,rfl,rfl,rfl⟩ rfl rfl rfl rfl rfl (by kernel_rfl) func3 (by kernel_rfl)
  (of_decide_eq_true (by kernel_rfl)) (by unfold Func.isWrapper;first|(rw[if_pos (by decide +kernel)];kernel_rfl)|(rw[if_neg (by decide +kernel)];exact⟨rfl,rfl⟩))
  (λos started H enc _=>zvD os started H enc)
theorem proved:Rows.SuitesBuildSaid :=
 z1a
#print axioms proved
end Go.Proofs.YtedigoohmnbjfaaGreat.suitesBuild
