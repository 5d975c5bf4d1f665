/- -/
import Derived.Test.YtedigoohmnbjfaaGreatPartH
import Derived.Test.YtedigoohmnbjfaaGreatPartG
import Derived.Test.YtedigoohmnbjfaaGreatPartE
import Derived.Test.YtedigoohmnbjfaaGreatPartB
import Derived.OpenShut
import Derived.ChangeShapes
import Derived.Test.YtedigoohmnbjfaaGreatPartC
import Derived.WalkKit
import Derived.ProofKit
import Derived.Carry
import Derived.Test.YtedigoohmnbjfaaGreatRows
import Derived.Test.YtedigoohmnbjfaaGreatChecked
set_option linter.unusedVariables false
set_option linter.defProp false
set_option linter.unusedSimpArgs false
namespace Go.Own
open Go.Proofs.Tryz
abbrev NB:=List (zC Int)×Int×Int
def NOk (T W:TA)(most:Int)(r:NB⊕(zb×Bool)):Prop :=
 (∃nodes leaves,r=.inl (nodes,leaves,most)/\z7s (T++W) nodes leaves/\leaves<=most)\/∃b,r=.inr (b,true)/\most<lvT (T++W)
def NSt (f:NB->Option (NB⊕(zb×Bool)))(W:TA):Prop :=
 ∀T most nodes leaves,z7s T nodes leaves->leaves<=most->T.length+W.length<=100000->(∀w∈T,w.length<=100/\∀c∈w,0<=c/\c<16)->Ret (f (nodes,leaves,most)) (NOk T W most)
def LOk (L k:Nat)(l:TA):Prop:=l.length<=L/\∀w∈l,w.length<=k/\∀c∈w,0<=c/\c<16
variable {α:Type}
def LOk.flat {l:List α}{W:α->TA}{L k n:Nat}(hl:l.length<=n)(h:∀x∈l,LOk L k (W x)):LOk (n*L) k (l.flatMap W):=by
 constructor
 ·refine pC ?_ (gH L hl);clear hl;induction l with
  | nil=>simp
  | cons x l ih=>have h1:=(h x (by simp)).1;have h2:=ih λy hy=>h y (by simp[hy]);rw[mU,pJ,pZ,rD];omega
 intro w hw;obtain⟨x,q1,q2⟩:=mA.1 hw;exact(h x q1).2 w q2
def zdX {α ρ:Type}{l:List α}{W:α->TA}{inner:α->NB->Option (NB⊕(zb×Bool))}{fin:NB->ρ}{bd:zb×Bool->ρ}
    {step:List (zC Int)×Int×Int×Int->Option (LR (List (zC Int)×Int×Int×Int) ρ)}
    (hs:∀nodes leaves most i,step (nodes,leaves,most,i)=bif decide (i<((l.length:Nat):Int)) then(Option.bind (idx l i) λx=>Option.bind (inner x (nodes,leaves,most)) λt=>match t with|.inl p=>some (.next (p.1,p.2.1,p.2.2,w64 (i+1)))|.inr p=>some (.done (bd p))) else some (.done (fin (nodes,leaves,most))))
    {L:Nat} (hl:l.length<=100000) (hw:∀x∈l,LOk L 100 (W x)) (hi:∀x∈l,NSt (inner x) (W x)) {T:TA} {most leaves:Int} {nodes:List (zC Int)} (hB:z7s T nodes leaves) (hm:leaves<=most) (hn:T.length+(l.flatMap W).length<=100000) (hT:∀w∈T,w.length<=100/\∀c∈w,0<=c/\c<16) :
    Ret (loop step (nodes,leaves,most,0)) λr=>∃t,NOk T (l.flatMap W) most t/\r=Sum.elim fin bd t:=by
  refine zM (λq=>∃i:Nat,q.2.2.2=(i:Int)/\q.2.2.1=most/\i<=l.length/\z7s (T++(l.take i).flatMap W) q.1 q.2.1/\q.2.1<=most) (λq=>l.length - q.2.2.2.toNat) ⟨0,rfl,rfl,pO _,by simpa using hB,hm⟩ (by show l.length - _<_;omega) ?_;rintro⟨nodes,leaves,_,_⟩ ⟨i,rfl,rfl,hi1,g,gm⟩;rw[hs];dsimp only at g gm ⊢;rcases pF i l.length with q|q
  · have hx:l[i]?=some l[i]:=pe q;have htk:(l.take (i+1)).flatMap W=(l.take i).flatMap W++W l[i]:=by rw[gt,hx,List.flatMap_append];simp
    have hsub:(l.take (i+1)).flatMap W++(l.drop (i+1)).flatMap W=l.flatMap W:=by rw[<-List.flatMap_append,mB]
    have hlen:=congrArg List.length hsub;rw[pJ,htk,pJ]at hlen;have hwd:∀w∈l.flatMap W,w.length<=100/\∀c∈w,0<=c/\c<16:=(LOk.flat (pi _) hw).2;rw[decide_eq_true (by omega),cond_true,zw hx,oB,zp];refine(hi _ (pL q) (T++(l.take i).flatMap W) _ nodes leaves g gm (by rw[pJ];omega) λw hw2=>?_).mono λt ht=>?_
    · rcases pg.1 hw2 with r|r
      · exact hT w r
      exact hwd w (by rw[<-hsub,htk];simp only[pg];exact .inl (.inl r))
    rw[NOk,pK,<-htk]at ht;rcases ht with⟨nodes',leaves',rfl,t2,t3⟩|⟨b,rfl,t2⟩
    · dsimp only
      rw[zJ (by omega) (by omega),z7];exact⟨⟨i+1,by simp,rfl,q,t2,t3⟩,by show l.length - ((i:Int)+1).toNat<l.length - (i:Int).toNat;omega⟩
    rw[z7];refine⟨.inr (b,true),.inr ⟨b,rfl,Int.lt_of_lt_of_le t2 (z89 (λw r=>?_) λw r=>?_)⟩,rfl⟩
    · rw[<-hsub];rcases pg.1 r with r|r
      · simp[r]
      exact pg.2 (.inr (pg.2 (.inl r)))
    rcases pg.1 r with r|r
    · have:=(hT w r).1;omega
    have:=(hwd w r).1;omega
  have:i=l.length:=by omega
  subst this;rw[gL]at g;rw[decide_eq_false (by omega),cond_false,z7];exact⟨.inl (nodes,leaves,_),.inl ⟨nodes,leaves,rfl,g,gm⟩,rfl⟩
def zif {l:List α}{W:α->TA}{inner:α->NB->Option (NB⊕(zb×Bool))}{step:List (zC Int)×Int×Int×Int->Option (LR (List (zC Int)×Int×Int×Int) (NB⊕(zb×Bool)))}
    (hs:∀nodes leaves most i,step (nodes,leaves,most,i)=bif decide (i<((l.length:Nat):Int)) then(Option.bind (idx l i) λx=>Option.bind (inner x (nodes,leaves,most)) λt=>match t with|.inl p=>some (.next (p.1,p.2.1,p.2.2,w64 (i+1)))|.inr p=>some (.done (.inr p))) else some (.done (.inl (nodes,leaves,most))))
    {L:Nat} (hl:l.length<=100000) (hw:∀x∈l,LOk L 100 (W x)) (hi:∀x∈l,NSt (inner x) (W x)):NSt (λs=>loop step (s.1,s.2.1,s.2.2,0)) (l.flatMap W) :=
  λT most nodes leaves hB hm hn hT=>(zdX hs hl hw hi hB hm hn hT).mono λr ⟨t,t1,t2⟩=>by
    have:r=t:=by rw[t2];cases t <;> rfl
    exact this ▸ t1
variable {l:TA}
def zem {l:TA}{u v:TB}{b:zb}{step:List (zC Int)×Int×Int×Int->Option (LR (List (zC Int)×Int×Int×Int) (NB⊕(zb×Bool)))}
    (hs:∀nodes leaves most i,step (nodes,leaves,most,i)=bif decide (i<((l.length:Nat):Int)) then(Option.bind (idx l i) λw=>Option.bind (xu [u,v,w] (zb.mk nodes leaves most)) λr=>bif r.2 then some (.done (.inr (b,true))) else some (.next (r.1.nodes_,r.1.leaves_,r.1.most_,w64 (i+1)))) else some (.done (.inl (nodes,leaves,most))))
    {L:Nat} (hl:LOk L 30 l) (hL:L<=1000) (hu:u.length<=30/\∀c∈u,0<=c/\c<16) (hv:v.length<=30/\∀c∈v,0<=c/\c<16):NSt (λs=>loop step (s.1,s.2.1,s.2.2,0)) (l.flatMap λw=>[[u,v,w].flatten])/\LOk L 100 (l.flatMap λw=>[[u,v,w].flatten]):=by
  have hf:∀w∈l,[u,v,w].flatten.length<=100/\∀c∈[u,v,w].flatten,0<=c/\c<16:=λw q=>by
    have:=hl.2 w q;refine⟨by simp;omega,λc hc=>?_⟩;simp at hc;rcases hc with r|r|r
    · exact hu.2 c r
    · exact hv.2 c r
    exact this.2 c r
  have h1:∀w∈l,LOk 1 100 [[u,v,w].flatten]:=λw q=>⟨by simp,λx hx=>by rw[pH]at hx;subst hx;exact hf w q⟩;refine⟨zif (inner:=λw s=>Option.bind (xu [u,v,w] (zb.mk s.1 s.2.1 s.2.2)) λr=>some (bif r.2 then .inr (b,true) else .inl (r.1.nodes_,r.1.leaves_,r.1.most_))) (λnodes leaves most i=>?_) (by have:=hl.1;omega) h1 λw hw=>?_,by simpa using LOk.flat hl.1 h1⟩
  · rw[hs];congr 2;funext w;cases xu [u,v,w] (zb.mk nodes leaves most) with
    | none=>rfl
    | some r=>simp only[oB];cases r.2 <;> rfl
  intro T most nodes leaves hB hm hn hT;obtain⟨f1,f2⟩:=hf w hw;rw[zp];refine(zhU hB (parts:=[u,v,w]) (by simp) (by omega) f1 λpart hp c hc=>f2 c (List.mem_flatten.2 ⟨part,hp,hc⟩)).mono λr hr=>?_;obtain⟨nodes',leaves',r1,⟨r2,rfl⟩|⟨r2,r3⟩⟩:=hr
  · exact z7.2 (.inl ⟨nodes',leaves',rfl,r1,r2⟩)
  rw[r3];refine z7.2 (.inr ⟨b,rfl,?_⟩);rw[<-(r1.done (by simp) (by simpa using hn) (λx hx=>?_) 0).2]
  · exact r2
  rcases pg.1 hx with q|q
  · have:=hT x q;exact⟨by omega,this.2⟩
  rw[pH]at q;subst q;exact⟨by omega,f2⟩
noncomputable def z4j (m:z6):TA:=(Ps m).filter λx=>!decide (x∈Qs m)
noncomputable def fw (m:z6)(k:Nat):Nat->TA
 | 0=>(Ps m).flatMap λu=>(vP (kk m) 0 (k+1)).flatMap λv=>(jC (WA m)).flatMap λw=>[[u,v,w].flatten]
 | 1=>((Qs m).flatMap λu=>(vP (kk m) 0 (k+1)).flatMap λv=>(jC (WA m)).flatMap λw=>[[u,v,w].flatten])++(z4j m).flatMap λu=>(exW (kk m) k).flatMap λv=>(jC (WS m (stA m (u++v)))).flatMap λw=>[[u,v,w].flatten]
 | _=>(Ps m).flatMap λu=>(vP (kk m) 0 (k+1)).flatMap λv=>(jC (WS m (stA m (u++v)))).flatMap λw=>[[u,v,w].flatten]
variable {s:Nat}{most:Int}
section
variable {m:z6}(h:KM m){k:Nat}(hk:k<=3)
include h hk
theorem zed:LOk 6 30 (Qs m)/\LOk 30 30 (Ps m)/\LOk 30 30 (z4j m)/\LOk 85 30 (vP (kk m) 0 (k+1))/\LOk 64 30 (exW (kk m) k)/\∀P,LOk 36 30 (jC (WL m P)):=by
 obtain⟨k1,k2,k3⟩:=h.k4;obtain⟨_,_,w1,w2,_⟩:=zh6 h;have hi:=h.inp;have h2:∀{L j:Nat} {l:TA},Wq m.Inputs L j l->j<=30->LOk L 30 l:=λq r=>⟨q.2.1,λw hw=>⟨pC (q.2.2 w hw).1 r,λc hc=>by have:=(q.2.2 w hw).2 c hc;omega⟩⟩;have h3:LOk 30 30 (Ps m):=h2 w2 (by omega);have e1:∀a,a<=4->∀k,k<=3->lnW a 0 (k+1)<=85:=by decide
 have e2:∀a,a<=4->∀k,k<=3->a ^ k<=64:=by decide
 refine⟨h2 w1 (by omega),h3,⟨pC (mF _ _) h3.1,λw hw=>h3.2 w (gS.1 hw).1⟩,⟨by rw[QA];exact e1 _ k2 _ hk,λw hw=>?_⟩,⟨by rw[Qc];exact e2 _ k2 _ hk,λw hw=>?_⟩,λP=>?_⟩
 ·have:=Q4 _ 0 k w hw;exact⟨by omega,λc hc=>by have:=Kg _ 0 _ w hw c hc;omega⟩
 ·have:=Zn _ k w hw;exact⟨by omega,λc hc=>by have:=z2k _ _ w hw c hc;omega⟩
 obtain⟨a1,a2⟩:=zeu h (P:=P);exact⟨a1,λw hw=>by have:=a2 w hw;exact⟨by omega,λc hc=>by have:=this.2 c hc;omega⟩⟩
theorem zfk {u v:TB}(hu:u∈Ps m\/u∈Qs m)(hv:v∈vP (kk m) 0 (k+1)\/v∈exW (kk m) k):xk (Yr m k) u v=some (jC (WS m (stA m (u++v)))):=by
 obtain⟨k1,k2,k3⟩:=h.k4;obtain⟨_,_,w1,w2,_⟩:=zh6 h;have a1:u.length<=256/\∀c∈u,0<=c/\c<m.Inputs:=by
  rcases hu with q|q
  ·have:=w2.2.2 u q;exact⟨by omega,this.2⟩
  have:=w1.2.2 u q;exact⟨by omega,this.2⟩
 have a2:v.length<=256/\∀c∈v,0<=c/\c<m.Inputs:=by
  rcases hv with q|q
  ·have:=Q4 _ 0 k v q;exact⟨by omega,λc hc=>by have:=Kg _ 0 _ v q c hc;omega⟩
  have:=Zn _ k v q;exact⟨by omega,λc hc=>by have:=z2k _ _ v q c hc;omega⟩
 exact zf9 h k a1.2 a2.2 a1.1 a2.1
def FOk (F:TA)(most:Int)(r:zb×Bool):Prop:=(∃nodes leaves,r=(zb.mk nodes leaves most,false)/\z7s F nodes leaves/\leaves<=most)\/r.2=true/\most<lvT F
omit h hk in
theorem FOk.of {F:TA}  {r:zb×Bool}(h:∃t,NOk [] F most t/\r=Sum.elim (λq:NB=>(zb.mk q.1 q.2.1 q.2.2,false)) id t):FOk F most r:=by
 obtain⟨t,⟨n,l,rfl,h1,h2⟩|⟨b,rfl,h1⟩,rfl⟩:=h
 ·exact .inl ⟨n,l,rfl,h1,h2⟩
 exact .inr ⟨rfl,h1⟩
theorem zkP (hm:0<=most)  (hs:s<=2):Ret (match s with|0=>va ⟨⟩ (Yr m k) (zb.mk [z16] 0 most)|1=>wK ⟨⟩ (Yr m k) (zb.mk [z16] 0 most)|2=>wo ⟨⟩ (Yr m k) (zb.mk [z16] 0 most)|_=>none) (FOk (fw m k s) most)/\(fw m k s).length<=100000/\∀w∈fw m k s,w.length<=100/\∀c∈w,0<=c/\c<16:=by
 obtain⟨l1,l2,l3,l4,l5,l6⟩:=zed h hk;have bag:∀{u v:TB} {L:Nat} {l:TA} (hu:LOk L 30 l) (q:u∈l),u.length<=30/\∀c∈u,0<=c/\c<16:=λhu q=>hu.2 _ q;match s,hs with
 | 0,_=>have i1:∀u∈Ps m,∀v∈vP (kk m) 0 (k+1),_:=λu hu v hv=>zem (u:=u) (v:=v) (b:=zb.mk [z16] 0 most) (step:=λs=>Yk (Yr m k) (zb.mk [z16] 0 most) u v s.1 s.2.1 s.2.2.1 s.2.2.2) (λ_ _ _ _=>rfl) (l6 λ_ _=>True) (by omega) (l2.2 u hu) (l4.2 v hv);have i2:∀u∈Ps m,NSt (λs=>loop (λs=>Yl (Yr m k) (zb.mk [z16] 0 most) u s.1 s.2.1 s.2.2.1 s.2.2.2) (s.1,s.2.1,s.2.2,0)) _:=λu hu=>zif (l:=vP (kk m) 0 (k+1)) (λ_ _ _ _=>rfl) (pC l4.1 (by omega)) (λv hv=>(i1 u hu v hv).2) λv hv=>(i1 u hu v hv).1;have j2:=λu hu=>LOk.flat l4.1 λv hv=>(i1 u hu v hv).2;have j3:=LOk.flat l2.1 j2;refine⟨?_,pC j3.1 (by omega),j3.2⟩;show Ret (va _ _ _) _;unfold va;rw[zp];refine(zdX (l:=Ps m) (step:=λs=>Ym (Yr m k) (zb.mk [z16] 0 most) s.1 s.2.1 s.2.2.1 s.2.2.2) (fin:=λq:NB=>(zb.mk q.1 q.2.1 q.2.2,false)) (bd:=id) (λ_ _ _ _=>rfl) (pC l2.1 (by omega)) j2 i2 z7s.nil hm (pC (Nat.le_of_eq (gJ _)) (pC j3.1 (by omega))) (λw q=>by cases q)).mono λr hr=>z7.2 (FOk.of hr)
 | 1,_=>
  have hmin:ZF (Yr m k).p_ (Yr m k).q_ (Yr m k).m_.Inputs=some (z4j m,0):=by obtain⟨_,_,w1,w2,_⟩:=zh6 h;have a1:=h.vm.in1;have a2:=h.vm.in16;show ZF (Ps m) (Qs m) m.Inputs=_;rw[z9H,if_neg (λq=>q (Ku.2 ⟨w2.ch ⟨a1,a2⟩ (by omega) (by omega) (by omega),w1.ch ⟨a1,a2⟩ (by omega) (by omega) (by omega)⟩))];rfl
  have hP:∀u∈z4j m,u∈Ps m:=λu q=>(gS.1 q).1;have i1:∀u∈Qs m,∀v∈vP (kk m) 0 (k+1),_:=λu hu v hv=>zem (u:=u) (v:=v) (b:=zb.mk [z16] 0 most) (step:=λs=>kP (Yr m k) (zb.mk [z16] 0 most) u v s.1 s.2.1 s.2.2.1 s.2.2.2) (λ_ _ _ _=>rfl) (l6 λ_ _=>True) (by omega) (l1.2 u hu) (l4.2 v hv);have i2:∀u∈Qs m,NSt (λs=>loop (λs=>Zw (Yr m k) (zb.mk [z16] 0 most) u s.1 s.2.1 s.2.2.1 s.2.2.2) (s.1,s.2.1,s.2.2,0)) _:=λu hu=>zif (l:=vP (kk m) 0 (k+1)) (λ_ _ _ _=>rfl) (pC l4.1 (by omega)) (λv hv=>(i1 u hu v hv).2) λv hv=>(i1 u hu v hv).1;have j2:=λu hu=>LOk.flat l4.1 λv hv=>(i1 u hu v hv).2;have j3:=LOk.flat l1.1 j2;have i3:=zif (l:=Qs m) (step:=λs=>Zx (Yr m k) (zb.mk [z16] 0 most) s.1 s.2.1 s.2.2.1 s.2.2.2) (λ_ _ _ _=>rfl) (pC l1.1 (by omega)) j2 i2;have n1:∀u∈z4j m,∀v∈exW (kk m) k,_:=λu hu v hv=>zem (u:=u) (v:=v) (b:=zb.mk [z16] 0 most) (step:=λs=>uH (zb.mk [z16] 0 most) u v (jC (WS m (stA m (u++v)))) s.1 s.2.1 s.2.2.1 s.2.2.2) (λ_ _ _ _=>rfl) (l6 (pS (stA m (u++v)))) (by omega) (l3.2 u hu) (l5.2 v hv);have n2:∀u∈z4j m,NSt (λs=>loop (λs=>Zy (Yr m k) (zb.mk [z16] 0 most) u s.1 s.2.1 s.2.2.1 s.2.2.2) (s.1,s.2.1,s.2.2,0)) _:=λu hu=>zif (l:=exW (kk m) k) (inner:=λv s=>Option.bind (xk (Yr m k) u v) λws=>loop (λs=>uH (zb.mk [z16] 0 most) u v ws s.1 s.2.1 s.2.2.1 s.2.2.2) (s.1,s.2.1,s.2.2,0)) (λ_ _ _ _=>by simp only[Option.bind_assoc];rfl) (pC l5.1 (by omega)) (λv hv=>(n1 u hu v hv).2) λv hv T mo no le a b c d=>by simp only[zfk h hk (.inl (hP u hu)) (.inr hv),oB];exact(n1 u hu v hv).1 T mo no le a b c d
  have o2:=λu hu=>LOk.flat l5.1 λv hv=>(n1 u hu v hv).2;have o3:=LOk.flat l3.1 o2;have hlen:(fw m k 1).length<=100000:=by show(_++_:TA).length<=_;rw[pJ];exact pC (Nat.add_le_add j3.1 o3.1) (by omega)
  have hwd:∀w∈fw m k 1,w.length<=100/\∀c∈w,0<=c/\c<16:=λw q=>(pg.1 q).elim (j3.2 w) (o3.2 w);refine⟨?_,hlen,hwd⟩;show Ret (wK _ _ _) _;unfold wK;rw[zp];refine(i3 [] most [z16] 0 z7s.nil hm (pC (Nat.le_of_eq (gJ _)) (pC j3.1 (by omega))) (λw q=>by cases q)).mono λr hr=>?_;rcases hr with⟨nodes,leaves,rfl,r1,r2⟩|⟨b,rfl,r1⟩
  ·dsimp only
   unfold uI;rw[bdT hmin,zp];refine(zdX (l:=z4j m) (step:=λs=>Zz (Yr m k) (zb.mk [z16] 0 most) (z4j m,0) s.1 s.2.1 s.2.2.1 s.2.2.2) (fin:=λq:NB=>(zb.mk q.1 q.2.1 q.2.2,false)) (bd:=id) (λ_ _ _ _=>rfl) (pC l3.1 (by omega)) o2 n2 r1 r2 (pC (Nat.add_le_add j3.1 o3.1) (by omega)) (λw q=>j3.2 w q)).mono λr hr=>z7.2 (FOk.of ?_);obtain⟨t,t1,t2⟩:=hr;exact⟨t,t1,t2⟩
  refine z7.2 (.inr ⟨rfl,Int.lt_of_lt_of_le r1 (z89 (λw q=>pg.2 (.inl q)) λw q=>by have:=(hwd w q).1;omega)⟩)
 | 2,_=>
  have n1:∀u∈Ps m,∀v∈vP (kk m) 0 (k+1),_:=λu hu v hv=>zem (u:=u) (v:=v) (b:=zb.mk [z16] 0 most) (step:=λs=>vX (zb.mk [z16] 0 most) u v (jC (WS m (stA m (u++v)))) s.1 s.2.1 s.2.2.1 s.2.2.2) (λ_ _ _ _=>rfl) (l6 (pS (stA m (u++v)))) (by omega) (l2.2 u hu) (l4.2 v hv);have n2:∀u∈Ps m,NSt (λs=>loop (λs=>kR (Yr m k) (zb.mk [z16] 0 most) u s.1 s.2.1 s.2.2.1 s.2.2.2) (s.1,s.2.1,s.2.2,0)) _:=λu hu=>zif (l:=vP (kk m) 0 (k+1)) (inner:=λv s=>Option.bind (xk (Yr m k) u v) λws=>loop (λs=>vX (zb.mk [z16] 0 most) u v ws s.1 s.2.1 s.2.2.1 s.2.2.2) (s.1,s.2.1,s.2.2,0)) (λ_ _ _ _=>by simp only[Option.bind_assoc];rfl) (pC l4.1 (by omega)) (λv hv=>(n1 u hu v hv).2) λv hv T mo no le a b c d=>by simp only[zfk h hk (.inl hu) (.inl hv),oB];exact(n1 u hu v hv).1 T mo no le a b c d
  have o2:=λu hu=>LOk.flat l4.1 λv hv=>(n1 u hu v hv).2;have o3:=LOk.flat l2.1 o2;refine⟨?_,pC o3.1 (by omega),o3.2⟩;show Ret (wo _ _ _) _;unfold wo;rw[zp];refine(zdX (l:=Ps m) (step:=λs=>kS (Yr m k) (zb.mk [z16] 0 most) s.1 s.2.1 s.2.2.1 s.2.2.2) (fin:=λq:NB=>(zb.mk q.1 q.2.1 q.2.2,false)) (bd:=id) (λ_ _ _ _=>rfl) (pC l2.1 (by omega)) o2 n2 z7s.nil hm (pC (Nat.le_of_eq (gJ _)) (pC o3.1 (by omega))) (λw q=>by cases q)).mono λr hr=>z7.2 (FOk.of hr)
end
variable {a:Nat}
def z21:∀{k:Nat} {w:TB},w∈exW a k↔w.length=k/\∀c∈w,0<=c/\c<(a:Int)
 | 0,w=>by simp only[exW,pH];exact⟨λq=>by subst q;simp,λq=>gR q.1⟩
 | k+1,w=>by
  refine⟨λq=>⟨Zn a _ w q,z2k a _ w q⟩,λq=>?_⟩;rcases nV w with rfl|⟨v,s,rfl⟩
  ·simp at q
  rw[List.concat_eq_append]at q ⊢;have hs:=q.2 s (by simp);rw[exW,mA];refine⟨v,z21.2 ⟨by simpa using q.1,λc hc=>q.2 c (by simp[hc])⟩,?_⟩;rw[z0a,pX];exact⟨s.toNat,gO.2 (by omega),by rw[mS hs.1]⟩
def uO:∀{k:Nat} {w:TB},w∈vP a 0 k↔w.length<k/\∀c∈w,0<=c/\c<(a:Int)
 | 0,w=>by simp[vP]
 | k+1,w=>by
  rw[vP,if_pos (pO _),pg,uO,z21];constructor
  ·rintro(q|q)
   ·exact⟨by omega,q.2⟩
   exact⟨by omega,q.2⟩
  rintro⟨q1,q2⟩;rcases pF w.length k with r|r
  ·exact .inl ⟨r,q2⟩
  exact .inr ⟨by omega,q2⟩
variable {x:TB}{m:z6}
def zaO:x∈Ps m↔∃q∈Qs m,∃i,i.length<=1/\(∀c∈i,0<=c/\c<(kk m:Int))/\q++i=x:=by
 unfold Ps;rw[yu,Zi];constructor
 ·rintro⟨u,h1,v,h2,e⟩;have:=uO.1 h2;exact⟨u,h1,v,by omega,this.2,e⟩
 rintro⟨u,h1,v,h2,h3,e⟩;exact⟨u,h1,v,uO.2 ⟨by omega,h3⟩,e⟩
def zdO (h:x∈Qs m):x∈Ps m:=zaO.2 ⟨x,h,[],by simp,by simp,by simp⟩
variable {P:Nat->Nat->Prop}
def Q7 (h:x∈jC (WL m P)):x∈[]::WA m:=by
 unfold jC at h;split at h
 ·exact pm.2 (.inl (pH.1 h))
 obtain⟨a,b,h1,h2,_,e⟩:=z88.1 h;exact mX _ (z88.2 ⟨a,b,h1,h2,trivial,e⟩)
variable {w:TB}
def z8q (hw:w∈jC (WL m P)):∃w'∈jC (WA m),∃z,w'=w++z:=by
 rcases pm.1 (Q7 hw) with rfl|q
 ·obtain⟨w',h1⟩:=List.exists_mem_of_ne_nil _ (z8r (WA m));exact⟨w',h1,w',rfl⟩
 refine⟨w,?_,[],by simp⟩;unfold jC;rw[if_neg (List.ne_nil_of_mem q)];exact q
variable {k:Nat}
def z20:x∈fw m k 0↔∃u∈Ps m,∃v∈vP (kk m) 0 (k+1),∃w∈jC (WA m),x=u++v++w:=by simp[fw]
def z01:x∈fw m k 1↔(∃u∈Qs m,∃v∈vP (kk m) 0 (k+1),∃w∈jC (WA m),x=u++v++w)\/∃u∈z4j m,∃v∈exW (kk m) k,∃w∈jC (WS m (stA m (u++v))),x=u++v++w:=by simp[fw]
def z1Z:x∈fw m k 2↔∃u∈Ps m,∃v∈vP (kk m) 0 (k+1),∃w∈jC (WS m (stA m (u++v))),x=u++v++w:=by simp[fw]
def zaN {k s:Nat}(hs:s<=2)  (h:x∈fw m k s):∃u∈Ps m,∃v∈vP (kk m) 0 (k+1),∃w∈[]::WA m,x=u++v++w:=by
 rcases(by omega:s=0\/s=1\/s=2) with rfl|rfl|rfl
 ·obtain⟨u,h1,v,h2,w,h3,e⟩:=z20.1 h;exact⟨u,h1,v,h2,w,Q7 h3,e⟩
 ·rcases z01.1 h with⟨u,h1,v,h2,w,h3,e⟩|⟨u,h1,v,h2,w,h3,e⟩
  ·exact⟨u,zdO h1,v,h2,w,Q7 h3,e⟩
  have:=z21.1 h2;exact⟨u,(gS.1 h1).1,v,uO.2 ⟨by omega,this.2⟩,w,Q7 h3,e⟩
 obtain⟨u,h1,v,h2,w,h3,e⟩:=z1Z.1 h;exact⟨u,h1,v,h2,w,Q7 h3,e⟩
section
variable {m:z6}(h:KM m)
include h
theorem zk3:1<=(Qs m).length:=by obtain⟨_,_,_,_,ha⟩:=zh6 h;have h1:(Ql m).length=m.Rows.length:=ha.1;have h2:=h.vm.len1;obtain⟨x,hx⟩:=List.exists_mem_of_length_pos (l:=Ql m) (by omega);exact List.length_pos_of_mem (yu.2 hx)
theorem zkM {k s:Nat}(hs:s<=2):fw m k s≠[]:=by
 obtain⟨q,hq⟩:=List.exists_mem_of_length_pos (l:=Qs m) (zk3 h);have hn:∀P,∃w,w∈jC (WL m P):=λP=>List.exists_mem_of_length_pos (mM.2 (z8r _));have hv:[]∈vP (kk m) 0 (k+1):=uO.2 ⟨by simp,by simp⟩;rcases(by omega:s=0\/s=1\/s=2) with rfl|rfl|rfl
 ·obtain⟨w,hw⟩:=hn λ_ _=>True;exact List.ne_nil_of_mem (z20.2 ⟨q,zdO hq,[],hv,w,hw,rfl⟩)
 ·obtain⟨w,hw⟩:=hn λ_ _=>True;exact List.ne_nil_of_mem (z01.2 (.inl ⟨q,hq,[],hv,w,hw,rfl⟩))
 obtain⟨w,hw⟩:=hn (pS (stA m (q++[])));exact List.ne_nil_of_mem (z1Z.2 ⟨q,zdO hq,[],hv,w,hw,rfl⟩)
theorem zbg {k s:Nat}(hk:k<=3)(hs:s<=2)  (hx:x∈fw m k s):x.length<=16/\∀c∈x,0<=c/\c<m.Inputs:=by
 obtain⟨k1,k2,k3⟩:=h.k4;obtain⟨_,_,_,w2,_⟩:=zh6 h;obtain⟨u,h1,v,h2,w,h3,rfl⟩:=zaN hs hx;have e1:=w2.2.2 u h1;have e2:=uO.1 h2;have e3:w.length<=5/\∀c∈w,0<=c/\c<m.Inputs:=by
  rcases pm.1 h3 with rfl|q
  ·simp
  exact(zfi h).2 w q
 refine⟨by simp only[pJ];omega,λc hc=>?_⟩;simp only[pg]at hc;rcases hc with(q|q)|q
 ·exact e1.2 c q
 ·have:=e2.2 c q;omega
 exact e3.2 c q
theorem big (hk:kk m<=3/\k<=2\/k<=1):∃B:TA,B.length<=3840/\∀u∈Ps m,∀v∈vP (kk m) 0 (k+1),∀w∈[]::WA m,u++v++w∈B:=by
 obtain⟨k1,k2,k3⟩:=h.k4;obtain⟨_,_,w1,_,_⟩:=zh6 h;refine⟨qP (qP (Qs m) (vP (kk m) 0 (k+2))) ([]::WA m),?_,λu hu v hv w hw=>?_⟩
 ·have e1:(vP (kk m) 0 (k+2)).length<=40:=by
   have c1:∀a,a<=3->∀k,k<=2->lnW a 0 (k+2)<=40:=by decide
   have c2:∀a,a<=4->∀k,k<=1->lnW a 0 (k+2)<=40:=by decide
   rw[QA];rcases hk with⟨q,r⟩|q
   ·exact c1 _ q _ r
   exact c2 _ k2 _ q
  have e2:(WA m).length<=15:=by
   refine pC (Vn _) ?_;rw[gC];have:∀n,n<=6->((prL n).filter λp=>decide (p.1<p.2)).length<=15:=by decide
   refine pC (Nat.le_of_eq ?_) (this _ h.len);congr 1;exact List.filter_congr λp _=>by simp
  rw[z1Q,z1Q,pZ];exact pC (mV (mV w1.2.1 e1) (Nat.succ_le_succ e2)) (by omega)
 obtain⟨q,q1,i,i1,i2,rfl⟩:=zaO.1 hu;have:=uO.1 hv;refine Zi.2 ⟨q++(i++v),Zi.2 ⟨q,q1,i++v,uO.2 ⟨by rw[pJ];omega,λc hc=>?_⟩,rfl⟩,w,hw,by simp⟩;rcases pg.1 hc with r|r
 ·exact i2 c r
 exact this.2 c r
theorem zaf {k s:Nat}(hk:kk m<=3/\k<=2\/k<=1)(hs:s<=2):(Xk (srt (fw m k s))).length<=3840:=by obtain⟨B,b1,b2⟩:=big h hk;refine pC (z1y ((uK _).filter _).nodup λx hx=>?_).1 b1;obtain⟨u,h1,v,h2,w,h3,rfl⟩:=zaN hs (yu.1 (qR.1 hx).1);exact b2 u h1 v h2 w h3
theorem zbf {k s:Nat}(hk:k<=3)(hs:s<=2)  (hm:0<=most) :
  (lvT (fw m k s)<=most/\∃nodes,vY (Yr m k) s most=some (some (zb.mk nodes (lvT (fw m k s)) most),true)/\wX (zb.mk nodes (lvT (fw m k s)) most)=some (Xk (srt (fw m k s))))\/most<lvT (fw m k s)/\vY (Yr m k) s most=some (none,false):=by
 obtain⟨⟨r,e,hr⟩,hl,hw⟩:=zkP h hk hm hs;have hg:vY (Yr m k) s most=some (bif r.2 then none else some r.1,!r.2):=by rcases(by omega:s=0\/s=1\/s=2) with rfl|rfl|rfl <;> · unfold vY;exact(congrArg (λz=>Option.bind z _) e)
 rcases hr with⟨nodes,leaves,rfl,r1,r2⟩|⟨r1,r2⟩
 ·obtain⟨d1,d2⟩:=r1.done (zkM h hs) hl (λw q=>by have:=hw w q;exact⟨by omega,this.2⟩) most;rw[d2]at d1 r2 hg;exact .inl ⟨r2,nodes,hg,d1⟩
 rw[r1]at hg;exact .inr ⟨r2,hg⟩
theorem zks {k s:Nat}(hk:k<=3)(hs:s<=2):mx (lvT (fw m k s)) 1=((Xk (srt (fw m k s))).length:Int)/\∀b:Int,1<=b->(lvT (fw m k s)<=b↔((Xk (srt (fw m k s))).length:Int)<=b):=by
 obtain⟨x,hx⟩:=List.exists_mem_of_ne_nil _ (zkM h (k:=k) hs);have h1:(1:Nat)<=(Xk (srt (fw m k s))).length:=by
  have:=zag (T:=[x]) (T':=fw m k s) (λw hw=>by rw[pH]at hw;subst hw;exact hx) λw hw=>by have:=(zbg h hk hs hw).1;omega
  have h2:(Xk (srt [x])).length=1:=by simp[srt,z5M,Xk,zeg]
  omega
 unfold lvT mx;by_cases q:(fw m k s).all List.isEmpty=true
 ·have h3:(Xk (srt (fw m k s))).length<=1:=(z1y (L:=[[]]) ((uK _).filter _).nodup λw hw=>by have:=gD.1 q w (yu.1 (qR.1 hw).1);rw[List.isEmpty_iff]at this;simp[this]).1
  rw[if_pos q];refine⟨?_,λb hb=>?_⟩
  ·rw[if_pos (by omega)];omega
  omega
 rw[if_neg q];refine⟨?_,λb hb=>Iff.rfl⟩;split <;> omega
theorem zeR (hk:k<=4):Yp m ((m.Rows.length+k:Nat):Int)=some 0:=by have:=h.len;unfold Yp;rw[bdT h.proper,show((0:Int) != 0)=false from rfl,cond_false,decide_eq_false (by omega),cond_false,zJ (by omega) (by omega),decide_eq_false (by omega),cond_false]
theorem z15 {k s:Nat}(hk:k<=3)(hs:s<=2){b:Int}(h1:1<=b)(h2:b<=4096):wD s m ((m.Rows.length+k:Nat):Int) b=some (if((Xk (srt (fw m k s))).length:Int)<=b then(Xk (srt (fw m k s)),0) else([],13)):=by
 have a1:=h.vm.in1;have a2:=h.vm.in16;have hl:=(zks h hk hs).2 b h1;unfold wD;rw[bdT (zeR h (by omega)),show((0:Int) != 0)=false from rfl,cond_false,decide_eq_false (by omega),cond_false,decide_eq_false (by omega),cond_false,bdT (z98 h hk)];dsimp only
 rw[show((0:Int) != 0)=false from rfl,cond_false,oB];rcases zbf h hk hs (most:=b) (by omega) with⟨g1,nodes,g2,g3⟩|⟨g1,g2⟩
 ·have hle:=hl.1 g1;have hw:Wq m.Inputs 4096 16 (Xk (srt (fw m k s))):=⟨(uK _).filter _,by omega,λw hw=>zbg h hk hs (yu.1 (qR.1 hw).1)⟩;rw[bdT g2];dsimp only
  rw[gU,cond_false,oB,bdT g3,bdT (z1w _ _),hw.ch ⟨a1,a2⟩ (by omega) (by omega) (by omega),show((0:Int) != 0)=false from rfl,cond_false,if_pos hle]
 rw[bdT g2];dsimp only
 rw[mE,cond_true,if_neg (λq=>by have:=hl.2 q;omega)]
theorem zna (hk:k<=3){b:Int}(h1:1<=b)(h2:b<=4096):YX m ((m.Rows.length+k:Nat):Int) b=wD 0 m ((m.Rows.length+k:Nat):Int) b/\WT m ((m.Rows.length+k:Nat):Int) b=wD 1 m ((m.Rows.length+k:Nat):Int) b/\Xh m ((m.Rows.length+k:Nat):Int) b=wD 2 m ((m.Rows.length+k:Nat):Int) b:=by unfold YX WT Xh;rw[z15 h hk (by omega) h1 h2,z15 h hk (by omega) h1 h2,z15 h hk (by omega) h1 h2];exact⟨rfl,rfl,rfl⟩
end
structure VX (a:Nat)(nodes:List ze)(wd:TA)(D:TB->Prop):Prop where
 len:nodes.length=wd.length
 nod:wd.Nodup
 nlen:∀(i:Nat) (N:ze),nodes[i]?=some N->N.Next.length=a
 nxt:∀(i:Nat) (N:ze) (x:TB),nodes[i]?=some N->wd[i]?=some x->∀s:Nat,s<a->(N.Next[s]?=some (-1)/\(x++[(s:Int)])∉wd)\/∃j:Nat,N.Next[s]?=some (j:Int)/\wd[j]?=some (x++[(s:Int)])
 root:0<wd.length->wd[0]?=some []
 clo:∀(w:TB) (s:Int),w++[s]∈wd->w∈wd/\0<=s/\s<(a:Int)
 en:∀(i:Nat) (N:ze) (x:TB),nodes[i]?=some N->wd[i]?=some x->(N.End=true↔D x)
variable {nodes:List ze}
def zaC (ha:a<=100)  (hn:nodes.length<=1000000) :
  v8 (zA.mk (a:Int) nodes)=some ((nodes.length:Int),zA.mk (a:Int) (nodes++[ze.mk (List.replicate a (-1)) false])):=by
 unfold v8;rw[gdT (by simp only;omega)];have h:=uk (step:=λs=>xj (zA.mk (a:Int) nodes) s.1 s.2) (λi=>(List.replicate i (-1:Int)++List.replicate (a - i) 0,(i:Int))) a (t:=List.replicate a (-1:Int)) (by omega) (by
  intro i hi;show xj (zA.mk (a:Int) nodes) _ (i:Int)=_;unfold xj;have hq:decide ((i:Int)<(((List.replicate (zA.mk (a:Int) nodes).inputs_.toNat (0:Int)).length:Nat):Int))=true:=by rw[decide_eq_true_eq];simpa using hi
  rw[hq];have hr:List.replicate (a - i) (0:Int)=0::List.replicate (a - (i+1)) 0:=by rw[show a - i=(a - (i+1))+1 by omega];rfl
  have hx:(List.replicate i (-1:Int)++List.replicate (a - i) 0)[i]?=some 0:=by rw[pA (by simp),hr];simp
  simp only[cond_true,zw hx,oB,ph];rw[zJ (by omega) (by omega),List.set_append_right _ _ (by simp),mc,nR,hr,nP,List.replicate_succ',pK];rfl) (by
  show xj (zA.mk (a:Int) nodes) _ (a:Int)=_;unfold xj;simp)
 have h0:(List.replicate 0 (-1:Int)++List.replicate (a - 0) 0,((0:Nat):Int))=(List.replicate (a:Int).toNat (0:Int),(0:Int)):=by simp
 rw[h0]at h;rw[bdT h];unfold uZ;dsimp only
 rw[gdT (by simp;omega),pJ,List.length_singleton,zJ (by omega) (by omega)];congr 2;omega
variable {wd:TA}{D:TB->Prop}
def VX.mem_at (h:VX a nodes wd D){i j:Nat}  (hi:wd[i]?=some x)(hj:wd[j]?=some x):i=j:=by exact(List.getElem?_inj (pf.1 hi).1 h.nod).1 (hi.trans hj.symm)
variable {N:ze}
def VX.grow (h:VX a nodes wd D){p s:Nat}   (hN:nodes[p]?=some N)(hx:wd[p]?=some x)(hs:s<a)(hnew:x++[(s:Int)]∉wd)(hD:¬D (x++[(s:Int)])) :
  VX a ((nodes++[ze.mk (List.replicate a (-1)) false]).set p (ze.mk (N.Next.set s (nodes.length:Int)) N.End)) (wd++[x++[(s:Int)]]) D:=by
 have hp:p<nodes.length:=(pf.1 hN).1;have hl:=h.len;have hxm:x∈wd:=pD hx;have newN:∀(i:Nat) (M:ze),((nodes++[ze.mk (List.replicate a (-1)) false]).set p (ze.mk (N.Next.set s (nodes.length:Int)) N.End))[i]?=some M->(i=p/\M=ze.mk (N.Next.set s (nodes.length:Int)) N.End)\/(i≠p/\i<nodes.length/\nodes[i]?=some M)\/(i=nodes.length/\M=ze.mk (List.replicate a (-1)) false):=by
  intro i M hM;by_cases hip:i=p
  ·subst hip;rw[gA (by simp;omega)]at hM;exact .inl ⟨rfl,by simpa using hM.symm⟩
  rw[pW (λe=>hip e.symm)]at hM;rcases pF i nodes.length with q|q
  ·rw[pB q]at hM;exact .inr (.inl ⟨hip,q,hM⟩)
  rw[pA q]at hM;have:i - nodes.length=0:=by have:=(pf.1 hM).1;simpa using this
  rw[this]at hM;exact .inr (.inr ⟨by omega,by simpa using hM.symm⟩)
 have newW:∀(i:Nat) (y:TB),(wd++[x++[(s:Int)]])[i]?=some y->(i<wd.length/\wd[i]?=some y)\/(i=wd.length/\y=x++[(s:Int)]):=by
  intro i y hy;rcases pF i wd.length with q|q
  ·rw[pB q]at hy;exact .inl ⟨q,hy⟩
  rw[pA q]at hy;have:i - wd.length=0:=by have:=(pf.1 hy).1;simpa using this
  rw[this]at hy;exact .inr ⟨by omega,by simpa using hy.symm⟩
 have oldW:∀(i:Nat) (y:TB),wd[i]?=some y->(wd++[x++[(s:Int)]])[i]?=some y:=by intro i y hy;rw[pB (pf.1 hy).1];exact hy
 have lastW:(wd++[x++[(s:Int)]])[wd.length]?=some (x++[(s:Int)]):=by rw[pA (pi _)];simp
 refine⟨by simp[hl],?_,?_,?_,?_,?_,?_⟩
 ·rw[pI];exact⟨h.nod,by simp,λy hy z hz=>by simp at hz;subst hz;exact λe=>hnew (e ▸ hy)⟩
 ·intro i M hM;rcases newN i M hM with⟨_,rfl⟩|⟨_,_,q⟩|⟨_,rfl⟩
  ·simpa using h.nlen p N hN
  ·exact h.nlen i M q
  simp
 ·intro i M y hM hy t ht;rcases newN i M hM with⟨rfl,rfl⟩|⟨hip,hil,q⟩|⟨rfl,rfl⟩
  ·have hyx:y=x:=by have:=oldW i x hx;rw[this]at hy;simpa using hy.symm
   subst hyx;by_cases hts:t=s
   ·subst hts;right;refine⟨nodes.length,?_,by rw[hl];exact lastW⟩;simp only;rw[gA (by rw[h.nlen i N hN];exact ht)]
   rcases h.nxt i N y hN hx t ht with⟨q1,q2⟩|⟨j,q1,q2⟩
   ·left;simp only;rw[pW (λe=>hts e.symm)];refine⟨q1,λhm=>?_⟩;rcases pg.1 hm with q|q
    ·exact q2 q
    simp at q;omega
   right;simp only;rw[pW (λe=>hts e.symm)];exact⟨j,q1,oldW _ _ q2⟩
  ·have hy':wd[i]?=some y:=by
    rcases newW i y hy with⟨_,q⟩|⟨q,_⟩
    ·exact q
    omega
   rcases h.nxt i M y q hy' t ht with⟨q1,q2⟩|⟨j,q1,q2⟩
   ·left;refine⟨q1,λhm=>?_⟩;rcases pg.1 hm with q|q
    ·exact q2 q
    simp only[pH]at q;have:=List.append_inj' q rfl;obtain⟨e1,_⟩:=this;subst e1;exact hip (h.mem_at hy' hx)
   exact .inr ⟨j,q1,oldW _ _ q2⟩
  have hy':y=x++[(s:Int)]:=by rw[hl,lastW]at hy;simpa using hy.symm
  subst hy';left;refine⟨by rw[gN,if_pos ht],λhm=>?_⟩;rcases pg.1 hm with q|q
  ·exact hnew (h.clo _ _ q).1
  simp only[pH]at q;have:=congrArg List.length q;simp at this
 ·intro _;have h0:0<wd.length:=by omega
  exact oldW 0 [] (h.root h0)
 ·intro w t hw;rcases pg.1 hw with q|q
  ·have:=h.clo w t q;exact⟨by simp[this.1],this.2⟩
  simp only[pH]at q;obtain⟨e1,e2⟩:=List.append_inj' q rfl;subst e1;simp at e2;subst e2;exact⟨by simp[hxm],by omega,by omega⟩
 intro i M y hM hy;rcases newN i M hM with⟨rfl,rfl⟩|⟨hip,hil,q⟩|⟨rfl,rfl⟩
 ·have hyx:y=x:=by have:=oldW i x hx;rw[this]at hy;simpa using hy.symm
  subst hyx;exact h.en i N y hN hx
 ·rcases newW i y hy with⟨_,q2⟩|⟨q2,_⟩
  ·exact h.en i M y q q2
  omega
 have hy':y=x++[(s:Int)]:=by rw[hl,lastW]at hy;simpa using hy.symm
 subst hy';simp[hD]
def VX.ends (h:VX a nodes wd D){p:Nat}   (hN:nodes[p]?=some N)(hx:wd[p]?=some x):VX a (nodes.set p (ze.mk N.Next true)) wd (λy=>D y\/y=x):=by
 have hp:p<nodes.length:=(pf.1 hN).1;have newN:∀(i:Nat) (M:ze),(nodes.set p (ze.mk N.Next true))[i]?=some M->(i=p/\M=ze.mk N.Next true)\/(i≠p/\nodes[i]?=some M):=by
  intro i M hM;by_cases hip:i=p
  ·subst hip;rw[gA hp]at hM;exact .inl ⟨rfl,by simpa using hM.symm⟩
  rw[pW (λe=>hip e.symm)]at hM;exact .inr ⟨hip,hM⟩
 refine⟨by simp[h.len],h.nod,?_,?_,h.root,h.clo,?_⟩
 ·intro i M hM;rcases newN i M hM with⟨_,rfl⟩|⟨_,q⟩
  ·exact h.nlen p N hN
  exact h.nlen i M q
 ·intro i M y hM hy;rcases newN i M hM with⟨rfl,rfl⟩|⟨_,q⟩
  ·exact h.nxt i N y hN hy
  exact h.nxt i M y q hy
 intro i M y hM hy;rcases newN i M hM with⟨rfl,rfl⟩|⟨hip,q⟩
 ·rw[hx]at hy;cases hy;simp
 rw[h.en i M y q hy];constructor
 ·intro q2;exact .inl q2
 rintro(q2|rfl)
 ·exact q2
 exact absurd (h.mem_at hy hx) hip
def zi2 (ha:a<=100)    (h:VX a nodes wd D)  (hw:∀c∈w,0<=c/\c<(a:Int))(hl:w.length<=1000)(hn:wd.length<=500000)(hDp:∀x,D x->x∈wd) :
  Ret (qL w (zA.mk (a:Int) nodes)) λb=>b.inputs_=(a:Int)/\∃wd',VX a b.nodes_ wd' (λy=>D y\/y=w)/\(∀x,x∈wd'↔x∈wd\/∃j,j<=w.length/\x=w.take j)/\wd'.length<=wd.length+w.length+1:=by
 have J:∀nodes0 wd0,VX a nodes0 wd0 D->0<wd0.length->wd0.length<=wd.length+1->(∀x,x∈wd0↔x∈wd\/x=[])->Ret (wn w (a:Int) nodes0) λb=>b.inputs_=(a:Int)/\∃wd',VX a b.nodes_ wd' (λy=>D y\/y=w)/\(∀x,x∈wd'↔x∈wd\/∃j,j<=w.length/\x=w.take j)/\wd'.length<=wd.length+w.length+1:=by
  intro nodes0 wd0 h0 hpos hle hmem;unfold wn;rw[zp];refine Ret.mono (zM (λq:Int×List ze×Int×Int=>∃(i p:Nat) (wd1:TA),q.1=(a:Int)/\q.2.2.1=(p:Int)/\q.2.2.2=(i:Int)/\i<=w.length/\VX a q.2.1 wd1 D/\wd1[p]?=some (w.take i)/\(∀x,x∈wd1↔x∈wd\/∃j,j<=i/\x=w.take j)/\wd1.length<=wd.length+1+i) (λq=>w.length - q.2.2.2.toNat) (R:=λt=>t.1=(a:Int)/\∃(p:Nat) (wd1:TA),t.2.2=(p:Int)/\VX a t.2.1 wd1 D/\wd1[p]?=some w/\(∀x,x∈wd1↔x∈wd\/∃j,j<=w.length/\x=w.take j)/\wd1.length<=wd.length+1+w.length) ?_ ?_ ?_) ?_
  ·refine⟨0,0,wd0,rfl,rfl,rfl,pO _,h0,by simpa using h0.root hpos,λx=>?_,by omega⟩;rw[hmem];constructor
   ·rintro(q|rfl)
    ·exact .inl q
    exact .inr ⟨0,pi _,by simp⟩
   rintro(q|⟨j,q1,q2⟩)
   ·exact .inl q
   have:j=0:=by omega
   subst this;exact .inr (by simpa using q2)
  ·show w.length - _<_;omega
  ·rintro⟨_,nodes1,_,_⟩ ⟨i,p,wd1,rfl,rfl,rfl,g1,g2,g3,g4,g5⟩;simp only at g2;show Ret (jB w (a:Int) nodes1 (p:Int) (i:Int)) _;unfold jB;rw[zD];refine⟨λhc=>?_,λhc=>?_⟩
   ·have hi:i<w.length:=by simpa using hc
    have hwi:w[i]?=some w[i]:=pe hi;obtain⟨c1,c2⟩:=hw _ (pL hi);obtain⟨s,hs⟩:∃s:Nat,w[i]=(s:Int):=⟨w[i].toNat,by omega⟩;have hsa:s<a:=by omega
    have hp:p<nodes1.length:=by rw[g2.len];exact(pf.1 g3).1
    have hN:nodes1[p]?=some nodes1[p]:=pe hp;have htk:w.take (i+1)=w.take i++[(s:Int)]:=by rw[gt,hwi,hs];rfl
    have hi2:w64 ((i:Int)+1)=((i+1:Nat):Int):=by rw[zJ (by omega) (by omega)];omega
    rw[zw hwi,oB,zw hN,oB,hs];rcases g2.nxt p _ _ hN g3 s hsa with⟨q1,q2⟩|⟨j,q1,q2⟩
    ·rw[zw q1,oB];have hb:((-1:Int) == -1)=true:=rfl;rw[hb,cond_true,zaC ha (by rw[g2.len];omega),oB];have hN2:(nodes1++[ze.mk (List.replicate a (-1)) false])[p]?=some nodes1[p]:=by rw[pB hp];exact hN
     dsimp only
     rw[zw hN2,oB,zw q1,oB,ph,ph];have hg:=g2.grow hN g3 hsa q2 (λhd=>by have:=hDp _ hd;exact q2 ((g4 _).2 (.inl this)))
     unfold wk;have hset:((nodes1++[ze.mk (List.replicate a (-1)) false]).set p (ze.mk (nodes1[p].Next.set s (nodes1.length:Int)) nodes1[p].End))[p]?=some (ze.mk (nodes1[p].Next.set s (nodes1.length:Int)) nodes1[p].End):=gA (by simp;omega);have hnx:(nodes1[p].Next.set s (nodes1.length:Int))[s]?=some (nodes1.length:Int):=gA (by rw[g2.nlen p _ hN];exact hsa);rw[zw hset,oB,zw hnx,oB,hi2,z7];refine⟨⟨i+1,nodes1.length,_,rfl,rfl,rfl,hi,hg,?_,λx=>?_,?_⟩,by simp only[ph];omega⟩
     ·rw[g2.len,htk,pA (pi _)];simp
     ·rw[pg,g4,pH,<-htk];constructor
      ·rintro((q|⟨j,r1,r2⟩)|q)
       ·exact .inl q
       ·exact .inr ⟨j,by omega,r2⟩
       exact .inr ⟨i+1,pi _,q⟩
      rintro(q|⟨j,r1,r2⟩)
      ·exact .inl (.inl q)
      rcases pF i j with q|q
      ·exact .inr (by rw[r2,show j=i+1 by omega])
      exact .inl (.inr ⟨j,q,r2⟩)
     rw[pJ,List.length_singleton];omega
    rw[zw q1,oB];have hb:((j:Int) == -1)=false:=by simp
    rw[hb,cond_false];unfold wk;rw[zw hN,oB,zw q1,oB,hi2,z7];refine⟨⟨i+1,j,wd1,rfl,rfl,rfl,hi,g2,by rw[htk];exact q2,λx=>?_,by omega⟩,by simp only[ph];omega⟩;rw[g4];constructor
    ·rintro(q|⟨j,r1,r2⟩)
     ·exact .inl q
     exact .inr ⟨j,by omega,r2⟩
    rintro(q|⟨j',r1,r2⟩)
    ·exact .inl q
    rcases pF i j' with q|q
    ·have hm:x∈wd1:=by rw[r2,show j'=i+1 by omega,htk];exact pD q2
     exact(g4 x).1 hm
    exact .inr ⟨j',q,r2⟩
   have hi:i=w.length:=by
    have:¬i<w.length:=by simpa using hc
    omega
   rw[z7];subst hi;exact⟨rfl,p,wd1,rfl,g2,by rw[g3,gL],g4,by omega⟩
  rintro⟨_,nodes1,_⟩ ⟨rfl,p,wd1,rfl,g1,g2,g3,g4⟩;simp only at g1;show Ret (vC (a:Int) nodes1 (p:Int)) _;unfold vC;have hp:p<nodes1.length:=by rw[g1.len];exact(pf.1 g2).1
  have hN:nodes1[p]?=some nodes1[p]:=pe hp;rw[zw hN,oB,z7];refine⟨rfl,wd1,g1.ends hN g2,g3,by omega⟩
 unfold qL;by_cases he:nodes.length=0
 ·have hb:((((zA.mk (a:Int) nodes).nodes_.length:Nat):Int)==0)=true:=by show((nodes.length:Int)==0)=true;rw[he];rfl
  rw[hb,cond_true,zaC ha (by omega),oB];have hnil:nodes=[]:=gR he;have hwn:wd=[]:=gR (by rw[<-h.len];exact he);refine J _ [[]] ?_ (by simp) (by simp) (λx=>by simp[hwn]);subst hnil hwn;refine⟨rfl,by simp,?_,?_,λ_=>rfl,?_,?_⟩
  ·intro i N hN;have:i=0:=by have:=(pf.1 hN).1;simp at this;exact this
   subst this;simp at hN;subst hN;simp
  ·intro i N x hN hx s hs;have:i=0:=by have:=(pf.1 hN).1;simp at this;exact this
   subst this;simp at hN hx;subst hN hx;left;exact⟨by simp only;rw[gN,if_pos hs],by simp⟩
  ·intro v s hv;simp at hv
  intro i N x hN hx;have:i=0:=by have:=(pf.1 hN).1;simp at this;exact this
  subst this;simp at hN hx;subst hN hx;simp only[hZ,false_iff];intro hd;have:=hDp _ hd;simp at this
 have hb:((((zA.mk (a:Int) nodes).nodes_.length:Nat):Int)==0)=false:=by show((nodes.length:Int)==0)=false;rw[beq_eq_false_iff_ne];omega
 rw[hb,cond_false];have hpos:0<wd.length:=by rw[<-h.len];omega
 exact J nodes wd h hpos (by omega) λx=>⟨λq=>.inl q,λq=>by
  rcases q with q|rfl
  ·exact q
  exact pD (h.root hpos)⟩
def zh9 (hl:chE (a:Int) l=0):Ret (z0S l (a:Int)) λb=>b.inputs_=(a:Int)/\∃wd,VX a b.nodes_ wd (λy=>y∈l)/\(∀x,x∈wd↔∃w∈l,∃j,j<=w.length/\x=w.take j)/\wd.length<=qn l+l.length:=by
 obtain⟨q1,q2,q3,q4,q5,q6⟩:=jU hl;unfold z0S;rw[zp];refine Ret.mono (zM (λq:Int×List ze×Int=>∃(i:Nat) (wd:TA),q.1=(a:Int)/\q.2.2=(i:Int)/\i<=l.length/\VX a q.2.1 wd (λy=>y∈l.take i)/\(∀x,x∈wd↔∃w∈l.take i,∃j,j<=w.length/\x=w.take j)/\wd.length<=qn (l.take i)+i) (λq=>l.length - q.2.2.toNat) (R:=λt=>t.1=(a:Int)/\∃wd,VX a t.2 wd (λy=>y∈l)/\(∀x,x∈wd↔∃w∈l,∃j,j<=w.length/\x=w.take j)/\wd.length<=qn l+l.length) ?_ ?_ ?_) ?_
 ·refine⟨0,[],rfl,rfl,pO _,⟨rfl,rB,by simp,by simp,by simp,by simp,by simp⟩,by simp,by simp⟩
 ·show l.length - _<_;omega
 ·rintro⟨_,nodes,_⟩ ⟨i,wd,rfl,rfl,g1,g2,g3,g4⟩;simp only at g2;show Ret (Jw l (a:Int) nodes (i:Int)) _;unfold Jw;rw[zD];refine⟨λhc=>?_,λhc=>?_⟩
  ·have hi:i<l.length:=by simpa using hc
   have hx:l[i]?=some l[i]:=pe hi;have hsy:qn (l.take i)<=qn l:=z7A (List.take_sublist _ _);rw[zw hx,oB,zp];refine(zi2 (by omega) g2 (q6 _ (pL hi)) (by have:=q2 _ (pL hi);omega) (by omega) (λx hxx=>(g3 x).2 ⟨x,hxx,x.length,pi _,by simp⟩)).mono ?_;rintro b ⟨e1,wd',t1,t2,t3⟩;have htk:l.take (i+1)=l.take i++[l[i]]:=by rw[gt,hx];rfl
   rw[zJ (by omega) (by omega),z7];refine⟨⟨i+1,wd',e1,rfl,hi,?_,λx=>?_,?_⟩,by simp only;omega⟩
   ·have:(λy=>y∈l.take (i+1))=λy=>y∈l.take i\/y=l[i]:=by funext y;rw[htk,pg,pH]
    simp only;rw[this];exact t1
   ·rw[t2,g3,htk];constructor
    ·rintro(⟨w,r1,r2⟩|r)
     ·exact⟨w,pg.2 (.inl r1),r2⟩
     exact⟨l[i],pg.2 (.inr (pH.2 rfl)),r⟩
    rintro⟨w,r1,r2⟩;rcases pg.1 r1 with q|q
    ·exact .inl ⟨w,q,r2⟩
    simp at q;subst q;exact .inr r2
   have:qn (l.take (i+1))=qn (l.take i)+l[i].length:=by rw[htk,Jx];simp[qn]
   omega
  have hi:i=l.length:=by
   have:¬i<l.length:=by simpa using hc
   omega
  rw[z7];subst hi;rw[gL]at g2 g3 g4;exact⟨rfl,wd,g2,g3,g4⟩
 rintro⟨x,nodes⟩ ⟨rfl,wd,g1,g2,g3⟩;show Ret (Vh (a:Int) nodes) _;unfold Vh;rw[z7];exact⟨rfl,wd,g1,g2,g3⟩
section
variable {σ:Type}(yy:σ->zf->Option (σ×Bool))
def Um:List zf->σ->Option (σ×Bool)
 | [],sg=>some (sg,true)
 | p::ps,sg=>Option.bind (yy sg p) λr=>if r.2=true then Um ps r.1 else some (r.1,false)
theorem z0u:∀(l m:List zf) (sg:σ),Um yy (l++m) sg=Option.bind (Um yy l sg) λr=>if r.2=true then Um yy m r.1 else some (r.1,false)
 | [],m,sg=>by simp[Um]
 | p::l,m,sg=>by
  simp only[gK,Um];cases yy sg p with
  | none=>rfl
  | some r=>
   simp only[oB];by_cases h:r.2=true
   ·simp only[h,if_true];exact z0u l m r.1
   simp[h]
def z4Z (w:TB):TB->Nat->List zf
 | [],_=>[]
 | k::nx,s=>(if k=-1 then [] else [zf.mk k (w++[(s:Int)])])++z4Z w nx (s+1)
theorem z4D (w:TB):∀(nx:TB) (s:Nat),(z4Z w nx s).length<=nx.length
 | [],_=>pi _
 | k::nx,s=>by have:=z4D w nx (s+1);simp only[z4Z,pJ,pZ];split <;> simp <;> omega
theorem z29 (w:TB)(k:Int):∀(nx:TB) (s:Nat),z4Z w (nx++[k]) s=z4Z w nx s++(if k=-1 then [] else [zf.mk k (w++[((s+nx.length:Nat):Int)])])
 | [],s=>by simp[z4Z]
 | k' :: nx,s=>by simp only[gK,z4Z,z29 w k nx (s+1),pK,pZ];rw[show s+1+nx.length=s+(nx.length+1) by omega]
theorem zb0 {p:zf}{yr:σ×Bool}  (hN:N.Next.length<=1000)(hw:p.w_.length<=100000){nx:List zf}(hn:nx.length<=1000000000) :
  loop (λs=>xX p yr N s.1 s.2) (nx,0)=some (yr.1,nx++z4Z p.w_ N.Next 0):=by
 have h:=uk (step:=λs=>xX p yr N s.1 s.2) (λi=>(nx++z4Z p.w_ (N.Next.take i) 0,(i:Int))) N.Next.length (t:=(yr.1,nx++z4Z p.w_ N.Next 0)) (by omega) (by
  intro i hi;show xX p yr N _ (i:Int)=_;unfold xX;have hq:decide ((i:Int)<(N.Next.length:Int))=true:=by simpa using hi
  have hx:N.Next[i]?=some N.Next[i]:=pe hi;have hl:=z4D p.w_ (N.Next.take i) 0;rw[pP]at hl;have htk:N.Next.take (i+1)=N.Next.take i++[N.Next[i]]:=by rw[gt,hx];rfl
  rw[hq,cond_true,zw hx,oB];have hi2:w64 ((i:Int)+1)=((i+1:Nat):Int):=by rw[zJ (by omega) (by omega)];omega
  have hlt:(N.Next.take i).length=i:=by rw[pP];omega
  by_cases hk:N.Next[i]=-1
  ·have hb:(N.Next[i] != -1)=false:=by simp[hk]
   rw[hb,cond_false];unfold uX;rw[hi2,htk,z29,if_pos hk,pU]
  ·have hb:(N.Next[i] != -1)=true:=by simpa using hk
   rw[hb,cond_true,Qg,oB,gdT (by simp;omega),gdT (by rw[pJ,List.length_singleton];omega)];unfold uX;rw[hi2,htk,z29,if_neg hk,hlt,gJ,pK]) (by
  show xX p yr N _ (N.Next.length:Int)=_;unfold xX;have hq:decide ((N.Next.length:Int)<(N.Next.length:Int))=false:=by simp
  rw[hq,cond_false,gL])
 have h0:(nx++z4Z p.w_ (N.Next.take 0) 0,((0:Nat):Int))=(nx,(0:Int)):=by simp[z4Z]
 rw[h0]at h;exact h
variable {nodes:List ze}
def VD (nodes:List ze)(p:zf):List zf :=
 match nodes[p.at_.toNat]? with
 | some N=>z4Z p.w_ N.Next 0
 | none=>[]
def zfe (nodes:List ze)(p:zf):Prop:=0<=p.at_/\p.w_.length<=100000/\∃N,nodes[p.at_.toNat]?=some N/\N.Next.length<=1000
theorem z9d {lv:List zf}(hl:lv.length<=500000)(hg:∀p∈lv,zfe nodes p)(sg:σ) :
  loop (λs=>uV nodes yy lv s.1 s.2.1 s.2.2) (sg,([]:List zf),0)=Option.bind (Um yy lv sg) λr=>some (if r.2=true then .inl (r.1,lv.flatMap (VD nodes)) else .inr r.1):=by
 have gen:∀(n k:Nat) (sg:σ),k<=lv.length->lv.length - k<n->QX (λs=>uV nodes yy lv s.1 s.2.1 s.2.2) n (sg,(lv.take k).flatMap (VD nodes),(k:Int))=Option.bind (Um yy (lv.drop k) sg) λr=>some (if r.2=true then .inl (r.1,lv.flatMap (VD nodes)) else .inr r.1):=by
  intro n;induction n with
  | zero=>intro k _ _ h;omega
  | succ n ih=>
   intro k sg hk hn;rw[qV];dsimp only
   rw[uV.eq_1 nodes yy lv sg ((lv.take k).flatMap (VD nodes)) (k:Int)];rcases pF k lv.length with hlt|hge
   ·have hx:lv[k]?=some lv[k]:=pe hlt;have hq:decide ((k:Int)<(lv.length:Int))=true:=by simpa using hlt
    rw[hq,cond_true,zw hx,oB,mI hlt];simp only[Um];cases hy:yy sg lv[k] with
    | none=>rfl
    | some r=>
     simp only[oB];by_cases hr:r.2=true
     ·obtain⟨p1,p2,N,p3,p4⟩:=hg _ (pL hlt);have hidx:idx nodes lv[k].at_=some N:=by rw[show lv[k].at_=((lv[k].at_.toNat:Nat):Int) by omega];exact p3
      have hnl:((lv.take k).flatMap (VD nodes)).length<=1000000000:=by
       have:∀m:List zf,(∀p∈m,zfe nodes p)->(m.flatMap (VD nodes)).length<=m.length*1000:=by
        intro m;induction m with
        | nil=>intro _;simp
        | cons p m ih2=>
         intro hm;obtain⟨_,_,M,m3,m4⟩:=hm p (by simp);have h1:(VD nodes p).length<=1000:=by unfold VD;rw[m3];exact pC (z4D _ _ _) m4
         have h2:=ih2 λq hq=>hm q (by simp[hq]);rw[mU,pJ,pZ];omega
       have h1:=this (lv.take k) λp hp=>hg p (gG hp);rw[pP]at h1;omega
      have hnp:VD nodes lv[k]=z4Z lv[k].w_ N.Next 0:=by unfold VD;rw[p3]
      have htk:(lv.take (k+1)).flatMap (VD nodes)=(lv.take k).flatMap (VD nodes)++z4Z lv[k].w_ N.Next 0:=by rw[gt,hx,List.flatMap_append];simp[hnp]
      rw[hr,gU,cond_false,hidx,oB,bdT (zb0 p4 p2 hnl)];unfold Xp;rw[zJ (by omega) (by omega)];dsimp only
      rw[<-htk];rw[show(k:Int)+1=((k+1:Nat):Int) by omega,ih (k+1) r.1 hlt (by omega)];simp
     have hb:r.2=false:=by simpa using hr
     simp[hb]
   have hk2:k=lv.length:=by omega
   subst hk2;have hq:decide ((lv.length:Int)<(lv.length:Int))=false:=by simp
   rw[hq,cond_false,List.drop_length,gL];simp[Um]
 have h:=gen VL 0 sg (pO _) (by show lv.length - 0<18446744073709551616;omega);have h0:(sg,(lv.take 0).flatMap (VD nodes),((0:Nat):Int))=(sg,([]:List zf),(0:Int)):=by simp
 rw[h0,List.drop_zero]at h;exact h
def zhs (nodes:List ze):Nat->List zf->List zf
 | 0,_=>[]
 | m+1,lv=>lv++zhs nodes m (lv.flatMap (VD nodes))
def itL (nodes:List ze):Nat->List zf->List zf
 | 0,lv=>lv
 | m+1,lv=>itL nodes m (lv.flatMap (VD nodes))
theorem z54:∀(m n:Nat) (lv:List zf) (sg:σ),m<n->itL nodes m lv=[]->(∀j,j<m->(itL nodes j lv).length<=500000/\∀p∈itL nodes j lv,zfe nodes p) ->
  QX (λs=>uW nodes yy s.1 s.2) n (sg,lv)=Option.bind (Um yy (zhs nodes m lv) sg) λr=>some r.1
 | m,0,lv,sg,h,_,_=>by omega
 | 0,n+1,lv,sg,_,h0,_=>by have:lv=[]:=h0;subst this;rw[qV];rfl
 | m+1,n+1,lv,sg,hmn,h0,hg=>by
  rw[qV];dsimp only
  rw[uW.eq_1 nodes yy sg lv];have g:=hg 0 (by omega);have g1:lv.length<=500000:=g.1;have g2:∀p∈lv,zfe nodes p:=g.2;by_cases he:lv=[]
  ·subst he;have hlv:∀m,zhs nodes m []=[]:=by
    intro m;induction m with
    | zero=>rfl
    | succ m ih=>simp[zhs,ih]
   rw[hlv];rfl
  have hpos:0<lv.length:=mM.2 he;have hq:decide (((lv.length:Nat):Int) > 0)=true:=by rw[decide_eq_true_eq];omega
  rw[hq,cond_true,z9d yy g1 g2];simp only[zhs];rw[z0u];cases hf:Um yy lv sg with
  | none=>rfl
  | some r=>
   simp only[oB];by_cases hr:r.2=true
   ·simp only[hr,if_true];unfold Xq;exact z54 m n _ r.1 (by omega) h0 λj hj=>hg (j+1) (by omega)
   simp[hr]
end
def pl (wd:TA)(w:TB):zf:=⟨((wd.idxOf w:Nat):Int),w⟩
def zb1 (hn:wd.Nodup)(w:TB):∀(nx:TB) (s0:Nat),(∀t k,nx[t]?=some k->(k=-1/\w++[((s0+t:Nat):Int)]∉wd)\/∃j:Nat,k=(j:Int)/\wd[j]?=some (w++[((s0+t:Nat):Int)])) ->
  z4Z w nx s0=(((List.range' s0 nx.length).map λs:Nat=>w++[(s:Int)]).filter λx=>decide (x∈wd)).map (pl wd)
 | [],_,_=>rfl
 | k::nx,s0,h=>by
  have ih:=zb1 hn w nx (s0+1) λt k' hk=>by have:=h (t+1) k' (by simpa using hk);rwa[show s0+(t+1)=s0+1+t by omega]at this
  simp only[z4Z,ih,pZ,List.range'_succ,gB,List.filter_cons];rcases h 0 k rfl with⟨h1,h2⟩|⟨j,h1,h2⟩
  ·rw[mC]at h2;simp[h1,h2]
  rw[mC]at h2;have hm:=pD h2;have hk:¬k=-1:=by omega
  simp only[hk,if_false,hm,decide_true,if_true,gB,List.singleton_append];congr 1;unfold pl;rw[z8m hn h2,h1]
section
variable {a:Nat}{nodes:List ze}{wd:TA}{D:TB->Prop}(h:VX a nodes wd D)(ha:a<=1000)
include h
theorem zhg (hw:w∈wd):VD nodes (pl wd w)=((z0a a w).filter λx=>decide (x∈wd)).map (pl wd):=by
 have hi:=z3G hw;have hlt:wd.idxOf w<nodes.length:=by rw[h.len];exact(pf.1 hi).1
 have hN:nodes[wd.idxOf w]?=some nodes[wd.idxOf w]:=pe hlt;have hl:=h.nlen _ _ hN;unfold VD;have:(pl wd w).at_.toNat=wd.idxOf w:=by simp[pl]
 rw[this,hN];show z4Z w nodes[wd.idxOf w].Next 0=_;rw[zb1 h.nod w nodes[wd.idxOf w].Next 0,hl]
 ·unfold z0a;rw[List.range_eq_range']
 intro t k hk;have ht:t<a:=by have:=(pf.1 hk).1;omega
 rw[gJ];rcases h.nxt _ _ _ hN hi t ht with⟨q1,q2⟩|⟨j,q1,q2⟩
 ·rw[hk]at q1;exact .inl ⟨by simpa using q1,q2⟩
 rw[hk]at q1;exact .inr ⟨j,by simpa using q1,q2⟩
theorem z3o (k:Nat):((LW wd k).map (pl wd)).flatMap (VD nodes)=(LW wd (k+1)).map (pl wd):=by
 have e:∀l:TA,(∀w∈l,w∈wd)->(l.map (pl wd)).flatMap (VD nodes)=((l.flatMap (z0a a)).filter λx=>decide (x∈wd)).map (pl wd):=by
  intro l;induction l with
  | nil=>intro _;rfl
  | cons w l ih=>intro hl;rw[gB,mU,ih λv hv=>hl v (by simp[hv]),zhg h (hl w (by simp)),mU,List.filter_append,gY]
 rw[e _ λw hw=>(jA.1 hw).1];congr 1;refine SW.unique ((z4F a k (z6s wd k) λw hw=>(jA.1 hw).2).filter _) (z6s _ _) λx=>?_;rw[gS,mA,jA,decide_eq_true_eq];constructor
 ·rintro⟨⟨w,q1,q2⟩,q3⟩;simp only[z0a,pX]at q2;obtain⟨s,_,rfl⟩:=q2;exact⟨q3,by simp[(jA.1 q1).2]⟩
 rintro⟨q1,q2⟩;rcases nV x with rfl|⟨w,s,rfl⟩
 ·simp at q2
 rw[List.concat_eq_append]at q1 q2 ⊢;obtain⟨c1,c2,c3⟩:=h.clo w s q1;refine⟨⟨w,jA.2 ⟨c1,by simpa using q2⟩,?_⟩,q1⟩;simp only[z0a,pX,gO];exact⟨s.toNat,by omega,by rw[mS c2]⟩
theorem z4E:∀(j k:Nat),itL nodes j ((LW wd k).map (pl wd))=(LW wd (k+j)).map (pl wd)
 | 0,k=>rfl
 | j+1,k=>by rw[itL,z3o h,z4E j (k+1),show k+1+j=k+(j+1) by omega]
def zce (wd:TA):Nat->Nat->TA
 | _,0=>[]
 | k,m+1=>LW wd k++zce wd (k+1) m
theorem zaU:∀(m k:Nat),zhs nodes m ((LW wd k).map (pl wd))=(zce wd k m).map (pl wd)
 | 0,k=>rfl
 | m+1,k=>by rw[zhs,z3o h,zaU m (k+1),zce,gY]
omit h in
theorem z4y:∀(m k:Nat) (x:TB),x∈zce wd k m↔x∈wd/\k<=x.length/\x.length<k+m
 | 0,k,x=>by simp[zce]
 | m+1,k,x=>by
  rw[zce,pg,jA,z4y m (k+1) x];constructor
  ·rintro(⟨q1,q2⟩|⟨q1,q2,q3⟩)
   ·exact⟨q1,by omega,by omega⟩
   exact⟨q1,by omega,by omega⟩
  rintro⟨q1,q2,q3⟩;rcases pF k x.length with q|q
  ·exact .inr ⟨q1,by omega,by omega⟩
  exact .inl ⟨q1,by omega⟩
omit h in
theorem zbF:∀(m k:Nat),SW (zce wd k m)
 | 0,k=>by simp[zce,SW]
 | m+1,k=>by unfold zce SW;rw[nC];refine⟨z6s wd k,zbF m (k+1),λx hx y hy=>?_⟩;have h1:=(jA.1 hx).2;have h2:=((z4y m (k+1) y).1 hy).2.1;unfold Zt;rw[if_pos (by omega)];omega
include ha
theorem zg0 {σ:Type}(yy:σ->zf->Option (σ×Bool))(sg:σ)(hlen:wd.length<=500000)(hwl:∀w∈wd,w.length<=10000) :
  Yg nodes yy sg=Option.bind (Um yy ((srt wd).map (pl wd)) sg) λr=>some r.1:=by
 have hcat:zce wd 0 10001=srt wd:=SW.unique (zbF 10001 0) (uK wd) λx=>by rw[z4y,yu];exact⟨λq=>q.1,λq=>⟨q,pO _,by have:=hwl x q;omega⟩⟩
 have main:uY nodes yy sg ((LW wd 0).map (pl wd))=Option.bind (Um yy ((srt wd).map (pl wd)) sg) λr=>some r.1:=by
  unfold uY;have hl:=z54 yy (nodes:=nodes) 10001 VL ((LW wd 0).map (pl wd)) sg (by show 10001<18446744073709551616;omega) (by
   rw[z4E h];have:LW wd (0+10001)=[]:=by rw[List.eq_nil_iff_forall_not_mem];intro x hx;obtain⟨q1,q2⟩:=jA.1 hx;have:=hwl x q1;omega
   rw[this];rfl) (λj hj=>by
   rw[z4E h];refine⟨?_,λp hp=>?_⟩
   ·rw[gC];refine pC (mF _ _) (pC (Vn wd) hlen)
   obtain⟨w,q1,rfl⟩:=pX.1 hp;have hw:=(jA.1 q1).1;have hlt:wd.idxOf w<nodes.length:=by rw[h.len];exact(pf.1 (z3G hw)).1
   have hN:nodes[wd.idxOf w]?=some nodes[wd.idxOf w]:=pe hlt;refine⟨by simp[pl],by have:=hwl w hw;show w.length<=100000;omega,nodes[wd.idxOf w],by simp[pl],by rw[h.nlen _ _ hN];exact ha⟩)
  have hl2:loop (λs=>uW nodes yy s.1 s.2) (sg,(LW wd 0).map (pl wd))=_:=hl;rw[hl2,zaU h,hcat];cases Um yy ((srt wd).map (pl wd)) sg <;> rfl
 unfold Yg;by_cases hn:nodes=[]
 ·have hw0:wd=[]:=gR (by rw[<-h.len,hn];rfl);have hq:decide (((nodes.length:Nat):Int) > 0)=false:=by rw[hn];rfl
  rw[hq,cond_false];have hL:LW wd 0=[]:=by rw[hw0];rfl
  rw[hL]at main;exact main
 have hpos:0<nodes.length:=mM.2 hn;have hq:decide (((nodes.length:Nat):Int) > 0)=true:=by rw[decide_eq_true_eq];omega
 rw[hq,cond_true];have hr:=h.root (by rw[<-h.len];exact hpos);have hL:LW wd 0=[[]]:=SW.unique (z6s wd 0) (by simp[SW]) λx=>by
  rw[jA,pH];constructor
  ·rintro⟨_,q⟩;exact gR q
  rintro rfl;exact⟨pD hr,rfl⟩
 rw[hL]at main;have hp:[[]].map (pl wd)=[zf.mk 0 []]:=by simp[pl,z8m h.nod hr]
 rw[hp]at main;exact main
end
def zhv (hN:N.Next.length<=1000):Qn N=some (N.Next.all λc=>c == -1):=by
 unfold Qn xY wO;have hl:=wR N.Next (by omega) (step:=λs=>yT N.Next s) (λi c=>if c≠-1 then some (i:Int) else none) (by
  intro i c hc;have hi:i<N.Next.length:=(pf.1 hc).1;have hq:decide ((i:Int)<(N.Next.length:Int))=true:=by simpa using hi
  unfold yT UN;rw[hq,cond_true,zw hc,oB,oB];by_cases h:c=-1
  ·simp[h,nS]
  have hb:(c != -1)=true:=by simpa using h
  rw[hb,cond_true,if_pos h];rfl) (by unfold yT;simp)
 rw[hl];have q:=zbi (λc=>c != -1) (λi c=>if c≠-1 then some (i:Int) else none) (λi c=>by by_cases h:c=-1 <;> simp[h]) N.Next 0;have hall:(N.Next.all λc=>c == -1)=!(N.Next.any λc=>c != -1):=by rw[List.all_eq_not_any_not];rfl
 rw[hall,<-q];cases hf:yj (λi c=>if c≠-1 then some (i:Int) else none) N.Next 0 with
 | none=>rfl
 | some r=>
  obtain⟨i,x,h1,h2⟩:=uo hf;rw[gJ]at h2;split at h2
  ·cases h2;have:decide ((i:Int)>=0)=true:=by simp
   simp[oS]
  cases h2
section
variable {wd:TA}
def z0y {step:TA->zf->Option (LR TA Empty)}(P:TB->Bool):∀(ws:TA) (out:TA),(∀o w,w∈ws->o.length<=1000000->step o (pl wd w)=some (.next (if P w=true then o++[w] else o)))->out.length+ws.length<=1000000 ->
  Um (yOf step) (ws.map (pl wd)) (.next out)=some (.next (out++ws.filter P),true)
 | [],out,_,_=>by simp[Um]
 | w::ws,out,h,hl=>by
  simp only[pZ]at hl;have h1:=h out w (by simp) (by omega);simp only[gB,Um,yOf,h1,oB,if_true];rw[z0y P ws _ (λo v hv ho=>h o v (by simp[hv]) ho) (by split <;> (try simp only[pJ,List.length_singleton]) <;> omega)];by_cases hp:P w=true
  ·simp[hp]
  have:P w=false:=by simpa using hp
  simp[this]
end
section
variable {a:Nat}{nodes:List ze}{wd:TA}{D:TB->Prop}(h:VX a nodes wd D)(ha:a<=1000)(hlen:wd.length<=400000)(hwl:∀w∈wd,w.length<=10000)
include h
theorem zhf (hw:w∈wd):∃N,nodes[wd.idxOf w]?=some N/\idx nodes (pl wd w).at_=some N/\N.Next.length=a:=by
 have hlt:wd.idxOf w<nodes.length:=by rw[h.len];exact(pf.1 (z3G hw)).1
 have hN:nodes[wd.idxOf w]?=some nodes[wd.idxOf w]:=pe hlt;exact⟨_,hN,hN,h.nlen _ _ hN⟩
theorem zhw (hw:w∈wd)(hpre:∀v∈wd,∀j,v.take j∈wd)  (hN:nodes[wd.idxOf w]?=some N):(N.Next.all λc=>c == -1)=!wd.any (zeg w):=by
 rw[Bool.eq_iff_iff];simp only[gD,beq_iff_eq,nE,List.any_eq_false,z4B];have hl:=h.nlen _ _ hN;constructor
 ·intro hall v hv hext;have h1:v.take (w.length+1)∈wd:=hpre v hv _;have hlt:=hext.1;have e:v.take (w.length+1)=w++[v[w.length]]:=by rw[gt,pe hlt,hext.2];rfl
  rw[e]at h1;obtain⟨_,c2,c3⟩:=h.clo _ _ h1;obtain⟨s,hs⟩:∃s:Nat,v[w.length]=(s:Int):=⟨v[w.length].toNat,by omega⟩;rw[hs]at h1 c3;rcases h.nxt _ _ _ hN (z3G hw) s (by omega) with⟨_,q⟩|⟨j,q1,_⟩
  ·exact q h1
  have:=hall _ (pD q1);omega
 intro hno c hc;obtain⟨t,ht⟩:=gI.1 hc;have hta:t<a:=by have:=(pf.1 ht).1;omega
 rcases h.nxt _ _ _ hN (z3G hw) t hta with⟨q,_⟩|⟨j,_,q2⟩
 ·rw[ht]at q;simpa using q
 exact absurd ⟨by simp,by simp⟩ (hno _ (pD q2))
include ha hlen hwl
theorem z6n (hpre:∀v∈wd,∀j,v.take j∈wd):YV nodes ()=some ((srt wd).filter λx=>!wd.any (zeg x)):=by
 unfold YV KS;rw[oB,zg0 h ha _ _ (by omega) hwl];rw[z0y (wd:=wd) (λx=>!wd.any (zeg x)) (srt wd) [] (λo w hw ho=>by
  have hw':=yu.1 hw;obtain⟨N,n1,n2,n3⟩:=zhf h hw';unfold ur;rw[n2,oB,zhv (by omega),oB,zhw h hw' hpre n1];by_cases hp:wd.any (zeg w)=true
  ·rw[hp];rfl
  have hb:wd.any (zeg w)=false:=by simpa using hp
  have hww:=hwl w hw';rw[hb,mE,cond_true];show(Option.bind (y8 w) λr_3=>_)=_;rw[z4L w (by omega),oB,Qg,oB,gdT (by simp;omega)];rfl) (by have:=Vn wd;simp;omega)]
 simp only[oB,pN];unfold jQ;rw[zeK];rfl
end
def z99 {l wd:TA}(hm:∀x,x∈wd↔∃w∈l,∃j,j<=w.length/\x=w.take j):∀v∈wd,∀j,v.take j∈wd:=by intro v hv j;obtain⟨w,h1,i,h2,rfl⟩:=(hm v).1 hv;exact(hm _).2 ⟨w,h1,min j i,by omega,by rw[mZ]⟩
def z8W (hc:chE (a:Int) l=0):Wb l (a:Int)=some (Xk l,0):=by
 obtain⟨q1,q2,q3,q4,q5,q6⟩:=jU hc;obtain⟨b,hb,e1,wd,t1,t2,t3⟩:=zh9 hc;have hwl:∀w∈wd,w.length<=10000:=λw hw=>by obtain⟨v,h1,j,h2,rfl⟩:=(t2 w).1 hw;have:=q2 v h1;rw[pP];omega
 unfold Wb;rw[z1w,hc,oB,bne_self_eq_false,cond_false,hb,oB,z6n t1 (by omega) (by omega) hwl (z99 t2),oB];congr 2;refine SW.unique ((uK wd).filter _) (q4.sub List.filter_sublist) λx=>?_;rw[qR,gS,yu];simp only[nE,List.any_eq_false,z4B];constructor
 ·rintro⟨h1,h2⟩;obtain⟨w,w1,j,w2,rfl⟩:=(t2 x).1 h1;have hmem:∀v∈l,v∈wd:=λv hv=>(t2 v).2 ⟨v,hv,v.length,pi _,by simp⟩;have hj:j=w.length:=by
   rcases pF j w.length with q|q
   ·refine absurd ⟨?_,?_⟩ (h2 w (hmem w w1))
    ·rw[pP];omega
    rw[pP,gT w2]
   omega
  rw[hj,gL]at h2 ⊢;exact⟨w1,λv hv=>h2 v (hmem v hv)⟩
 rintro⟨h1,h2⟩;refine⟨(t2 x).2 ⟨x,h1,x.length,pi _,by simp⟩,λv hv hext=>?_⟩;obtain⟨w,w1,j,w2,rfl⟩:=(t2 v).1 hv;rw[pP]at hext;refine h2 w w1 ⟨by omega,?_⟩;have:=hext.2;rw[mZ,gT (by omega)]at this;exact this
def zhp {l:List α}{i:Nat}{x:α}(h:l[i]?=some x):i<l.length:=(pf.1 h).1
section
variable {m p:z6}{F:TC}(h:VM m)(hc:Cpl m)(hF:Zq m F)(hp:zfc m F p)
include h hc hF hp
theorem zko:VM p:=by
 have hz:=(z3x h hF).1;have hl:=hF.len;have l64:=h.len64;have hkk:kk p=kk m:=by unfold kk;rw[hp.inp]
 have hke:=h.kk_eq;refine⟨by rw[hp.inp];exact h.in1,by rw[hp.inp];exact h.in16,by rw[hp.out];exact h.out1,by rw[hp.out];exact h.out16,by rw[hp.len];omega,by rw[hp.len];omega,λr hr=>?_,λr hr x hx=>?_⟩
 ·obtain⟨k,hk⟩:=gI.1 hr;have hkl:=zhp hk;rw[hp.len]at hkl;obtain⟨row,q1,q2,_⟩:=hp.row k hkl;rw[hk]at q1;cases q1;rw[hp.inp];omega
 obtain⟨k,hk⟩:=gI.1 hr;have hkl:=zhp hk;rw[hp.len]at hkl;obtain⟨row,q1,q2,q3⟩:=hp.row k hkl;rw[hk]at q1;cases q1;obtain⟨i,hi⟩:=gI.1 hx;have hil:=zhp hi;rw[q2]at hil;obtain⟨e,e1,e2,e3⟩:=q3 i hil;rw[hi]at e1;cases e1;obtain⟨_,f2,_⟩:=hF.at hkl;have he:=h.edgeAt f2 hil;have hcc:=hc _ i f2 hil;rw[hp.len,hp.out];rcases e3 with⟨g0,n,g1,g2,_⟩|⟨g0,_⟩
 ·right;omega
 omega
omit h in
theorem zhl:Cpl p:=by
 intro s i hs hi;rw[hp.len]at hs;have hkk:kk p=kk m:=by unfold kk;rw[hp.inp]
 rw[hkk]at hi;obtain⟨_,f2,_⟩:=hF.at hs;have hcc:=hc _ i f2 hi;rcases(zn5 hp hkk hs hi).2 with⟨_,n,g,_⟩|⟨g,_⟩
 ·rw[g];exact nA n
 omega
omit h hc in
theorem zdZ:ziq p:=by
 intro s t hs ht hst;rw[hp.len]at hs ht;have hkk:kk p=kk m:=by unfold kk;rw[hp.inp]
 refine hF.uniq hs ht λw hw=>?_;rw[<-z6R hF hp w s hs hw,<-z6R hF hp w t ht hw];exact hst w (by rw[hkk];exact hw)
omit h hF hp in
theorem zdu {s t i:Nat}(hs:s<m.Rows.length)(ht:t<m.Rows.length)(hi:i<kk m)(q:SEq m s t):SEq m (E m s i).To.toNat (E m t i).To.toNat:=by
 have a:=hc s i hs hi;have b:=hc t i ht hi;intro w hw;have:=q (i::w) λj hj=>by
  rcases pm.1 hj with rfl|hj
  ·exact hi
  exact hw j hj
 simp only[rsp,jY,List.cons.injEq]at this;rw[mS a,mS b];exact this.2
theorem zaK:∀(v:TC) (k s:Nat),k<F.length->s<m.Rows.length->Wd (kk m) v->SEq m F[k]! s->∃n t:Nat,aft p (k:Int) v=(n:Int)/\n<F.length/\aft m (s:Int) v=(t:Int)/\t<m.Rows.length/\SEq m F[n]! t
 | [],k,s,hk,hs,_,q=>⟨k,s,rfl,hk,rfl,hs,q⟩
 | i::v,k,s,hk,hs,hv,q=>by
  have hkk:kk p=kk m:=by unfold kk;rw[hp.inp]
  have hi:=hv i (by simp);obtain⟨_,f2,_⟩:=hF.at hk;have hcs:=hc s i hs hi;have hes:=h.edgeAt hs hi;rcases(zn5 hp hkk hk hi).2 with⟨g0,n,g1,g2,g3⟩|⟨g,_⟩
  ·have hstep:=zdu hc f2 hs hi q;obtain⟨n',t',r1,r2,r3,r4,r5⟩:=zaK v n (E m s i).To.toNat g2 (by omega) (λj hj=>hv j (by simp[hj])) (g3.trans hstep);refine⟨n',t',?_,r2,?_,r4,r5⟩
   ·simp only[aft,jY,g1];exact r1
   simp only[aft,jY];rw[<-mS hcs];exact r3
  have:=hc _ i f2 hi;omega
theorem zdY:zi6 p:=by
 intro t ht;rw[hp.len]at ht;have hkk:kk p=kk m:=by unfold kk;rw[hp.inp]
 have hz:=z3x h hF;obtain⟨f1,f2,_⟩:=hF.at ht;obtain⟨_,v,hv⟩:=hF.acc _ f1;obtain⟨n,u,a,b,c,_,d⟩:=zaK h hc hF hp v 0 0 hz.1 (by have:=h.len1;omega) hv.wd (by rw[hz.2];exact SEq.refl 0);have hu:u=F[t]!:=by have e:aft m 0 v=(u:Int):=c;rw[hv.aft]at e;omega
 subst hu;have hn:=hF.uniq b ht d;subst hn;exact⟨v,by rw[hkk];exact hv.wd,a⟩
end
def ed (rows:List (List z8))(s i:Nat):z8:=((rows[s]?.getD [])[i]?).getD ⟨-1,-1⟩
structure TM (n k o:Nat)(rows:List (List z8)):Prop where
 len:rows.length=n
 row:∀(s:Nat) (r:List z8),rows[s]?=some r->r.length=k
 edge:∀s i,s<n->i<k->-1<=(ed rows s i).To/\(ed rows s i).To<(n:Int)/\0<=(ed rows s i).Out/\(ed rows s i).Out<(o:Int)
section
variable {n k o:Nat}{rows:List (List z8)}
def TM.rowAt (h:TM n k o rows)  (hs:s<n):∃r,rows[s]?=some r/\r.length=k/\∀i,i<k->r[i]?=some (ed rows s i):=by
 have hsl:s<rows.length:=by rw[h.len];exact hs
 have hr:rows[s]?=some rows[s]:=pe hsl;have hl:=h.row s _ hr;refine⟨_,hr,hl,λi hi=>?_⟩;unfold ed;rw[hr,pV,pe (by omega),pV]
def TM.upd (h:TM n k o rows){s i:Nat}(hs:s<n)(hi:i<k){r:List z8}(hr:rows[s]?=some r){t:Int}(t0:-1<=t)(t1:t<(n:Int)) :
  TM n k o (rows.set s (r.set i ⟨t,(ed rows s i).Out⟩))/\∀s' i',ed (rows.set s (r.set i ⟨t,(ed rows s i).Out⟩)) s' i'=if s'=s/\i'=i then⟨t,(ed rows s i).Out⟩ else ed rows s' i':=by
 have hsl:s<rows.length:=by rw[h.len];exact hs
 have hrl:=h.row s r hr;have q2:=h.edge s i hs hi;generalize (ed rows s i).Out=oo at q2 ⊢;have key:∀s' i',ed (rows.set s (r.set i ⟨t,oo⟩)) s' i'=if s'=s/\i'=i then⟨t,oo⟩ else ed rows s' i':=by
  intro s' i';by_cases e:s'=s
  ·subst e
   conv=>lhs;unfold ed
   rw[gA hsl,pV];by_cases e2:i'=i
   ·subst e2;rw[gA (by omega),if_pos ⟨rfl,rfl⟩,pV]
   rw[pW (λq=>e2 q.symm),if_neg (λq=>e2 q.2)];unfold ed;rw[hr,pV]
  conv=>lhs;unfold ed
  rw[pW (λq=>e q.symm),if_neg (λq=>e q.1)];rfl
 refine⟨⟨by rw[rS];exact h.len,λs' r' hr'=>?_,λs' i' hs' hi'=>?_⟩,key⟩
 ·rw[rz]at hr';split at hr'
  ·cases hr';rw[rS];exact hrl
  exact h.row s' r' hr'
 rw[key];have q:=h.edge s' i' hs' hi';split
 ·rename_i e;exact⟨t0,t1,q2.2.2.1,q2.2.2.2⟩
 exact q
def TM.idx2 (h:TM n k o rows){s i:Nat}(hs:s<n)(hi:i<k):∃r,rows[s]?=some r/\r.length=k/\r[i]?=some (ed rows s i):=by obtain⟨r,h1,h2,h3⟩:=h.rowAt hs;exact⟨r,h1,h2,h3 i hi⟩
end
def z3n (l:TB)(hl:∀v∈l,0<=v/\v<=65535){q:Int}(hq:0<=q):Ret (Ys l q) λv=>0<=v/\v<=65535:=by unfold Ys;rw[zD];refine⟨λhc=>?_,λ_=>z7.2 (by omega)⟩;have hc:q<((l.length:Nat):Int):=of_decide_eq_true hc;have hx:l[q.toNat]?=some l[q.toNat]:=pe (by omega);rw[zp,z6S];have:=hl _ (pD hx);exact⟨hq,_,hx,z7.2 (by rw[zJ (by omega) (by omega)];exact this)⟩
structure zlG (x:yk):Prop where
 s0:0<=x.States
 i0:0<=x.Inputs
 o0:0<=x.Outputs
 t0:∀v∈x.Tree,0<=v/\v<=255
 e0:∀v∈x.Edges,0<=v/\v<=65535
variable {rows:List (List z8)}
section
variable {x:yk}(h:zlG x){n k o:Nat}(hn:w64 (1+w64 (Int.tmod x.States 6))=(n:Int))(hk:w64 (1+w64 (Int.tmod x.Inputs 3))=(k:Int))(ho:w64 (1+w64 (Int.tmod x.Outputs 3))=(o:Int))
 (n1:1<=n/\n<=6) (k1:1<=k/\k<=3) (o1:1<=o/\o<=3)
include h hn hk ho n1 k1 o1
theorem zdE (hs:s<n):Ret (loop (λst=>Ya x (s:Int) st.1 st.2) (([]:List z8),0)) λr=>r.length=k/\∀e∈r,e.To=-1/\0<=e.Out/\e.Out<(o:Int):=by
 refine zM (λst=>∃i:Nat,st.2=(i:Int)/\i<=k/\st.1.length=i/\∀e∈st.1,e.To=-1/\0<=e.Out/\e.Out<(o:Int)) (λst=>10 - st.2.toNat) ⟨0,rfl,by omega,rfl,by simp⟩ (by show 10 - _<_;omega) ?_;rintro⟨row,_⟩ ⟨i,rfl,h1,h2,h3⟩;simp only at h2 h3;show Ret (Ya x (s:Int) row (i:Int)) _;unfold Ya;rw[hk,hn,ho,zD];have hsk:s*k<=5*3:=mV (by omega) (by omega);have w1:w64 ((s:Int)*(k:Int))=((s*k:Nat):Int):=by rw[zJ (by rw[<-mW];omega) (by rw[<-mW];omega)];exact(mW s k).symm
 refine⟨λhc=>?_,λhc=>z7.2 ⟨by have:=of_decide_eq_false hc;omega,h3⟩⟩;have hc:(i:Int)<(k:Int):=of_decide_eq_true hc;rw[w1,zJ (x:=((s*k:Nat):Int)+(i:Int)) (by omega) (by omega),zp];refine(z3n x.Edges h.e0 (q:=((s*k:Nat):Int)+(i:Int)) (by omega)).mono λv hv=>?_;have d0:0<=Int.tdiv v n/\Int.tdiv v n<=v:=by rw[Int.tdiv_eq_ediv_of_nonneg hv.1];exact⟨Int.ediv_nonneg hv.1 (by omega),Int.ediv_le_self _ hv.1⟩
 rw[gdT (by omega),gdT (by omega),gdT (by simp;omega),z7,zJ (x:=Int.tdiv v n) (by omega) (by omega),zJ (x:=(i:Int)+1) (by omega) (by omega)];refine⟨⟨i+1,rfl,by omega,by simp[h2],λe he=>?_⟩,by simp only;omega⟩;rcases pg.1 he with q|q
 ·exact h3 e q
 simp only[pm,pY,or_false]at q;subst q;exact⟨rfl,rT _ d0.1,rW _ (by omega)⟩
theorem zaa:Ret (loop (λst=>Yb x st.1 st.2) (([]:List (List z8)),0)) λrows=>TM n k o rows/\∀s i,s<n->i<k->(ed rows s i).To=-1:=by
 refine zM (λst=>∃s:Nat,st.2=(s:Int)/\s<=n/\st.1.length=s/\∀r∈st.1,r.length=k/\∀e∈r,e.To=-1/\0<=e.Out/\e.Out<(o:Int)) (λst=>10 - st.2.toNat) ⟨0,rfl,by omega,rfl,by simp⟩ (by show 10 - _<_;omega) ?_;rintro⟨rows,_⟩ ⟨s,rfl,h1,h2,h3⟩;simp only at h2 h3;show Ret (Yb x rows (s:Int)) _;unfold Yb;rw[hn,zD];refine⟨λhc=>?_,λhc=>?_⟩
 ·have hc:(s:Int)<(n:Int):=of_decide_eq_true hc;rw[zp];refine(zdE h hn hk ho n1 k1 o1 (s:=s) (by omega)).mono λr hr=>?_;unfold WD WE;rw[gdT (by simp;omega),z7,zJ (x:=(s:Int)+1) (by omega) (by omega)];refine⟨⟨s+1,rfl,by omega,by simp[h2],λr' hr'=>?_⟩,by simp only;omega⟩;rcases pg.1 hr' with q|q
  ·exact h3 r' q
  simp only[pm,pY,or_false]at q;subst q;exact hr
 have hsn:s=n:=by have:=of_decide_eq_false hc;omega
 have all:∀s i,s<n->i<k->(ed rows s i).To=-1/\0<=(ed rows s i).Out/\(ed rows s i).Out<(o:Int):=by intro t i ht hi;have hr:rows[t]?=some rows[t]:=pe (by omega);obtain⟨g1,g2⟩:=h3 _ (pL (by omega:t<rows.length));have hx:(rows[t])[i]?=some (rows[t])[i]:=pe (by omega);unfold ed;rw[hr,pV,hx,pV];exact g2 _ (pL _)
 refine z7.2 ⟨⟨by omega,λt r hr=>(h3 r (pD hr)).1,λt i ht hi=>?_⟩,λt i ht hi=>(all t i ht hi).1⟩;obtain⟨a,b,c⟩:=all t i ht hi;omega
omit h hn hk ho n1 k1 o1 in
theorem z9T:∀a:Nat,a<=100->w64 (a:Int)=(a:Int):=λa ha=>zJ (by omega) (by omega)
omit h hn hk ho n1 o1 in
theorem zfM {c s:Nat}(hc:c<s*k):c / k<s/\c % k<k/\Int.tdiv (c:Int) (k:Int)=((c / k:Nat):Int)/\Int.tmod (c:Int) (k:Int)=((c % k:Nat):Int) :=
 ⟨Nat.div_lt_of_lt_mul (by rw[rG];exact hc),Nat.mod_lt _ (by omega),by rw[Int.tdiv_eq_ediv_of_nonneg (by omega)];rfl,by rw[Int.tmod_eq_emod_of_nonneg (by omega)];rfl⟩
omit h hn ho o1 in
theorem zew (hT:TM n k o rows){s:Nat}(s1:1<=s)(sn:s<n)(hfree:∀i,i<k->(ed rows (s - 1) i).To=-1) :
  Ret (loop (λst=>Yc x rows (s:Int) st.1 st.2) (([]:TB),0)) λfr=>fr≠[]/\fr.length<=100/\∀c∈fr,∃q:Nat,c=(q:Int)/\q<s*k/\(ed rows (q / k) (q % k)).To<0:=by
 have hsk:s*k<=5*3:=mV (by omega) (by omega);refine zM (λst=>∃q:Nat,st.2=(q:Int)/\q<=s*k/\st.1.length<=q/\((s - 1)*k<q->st.1≠[])/\∀c∈st.1,∃q:Nat,c=(q:Int)/\q<s*k/\(ed rows (q / k) (q % k)).To<0) (λst=>20 - st.2.toNat) ⟨0,rfl,by omega,by simp,by omega,by simp⟩ (by show 20 - _<_;omega) ?_;rintro⟨fr,_⟩ ⟨q,rfl,h1,h2,h3,h4⟩;simp only at h2 h3 h4;show Ret (Yc x rows (s:Int) fr (q:Int)) _;unfold Yc;have w1:w64 ((s:Int)*(k:Int))=((s*k:Nat):Int):=by rw[zJ (by rw[<-mW];omega) (by rw[<-mW];omega)];exact(mW s k).symm
 rw[hk,w1,zD];refine⟨λhc=>?_,λhc=>?_⟩
 ·have hc:((q:Nat):Int)<((s*k:Nat):Int):=of_decide_eq_true hc;have hqs:q<s*k:=by omega
  obtain⟨d1,d2,d3,d4⟩:=zfM k1 hqs;obtain⟨r,r1,r2,r3⟩:=hT.idx2 (s:=q / k) (i:=q % k) (by omega) d2;rw[gdT (by omega),d3,z9T (q / k) (by omega),bdT (zw r1),gdT (by omega),d4,bdT (zw r3),zD];have w2:w64 ((q:Int)+1)=((q+1:Nat):Int):=by rw[zJ (by omega) (by omega)];rfl
  unfold Yd;refine⟨λht=>?_,λht=>?_⟩
  ·have ht:(ed rows (q / k) (q % k)).To<0:=of_decide_eq_true ht;rw[gdT (by simp;omega),z7,w2];refine⟨⟨q+1,rfl,by omega,by simp;omega,λ_=>by simp,λc hc=>?_⟩,by simp only[ph];omega⟩;rcases pg.1 hc with g|g
   ·exact h4 c g
   simp only[pm,pY,or_false]at g;exact⟨q,g,hqs,ht⟩
  have ht:=of_decide_eq_false ht;rw[z7,w2];refine⟨⟨q+1,rfl,by omega,by simp only;omega,λhlt=>?_,h4⟩,by simp only[ph];omega⟩;by_cases e:(s - 1)*k<q
  ·exact h3 e
  exfalso;have e2:q=(s - 1)*k:=by omega
  have:q / k=s - 1:=by rw[e2];exact Nat.mul_div_cancel _ (by omega)
  have q2:=hfree (q % k) d2;rw[this,q2]at ht;omega
 have hc:=of_decide_eq_false hc;have e:(s - 1)*k<s*k:=Nat.mul_lt_mul_of_pos_right (by omega) (by omega);exact z7.2 ⟨h3 (by omega),by omega,h4⟩
structure Tree (s:Nat)(rows:List (List z8)):Prop where
 tm:TM n k o rows
 par:∀t,1<=t->t<s->∃r i,r<t/\i<k/\(ed rows r i).To=(t:Int)
 free:∀r i,s<=r+1->r<n->i<k->(ed rows r i).To=-1
omit h hn ho o1 in
theorem zh7 {rows:List (List z8)}{s:Nat}(s1:1<=s)(sn:s<n)(hT:Tree (n:=n) (k:=k) (o:=o) s rows){q:Nat}(hq:q<s*k)(hf:(ed rows (q / k) (q % k)).To<0) :
  ∃rows',uG x rows (s:Int) (q:Int)=some (.next (rows',((s+1:Nat):Int)))/\Tree (n:=n) (k:=k) (o:=o) (s+1) rows':=by
 have hsk:s*k<=5*3:=mV (by omega) (by omega);obtain⟨d1,d2,d3,d4⟩:=zfM k1 hq;obtain⟨r,r1,r2,r3⟩:=hT.tm.idx2 (s:=q / k) (i:=q % k) (by omega) d2;obtain⟨u1,u2⟩:=hT.tm.upd (s:=q / k) (i:=q % k) (by omega) d2 r1 (t:=(s:Int)) (by omega) (by omega);refine⟨_,?_,u1,λt t1 t2=>?_,λr' i g1 g2 g3=>?_⟩
 ·unfold uG VF;have w2:w64 ((s:Int)+1)=((s+1:Nat):Int):=by rw[zJ (by omega) (by omega)];rfl
  rw[hk,gdT (by omega),d3,z9T (q / k) (by omega),bdT (zw r1),gdT (by omega),d4,bdT (zw r3),w2];rfl
 ·by_cases e:t=s
  ·subst e;exact⟨q / k,q % k,d1,d2,by rw[u2,if_pos ⟨rfl,rfl⟩]⟩
  obtain⟨r',i,g1,g2,g3⟩:=hT.par t t1 (by omega);refine⟨r',i,g1,g2,?_⟩;rw[u2,if_neg,g3];rintro⟨rfl,rfl⟩;omega
 rw[u2,if_neg (by rintro⟨e,_⟩;omega)];exact hT.free r' i (by omega) g2 g3
omit ho o1 in
theorem zck (hT:TM n k o rows)(hfree:∀s i,s<n->i<k->(ed rows s i).To=-1):Ret (loop (λst=>X8 x st.1 st.2) (rows,1)) (Tree (n:=n) (k:=k) (o:=o) n):=by
 refine zM (λst=>∃s:Nat,st.2=(s:Int)/\1<=s/\s<=n/\Tree (n:=n) (k:=k) (o:=o) s st.1) (λst=>10 - st.2.toNat) ⟨1,rfl,by omega,by omega,hT,λt _ _=>by omega,λr i _=>hfree r i⟩ (by show 10 - _<_;omega) ?_;rintro⟨rows,_⟩ ⟨s,rfl,s1,sn,hS⟩;simp only at hS;show Ret (X8 x rows (s:Int)) _;unfold X8;rw[hn,zD];refine⟨λhc=>?_,λhc=>?_⟩
 ·have hc:(s:Int)<(n:Int):=of_decide_eq_true hc;have hsn:s<n:=by omega
  rw[zp];refine(zew hk n1 k1 hS.tm s1 hsn λi hi=>hS.free (s - 1) i (by omega) (by omega) hi).mono λfr hfr=>?_;obtain⟨f1,f2,f3⟩:=hfr;have flen:0<fr.length:=mM.2 f1;have fin:∀c∈fr,Ret (uG x rows (s:Int) c) (LRP (λs'=>(∃s:Nat,s'.2=(s:Int)/\1<=s/\s<=n/\Tree (n:=n) (k:=k) (o:=o) s s'.1)/\10 - s'.2.toNat<10 - (s:Int).toNat) (Tree (n:=n) (k:=k) (o:=o) n)):=by intro c hc;obtain⟨q,rfl,q1,q2⟩:=f3 c hc;obtain⟨rows',e,g⟩:=zh7 hk n1 k1 s1 hsn hS q1 q2;rw[e,z7];exact⟨⟨s+1,rfl,by omega,by omega,g⟩,by simp only[ph];omega⟩
  unfold WF;have e0:fr[0]?=some fr[0]:=pe flen;have w3:w64 ((s:Int) - 1)=((s - 1:Nat):Int):=by rw[zJ (by omega) (by omega)];omega
  rw[bdT (show idx fr 0=some fr[0] from e0),w3,zD];refine⟨λhc2=>?_,λ_=>fin _ (pL _)⟩;have hc2:((s - 1:Nat):Int)<((x.Tree.length:Nat):Int):=of_decide_eq_true hc2;have hx:x.Tree[s - 1]?=some x.Tree[s - 1]:=pe (by omega);have hv:=h.t0 _ (pL (by omega:s - 1<x.Tree.length));rw[bdT (zw hx),gdT (by omega),zJ (x:=x.Tree[s - 1]) (by omega) (by omega)];have m1:=rT (fr.length:Int) hv.1;have m2:=rW x.Tree[s - 1] (show(0:Int)<(fr.length:Int) by omega);have hy:fr[(Int.tmod x.Tree[s - 1] (fr.length:Int)).toNat]?=some fr[(Int.tmod x.Tree[s - 1] (fr.length:Int)).toNat]:=pe (by omega);rw[zp,z6S];exact⟨m1,_,hy,fin _ (pL _)⟩
 have hsn:s=n:=by have:=of_decide_eq_false hc;omega
 subst hsn;exact z7.2 hS
structure zlc (s i:Nat)(rows:List (List z8)):Prop where
 tm:TM n k o rows
 par:∀t,1<=t->t<n->∃r i,r<t/\i<k/\(ed rows r i).To=(t:Int)
 full:∀r j,r<n->j<k->r<s\/r=s/\j<i->0<=(ed rows r j).To
omit ho o1 in
theorem z7g {rows:List (List z8)}  (sn:s<n)(hF:zlc (n:=n) (k:=k) (o:=o) s 0 rows):Ret (loop (λst=>X9 x (s:Int) st.1 st.2) (rows,0)) (zlc (n:=n) (k:=k) (o:=o) (s+1) 0):=by
 have hsk:s*k<=5*3:=mV (by omega) (by omega);refine zM (λst=>∃i:Nat,st.2=(i:Int)/\i<=k/\zlc (n:=n) (k:=k) (o:=o) s i st.1) (λst=>10 - st.2.toNat) ⟨0,rfl,by omega,hF⟩ (by show 10 - _<_;omega) ?_;rintro⟨rows,_⟩ ⟨i,rfl,ik,hS⟩;simp only at hS;show Ret (X9 x (s:Int) rows (i:Int)) _;unfold X9;have w1:w64 ((s:Int)*(k:Int))=((s*k:Nat):Int):=by rw[zJ (by rw[<-mW];omega) (by rw[<-mW];omega)];exact(mW s k).symm
 rw[hk,hn,w1,zD];refine⟨λhc=>?_,λhc=>?_⟩
 ·have hc:(i:Int)<(k:Int):=of_decide_eq_true hc;have hik:i<k:=by omega
  obtain⟨r,r1,r2,r3⟩:=hS.tm.idx2 sn hik;have w2:w64 ((i:Int)+1)=((i+1:Nat):Int):=by rw[zJ (by omega) (by omega)];rfl
  rw[bdT (zw r1),bdT (zw r3),zD];unfold Xb;refine⟨λht=>?_,λht=>?_⟩
  ·have ht:(ed rows s i).To<0:=of_decide_eq_true ht;rw[bdT (zw r1),zJ (x:=((s*k:Nat):Int)+(i:Int)) (by omega) (by omega),zp];refine(z3n x.Edges h.e0 (q:=((s*k:Nat):Int)+(i:Int)) (by omega)).mono λv hv=>?_;have m1:=rT (n:Int) hv.1;have m2:=rW v (show(0:Int)<(n:Int) by omega);obtain⟨u1,u2⟩:=hS.tm.upd sn hik r1 (t:=Int.tmod v n) (by omega) m2;rw[gdT (by omega),bdT (zw r3),z7,w2];refine⟨⟨i+1,rfl,by omega,u1,λt t1 t2=>?_,λr' j g1 g2 g3=>?_⟩,by simp only[ph];omega⟩
   ·obtain⟨r',j,g1,g2,g3⟩:=hS.par t t1 t2;refine⟨r',j,g1,g2,?_⟩;show(ed (rows.set s (r.set i ⟨Int.tmod v n,(ed rows s i).Out⟩)) r' j).To=_;rw[u2,if_neg,g3];rintro⟨rfl,rfl⟩;omega
   show 0<=(ed (rows.set s (r.set i ⟨Int.tmod v n,(ed rows s i).Out⟩)) r' j).To;rw[u2];split
   ·exact m1
   rename_i e;exact hS.full r' j g1 g2 (by rcases g3 with g3|⟨rfl,g3⟩;exact .inl g3;exact .inr ⟨rfl,by have:¬j=i:=λq=>e ⟨rfl,q⟩;omega⟩)
  have ht:=of_decide_eq_false ht;rw[z7,w2];refine⟨⟨i+1,rfl,by omega,hS.tm,hS.par,λr' j g1 g2 g3=>?_⟩,by simp only[ph];omega⟩;rcases g3 with g3|⟨rfl,g3⟩
  ·exact hS.full r' j g1 g2 (.inl g3)
  by_cases e:j=i
  ·subst e;show 0<=(ed rows r' j).To;omega
  exact hS.full r' j g1 g2 (.inr ⟨rfl,by omega⟩)
 have hik:i=k:=by have:=of_decide_eq_false hc;omega
 subst hik;exact z7.2 ⟨hS.tm,hS.par,λr' j g1 g2 g3=>hS.full r' j g1 g2 (by omega)⟩
omit ho o1 in
theorem zey {rows:List (List z8)}(hT:Tree (n:=n) (k:=k) (o:=o) n rows):Ret (loop (λst=>Xa x st.1 st.2) (rows,0)) (zlc (n:=n) (k:=k) (o:=o) n 0):=by
 refine zM (λst=>∃s:Nat,st.2=(s:Int)/\s<=n/\zlc (n:=n) (k:=k) (o:=o) s 0 st.1) (λst=>10 - st.2.toNat) ⟨0,rfl,by omega,hT.tm,hT.par,λr j _ _ g=>by omega⟩ (by show 10 - _<_;omega) ?_;rintro⟨rows,_⟩ ⟨s,rfl,sn,hS⟩;simp only at hS;show Ret (Xa x rows (s:Int)) _;unfold Xa;rw[hn,zD];refine⟨λhc=>?_,λhc=>?_⟩
 ·have hc:(s:Int)<(n:Int):=of_decide_eq_true hc;rw[zp];refine(z7g h hn hk n1 k1 (s:=s) (by omega) hS).mono λr hr=>?_;unfold VG;rw[z7,zJ (x:=(s:Int)+1) (by omega) (by omega)];exact⟨⟨s+1,rfl,by omega,hr⟩,by simp only;omega⟩
 have hsn:s=n:=by have:=of_decide_eq_false hc;omega
 subst hsn;exact z7.2 hS
end
def zhb {x:yk}(h:zlG x):Ret (QF x) λm=>VM m/\m.Inputs<=3/\m.Rows.length<=6/\(∀s i,s<m.Rows.length->i<kk m->0<=(E m s i).To)/\∀t,t<m.Rows.length->Rch m t:=by
 have hn':=z6Z h.s0 (k:=6) (by omega) (by omega);have hi':=z6Z h.i0 (k:=3) (by omega) (by omega);have ho':=z6Z h.o0 (k:=3) (by omega) (by omega);obtain⟨n,hn⟩:∃n:Nat,w64 (1+w64 (Int.tmod x.States 6))=(n:Int):=⟨(w64 (1+w64 (Int.tmod x.States 6))).toNat,by omega⟩;obtain⟨k,hk⟩:∃n:Nat,w64 (1+w64 (Int.tmod x.Inputs 3))=(n:Int):=⟨(w64 (1+w64 (Int.tmod x.Inputs 3))).toNat,by omega⟩;obtain⟨o,ho⟩:∃n:Nat,w64 (1+w64 (Int.tmod x.Outputs 3))=(n:Int):=⟨(w64 (1+w64 (Int.tmod x.Outputs 3))).toNat,by omega⟩;rw[hn]at hn';rw[hk]at hi';rw[ho]at ho';have n1:1<=n/\n<=6:=by omega
 have k1:1<=k/\k<=3:=by omega
 have o1:1<=o/\o<=3:=by omega
 unfold QF VJ VI VH;rw[gdT (by decide),gdT (by decide),gdT (by decide),zp];refine(zaa h hn hk ho n1 k1 o1).mono λr0 h0=>?_;rw[zp];refine(zck h hn hk n1 k1 h0.1 h0.2).mono λr1 h1=>?_;rw[zp];refine(zey h hn hk n1 k1 h1).mono λr hF=>?_;rw[z7,hk,ho];have hlen:r.length=n:=hF.tm.len;have hkk:kk (z6.mk (k:Int) (o:Int) r)=k:=by show(k:Int).toNat=k;omega
 have hfull:∀s i,s<n->i<k->0<=(ed r s i).To:=λs i a b=>hF.full s i a b (.inl a);refine⟨⟨by show(1:Int)<=(k:Int);omega,by show(k:Int)<=16;omega,by show(1:Int)<=(o:Int);omega,by show(o:Int)<=16;omega,by show 1<=r.length;omega,by show r.length<=64;omega,λrow hr=>?_,λrow hr e he=>?_⟩,by show(k:Int)<=3;omega,by show r.length<=6;omega,λs i hs hi=>?_,?_⟩
 ·obtain⟨s,hs⟩:=gI.1 hr;have:=hF.tm.row s row hs;show((row.length:Nat):Int)=(k:Int);omega
 ·obtain⟨s,hs⟩:=gI.1 hr;have hrow:=hF.tm.row s row hs;have hsl:s<n:=by have:=(pf.1 hs).1;rw[hlen]at this;exact this
  obtain⟨i,hi⟩:=gI.1 he;have hil:i<k:=by have:=(pf.1 hi).1;omega
  have e1:ed r s i=e:=by unfold ed;rw[hs,pV,hi,pV]
  have q1:=hF.tm.edge s i hsl hil;have q2:=hfull s i hsl hil;rw[e1]at q1 q2;exact .inr ⟨q2,by show e.To<((r.length:Nat):Int);rw[hlen];exact q1.2.1,q1.2.2.1,q1.2.2.2⟩
 ·exact hfull s i (by have hs:s<r.length:=hs;omega) (by rw[hkk]at hi;exact hi)
 have gen:∀b t,t<b->t<n->Rch (z6.mk (k:Int) (o:Int) r) t:=by
  intro b;induction b with
  | zero=>intro t q;omega
  | succ b ih=>
   intro t q ht;by_cases e:t=0
   ·subst e;exact⟨[],(λi hi=>by cases hi),rfl⟩
   obtain⟨s,i,g1,g2,g3⟩:=hF.par t (by omega) ht;have e3:(E (z6.mk (k:Int) (o:Int) r) s i).To=(t:Int):=g3;have:=rch_step (m:=z6.mk (k:Int) (o:Int) r) (i:=i) (ih s (by omega) (by omega)) (by rw[hkk];exact g2) (by rw[e3];omega);rw[e3]at this;exact this
 intro t ht;exact gen (t+1) t (by omega) (by have ht:t<r.length:=ht;omega)
def zi8 {x:Yx}(h:zlG x.C):Ret (QE x) λm=>KM m/\kk m<=3:=by
 unfold QE;rw[gdT (by decide),zp];have h':zlG (yk.mk (Int.tmod x.C.States 5) x.C.Inputs x.C.Outputs x.C.Tree x.C.Edges):=⟨rT _ h.s0,h.i0,h.o0,h.t0,h.e0⟩;refine(zhb h').mono λm hm=>?_;obtain⟨h1,h2,h3,h4,h5⟩:=hm;have k1:=h1.kk_pos;have k2:=h1.kk_eq;have hG:GG (kk m) m.Rows.length<=1000000000:=by
  have e:kk m=1\/kk m=2\/kk m=3:=by omega
  have hm:GG (kk m) m.Rows.length<=GG (kk m) 8:=z4X (by omega);rcases e with e|e|e <;> rw[e]at hm ⊢ <;> exact pC hm (by decide)
 rw[zp];refine(z78 h1 hG).mono λp hp=>?_;obtain⟨F,hF,hp⟩:=hp;have hc:Cpl m:=h4;have hl:=hF.len;have hi:=hp.inp;have hv:=zko h1 hc hF hp;have hk:=hv.kk_eq;exact z7.2 ⟨⟨hv,zhl hc hF hp,zdZ hF hp,zdY h1 hc hF hp,by rw[hi];omega,by rw[hp.len];omega⟩,by omega⟩
def z5Z:JF=some true:=by kernel_rfl
def Ok5 (a:Int):Prop:=(0)<=a/\a<=255
def zok (l:TB):Prop:=∀a∈l,Ok5 a
def zn0 (a:Int):Prop:=(0)<=a/\a<=65535
def zoj (l:TB):Prop:=∀a∈l,zn0 a
def zoi (a:yk):Prop:=Ok5 a.States/\Ok5 a.Inputs/\Ok5 a.Outputs/\zok a.Tree/\zoj a.Edges
def zoh (a:Yx):Prop:=zoi a.C
variable {n:Nat}
def z1c {S T B:TA}(hn:1<=n/\n<=16)(hB:B.length<=3840)(hS:∀x∈S,x∈B/\x.length<=16/\∀c∈x,0<=c/\c<(n:Int))(hT:∀x∈T,x∈B/\x.length<=16/\∀c∈x,0<=c/\c<(n:Int))
  (hp:∀x∈S,∃y∈T,∃z,y=x++z):wG (Xk (srt S)) (Xk (srt T)) (n:Int)=some true:=by
 have mr:∀{l:TA} {x:TB},x∈Xk (srt l)->x∈l:=λq=>yu.1 (qR.1 q).1;have wq:∀l:TA,SW l->(∀x∈l,x∈S\/x∈T)->Wq (n:Int) 3840 16 l:=λl hs hx=>by have h2:∀x∈l,x∈B/\x.length<=16/\∀c∈x,0<=c/\c<(n:Int):=λx q=>(hx x q).elim (hS x) (hT x);exact⟨hs,pC (z1y hs.nodup λx q=>(h2 x q).1).1 hB,λx q=>(h2 x q).2⟩
 have hn':1<=(n:Int)/\(n:Int)<=16:=by omega
 have w1:=wq (Xk (srt S)) ((uK _).filter _) λx q=>.inl (mr q);have w2:=wq (Xk (srt T)) ((uK _).filter _) λx q=>.inr (mr q);have w3:=wq (srt (Xk (srt S)++Xk (srt T))) (uK _) λx q=>(pg.1 (yu.1 q)).elim (λr=>.inl (mr r)) λr=>.inr (mr r);have c1:=w1.ch hn' (by omega) (by omega) (by omega);have c2:=w2.ch hn' (by omega) (by omega) (by omega);have c3:=w3.ch hn' (by omega) (by omega) (by omega);have hs3:qn (srt (Xk (srt S)++Xk (srt T)))<=3840*16:=K2 w3.2.1 λw q=>(w3.2.2 w q).1;have hu:Xu (Xk (srt S)) (Xk (srt T)) (n:Int)=some (srt (Xk (srt S)++Xk (srt T)),0):=by rw[z9G,if_neg (λq=>q (Ku.2 ⟨c1,c2⟩))];unfold soR;rw[if_neg (by have:=w3.2.1;omega)]
 have he:Xk (srt (Xk (srt S)++Xk (srt T)))=Xk (srt T):=by
  refine SW.unique ((uK _).filter _) ((uK _).filter _) λx=>?_;rw[qR,yu,pg];constructor
  ·rintro⟨q|q,hno⟩
   ·obtain⟨y,y1,z,rfl⟩:=hp x (mr q);obtain⟨v,v1,v2,v3⟩:=z1J (λw hw=>by have:=(hT w hw).2.1;omega) y1;have hv:v.take x.length=x:=by have:=congrArg (List.take x.length) v3;rw[mZ,gT (by simp),List.take_append_of_le_length (pi _),gL]at this;exact this
    have hl:¬x.length<v.length:=λr=>hno v (yu.2 (pg.2 (.inr v1))) ⟨r,hv⟩;rw[mR (by omega)]at hv;exact hv ▸ v1
   exact q
  intro q;refine⟨.inr q,λv hv ⟨r1,r2⟩=>?_⟩;rcases pg.1 (yu.1 hv) with g|g
  ·obtain⟨y,y1,z,rfl⟩:=hp v (mr g);refine(qR.1 q).2 _ (yu.2 y1) ⟨by rw[pJ];omega,?_⟩;rw[List.take_append_of_le_length (by omega),r2]
  exact(qR.1 q).2 v (qR.1 g).1 ⟨r1,r2⟩
 unfold wG;rw[bdT hu];dsimp only
 rw[bdT (z8W c3),he];simp only[beq_self_eq_true,cond_true];rw[zdM _ _ (by have:=w2.2.1;omega) λx q=>by have:=(w2.2.2 x q).1;omega,decide_eq_true rfl];rfl
section
variable {m:z6}(h:KM m){k:Nat}
include h
omit h in
theorem z4p {v:TB}(hv:v∈vP (kk m) 0 (k+1)):v∈vP (kk m) 0 (k+1+1):=by have:=uO.1 hv;exact uO.2 ⟨by omega,this.2⟩
omit h in
theorem zov (hs:s<=2)  (hx:x∈fw m k s):∃y∈fw m k 0,∃z,y=x++z:=by
 have go:∀{P:Nat->Nat->Prop} {u v w:TB},u∈Ps m->v∈vP (kk m) 0 (k+1)->w∈jC (WL m P)->∃y∈fw m k 0,∃z,y=u++v++w++z:=λhu hv hw=>by obtain⟨w',q,z,rfl⟩:=z8q hw;exact⟨_,z20.2 ⟨_,hu,_,hv,_,q,rfl⟩,z,by simp⟩
 rcases(by omega:s=0\/s=1\/s=2) with rfl|rfl|rfl
 ·exact⟨x,hx,[],by simp⟩
 ·rcases z01.1 hx with⟨u,h1,v,h2,w,h3,rfl⟩|⟨u,h1,v,h2,w,h3,rfl⟩
  ·exact go (zdO h1) h2 h3
  have:=z21.1 h2;exact go (gS.1 h1).1 (uO.2 ⟨by omega,this.2⟩) h3
 obtain⟨u,h1,v,h2,w,h3,rfl⟩:=z1Z.1 hx;exact go h1 h2 h3
omit h in
theorem zg5 (hs:s<=2)  (hx:x∈fw m k s):∃y∈fw m (k+1) s,∃z,y=x++z:=by
 rcases(by omega:s=0\/s=1\/s=2) with rfl|rfl|rfl
 ·obtain⟨u,h1,v,h2,w,h3,rfl⟩:=z20.1 hx;exact⟨_,z20.2 ⟨u,h1,v,z4p h2,w,h3,rfl⟩,[],by simp⟩
 ·rcases z01.1 hx with⟨u,h1,v,h2,w,h3,rfl⟩|⟨u,h1,v,h2,w,h3,rfl⟩
  ·exact⟨_,z01.2 (.inl ⟨u,h1,v,z4p h2,w,h3,rfl⟩),[],by simp⟩
  obtain⟨q,q1,i,i1,i2,rfl⟩:=zaO.1 (gS.1 h1).1;obtain⟨w',g,z,rfl⟩:=z8q h3;have:=z21.1 h2;refine⟨_,z01.2 (.inl ⟨q,q1,i++v,uO.2 ⟨by rw[pJ];omega,λc hc=>?_⟩,_,g,rfl⟩),z,by simp⟩;exact(pg.1 hc).elim (i2 c) (this.2 c)
 obtain⟨u,h1,v,h2,w,h3,rfl⟩:=z1Z.1 hx;exact⟨_,z1Z.2 ⟨u,h1,v,z4p h2,w,h3,rfl⟩,[],by simp⟩
theorem zkI {j:Nat}{B:TA}(hB:∀u∈Ps m,∀v∈vP (kk m) 0 (j+1),∀w∈[]::WA m,u++v++w∈B)(hkj:k<=j)(hj:j<=3)  (hs:s<=2):∀x∈fw m k s,x∈B/\x.length<=16/\∀c∈x,0<=c/\c<(kk m:Int):=λx hx=>by obtain⟨u,h1,v,h2,w,h3,e⟩:=zaN hs hx;have:=uO.1 h2;have q:=zbg h (by omega) hs hx;rw[h.k4.2.2];exact⟨e ▸ hB u h1 v (uO.2 ⟨by omega,this.2⟩) w h3,q⟩
end
def zen {x:Yx}{extra:Int}(hx:zoh x)(he:Ok5 extra):Zk x extra=some true:=by
 obtain⟨m,e0,h,hk⟩:=zi8 (x:=x) ⟨hx.1.1,hx.2.1.1,hx.2.2.1.1,hx.2.2.2.1,hx.2.2.2.2⟩;have hl:=h.len;obtain⟨k,hk2,hb⟩:∃k:Nat,k<=1/\w64 (((m.Rows.length:Nat):Int)+w64 (Int.tmod extra 2))=((m.Rows.length+k:Nat):Int):=by have h1:=he.1;have e1:Int.tmod extra 2=extra % 2:=Int.tmod_eq_emod_of_nonneg h1;refine⟨(extra % 2).toNat,by omega,?_⟩;rw[e1,zJ (x:=extra % 2) (by omega) (by omega),zJ (by omega) (by omega)];omega
 have hb2:w64 (((m.Rows.length+k:Nat):Int)+1)=((m.Rows.length+(k+1):Nat):Int):=by rw[zJ (by omega) (by omega)];omega
 obtain⟨k1,k2,k3⟩:=h.k4;have bd:∀j,j<=2->∀s,s<=2->wD s m ((m.Rows.length+j:Nat):Int) 4096=some (Xk (srt (fw m j s)),0):=λj hj s hs=>by have:=zaf h (k:=j) (.inl ⟨hk,hj⟩) hs;rw[z15 h (by omega) hs (by omega) (by omega),if_pos (by omega)]
 obtain⟨w0,w1,w2⟩:=zna h (k:=k) (by omega) (b:=4096) (by omega) (by omega);obtain⟨v0,v1,v2⟩:=zna h (k:=k+1) (by omega) (b:=4096) (by omega) (by omega);obtain⟨B,b1,b2⟩:=big h (k:=k+1) (.inl ⟨hk,by omega⟩);have ib:=λ{j:Nat} (hj:j<=k+1) {s:Nat} (hs:s<=2)=>zkI h b2 hj (by omega) hs;have wt:∀s,s<=2->wG (Xk (srt (fw m k s))) (Xk (srt (fw m k 0))) m.Inputs=some true:=λs hs=>by rw[<-k3];exact z1c ⟨k1,by omega⟩ b1 (ib (by omega) hs) (ib (by omega) (by omega)) λx q=>zov hs q
 have wm:∀s,s<=2->wG (Xk (srt (fw m k s))) (Xk (srt (fw m (k+1) s))) m.Inputs=some true:=λs hs=>by rw[<-k3];exact z1c ⟨k1,by omega⟩ b1 (ib (by omega) hs) (ib (by omega) hs) λx q=>zg5 hs q
 unfold Zk;rw[bdT e0,gdT (by decide),hb,hb2,w0,w1,w2,v0,v1,v2,bdT (bd k (by omega) 0 (by omega)),bdT (bd k (by omega) 1 (by omega)),bdT (bd k (by omega) 2 (by omega)),bdT (bd (k+1) (by omega) 0 (by omega)),bdT (bd (k+1) (by omega) 1 (by omega)),bdT (bd (k+1) (by omega) 2 (by omega))];simp only[show((0:Int) != 0)=false from rfl,cond_false];rw[bdT (wt 1 (by omega)),cond_true,bdT (wt 2 (by omega)),cond_true,bdT (wm 0 (by omega)),cond_true,bdT (wm 1 (by omega)),cond_true,bdT (wm 2 (by omega)),cond_true,z5Z];rfl
def z6r (w:World):zm:=λb o=>y9 w.heap b o
variable {v:Value}
def zbE {w:World}{a:Addr}  (h:w.cell? a=some v):a.spot=none/\y9 w.heap a.block a.off=some v:=by
 unfold World.cell? at h;unfold y9;split at h
 ·rename_i c ty fr he;rw[he];split at h
  ·cases h
  rename_i hs;exact⟨by simpa using hs,h⟩
 cases h
variable {cs:TE}{S:zm}
section
variable {H:Type}{enc:TypeId×Value->H}{P:Program}{w:World}{base:Nat}{spare:Nat->Bool}{held:Bool}
def zbC {a:Addr}   (h:w.cells? base a n=some cs)(hn:0<n):a.spot=none/\cs.length=n/\z36 (z6r w) a.block a.off cs:=by
 obtain⟨_,h2,h3⟩:=World.cells?_some h;have h0:a.spot=none:=by
  have h4:=h3 0 hn;cases hc:cs[0]? with
  | none=>rw[List.getElem?_eq_none_iff]at hc;omega
  | some v=>rw[hc]at h4;have:=(zbE h4).1;simpa[Addr.add] using this
 refine⟨h0,h2,λj v hj=>?_⟩;have hlt:=(pf.1 hj).1;have h4:=h3 j (by omega);rw[hj]at h4;have q:=(zbE h4).2;unfold Addr.add at q;split at q
 ·rename_i e;subst e;exact q
 exact q
def z5G:∀{bs:List A} {cs:TE} {a:A} {c:TE},yb S bs cs->Rep S a c->yb S (bs++[a]) (cs++c)
 | [],cs,a,c,h1,h2=>by simp only[yb]at h1;subst h1;simp only[pN,yb];exact⟨c,[],by simp,h2,rfl⟩
 | x::bs,cs,a,c,h1,h2=>by simp only[yb]at h1;obtain⟨c1,c2,rfl,r1,r2⟩:=h1;simp only[gK,yb];exact⟨c1,c2++c,by simp,r1,z5G r2 h2⟩
def zee {b o:Nat}{c1 c2:TE}(h1:z36 S b o c1)(h2:z36 S b (o+c1.length) c2):z36 S b o (c1++c2):=by
 intro j v hj;rcases pF j c1.length with q|q
 ·rw[pB q]at hj;exact h1 j v hj
 rw[pA q]at hj;have:=h2 _ _ hj;rwa[show o+c1.length+(j - c1.length)=o+j by omega]at this
def z5v {t e sz:Nat}(f:α->A)(ok:α->Prop)(ht:P.underlying t=some (.slice e))(hsz:P.cellsOf e=sz)(h0:0<sz)(hf:∀a,(f a).size=sz)
    (hel:∀n cs x,DataW.trod enc P w base spare held n e cs=some x->∃a,ok a/\Rep (z6r w) (f a) cs)
    {VL:Nat} {cs:TE} {x:DataW H×List MemPlace} (h:DataW.trod enc P w base spare held VL t cs=some x):∃l:List α,(∀a∈l,ok a)/\Rep (z6r w) (.sl sz false (l.map f)) cs:=by
  rcases DataW.trod_slice ht h with⟨rfl,_⟩|⟨a,len,cap,elems,rest,n,_,rfl,_,_,hlc,_,hlen,hall,_,_⟩
  · refine⟨[],by simp,?_⟩;simp only[Rep,nG,List.length_nil];exact⟨none,0,rfl,by simp,pi _,by simp,.inl trivial⟩
  have key:∀k,k<=len->∃(l:List α) (cells:TE),l.length=k/\(∀a∈l,ok a)/\yb (z6r w) (l.map f) cells/\cells.length=k*sz/\(0<k->a.spot=none)/\z36 (z6r w) a.block a.off cells:=by
    intro k;induction k with
    | zero=>intro _;exact⟨[],[],rfl,by simp,by simp[yb],by simp,by simp,λj v h=>by simp at h⟩
    | succ k ih=>
      intro hk;obtain⟨l,cells,q1,q2,q3,q4,q5,q6⟩:=ih (by omega);have hk':=hall k (by omega);have hsome:elems[k]?=some elems[k]:=pe (by omega);rw[hsome,Option.bind_eq_some_iff,hsz]at hk';obtain⟨c,hc,htr⟩:=hk';obtain⟨y,hy,hr⟩:=hel _ _ _ htr;obtain⟨g1,g2,g3⟩:=zbC hc h0;refine⟨l++[y],cells++c,by simp[q1],?_,?_,?_,?_,?_⟩
      · intro z hz;rcases pg.1 hz with q|q
        · exact q2 z q
        simp only[pm,pY,or_false]at q;subst q;exact hy
      · rw[gY];exact z5G q3 hr
      · rw[pJ,q4,g2,rD]
      · intro _;rcases nQ k with rfl|hk0
        · simpa[Addr.add] using g1
        exact q5 hk0
      refine zee q6 ?_;rw[q4];unfold Addr.add at g3;split at g3
      · rename_i e0;rw[e0,mC];exact g3
      exact g3
  obtain⟨l,cells,q1,q2,q3,q4,q5,q6⟩:=key len (pi _);refine⟨l,q2,?_⟩;simp only[Rep,gC];refine⟨some a,cap,by rw[q1],by simp,by omega,?_,?_⟩
  · intro y hy;obtain⟨z,_,rfl⟩:=pX.1 hy;exact hf z
  rcases nQ len with rfl|hl
  · left;rw[List.length_eq_zero_iff.1 q1];rfl
  right;refine⟨a.block,a.off,cells,?_,q3,q6⟩;have:=q5 hl;obtain⟨b,o,s⟩:=a;simp only at this;subst this;rfl
def zb6 {t:Nat}{k:IntKind}{lo hi:Int}(ht:P.underlying t=some (.int k))(hlo:k.min=lo)(hhi:k.max=hi){VL:Nat}  {x:DataW H×List MemPlace}(h:DataW.trod enc P w base spare held VL t cs=some x) :
  ∃n:Int,(lo<=n/\n<=hi)/\cs=[.int k n]/\Rep (z6r w) (.atom (.int k n)) cs:=by
 obtain⟨n,rfl,_,hw⟩:=DataW.trod_int ht h;simp only[Lit.wf,pE,decide_eq_true_eq,hlo,hhi]at hw;exact⟨n,hw,rfl,by simp only[Rep];exact⟨trivial,rfl⟩⟩
def K3 {t:Nat}{fs:List Field}(ht:P.underlying t=some (.struct ⟨fs⟩)){VL:Nat}  {x:DataW H×List MemPlace}(h:DataW.trod enc P w base spare held VL t cs=some x) :
  cs.length=P.cellsOf t/\∀(i:Nat) (f:Field),fs[i]?=some f->∃n y,DataW.trod enc P w base spare held n f.type ((cs.drop f.offset).take (P.cellsOf f.type))=some y:=by
 obtain⟨xs,n,_,_,hl,hxl,hall⟩:=DataW.trod_struct ht h;refine⟨hl,λi f hf=>?_⟩;have hlt:=(pf.1 hf).1;have:=hall i f (by simpa using hf);rw[pe (by rw[hxl];simpa using hlt)]at this;exact⟨n,_,this⟩
end
def WV {a:A}{bs:List A}   (h1:Rep S a (cs.take n))(h2:yb S bs (cs.drop n)):yb S (a::bs) cs:=by simp only[yb];exact⟨cs.take n,cs.drop n,(mB n cs).symm,h1,h2⟩
section
open Go Go.ChangeShapes Go.WideShapes Go.ChangeAt Go.RowKit
def zao {P:Program}{H:Type}{enc:TypeId×Value->H}{f:Func}{s:ChangeSpec}{apart fresh handsOn again:Bool}{W W':World}{args:Array Value}{v:Value}{ds:List (DataW H)}{pa:List MemPlace}
  (hvar:s.vars=[]) (hvars2:(s.fn H (ds++[])).vars=[]) (hW:DataW.Whole enc P f.params.toList s.vars apart W args.toList ds [] (pa++[])) (hb:Below W.heap.size W W')
  (hres:∀(b:Nat) (sp:Nat->Bool) (hd:Bool),DataW.TrodAll enc P W' b sp hd f.resultTypes.toList (v.resultList f.resultTypes.size) (s.fn H (ds++[])).results [])
  (hargs:∀sp:Nat->Bool,(∀p∈pa++[],sp p.block=true)->DataW.TrodAll enc P W' 0 sp true f.params.toList args.toList (s.fn H (ds++[])).args pa)
  (hok:∀(j:Nat) (t:TypeId) (r:Value),f.resultTypes[j]?=some t->(v.resultList f.resultTypes.size)[j]?=some r->Value.okWide P W' .any 0 t r) :
  s.post enc P f apart fresh handsOn again W args v W':=by
 have hlt:∀p∈pa++[],p.block<W.heap.size:=λp hp=>by simpa using hW.lt p hp
 have hvr:∀sp:Nat->Bool,DataW.TrodVars enc P W' sp s.vars (s.fn H (ds++[])).vars []:=λsp=>by rw[hvar,hvars2];rfl
 refine⟨ds,[],pa++[],[],pa,[],hW,hres _ _ _,hargs _ (λp hp=>by simpa using hlt p hp),hvr _,World.keptBut_mono (λ_ q=>q.elim) (hb.frame λ_=>False),λ_=>?_⟩;obtain⟨_,_,_,_,_,hz,hn⟩:=hW;refine⟨hok,_,_,([]++pa)++[],⟨[]++pa,[],trodAll_append (hargs _ (λ_ _=>rfl)) (hres _ _ _),hvr _,rfl,?_,?_⟩,?_⟩
 ·intro b off hp;have hp':MemPlace.cell b off∈pa++[]:=by simpa using hp
  rw[hb.frozen (p:=⟨b,off,none⟩) (hlt _ hp')];exact hz b off hp'
 ·intro ha;simpa using hn ha
 intro p hp _;simpa using hp
end
def zdq {P:Program}  {α ρ:Type}{enc:α->List A}{encR:ρ->A}{F:α->Option ρ}{gives:List Bool}{inj:∀x y,enc x=enc y->x=y}(h:(spF k enc encR F gives inj).Ok P){x:α}{r:ρ}(hr:F x=some r):uR P k (enc x) (encR r):=by have:=h x ⟨r,hr⟩;simpa only[spF,hr] using this
variable {fs:Array Field}
section
variable {P:Program}{w:World}{r:Reach}{base t:Nat}{v:Value}
def z9z (h:∀cs,v≠.agg cs):v=v.cells.toList.headD undef:=by cases v <;> first|rfl|exact(h _ rfl).elim
def zg1 {k:IntKind}(hu:P.underlying t=some (.int k))(h:Value.okWide P w r base t v):v=v.cells.toList.headD undef:=by refine z9z λcs e=>?_;subst e;unfold Value.okWide at h;rw[hu]at h;simp only[Cell.okWide,hu,Cell.ok]at h
def z8T (hu:P.underlying t=some (.struct fs))(h:Value.okWide P w r base t v):v=.agg v.cells.toList.toArray:=by unfold Value.okWide at h;rw[hu]at h;obtain⟨cs,rfl,_⟩:=h;rfl
def zdK {k:IntKind}  {a:A}(hu:P.underlying t=some (.int k))(hr:Rep S a v.cells.toList)(h:Value.okWide P w r base t v)(ha:a.isAgg=false):wW S a v:=⟨_,hr,by cases a <;> first|exact zg1 hu h|cases ha⟩
def z6T {a:A}(hu:P.underlying t=some (.struct fs))(hr:Rep S a v.cells.toList)(h:Value.okWide P w r base t v)(ha:a.isAgg=true):wW S a v:=⟨_,hr,by cases a <;> first|exact z8T hu h|cases ha⟩
def zer {h:Array Obj}  {F:TC}(q:Has S h (.atom (.bool true)) v F):v=.bool true:=by
 rcases q with⟨q,_⟩|⟨cs,q,_,rfl⟩
 ·rw[(zu.1 q).1]
 simp only[zK,Rep]at q;obtain⟨⟨rfl,_⟩,_⟩:=q;rfl
end
open Go.Proofs
section
variable {H:Type}{enc:TypeId×Value->H}{w:World}{base:Nat}{spare:Nat->Bool}{held:Bool}
def zfP:prog.cellsOf 5=1:=by kernel_rfl
def rd5 {VL:Nat}  {x:DataW H×List MemPlace}(h:DataW.trod enc prog w base spare held VL 5 cs=some x):∃a:Int,Ok5 a/\Rep (z6r w) ((eI .u8) a) cs:=by obtain⟨n,h1,_,h2⟩:=zb6 underlying5 (lo:=0) (hi:=255) rfl rfl h;exact⟨n,h1,h2⟩
def zhO:prog.cellsOf 22=1:=by kernel_rfl
def zoT {VL:Nat}  {x:DataW H×List MemPlace}(h:DataW.trod enc prog w base spare held VL 22 cs=some x):∃a:TB,zok a/\Rep (z6r w) ((eSl 1 false (eI .u8)) a) cs:=by exact z5v (eI .u8) Ok5 underlying22 zfP (by omega) (λ_=>rfl) (λ_ _ _ q=>rd5 q) h
def zhL:prog.cellsOf 43=1:=by kernel_rfl
def zoP {VL:Nat}  {x:DataW H×List MemPlace}(h:DataW.trod enc prog w base spare held VL 43 cs=some x):∃a:Int,zn0 a/\Rep (z6r w) ((eI .u16) a) cs:=by obtain⟨n,h1,_,h2⟩:=zb6 underlying43 (lo:=0) (hi:=65535) rfl rfl h;exact⟨n,h1,h2⟩
def zhN:prog.cellsOf 23=1:=by kernel_rfl
def zoS {VL:Nat}  {x:DataW H×List MemPlace}(h:DataW.trod enc prog w base spare held VL 23 cs=some x):∃a:TB,zoj a/\Rep (z6r w) ((eSl 1 false (eI .u16)) a) cs:=by exact z5v (eI .u16) zn0 underlying23 zhL (by omega) (λ_=>rfl) (λ_ _ _ q=>zoP q) h
def zbD:prog.cellsOf 25=5:=by kernel_rfl
def zoR {VL:Nat}  {x:DataW H×List MemPlace}(h:DataW.trod enc prog w base spare held VL 25 cs=some x):∃a:yk,zoi a/\Rep (z6r w) ((jN (eI .u8) (eI .u8) (eI .u8) (eSl 1 false (eI .u8)) (eSl 1 false (eI .u16))) a) cs:=by obtain⟨hl,hf⟩:=K3 underlying25 h;rw[zbD]at hl;obtain⟨_,_,q0⟩:=hf 0 _ rfl;obtain⟨_,_,q1⟩:=hf 1 _ rfl;obtain⟨_,_,q2⟩:=hf 2 _ rfl;obtain⟨_,_,q3⟩:=hf 3 _ rfl;obtain⟨_,_,q4⟩:=hf 4 _ rfl;simp only[zhO,zhN,zfP]at q0 q1 q2 q3 q4;obtain⟨a0,k0,r0⟩:=rd5 q0;obtain⟨a1,k1,r1⟩:=rd5 q1;obtain⟨a2,k2,r2⟩:=rd5 q2;obtain⟨a3,k3,r3⟩:=zoT q3;obtain⟨a4,k4,r4⟩:=zoS q4;refine⟨⟨a0,a1,a2,a3,a4⟩,⟨k0,k1,k2,k3,k4⟩,?_⟩;show Rep (z6r w) (.agg [(eI .u8) a0,(eI .u8) a1,(eI .u8) a2,(eSl 1 false (eI .u8)) a3,(eSl 1 false (eI .u16)) a4]) cs;simp only[Rep];refine WV (n:=1) (by simpa[mL] using r0) (WV (n:=1) (by simpa[mL] using r1) (WV (n:=1) (by simpa[mL] using r2) (WV (n:=1) (by simpa[mL] using r3) (WV (n:=1) (by simpa[mL] using r4) ?_))));simp only[mL,yb];exact mn (by omega)
def zhM:prog.cellsOf 27=5:=by kernel_rfl
def zoQ {VL:Nat}  {x:DataW H×List MemPlace}(h:DataW.trod enc prog w base spare held VL 27 cs=some x):∃a:Yx,zoh a/\Rep (z6r w) ((Yv (jN (eI .u8) (eI .u8) (eI .u8) (eSl 1 false (eI .u8)) (eSl 1 false (eI .u16)))) a) cs:=by obtain⟨hl,hf⟩:=K3 underlying27 h;rw[zhM]at hl;obtain⟨_,_,q0⟩:=hf 0 _ rfl;simp only[zbD]at q0;obtain⟨a0,k0,r0⟩:=zoR q0;refine⟨⟨a0⟩,k0,?_⟩;show Rep (z6r w) (.agg [(jN (eI .u8) (eI .u8) (eI .u8) (eSl 1 false (eI .u8)) (eSl 1 false (eI .u16))) a0]) cs;simp only[Rep];refine WV (n:=5) (by simpa[mL] using r0) ?_;simp only[yb];exact mn (by omega)
end
end Go.Own
namespace Go.Proofs.YtedigoohmnbjfaaGreat.suitesWithin
open Go.Proofs.Tryz
open Go Go.ChangeShapes Go.WideShapes Go.ChangeAt Go.RowKit
def own:ownKnob prog.godebug=none:=by kernel_rfl
def zhx:laidOutB prog=true:=by kernel_rfl
section
variable {H:Type}{enc:TypeId×Value->H}{W:World}
set_option maxRecDepth 100000 in
def zou {base:Nat}{v0:Value}{d0:DataW H}{p0:List MemPlace}{v1:Value}{d1:DataW H}{p1:List MemPlace}(h0:DataW.Trod enc prog W 0 (λ_=>true) true 27 v0 d0 p0)(h1:DataW.Trod enc prog W 0 (λ_=>true) true 5 v1 d1 p1)(k0:Value.okWide prog W .any base (27:Nat) v0)(k1:Value.okWide prog W .any base (5:Nat) v1) :
  Calls prog 8 #[v0,v1] W λe w'=>e=.returned (.bool true)/\Go.Own.Xf (λk=>W.heap.size<=k) W w':=by
 obtain⟨n0,h0⟩:=h0;obtain⟨x0,o0,r0⟩:=Go.Own.zoQ h0;obtain⟨n1,h1⟩:=h1;obtain⟨x1,o1,r1⟩:=Go.Own.rd5 h1;have q:=(Go.Own.zdq (Go.Own.z9k Go.Own.zi7 rt:Go.Own.OkH Go.Own.zmn) (x:=(x0,x1)) (r:=true) (Go.Own.zen o0 o1)).2 (Go.Own.z6r W) W [v0,v1] [] ⟨λ_ _ _ h=>h,λ_ _ e=>(by cases e),λ_ _ e=>(by cases e)⟩ ?_ (by simp)
 ·refine Calls.mono q ?_;rintro e w' ⟨v,S',F',rfl,hk,_,_,_,hr,_,_⟩;refine⟨?_,hk.mono (by rintro k (h|h) <;> simp_all)⟩;rw[Go.Own.zer hr]
 refine Go.Own.Qj ?_;have g0:Go.Own.wW (Go.Own.z6r W) ((Go.Own.Yv (Go.Own.jN (Go.Own.eI .u8) (Go.Own.eI .u8) (Go.Own.eI .u8) (Go.Own.eSl 1 false (Go.Own.eI .u8)) (Go.Own.eSl 1 false (Go.Own.eI .u16)))) x0) v0:=Go.Own.z6T (t:=(27:Nat)) underlying27 r0 k0 rfl;have g1:Go.Own.wW (Go.Own.z6r W) ((Go.Own.eI .u8) x1) v1:=Go.Own.zdK (t:=(5:Nat)) underlying5 r1 k1 rfl;exact⟨g0,g1,trivial⟩
end
set_option maxRecDepth 100000 in
def zkt (os:Os)(started:os.Started)(H:Type)(enc:TypeId×Value->H) :
  ReturnsInHanded {} checked os 8 .any (Rows.suitesWithinSpec.pre6 enc prog Tryz.f8 Rows.suitesWithinRow.domain false) (Rows.suitesWithinSpec.post enc prog Tryz.f8 false true false false):=by
 refine returnsInHanded_of_change (C:=checked) own started (by kernel_rfl) func8
  (ChangeSpec.witness6 (enc:=enc) (C:=checked) false ⟨#[],#[.agg #[.int .u8 0,.int .u8 0,.int .u8 0,.slice none 0 0,.slice none 0 0],.int .u8 0],[]⟩ 8 (by kernel_rfl) (by kernel_rfl) (by kernel_rfl) (by kernel_rfl)) ?_
 intro W base args ds gs before hval0 hW hcnd _;have hval:∀(j:Nat) t v,Tryz.f8.params[j]?=some t->args[j]?=some v->Value.okWide prog W .any base t v:=hval0;have hW':=hW;obtain⟨p,q,hA0,hV,rfl,hfz,hnd⟩:=hW;have hA:DataW.TrodAll enc prog W 0 (λ_=>true) true Tryz.f8.params.toList args.toList ds p:=hA0;rw[params8]at hA hval;obtain⟨v0,v1,d0,d1,p0,p1,rfl,rfl,rfl,h0,h1⟩:=trodAll_two hA;obtain⟨rfl,rfl⟩:=trodVars_none hV;clear hA0 hval0;refine(zou h0 h1 (hval 0 (27:Nat) v0 rfl rfl) (hval 1 (5:Nat) v1 rfl rfl)).mono λe W' ⟨he,hk⟩=>?_;subst he;have hb:Below W.heap.size W W':=⟨hk.os,hk.tape,hk.output,hk.size,λk q=>hk.block k (by omega)⟩;have hlt:∀x∈p0++p1,x.block<W.heap.size:=λx hx=>by simpa using hW'.lt x (by simpa using hx)
 refine⟨_,rfl,Go.Own.zao rfl rfl hW' hb (λ_ _ _=>trodAll_cons_mk (shut_bool underlying4 _) trodAll_mk0) (λsp hsp=>?_) (ok_one (by kernel_rfl) rfl (okWide_bool_mk underlying4 _))⟩;have st:∀{t:Nat} {v:Value} {d:DataW H} {p':List MemPlace},DataW.Trod enc prog W 0 (λ_=>true) true t v d p'->prog.readableRec t=true->t<prog.types.size->(∀x∈p',x∈p0++p1)->DataW.Trod enc prog W' 0 sp true t v d p':=by intro t v d p' hd h1 h2 hp;exact WideElems.Trod_stays zhx h1 h2 hd (λx hx=>hb.same (hlt x (hp x hx))) (λx hx=>hsp x (by simpa using hp x hx))
 have:=trodAll_mk2 (st h0 (by kernel_rfl) (of_decide_eq_true (by kernel_rfl)) (λx hx=>by simp[hx])) (st h1 (by kernel_rfl) (of_decide_eq_true (by kernel_rfl)) (λx hx=>by simp[hx]));rw[params8];exact this
def VB:Rows.suitesWithinRow.holds Tryz.pinned (OpenSpec.ofChange Rows.suitesWithinSpec) :=
 OpenClaim.holds_of_wide 8 Tryz.f8 rfl rfl rfl rfl rfl rfl rfl ⟨rfl,rfl,rfl,rfl,rfl⟩ rfl rfl rfl rfl rfl (by kernel_rfl) func8 (by kernel_rfl)
  (of_decide_eq_true (by kernel_rfl)) (by unfold Func.isWrapper;first|(rw[if_pos (by decide +kernel)];kernel_rfl)|(rw[if_neg (by decide +kernel)];exact⟨rfl,rfl⟩))
  (λos started H enc _=>zkt os started H enc)
theorem proved:Rows.SuitesWithinSaid :=
 VB
#print axioms proved
end Go.Proofs.YtedigoohmnbjfaaGreat.suitesWithin
