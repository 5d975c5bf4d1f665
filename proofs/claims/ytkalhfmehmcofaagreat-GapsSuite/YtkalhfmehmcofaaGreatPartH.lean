/- -/
import Derived.Test.YtkalhfmehmcofaaGreatPartE
import Derived.Test.YtkalhfmehmcofaaGreatPartG
set_option linter.unusedVariables false
set_option linter.defProp false
set_option linter.unusedSimpArgs false
namespace Go.Own
def oB {α:Type _}{β:Type _}(a:α)(f:α->Option β):Option.bind (some a) f=f a:=rfl
variable {i:Nat}{α:Type}
def zu {l:List α}  {x:α}(h:l[i]?=some x):idx l (i:Int)=some x:=h
def zcO (b:TB)(g:Nat->Int->Option Int)(hg:∀i x y,b[i]?=some y->g i x=if x<y then some (-1) else if y<x then some 1 else none) :
  ∀(a:TB) (k:Nat),k+a.length=b.length->(y5 g a k).getD 0=wC a (b.drop k)
 |[],k,h=>by have:b.drop k=[]:=mI (by simp at h;omega);rw[this];rfl
 |x::a,k,h=>by
  simp[gQ]at h;have hk:k<b.length:=ω
  rw[mW hk];simp[y5,wC,hg k x b[k] (pB hk)];by_cases h1:x<b[k]
  ·simp[h1]
  by_cases h2:b[k]<x
  ·simp[h1,h2]
  simp[h1,h2];exact zcO b g hg a (k+1) ω
def z7J (a b:TB)(h:a.length=b.length->a.length<4611686018427387904):Zj a b=some (jE a b):=by
 unfold Zj;by_cases hl:a.length=b.length
 ·have h':=h hl;simp only[hl,bne_self_eq_false,cond_false];rw[bdT (vt a h' (λi x=>match b[i]? with|some y=>if x<y then some (-1:Int) else if y<x then some 1 else none|none=>none) ?_ ?_)]
  ·have q:=zcO b (λi x=>match b[i]? with|some y=>if x<y then some (-1:Int) else if y<x then some 1 else none|none=>none) (λi x y hy=>by simp only[hy]) a 0 ω;rw[List.drop_zero]at q;have hc:jE a b=wC a b:=by unfold jE;rw[if_neg ω,if_neg ω]
   rw[hc,<-q];cases y5 (λi x=>match b[i]? with|some y=>if x<y then some (-1:Int) else if y<x then some 1 else none|none=>none) a 0<;>rfl
  ·intro i x hx;have hi:i<a.length:=(pC.1 hx).1;have hy:b[i]?=some b[i]:=pB ω;unfold YZ;have hc:decide ((i:Int)<(a.length:Int))=true:=ξ hi
   simp only[hc,cond_true,zu hx,zu hy,hy,oB];by_cases h1:x<b[i]
   ·simp[h1,nS]
   by_cases h2:b[i]<x
   ·simp[h1,h2,nS]
   simp[h1,h2,nS]
  unfold YZ;simp
 have h1:((a.length:Int) !=(b.length:Int))=true:=by simp;omega
 simp only[h1,cond_true];unfold jE;by_cases h2:a.length<b.length
 ·simp[h2]
 have h3:b.length<a.length:=ω
 simp[h2,h3]
def cI (x y:Int):Int:=if x<y then -1 else if y<x then 1 else 0
def zd5 (x y:Int):qL x y=some (cI x y):=by
 unfold qL XD cI;simp[bne_self_eq_false,oB,cond_false];by_cases h1:x<y
 ·simp[h1]
 by_cases h2:y<x
 ·simp[h1,h2]
 simp[h1,h2]
def zih (a b:TB)(h:a.length<4611686018427387904):∃c,wS a b=some c/\(a.length=b.length->c=wC a b):=by
 unfold wS;have hloop:=vt a h (step:=λs=>xY a b s) (λi x=>match b[i]? with|some y=>if x<y then some (-1:Int) else if y<x then some 1 else none|none=>some 1) (by
  intro i x hx;have hi:i<a.length:=(pC.1 hx).1;unfold xY;have hc:decide ((i:Int)<(a.length:Int))=true:=ξ hi
  simp only[hc,cond_true,zu hx,oB];by_cases hb:i<b.length
  ·have hy:b[i]?=some b[i]:=pB hb;have hd:decide ((i:Int)>=(b.length:Int))=false:=by simp;omega
   simp only[hd,cond_false,zu hy,hy,oB,zd5];unfold cI;by_cases h1:x<b[i]
   ·simp[h1,nS]
   by_cases h2:b[i]<x
   ·simp[h1,h2,nS]
   simp[h1,h2,nS]
  have hy:b[i]?=none:=pL ω;have hd:decide ((i:Int)>=(b.length:Int))=true:=by simp;omega
  simp only[hd,cond_true,hy,nS]) (by unfold xY;simp)
 rw[bdT hloop];have q:=λhl=>zcO b (λi x=>match b[i]? with|some y=>if x<y then some (-1:Int) else if y<x then some 1 else none|none=>some 1) (λi x y hy=>by simp only[hy]) a 0 hl;cases hf:y5 (λi x=>match b[i]? with|some y=>if x<y then some (-1:Int) else if y<x then some 1 else none|none=>some 1) a 0 with
 |some r=>refine⟨r,rfl,λhl=>?_⟩;have:=q ω;rw[hf]at this;simpa using this
 |none=>
  unfold vB;by_cases hl:a.length<b.length
  ·refine⟨-1,by simp[oS,hl],λhl2=>ω⟩
  refine⟨0,by simp[oS,hl],λhl2=>?_⟩;have:=q ω;rw[hf]at this;simpa using this
def zqE (x y:Int):JQ [x,y]=some (if x=0 then y else x):=by
 unfold JQ;rw[bdT (vt [x,y] ς (step:=λs=>XE [x,y] s) (λi v=>if v≠0 then some v else none) ?_ ?_)]
 ·by_cases h1:x=0
  ·by_cases h2:y=0
   ·simp[y5,h1,h2,oS,UG]
   simp[y5,h1,h2,oS]
  simp[y5,h1,oS]
 ·intro i v hv;have hi:i<[x,y].length:=(pC.1 hv).1;unfold XE;have hc:decide ((i:Int)<(([x,y]:TB).length:Int))=true:=by simp only[decide_eq_true_eq];omega
  simp only[hc,cond_true,zu hv,oB];by_cases h:v=0
  ·simp[h,nS]
  have hb:(v !=0)=true:=ξ h
  simp[h,hb,nS]
 unfold XE;simp
def VR (a b:TB)(h:a.length<4611686018427387904):yG a b=some (jE a b):=by
 unfold yG;have ⟨c,hc,hl⟩:=zih a b h;rw[zd5,hc];simp[oB,zqE];unfold cI jE;by_cases h1:a.length<b.length
 ·simp[h1]
 by_cases h2:b.length<a.length
 ·simp[h1,h2]
 simp[h1,h2,hl ω]
def wE (n:Int)(w:TB):Int:=if 256<w.length then 3 else if w.any (λc=>decide (c<0) || decide (n<=c)) then 1 else 0
variable {n:Int}{w:TB}
def z89:wE n w=0↔w.length<=256/\∀c∈w,0<=c/\c<n:=by
 unfold wE;by_cases h:256<w.length
 ·rw[if_pos h];exact⟨λq=>by simp at q,λq=>ω⟩
 rw[if_neg h];by_cases h2:w.any (λc=>decide (c<0) || decide (n<=c))=true
 ·rw[if_pos h2];simp[so,mN,decide_eq_true_eq]at h2;have ⟨c,h3,h4⟩:=h2;refine⟨λq=>by simp at q,λq=>?_⟩;have:=q.2 c h3;omega
 rw[if_neg h2];simp[so,mN,decide_eq_true_eq,not_exists,not_and,not_or]at h2;refine⟨λ_=>⟨ω,λc hc=>?_⟩,λ_=>rfl⟩;have:=h2 c hc;omega
variable {ρ:Type}
def zhe (p:Int->Bool)(g:Nat->Int->Option ρ)(hg:∀i x,(g i x).isSome=p x):∀(w:TB) (k:Nat),(y5 g w k).isSome=w.any p
 |[],k=>rfl
 |x::w,k=>by
  simp[y5,List.any_cons];have:=hg k x;cases hx:g k x with
  |some r=>rw[hx]at this;simp at this;simp[<-this]
  |none=>rw[hx]at this;simp at this;rw[this,rD];exact zhe p g hg w (k+1)
def z6B (n:Int)(w:TB):jZ w n=some (if 16<n then 3 else if 256<w.length then 3 else if n<1 then 1 else wE n w):=by
 unfold jZ;by_cases h0:16<n
 ·simp[h0]
 by_cases h:256<w.length
 ·have h':(256:Int)<(w.length:Int):=ω
  simp[h0,h,h']
 by_cases h1:n<1
 ·have h':¬(256:Int)<(w.length:Int):=ω
  simp[h0,h,h',h1]
 have hd:decide ((w.length:Int)>256)=false:=by simp;omega
 have hd0:decide (n>16)=false:=by simp;omega
 have hd1:decide (n<1)=false:=by simp;omega
 simp only[hd,hd0,hd1,cond_false,if_neg h,if_neg h0,if_neg h1];unfold wN vN wE;have hl:=vt w ω (step:=λs=>xy w n s) (λi c=>if c<0\/n<=c then some (i:Int) else none) (by
  intro i c hc;have hi:i<w.length:=(pC.1 hc).1;unfold xy VV;have hq:decide ((i:Int)<(w.length:Int))=true:=ξ hi
  simp only[hq,cond_true,zu hc,oB];by_cases h1:c<0
  ·simp[h1,nS]
  by_cases h2:n<=c
  ·simp[h1,h2,nS]
  simp[h1,h2,nS]) (by unfold xy;simp)
 rw[bdT hl,if_neg h];have q:=zhe (λc=>decide (c<0) || decide (n<=c)) (λi c=>if c<0\/n<=c then some (i:Int) else none) (λi c=>by by_cases h:c<0\/n<=c<;>simp[h]<;>simpa using h) w 0;cases hf:y5 (λi c=>if c<0\/n<=c then some (i:Int) else none) w 0 with
 |none=>rw[hf]at q;rw[<-q];rfl
 |some r=>
  rw[hf]at q;have ⟨i,x,h1,h2⟩:=kH hf;rw[<-q];split at h2
  ·cases h2;simp[oS]
  cases h2
def eS (e:Int):Option Int:=if e=0 then none else some e
def loE (n:Int)(l:TA):Int:=if 16<n then 3 else if 4096<l.length then 3 else if n<1 then 1 else(y5 (λ_ w=>eS (wE n w)) l 0).getD 0
def z9Y:∀{l:TA} {k:Nat},(y5 (λ_ w=>eS (wE n w)) l k).getD 0=0↔∀w∈l,wE n w=0
 |[],_=>by simp[y5]
 |w::l,k=>by
  by_cases h:wE n w=0
  ·have:eS (wE n w)=none:=by simp[eS,h]
   simp[y5,this];rw[z9Y];simp[h]
  have:eS (wE n w)=some (wE n w):=by simp[eS,h]
  simp[y5,this,h]
variable {l:TA}
def z0m:loE n l=0↔(1<=n/\n<=16)/\l.length<=4096/\∀w∈l,w.length<=256/\∀c∈w,0<=c/\c<n:=by
 unfold loE;by_cases h0:16<n
 ·rw[if_pos h0];exact⟨λq=>by simp at q,λq=>ω⟩
 by_cases h1:4096<l.length
 ·rw[if_neg h0,if_pos h1];exact⟨λq=>by simp at q,λq=>ω⟩
 by_cases h2:n<1
 ·rw[if_neg h0,if_neg h1,if_pos h2];exact⟨λq=>by simp at q,λq=>ω⟩
 rw[if_neg h0,if_neg h1,if_neg h2,z9Y];constructor
 ·intro q;exact⟨ω,ω,λw hw=>z89.1 (q w hw)⟩
 intro q w hw;exact z89.2 (q.2.2 w hw)
def z5N (l:TA)(n:Int):XS l n=some (loE n l):=by
 unfold XS loE;by_cases h0:16<n
 ·simp[h0]
 by_cases h1:4096<l.length
 ·have h':(4096:Int)<(l.length:Int):=ω
  simp[h0,h1,h']
 by_cases h2:n<1
 ·have h':¬(4096:Int)<(l.length:Int):=ω
  simp[h0,h1,h2,h']
 have d0:decide (n>16)=false:=by simp;omega
 have d1:decide ((l.length:Int)>4096)=false:=by simp;omega
 have d2:decide (n<1)=false:=by simp;omega
 simp only[d0,d1,d2,cond_false,if_neg h0,if_neg h1,if_neg h2];rw[bdT (vt l ω (step:=λs=>Yj l n s) (λ_ w=>eS (wE n w)) ?_ ?_)]
 ·cases y5 (λ_ w=>eS (wE n w)) l 0<;>rfl
 ·intro i w hw;have hi:i<l.length:=(pC.1 hw).1;have hq:decide ((i:Int)<(l.length:Int))=true:=ξ hi
  have he:jZ w n=some (wE n w):=by
   rw[z6B,if_neg h0,if_neg h2];by_cases h:256<w.length
   ·rw[if_pos h];unfold wE;rw[if_pos h]
   rw[if_neg h]
  unfold Yj;simp only[hq,cond_true,zu hw,oB,he];by_cases hz:wE n w=0
  ·simp[hz,eS,nS]
  have hb:(wE n w !=0)=true:=ξ hz
  simp[hz,hb,eS,nS]
 unfold Yj;simp
def zfI (l:TA)(hl:l.length<4611686018427387904){step:Int×Int->Option (LR (Int×Int) Int)}
  (h:∀(n:Int) (i:Nat) (x:TB),l[i]?=some x->step (n,(i:Int))=some (.next (w64 (n+(x.length:Int)),w64 ((i:Int)+1)))) (h2:∀n,step (n,(l.length:Int))=some (.done n)) :
  loop step (0,0)=some (l.foldl (λn x=>w64 (n+(x.length:Int))) 0):=by
 have gen:∀(m k:Nat) (n:Int),k<=l.length->l.length-k<m->z0k step m (n,(k:Int))=some ((l.drop k).foldl (λn x=>w64 (n+(x.length:Int))) n):=by
  intro m;induction m with
  |zero=>intro k n _ h;omega
  |succ m ih=>
   intro k n hk hn;rw[XK];rcases pM k l.length with hlt|hge
   ·have hx:l[k]?=some l[k]:=pB hlt;rw[h n k _ hx,mW hlt];simp only[rX];rw[zr (x:=(k:Int)+1) ω ω];exact ih (k+1) _ hlt ω
   have:k=l.length:=ω
   subst this;rw[h2,List.drop_length];rfl
 exact gen Vn 0 0 (pQ _) (by show l.length-0<18446744073709551616;omega)
def stW (l:TA):Int:=l.foldl (λn x=>w64 (n+(x.length:Int))) 0
def z9a (l:TA)(hl:l.length<4611686018427387904):XQ l=some (stW l):=by
 unfold XQ;rw[bdT (zfI l hl (step:=λs=>Yi l s.1 s.2) ?_ ?_)]
 ·rfl
 ·intro n i x hx;have hi:i<l.length:=(pC.1 hx).1;have hq:decide ((i:Int)<(l.length:Int))=true:=ξ hi
  unfold Yi;simp only[hq,cond_true,zu hx,oB]
 intro n;unfold Yi;simp
def kA (l:TA):Nat:=(l.map List.length).sum
def zgR (h:kA l<4611686018427387904):stW l=(kA l:Int):=by
 have gen:∀(l:TA) (n:Nat),n+kA l<4611686018427387904->l.foldl (λn x=>w64 (n+(x.length:Int))) (n:Int)=((n+kA l:Nat):Int):=by
  intro l;induction l with
  |nil=>intro n _;simp[kA]
  |cons x l ih=>
   intro n hn;have hs:kA (x::l)=x.length+kA l:=by simp[kA]
   rw[hs]at hn⊢;rw[rX,zr ω ω,<-Int.natCast_add,ih (n+x.length) ω];congr 1;omega
 have:=gen l 0 ω;simpa[stW] using this
def z5q {m:Nat}(h:∀w∈l,w.length<=m):kA l<=l.length*m:=by
 induction l with
 |nil=>simp[kA]
 |cons x l ih=>
  have hs:kA (x::l)=x.length+kA l:=by simp[kA]
  have h1:=h x ς;have h2:=ih λw hw=>h w (by simp[hw]);rw[hs,gQ,gZ];omega
def z98:∀{l:TA},SW l↔∀i x y,l[i]?=some x->l[i+1]?=some y->jE x y<0
 |[]=>by simp[SW]
 |[x]=>⟨λ_ i a b _ h2=>by simp at h2,λ_=>by simp[SW]⟩
 |x::y::l=>by
  constructor
  ·intro h i a b h1 h2;cases i with
   |zero=>simp at h1 h2;subst h1;subst h2;exact h.head y ς
   |succ i=>exact z98.1 h.tail i a b (ξ h1) (ξ h2)
  intro h;have ht:SW (y::l):=z98.2 λi a b h1 h2=>h (i+1) a b (ξ h1) (ξ h2);have h0:=h 0 x y rfl rfl;refine nH.2 ⟨λz hz=>?_,ht⟩;rcases pG.1 hz with rfl|hz
  ·exact h0
  exact vV h0 (ht.head z hz)
def zaP {α ρ:Type}(l:List α)(hl:l.length<4611686018427387904){step:Int->Option (LR Int (Unit⊕ρ))}(f:Nat->α->Option ρ)
  (h:∀(i:Nat) (x:α),1<=i->l[i]?=some x->step (i:Int)=some (nS i (f i x))) (h2:∀k:Nat,l.length<=k->step (k:Int)=some (.done (.inl ()))) :
  loop step 1=some (oS (y5 f (l.drop 1) 1)):=by
 have gen:∀(n:Nat) (k:Nat),1<=k->l.length-k<n->z0k step n (k:Int)=some (oS (y5 f (l.drop k) k)):=by
  intro n;induction n with
  |zero=>intro k _ h;omega
  |succ n ih=>
   intro k hk hn;rw[XK];rcases pM k l.length with hlt|hge
   ·have hx:l[k]?=some l[k]:=pB hlt;rw[h k _ hk hx,mW hlt];simp[y5];cases hf:f k l[k] with
    |some r=>rfl
    |none=>simp[nS];rw[zr ω ω];exact ih (k+1) ω ω
   rw[h2 k hge,mI hge];rfl
 exact gen Vn 1 (pF _) (by show l.length-1<18446744073709551616;omega)
instance (l:TA):Decidable (SW l):=by unfold SW;infer_instance
def zg1 (l:TA)(r:ρ):y5 (λi x=>match l[i-1]? with|some y=>if 0<=jE y x then some r else none|none=>none) (l.drop 1) 1=if SW l then none else some r:=by
 by_cases hs:SW l
 ·rw[if_pos hs];refine UD λi x hx=>?_;rw[mU]at hx;have hi:1+i<l.length:=(pC.1 hx).1;have hy:l[1+i - 1]?=some l[i]:=by rw[show 1+i - 1=i by omega];exact pB ω
  rw[hy];have:=z98.1 hs i l[i] x (pB ω) (by rw[sX];exact hx);simp only;rw[if_neg ω]
 rw[if_neg hs];cases hf:y5 (λi x=>match l[i-1]? with|some y=>if 0<=jE y x then some r else none|none=>none) (l.drop 1) 1 with
 |some r'=>
  have ⟨i,x,h1,h2⟩:=kH hf;split at h2
  ·split at h2
   ·exact h2.symm
   cases h2
  cases h2
 |none=>
  exfalso;refine hs (z98.2 λi x y hx hy=>?_);have:=ZG hf i y (by rw[mU,sX];exact hy);rw[show 1+i-1=i by omega,hx]at this;simp only at this;split at this
  ·cases this
  omega
def zgB (l:TA)(h:l.length<=4096)(hw:∀w∈l,w.length<4611686018427387904):U0 l=some (decide (SW l)):=by
 unfold U0;rw[bdT (zaP l ω (step:=λs=>Yk l s) (λi x=>match l[i-1]? with|some y=>if 0<=jE y x then some false else none|none=>none) ?_ ?_),zg1]
 ·by_cases hs:SW l
  ·simp[hs,oS,V9]
  simp[hs,oS]
 ·intro i x hi hx;have hil:i<l.length:=(pC.1 hx).1;have hy:l[i - 1]?=some l[i - 1]:=pB ω;have hq:decide ((i:Int)<(l.length:Int))=true:=ξ hil
  unfold Yk;rw[zr (x:=(i:Int)-1) ω ω,show((i:Int)-1)=((i-1:Nat):Int) by omega];have hE:=VR l[i-1] x (hw _ (pO ω));simp only[hq,cond_true,zu hx,zu hy,oB,hy,hE];by_cases hc:0<=jE l[i-1] x
  ·simp[hc,nS]
  simp[hc,nS]
 intro k hk;unfold Yk;have:decide ((k:Int)<(l.length:Int))=false:=by simp;omega
 simp only[this,cond_false]
def chE (n:Int)(l:TA):Int:=if loE n l≠0 then loE n l else if SW l then(if 65536<kA l then 3 else 0) else 1
def za8:chE n l=0↔loE n l=0/\SW l/\kA l<=65536:=by
 unfold chE;by_cases h:loE n l=0
 ·rw[if_neg (by simp[h])];by_cases h2:SW l
  ·rw[if_pos h2];by_cases h3:65536<kA l
   ·rw[if_pos h3];exact⟨λq=>by simp at q,λq=>ω⟩
   rw[if_neg h3];exact⟨λ_=>⟨h,h2,ω⟩,λ_=>rfl⟩
  rw[if_neg h2];exact⟨λq=>by simp at q,λq=>absurd q.2.1 h2⟩
 rw[if_pos h];exact⟨λq=>absurd q h,λq=>absurd q.1 h⟩
def z7j (h:loE n l=0):l.length<=4096/\(∀w∈l,w.length<=256)/\kA l<=1048576:=by have ⟨_,h1,h2⟩:=z0m.1 h;refine⟨h1,λw hw=>(h2 w hw).1,?_⟩;have:=z5q (m:=256) λw hw=>(h2 w hw).1;omega
def KX (l:TA)(n:Int):kl l n=some (chE n l):=by
 unfold kl chE;rw[z5N];simp[oB];by_cases h:loE n l=0
 ·have ⟨h1,h2,h3⟩:=z7j h;rw[zgB l h1 λw hw=>by have:=h2 w hw;omega,z9a l ω,zgR ω];simp[h,bne_self_eq_false,cond_false,oB];by_cases hs:SW l
  ·by_cases hq:65536<kA l
   ·have:(65536:Int)<(kA l:Int):=ω
    simp[hs,hq,this]
   have:¬(65536:Int)<(kA l:Int):=ω
   simp[hs,hq,this]
  simp[hs]
 have hb:(loE n l !=0)=true:=ξ h
 simp[h,hb]
def z27 (x:zw α)(i:Nat)(v:α):(zw.setI x (i:Int) v).toL=x.toL.set i v:=by unfold zw.setI;rw[zw.toL_ofL _ _ (by simp[zw.toL]),pE]
def zhA {x y:zw α}(h:x.toL=y.toL):x=y:=by cases x;cases y;simp[zw.toL,List.cons.injEq,and_true]at h;simp[zw.mk.injEq];exact h
instance:LawfulBEq (zw (wF Int)):={
 eq_of_beq:=by
  intro a b h;cases a;cases b;simp[BEq.beq,pN,decide_eq_true_eq]at h;simp[zw.mk.injEq];obtain⟨⟨⟨⟨⟨⟨⟨⟨⟨⟨⟨⟨⟨⟨⟨h0,h1⟩,h2⟩,h3⟩,h4⟩,h5⟩,h6⟩,h7⟩,h8⟩,h9⟩,h10⟩,h11⟩,h12⟩,h13⟩,h14⟩,h15⟩:=h;have e:∀{p q:wF Int},(p.e0=q.e0/\p.e1=q.e1)->p=q:=by rintro⟨a0,a1⟩ ⟨b0,b1⟩ ⟨rfl,rfl⟩;rfl
  exact⟨e h0,e h1,e h2,e h3,e h4,e h5,e h6,e h7,e h8,e h9,e h10,e h11,e h12,e h13,e h14,e h15⟩
 rfl:=by intro a;cases a;simp[BEq.beq] }
instance:LawfulBEq zJ:={
 eq_of_beq:=by intro a b h;have h:(a.P==b.P&&a.F==b.F)=true:=h;rw[pN,beq_iff_eq,beq_iff_eq]at h;have ⟨a0,a1⟩:=a;have ⟨b0,b1⟩:=b;have ⟨h0,h1⟩:=h;have h0:a0=b0:=h0;have h1:a1=b1:=h1;rw[h0,h1]
 rfl:=by intro a;show(a.P==a.P&&a.F==a.F)=true;rw[beq_self_eq_true,beq_self_eq_true];rfl }
def sgN (m:z6)(p:TB)(s j:Nat):wF Int:=if j<kk m then⟨(E m s j).r,if(E m s j).o=-1 then -1 else(p[(E m s j).o.toNat]?).getD 0⟩ else⟨0,0⟩
def zbQ (f g:Nat->α){n i:Nat}(v:α)(h:∀j,j<n->g j=if j=i then v else f j):((List.range n).map f).set i v=(List.range n).map g:=by
 apply gW;intro j;by_cases hj:j<n
 ·have e1:((List.range n).map g)[j]?=some (g j):=by simp[hj]
  have e2:((List.range n).map f)[j]?=some (f j):=by simp[hj]
  rw[e1,h j hj];by_cases e:j=i
  ·subst e;rw[mD (ξ hj),if_pos rfl]
  rw[gS (λq=>e q.symm),e2,if_neg e]
 rw[pL (by simp;omega),pL (by simp;omega)]
variable {p:TB}{s:Nat}
section
variable {m:z6}(h:VM m)
include h
theorem zfb (hp:p.length=m.i.length)  (hs:s<m.i.length):Ret (kL m p (s:Int)) λa=>a.toL=(List.range 16).map (sgN m p s):=by
 have ⟨r,r1,r2,r3⟩:=h.rowAt hs;have hk:=h.kk_le;unfold kL W1;rw[bdT (zu r1),zi];refine Ret.mono ?_ λa ha=>z8.2 ha;refine zz (λst=>∃i:Nat,st.2=(i:Int)/\i<=kk m/\st.1.toL=(List.range 16).map λj=>if j<i then sgN m p s j else⟨0,0⟩) (λst=>20-st.2.toNat) ⟨0,rfl,ω,by simp[zw.toL,rO]⟩ (by show 20-_<_;omega) ?_;rintro⟨a,_⟩ ⟨i,rfl,hi,ha⟩;simp only at ha;show Ret (W0 p r a (i:Int)) _;unfold W0 Zc;rw[zj];refine⟨λhc=>?_,λhc=>?_⟩
 ·have hc:(i:Int)<(r.length:Int):=of_decide_eq_true hc;have hik:i<kk m:=ω
  have e1:a.toL[i]?=some ⟨0,0⟩:=by rw[ha];simp[show i<16 by omega]
  have w2:w64 ((i:Int)+1)=((i+1:Nat):Int):=by rw[zr ω ω];rfl
  have hed:=h.edgeAt hs hik;have step:∀v:wF Int,sgN m p s i=v->∀b:zw (wF Int),b.toL=((List.range 16).map λj=>if j<i then sgN m p s j else⟨0,0⟩).set i v->b.toL=(List.range 16).map λj=>if j<i+1 then sgN m p s j else⟨0,0⟩:=by
   intro v hv b hb;rw[hb];refine zbQ _ _ v λj hj=>?_;by_cases e:j=i
   ·subst e;rw[if_pos ω,if_pos rfl,hv]
   rw[if_neg e];by_cases e2:j<i
   ·rw[if_pos e2,if_pos ω]
   rw[if_neg e2,if_neg ω]
  rw[bdT (zu (r3 i hik)),bdT (zu e1),oB,zj];refine⟨λht=>?_,λht=>?_⟩
  ·have ht:(E m s i).o≠-1:=ξ ht
   obtain⟨t,htn⟩:∃t:Nat,(E m s i).o=t:=⟨(E m s i).o.toNat,ω⟩;have hpt:p[t]?=some p[t]:=pB ω;have e2:(zw.setI a (i:Int) ⟨(E m s i).r,-1⟩).toL[i]?=some ⟨(E m s i).r,-1⟩:=by rw[z27,mD (by rw[ha];simp;omega)]
   rw[htn,bdT (zu hpt),bdT (zu e2),oB,z8,w2];refine⟨⟨i+1,rfl,ω,step _ ?_ _ (by rw[z27,z27,ha,List.set_set])⟩,by simp[pE];omega⟩;unfold sgN;rw[if_pos hik,if_neg ht,htn,pE,hpt,pX]
  have ht:(E m s i).o=-1:=ξ ht
  rw[z8,w2];refine⟨⟨i+1,rfl,ω,step _ ?_ _ (by rw[z27,ha])⟩,by simp[pE];omega⟩;unfold sgN;rw[if_pos hik,if_pos ht]
 have hc:=of_decide_eq_false hc;have:i=kk m:=ω
 subst this;refine z8.2 ?_;show a.toL=_;rw[ha];refine nC λj hj=>?_;unfold sgN;by_cases e:j<kk m
 ·rw[if_pos e,if_pos e]
 rw[if_neg e,if_neg e]
end
def Rgf (l:TB):Prop:=∀(s:Nat) (x:Int),l[s]?=some x->∃v:Nat,x=(v:Int)/\∀w:Nat,w<v->∃t,t<s/\l[t]?=some (w:Int)
def z9l {l r:TB}(hl:Rgf l)(hr:Rgf r)(hlen:l.length=r.length)(h:∀s t:Nat,s<l.length->t<l.length->(l[s]?=l[t]?↔r[s]?=r[t]?)):l=r:=by
 have gen:∀n s,s<n->s<l.length->l[s]?=r[s]?:=by
  intro n;induction n with
  |zero=>intro s q;omega
  |succ n ih=>
   intro s hs hsl;have hx:l[s]?=some l[s]:=pB hsl;have hy:r[s]?=some r[s]:=pB ω;by_cases old:∃t,t<s/\l[t]?=l[s]?
   ·have ⟨t,t1,t2⟩:=old;rw[<-t2,ih t ω ω];exact(h t s ω hsl).1 t2
   have ⟨v,v1,v2⟩:=hl s _ hx;have ⟨u,u1,u2⟩:=hr s _ hy;rw[hx,hy,v1,u1];rcases nE v u with q|q|q
   ·exfalso;have ⟨t,t1,t2⟩:=u2 v q;exact old ⟨t,t1,by rw[ih t ω ω,t2,hx,v1]⟩
   ·rw[q]
   exfalso;have ⟨t,t1,t2⟩:=v2 u q;have:r[t]?=r[s]?:=by rw[<-ih t ω ω,t2,hy,u1]
   exact old ⟨t,t1,(h t s ω hsl).2 this⟩
 apply gW;intro s;by_cases hs:s<l.length
 ·exact gen (s+1) s ω hs
 rw[pL ω,pL ω]
def z9D {K V:Type}[BEq K](x:K)(v:V):∀l:List (K×V),VU l x=none->(z35 l x v).length=l.length+1
 |[],_=>rfl
 |p::l,hg=>by
  simp only[VU]at hg;split at hg
  ·cases hg
  rename_i q;simp only[z35,q];show((p::z35 l x v).length)=_;rw[gQ,z9D x v l hg,gQ]
section
variable {m:z6}(h:VM m)
include h
def zgJ (m:z6)(p:TB)(s t:Nat):Prop:=p[s]?=p[t]?/\∀j,j<kk m->sgN m p s j=sgN m p t j
theorem z8l (hp:p.length=m.i.length):Ret (Zf m p) λq=>q.length=m.i.length/\Rgf q/\∀s t:Nat,s<m.i.length->t<m.i.length->(q[s]?=q[t]?↔zgJ m p s t):=by
 have hN:=h.w;have hk:=h.kk_le;have hkey:∀s,s<m.i.length->∃key:zJ,key.P=(p[s]?).getD 0/\key.F.toL=(List.range 16).map (sgN m p s)/\kL m p (s:Int)=some key.F:=by intro s hs;have ⟨a,a1,a2⟩:=zfb h hp hs;exact⟨⟨(p[s]?).getD 0,a⟩,rfl,a2,a1⟩
 have:∃key:Nat->zJ,∀s,s<m.i.length->(key s).P=(p[s]?).getD 0/\(key s).F.toL=(List.range 16).map (sgN m p s)/\kL m p (s:Int)=some (key s).F:=by
  classical
  refine⟨λs=>if q:s<m.i.length then(hkey s q).choose else⟨0,zw.mk ⟨0,0⟩ ⟨0,0⟩ ⟨0,0⟩ ⟨0,0⟩ ⟨0,0⟩ ⟨0,0⟩ ⟨0,0⟩ ⟨0,0⟩ ⟨0,0⟩ ⟨0,0⟩ ⟨0,0⟩ ⟨0,0⟩ ⟨0,0⟩ ⟨0,0⟩ ⟨0,0⟩ ⟨0,0⟩⟩,λs hs=>?_⟩;simp[hs];exact(hkey s hs).choose_spec
 have ⟨key,hkey⟩:=this;have alike:∀s t,s<m.i.length->t<m.i.length->(key s=key t↔zgJ m p s t):=by
  intro s t hs ht;have ⟨a1,a2,_⟩:=hkey s hs;have ⟨b1,b2,_⟩:=hkey t ht;have xs:p[s]?=some p[s]:=pB ω;have xt:p[t]?=some p[t]:=pB ω;rw[xs,pX]at a1;rw[xt,pX]at b1;constructor
  ·intro e;refine⟨by rw[xs,xt,<-a1,<-b1,e],λj hj=>?_⟩;have e2:(List.range 16).map (sgN m p s)=(List.range 16).map (sgN m p t):=by rw[<-a2,<-b2,e]
   have:=congrArg (λl=>l[j]?) e2;simpa[show j<16 by omega] using this
  rintro⟨e1,e2⟩;have e3:(key s).F=(key t).F:=zhA (by
   rw[a2,b2];refine nC λj hj=>?_;by_cases q:j<kk m
   ·exact e2 j q
   unfold sgN;rw[if_neg q,if_neg q])
  have e4:(key s).P=(key t).P:=by rw[a1,b1];rw[xs,xt]at e1;exact Option.some.inj e1
  revert e3 e4;generalize key s=u;generalize key t=v;intro e3 e4;have ⟨u0,u1⟩:=u;have ⟨v0,v1⟩:=v;simp only at e3 e4;rw[e3,e4]
 unfold Zf Ze;rw[gdT ω,zi];refine Ret.mono ?_ λq hq=>z8.2 hq;refine zz (λst=>∃i:Nat,st.2.2=(i:Int)/\i<=m.i.length/\st.2.1.length=m.i.length/\(∀s,s<i->∃v:Nat,st.2.1[s]?=some (v:Int)/\v<st.1.length/\VU st.1 (key s)=some (v:Int)/\∀w:Nat,w<v->∃t,t<s/\st.2.1[t]?=some (w:Int))/\(∀w:Nat,w<st.1.length->∃t,t<i/\st.2.1[t]?=some (w:Int)) /\
   (∀k v,VU st.1 k=some v->∃t,t<i/\key t=k)/\∀s t:Nat,s<i->t<i->st.2.1[s]?=st.2.1[t]?->key s=key t) (λst=>100-st.2.2.toNat) ⟨0,rfl,ω,by simp[hp],λs q=>ω,λw q=>by simp at q,λk v q=>by simp[VU]at q,λs t q=>ω⟩ (by show 100-_<_;omega) ?_
 rintro⟨names,out,_⟩ ⟨i,rfl,hi,ho,h1,h2,h3,h4⟩;simp only at ho h1 h2 h3 h4;show Ret (Zd m p names out (i:Int)) _;unfold Zd;rw[zj];refine⟨λhc=>?_,λhc=>?_⟩
 ·have hc:(i:Int)<(p.length:Int):=of_decide_eq_true hc;have hiN:i<m.i.length:=ω
  have ⟨a1,a2,a3⟩:=hkey i hiN;have xi:p[i]?=some p[i]:=pB ω;rw[xi,pX]at a1;have hmk:zJ.mk p[i] (key i).F=key i:=by rw[<-a1]
  have w2:w64 ((i:Int)+1)=((i+1:Nat):Int):=by rw[zr ω ω];rfl
  have hoi:out[i]?=some out[i]:=pB ω;rw[bdT (zu xi),bdT a3,oB,hmk];cases hg:VU names (key i) with
  |none=>
   rw[Option.isSome_none,nM,cond_true];unfold vn;have hfresh:∀t,t<i->key t≠key i:=λt ht e=>by have ⟨v,_,_,v3,_⟩:=h1 t ht;rw[e,hg]at v3;cases v3
   have hlen:=z9D (key i) (names.length:Int) names hg;rw[hmk,z2e,if_pos ς,pX,oB,bdT (zu hoi),z8,w2,pE];have keep:∀t:Nat,t<i->(out.set i (names.length:Int))[t]?=out[t]?:=λt ht=>gS ω;have new:(out.set i (names.length:Int))[i]?=some (names.length:Int):=mD ω;refine⟨⟨i+1,rfl,ω,by simp[ho],λs hs=>?_,λw hw=>?_,λk v q=>?_,λs t hs ht q=>?_⟩,by simp;omega⟩
   ·simp only
    by_cases e:s=i
    ·subst e;refine⟨names.length,new,ω,by rw[z2e,if_pos ς],λw hw=>?_⟩;have ⟨t,t1,t2⟩:=h2 w hw;exact⟨t,t1,by rw[keep t t1];exact t2⟩
    have ⟨v,v1,v2,v3,v4⟩:=h1 s ω;refine⟨v,by rw[keep s ω];exact v1,ω,?_,λw hw=>?_⟩
    ·rw[z2e,if_neg (by simpa using λq=>hfresh s ω q.symm)];exact v3
    have ⟨t,t1,t2⟩:=v4 w hw;exact⟨t,t1,by rw[keep t ω];exact t2⟩
   ·simp only at hw ⊢;by_cases e:w<names.length
    ·have ⟨t,t1,t2⟩:=h2 w e;exact⟨t,ω,by rw[keep t t1];exact t2⟩
    have:w=names.length:=ω
    subst this;exact⟨i,ω,new⟩
   ·simp only at q;rw[z2e]at q;by_cases e:key i=k
    ·exact⟨i,ω,e⟩
    rw[if_neg (ξ e)]at q;have ⟨t,t1,t2⟩:=h3 k v q;exact⟨t,ω,t2⟩
   simp only at q;have low:∀t,t<i->out[t]?≠some (names.length:Int):=λt ht g=>by have ⟨v,v1,v2,_⟩:=h1 t ht;rw[v1]at g;have:=Option.some.inj g;omega
   by_cases es:s=i
   ·by_cases et:t=i
    ·rw[es,et]
    exfalso;rw[es,new,keep t ω]at q;exact low t ω q.symm
   by_cases et:t=i
   ·exfalso;rw[et,new,keep s ω]at q;exact low s ω q
   rw[keep s ω,keep t ω]at q;exact h4 s t ω ω q
  |some v=>
   rw[Option.isSome_some,mH,cond_false];unfold vn;have ⟨t0,t1,t2⟩:=h3 _ _ hg;have ⟨u,u1,u2,u3,u4⟩:=h1 t0 t1;rw[t2,hg]at u3;have hvu:v=(u:Int):=Option.some.inj u3;rw[hmk,hg,pX,oB,bdT (zu hoi),z8,w2,pE];have keep:∀t:Nat,t<i->(out.set i v)[t]?=out[t]?:=λt ht=>gS ω;have new:(out.set i v)[i]?=some v:=mD ω;refine⟨⟨i+1,rfl,ω,by simp[ho],λs hs=>?_,λw hw=>?_,λk v q=>?_,λs t hs ht q=>?_⟩,by simp;omega⟩
   ·simp only
    by_cases e:s=i
    ·subst e;refine⟨u,by rw[new,hvu],u2,by rw[hg,hvu],λw hw=>?_⟩;have ⟨t,g1,g2⟩:=u4 w hw;exact⟨t,ω,by rw[keep t ω];exact g2⟩
    have ⟨v',v1,v2,v3,v4⟩:=h1 s ω;refine⟨v',by rw[keep s ω];exact v1,v2,v3,λw hw=>?_⟩;have ⟨t,g1,g2⟩:=v4 w hw;exact⟨t,g1,by rw[keep t ω];exact g2⟩
   ·simp only at hw⊢;have ⟨t,g1,g2⟩:=h2 w hw;exact⟨t,ω,by rw[keep t g1];exact g2⟩
   ·have ⟨t,g1,g2⟩:=h3 k v q;exact⟨t,ω,g2⟩
   simp only at q;have like:∀t,t<i->out[t]?=some v->key t=key i:=λt ht g=>by rw[<-t2];exact h4 t t0 ht t1 (by rw[g,u1,hvu])
   by_cases es:s=i
   ·by_cases et:t=i
    ·rw[es,et]
    rw[es,new,keep t ω]at q;rw[es];exact(like t ω q.symm).symm
   by_cases et:t=i
   ·rw[et,new,keep s ω]at q;rw[et];exact like s ω q
   rw[keep s ω,keep t ω]at q;exact h4 s t ω ω q
 have hc:=of_decide_eq_false hc;have:i=m.i.length:=ω
 subst this;refine z8.2 ⟨ho,λs x hx=>?_,λs t hs ht=>?_⟩
 ·have hs:s<m.i.length:=by have:=(pC.1 hx).1;omega
  have ⟨v,v1,_,_,v4⟩:=h1 s hs;rw[hx]at v1;exact⟨v,Option.some.inj v1,v4⟩
 rw[<-alike s t hs ht];refine⟨h4 s t hs ht,λe=>?_⟩;have ⟨v,v1,_,v3,_⟩:=h1 s hs;have ⟨u,u1,_,u3,_⟩:=h1 t ht;rw[e,u3]at v3;rw[v1,u1,<-Option.some.inj v3]
end
def zcW (a b:TB)(ha:a.length<4611686018427387904):vH a b=some (decide (a=b)):=by
 unfold vH ui;by_cases hl:a.length=b.length
 ·have e:((a.length:Int) !=(b.length:Int))=false:=by simp[hl]
  rw[e,cond_false,vt a ha (step:=λs=>wp a b s) (λi x=>if b[i]?=some x then none else some false) ?_ ?_]
  ·by_cases q:a=b
   ·rw[UD λi x hx=>by rw[mC,<-q,if_pos hx]];simp[oS,q]
   cases hf:y5 (λi x=>if b[i]?=some x then none else some false) a 0 with
   |none=>
    exfalso;refine q (gW λi=>?_);by_cases hi:i<a.length
    ·have hx:a[i]?=some a[i]:=pB hi;have:=ZG hf i _ hx;rw[mC]at this;split at this
     ·rename_i g;rw[hx,g]
     cases this
    rw[pL ω,pL ω]
   |some r=>
    have ⟨i,x,_,h2⟩:=kH hf;split at h2
    ·cases h2
    cases h2;simp[oS,q]
  ·intro i x hx;have hi:=(pC.1 hx).1;have hy:b[i]?=some b[i]:=pB ω;unfold wp;rw[decide_eq_true ω,cond_true,bdT (zu hx),bdT (zu hy),hy];by_cases e2:x=b[i]
   ·rw[e2,bne_self_eq_false,cond_false,if_pos rfl];rfl
   have e3:(x !=b[i])=true:=ξ e2
   rw[e3,cond_true,if_neg λg=>e2 (Option.some.inj g).symm];rfl
  unfold wp;rw[decide_eq_false ω,cond_false]
 have e:((a.length:Int) !=(b.length:Int))=true:=by simpa using λg:(a.length:Int)=b.length=>hl ω
 rw[e,cond_true,decide_eq_false λq=>hl (by rw[q])]
section
variable {m:z6}(h:VM m)
include h
omit h in theorem seq_out {s t:Nat} (q:SEq m s t) {j:Nat} (hj:j<kk m):(E m s j).r=(E m t j).r/\∀w:TC,(∀i∈w,i<kk m)->rsp m (E m s j).o w=rsp m (E m t j).o w:=by
 have gen:∀w:TC,(∀i∈w,i<kk m)->(E m s j).r=(E m t j).r/\rsp m (E m s j).o w=rsp m (E m t j).o w:=by intro w hw;have:=q (j::w) (λi hi=>by rcases pG.1 hi with rfl|g;exact hj;exact hw i g);simp only[rsp,ul,List.cons.injEq]at this;exact this
 exact⟨(gen [] ς).1,λw hw=>(gen w hw).2⟩
theorem zbC (hp:p.length=m.i.length)(hq:∀s t,s<m.i.length->t<m.i.length->SEq m s t->p[s]?=p[t]?){s t:Nat}(hs:s<m.i.length)(ht:t<m.i.length)(q:SEq m s t):zgJ m p s t:=by
 refine⟨hq s t hs ht q,λj hj=>?_⟩;have ⟨o1,o2⟩:=seq_out q hj;have hes:=h.edgeAt hs hj;have het:=h.edgeAt ht hj;unfold sgN;rw[if_pos hj,if_pos hj,o1];rcases hes with⟨a1,a2⟩|⟨a1,a2,a3,a4⟩
 ·rcases het with⟨b1,b2⟩|⟨b1,b2,b3,b4⟩
  ·rw[if_pos a1,if_pos b1]
  omega
 rcases het with⟨b1,b2⟩|⟨b1,b2,b3,b4⟩
 ·omega
 rw[if_neg ω,if_neg ω];have e1:(((E m s j).o.toNat:Nat):Int)=(E m s j).o:=ω
 have e2:(((E m t j).o.toNat:Nat):Int)=(E m t j).o:=ω
 have:=hq _ _ ω ω (show SEq m (E m s j).o.toNat (E m t j).o.toNat from λw hw=>by rw[e1,e2];exact o2 w hw);rw[this]
theorem zcQ (hp:p.length=m.i.length)(hr:Rgf p)(hf:∀s t,s<m.i.length->t<m.i.length->p[s]?=p[t]?->zgJ m p s t):∀(w:TC) (s t:Nat),s<m.i.length->t<m.i.length->p[s]?=p[t]?->(∀i∈w,i<kk m)->rsp m (s:Int) w=rsp m (t:Int) w
 |[],_,_,_,_,_,_=>rfl
 |j::w,s,t,hs,ht,e,hw=>by
  have hj:j<kk m:=hw j ς;have hw':∀i∈w,i<kk m:=λi hi=>hw i (by simp[hi]);have hal:=(hf s t hs ht e).2 j hj;have hes:=h.edgeAt hs hj;have het:=h.edgeAt ht hj;have pos:∀u:Nat,u<m.i.length->0<=(p[u]?).getD 0:=λu hu=>by have hx:p[u]?=some p[u]:=pB ω;have ⟨v,v1,_⟩:=hr u _ hx;rw[hx,pX,v1];omega
  unfold sgN at hal;rw[if_pos hj,if_pos hj]at hal;have a0:=congrArg wF.e0 hal;have a1:=congrArg wF.e1 hal;simp only at a0 a1;simp[rsp,ul,a0,List.cons.injEq,true_and];rcases hes with⟨b1,b2⟩|⟨b1,b2,b3,b4⟩
  ·rcases het with⟨c1,c2⟩|⟨c1,c2,c3,c4⟩
   ·rw[b1,c1]
   rw[if_pos b1,if_neg ω]at a1;have:=pos (E m t j).o.toNat ω;omega
  rcases het with⟨c1,c2⟩|⟨c1,c2,c3,c4⟩
  ·rw[if_neg ω,if_pos c1]at a1;have:=pos (E m s j).o.toNat ω;omega
  rw[if_neg ω,if_neg ω]at a1;have x1:p[(E m s j).o.toNat]?=some p[(E m s j).o.toNat]:=pB ω;have x2:p[(E m t j).o.toNat]?=some p[(E m t j).o.toNat]:=pB ω;have:=zcQ hp hr hf w (E m s j).o.toNat (E m t j).o.toNat ω ω (by rw[x1,x2]at a1⊢;exact congrArg some a1) hw';have e1:(((E m s j).o.toNat:Nat):Int)=(E m s j).o:=ω
  have e2:(((E m t j).o.toNat:Nat):Int)=(E m t j).o:=ω
  rw[e1,e2]at this;exact this
def Jv (N:Nat)(p:TB):Nat:=((List.range N).flatMap λs=>(List.range N).map λt=>(s,t)).countP λx=>decide (p[x.1]?=p[x.2]?)
omit h in
theorem z7g {N s t:Nat}:(s,t)∈((List.range N).flatMap λs=>(List.range N).map λt=>(s,t))↔s<N/\t<N:=by
 simp only[mX,pY,gN,Prod.mk.injEq];constructor
 ·rintro⟨a,ha,b,hb,rfl,rfl⟩;exact⟨ha,hb⟩
 rintro⟨a,b⟩;exact⟨s,a,t,b,rfl,rfl⟩
theorem zaY:Ret (Zh m) λr=>r.2.2=0/\r.1.length=m.i.length/\Rgf r.1/\∀s t:Nat,s<m.i.length->t<m.i.length->(r.1[s]?=r.1[t]?↔SEq m s t):=by
 have hN:=h.w;have hN1:=h.D;unfold Zh Vb;rw[V4,z0y h,oB,bne_self_eq_false,cond_false,oB];unfold jW;rw[gdT ω,zi,zi];have e0:(m.i.length:Int).toNat=m.i.length:=ς
 rw[e0];refine(zz (R:=λy:LR (TB×Int) Empty=>∃p n,y=.next (p,n)/\p.length=m.i.length/\Rgf p/\∀s t:Nat,s<m.i.length->t<m.i.length->(p[s]?=p[t]?↔SEq m s t))
  (λst:LR (TB×Int) Empty×TB=>(∃x,st.1=.next x)/\st.2.length=m.i.length/\Rgf st.2/\∀s t:Nat,s<m.i.length->t<m.i.length->SEq m s t->st.2[s]?=st.2[t]?) (λst=>Jv m.i.length st.2) ⟨⟨_,rfl⟩,ς,?_,?_⟩ ?_ ?_).mono ?_
 ·intro s x hx;simp only[gR]at hx;split at hx
  ·cases hx;exact⟨0,rfl,λw q=>ω⟩
  cases hx
 ·intro s t hs ht _;simp only[gR];rw[if_pos hs,if_pos ht]
 ·have:Jv m.i.length (List.replicate m.i.length (0:Int))<=((List.range m.i.length).flatMap λs=>(List.range m.i.length).map λt=>(s,t)).length:=sJ;have e:((List.range m.i.length).flatMap λs=>(List.range m.i.length).map λt=>(s,t)).length=m.i.length*m.i.length:=by rw[List.length_flatMap];simp only[gD,List.length_range,List.map_const',List.sum_replicate_nat]
  rw[e]at this;have:=gY hN hN;show Jv m.i.length (List.replicate m.i.length (0:Int))<18446744073709551616;omega
 ·rintro⟨y,p⟩ ⟨⟨⟨x,n⟩,rfl⟩,hp,hr,hq⟩;simp only at hp hr hq;show Ret (uk m (yOf λs x=>vo s.1 s.2 x) (.next (x,n)) p) _;unfold uk;simp only[yOf,vo,oB,cond_true];rw[zi];refine(z8l h hp).mono ?_;rintro q ⟨q1,q2,q3⟩;rw[zcW p q ω,oB,zj];refine⟨λhc=>?_,λhc=>?_⟩
  ·have hc:p=q:=of_decide_eq_true hc;rw[z8];refine⟨p,w64 (n+1),rfl,hp,hr,λs t hs ht=>⟨λe w hw=>?_,hq s t hs ht⟩⟩;exact zcQ h hp hr (λs t hs ht e=>(q3 s t hs ht).1 (by rw[<-hc];exact e)) w s t hs ht e hw
  have hc:¬p=q:=of_decide_eq_false hc;rw[z8];refine⟨⟨⟨_,rfl⟩,q1,q2,λs t hs ht e=>(q3 s t hs ht).2 (zbC h hp hq hs ht e)⟩,?_⟩;show Jv m.i.length q<Jv m.i.length p;unfold Jv;refine z3p (λz hz hd=>?_) ?_
  ·have ⟨s,t⟩:=z;have ⟨hs,ht⟩:=z7g.1 hz;simp only[decide_eq_true_eq]at hd⊢;exact((q3 s t hs ht).1 hd).1
  refine gE λg=>hc (z9l hr q2 ω λs t hs ht=>⟨λe=>?_,λe=>((q3 s t ω ω).1 e).1⟩);refine gE λg2=>g ⟨(s,t),z7g.2 ⟨ω,ω⟩,ξ e,ξ g2⟩
 rintro y ⟨p,n,rfl,g1,g2,g3⟩;rw[z8];unfold Zg;simp only;rw[z8];exact⟨rfl,g1,g2,g3⟩
end
variable {m:z6}
def SEq.refl (s:Nat):SEq m s s:=λ_ _=>rfl
def SEq.symm {s t:Nat}(h:SEq m s t):SEq m t s:=λw hw=>(h w hw).symm
def SEq.trans {s t u:Nat}(h:SEq m s t)(k:SEq m t u):SEq m s u:=λw hw=>(h w hw).trans (k w hw)
structure ZM (m:z6)(F:TC):Prop where
 sorted:zal m F
 acc:∀t∈F,t<m.i.length/\∃v,Acc m t v
 dist:F.Pairwise λs t=>¬SEq m s t
 all:∀t v,t<m.i.length->Acc m t v->∃s∈F,SEq m s t/\∃w,Acc m s w/\rk (kk m) w<=rk (kk m) v
section
variable {m:z6}(h:VM m)(hG:GG (kk m) m.i.length<=1000000000)
include h hG
theorem zaT:Ret (kN m) λo=>∃F:TC,o=F.map Int.ofNat/\ZM m F:=by
 have l64:=h.w;unfold kN W8;rw[zi];refine(z3r h.wm).mono ?_;rintro p ⟨p1,p2⟩;rw[zi];refine(zc4 h hG).mono ?_;rintro o ⟨L,rfl,s1,s2,s3⟩;have hLn:L.length<=m.i.length:=by refine Wg _ L ?_ λx hx=>(s2 x hx).1;refine rP ?_ s1;intro a b ha hb q e;subst e;have ⟨v,hv⟩:=(s2 a ha).2;exact sC _ (q v v hv hv)
 rw[zi];refine Ret.mono (Q:=λo=>∃F:TC,o=F.map Int.ofNat/\ZM m F) ?_ λo ho=>z8.2 ho;let J:TC->Nat->Prop:=λF k=>k<=L.length/\F.length<=k/\F.Sublist (L.take k)/\(F.Pairwise λs t=>¬SEq m s t)/\∀t∈L.take k,∃s∈F,SEq m s t/\∀v w,Acc m s w->Acc m t v->rk (kk m) w<=rk (kk m) v;refine zz (λq=>∃(F:TC) (k:Nat),q.1=F.map Int.ofNat/\q.2=(k:Int)/\J F k) (λq=>1000-q.2.toNat) ⟨[],0,rfl,rfl,pQ _,pF _,List.nil_sublist _,List.Pairwise.nil,λt ht=>by simp at ht⟩ ς ?_;rintro⟨out,q⟩ ⟨F,k,e1,e2,j1,j2,j3,j4,j5⟩;simp only at e1 e2;subst e1;subst e2;have cl:∀n,n<L.length->∃x,p[L[n]!]?=some x:=by
  intro n hn;have hm:L[n]!∈L:=by rw[getElem!_pos L n hn];exact pO hn
  have:=(s2 _ hm).1;exact⟨_,pB ω⟩
 have gx:∀n,n<L.length->(L.map Int.ofNat)[n]?=some ((L[n]!:Nat):Int):=by intro n hn;rw[getElem!_pos L n hn];simp[hn]
 have gl:∀n,n<L.length->L[n]!∈L/\L[n]! < m.i.length:=by
  intro n hn;have hm:L[n]!∈L:=by rw[getElem!_pos L n hn];exact pO hn
  exact⟨hm,(s2 _ hm).1⟩
 unfold QV;rw[zj];refine⟨λhc=>?_,λhc=>?_⟩
 ·have hk:k<L.length:=ξ hc
  have hw:∀k:Nat,k<1000->w64 ((k:Int)+1)=((k+1:Nat):Int):=λk hk=>by rw[zr ω ω];rfl
  rw[zi];have inner:Ret (loop (λs=>W6 p (L.map Int.ofNat) (k:Int) s.1 s.2) (0,0)) λc=>(c=0/\∀n,n<k->¬SEq m L[n]! L[k]!)\/(c=1/\∃n,n<k/\SEq m L[n]! L[k]!):=by
   refine zz (λq=>∃n:Nat,q.2=(n:Int)/\n<=k/\((q.1=0/\∀i,i<n->¬SEq m L[i]! L[k]!)\/(q.1=1/\∃i,i<k/\SEq m L[i]! L[k]!))) (λq=>1000-q.2.toNat) ⟨0,rfl,pQ _,.inl ⟨rfl,λi hi=>ω⟩⟩ ς ?_;rintro⟨c,q⟩ ⟨n,e2,n1,n2⟩;simp only at e2 n2;subst e2;unfold W6 Zo;rw[zj];refine⟨λhc=>?_,λhc=>?_⟩
   ·have hn:n<k:=ξ hc
    have ⟨x,hx⟩:=cl n ω;have ⟨y,hy⟩:=cl k hk;rw[zA,bdT (gx n ω),zA,bdT hx,zA,bdT (gx k hk),zA,bdT hy,hw n ω,zj];have hs:=p2 _ _ (gl n ω).2 (gl k hk).2;rw[hx,hy,Option.some.injEq]at hs;refine⟨λe=>?_,λe=>?_⟩
    ·have:SEq m L[n]! L[k]!:=hs.1 (ξ e);exact z8.2 ⟨⟨n+1,rfl,hn,.inr ⟨rfl,n,hn,this⟩⟩,by simp[pE];omega⟩
    have hno:¬SEq m L[n]! L[k]!:=λg=>by have:=hs.2 g;simp[this]at e
    refine z8.2 ⟨⟨n+1,rfl,hn,?_⟩,by simp[pE];omega⟩;rcases n2 with⟨c0,n2⟩|n2
    ·refine .inl ⟨c0,λi hi=>?_⟩;rcases pM i n with q|q
     ·exact n2 i q
     have:i=n:=ω
     subst this;exact hno
    exact .inr n2
   have:n=k:=by
    have:¬n<k:=ξ hc
    omega
   subst this;exact z8.2 n2
  refine inner.mono λc hc=>?_;have hx':L[k]?=some L[k]!:=by rw[getElem!_pos L k hk];exact pB hk
  have htk:L.take (k+1)=L.take k++[L[k]!]:=by rw[gI,hx'];rfl
  have hmt:∀n,n<k->L[n]!∈L.take k:=by
   intro n hn;rw[getElem!_pos L n ω];have:(L.take k)[n]'(by simp;omega)=L[n]:=ς
   rw[<-this];exact pO _
  unfold W7;rw[zj];have fin:∀F':TC,J F' (k+1)->Ret (qD (k:Int) (F'.map Int.ofNat)) (LRP (λs'=>(∃(F:TC) (k:Nat),s'.1=F.map Int.ofNat/\s'.2=(k:Int)/\J F k)/\1000-s'.2.toNat<1000-(k:Int).toNat) λo=>∃F:TC,o=F.map Int.ofNat/\ZM m F):=by intro F' hF;unfold qD;rw[hw k ω];exact z8.2 ⟨⟨F',k+1,rfl,rfl,hF⟩,by simp[pE];omega⟩
  rcases hc with⟨rfl,hc⟩|⟨rfl,n,hn,hc⟩
  ·refine⟨λ_=>?_,λe=>by simp at e⟩;rw[zA,bdT (gx k hk),Xe];refine⟨by simp;omega,?_⟩;have e3:F.map Int.ofNat++([((L[k]!:Nat):Int)]:TB)=(F++[L[k]!]).map Int.ofNat:=ς
   rw[e3];refine fin _ ⟨hk,by simp;omega,by rw[htk];exact List.Sublist.append j3 (List.Sublist.refl _),?_,λt ht=>?_⟩
   ·rw[rh];refine⟨j4,List.pairwise_singleton _ _,λa ha b hb e=>?_⟩;have hb:b=L[k]!:=ξ hb
    subst hb;have ha':a∈L.take k:=j3.subset ha;have ⟨i,hi,e4⟩:=List.getElem_of_mem ha';have hi':i<k/\i<L.length:=by rw[hU]at hi;omega
    have:L[i]! = a:=by rw[getElem!_pos L i ω,<-e4];simp
    exact hc i hi'.1 (by rw[this];exact e)
   rw[htk,pD]at ht;rcases ht with ht|ht
   ·have ⟨s,q1,q2,q3⟩:=j5 t ht;exact⟨s,pD.2 (.inl q1),q2,q3⟩
   have:t=L[k]!:=ξ ht
   subst this;exact⟨_,pD.2 (.inr ς),SEq.refl _,λv w hv hv'=>by rw[XG hv hv'];exact pF _⟩
  refine⟨λe=>by simp at e,λ_=>fin F ⟨hk,ω,by rw[htk];exact j3.trans (List.sublist_append_left _ _),j4,λt ht=>?_⟩⟩;rw[htk,pD]at ht;rcases ht with ht|ht
  ·exact j5 t ht
  have:t=L[k]!:=ξ ht
  subst this;have ⟨s,q1,q2,q3⟩:=j5 _ (hmt n hn);refine⟨s,q1,q2.trans hc,λv w hw' hv'=>?_⟩;have ⟨u,hu⟩:=(s2 _ (gl n ω).1).2;refine pJ (q3 u w hw' hu) (Nat.le_of_lt ?_);have:=mL.1 s1 n k ω hk hn;rw[<-getElem!_pos L n ω,<-getElem!_pos L k hk]at this;exact this u v hu hv'
 have hk:¬k<L.length:=ξ hc
 have:k=L.length:=ω
 subst this;rw[mG]at j3 j5;refine z8.2 ⟨F,rfl,rZ j3 s1,λt ht=>s2 t (j3.subset ht),j4,λt v ht hv=>?_⟩;have hmem:t∈L:=gE λg=>s3 t ht g v hv.wd hv.aft;have ⟨s,q1,q2,q3⟩:=j5 t hmem;have ⟨w,hw⟩:=(s2 s (j3.subset q1)).2;exact⟨s,q1,q2,w,hw,q3 v w hw hv⟩
end
def Rch (m:z6)(t:Nat):Prop:=∃u,Wd (kk m) u/\aft m 0 u=(t:Int)
def Ka {out:List Bool}{j t:Nat}(hj:j<out.length):(out.set j true)[t]?=some true↔t=j\/out[t]?=some true:=by
 by_cases e:t=j
 ·subst e;simp[hj]
 rw[gS (rA e)];exact⟨.inr,λq=>q.resolve_left e⟩
section
variable {m:z6}(h:VM m)
include h
omit h in theorem rch_step {s i:Nat} (hs:Rch m s) (hi:i<kk m) (h0:0<=(E m s i).o):Rch m (E m s i).o.toNat:=by
 obtain⟨u,hu,e⟩:=hs;refine⟨u++[i],λj hj=>?_,?_⟩
 ·rcases pD.1 hj with q|q
  ·exact hu j q
  have:j=i:=ξ q
  omega
 have:=(vj m u 0 i).2;rw[e,ul]at this;rw[this];omega
theorem z8m:Ret (Xm m 0) λis=>is.length=m.i.length/\∀t,t<m.i.length->(is[t]?=some true↔Rch m t):=by
 have l64:=h.w;have l1:=h.D;have hk2:=h.kk_le;have hke:=h.kk_eq;have w1:∀n:Nat,n<1000->w64 ((n:Int)+1)=((n+1:Nat):Int):=λn hn=>by rw[zr ω ω];rfl
 unfold Xm Xa;rw[Xe];refine⟨ω,?_⟩;have e0:idx (List.replicate (m.i.length:Int).toNat false) 0=some false:=by show(List.replicate (m.i.length:Int).toNat false)[0]?=some false;rw[gR,if_pos (by rw[pE];omega)]
 rw[bdT e0,zi];let S:List Bool->Prop:=λout=>out.length=m.i.length/\∀t:Nat,out[t]?=some true->Rch m t;refine Ret.mono (Q:=λis=>is.length=m.i.length/\∀t,t<m.i.length->(is[t]?=some true↔Rch m t)) ?_ λo ho=>z8.2 ho;refine zz (λq=>∃r:Nat,q.2=(r:Int)/\r<=m.i.length/\S q.1/\∀(u:TC) (t:Nat),Wd (kk m) u->u.length<=r->aft m 0 u=((t:Nat):Int)->q.1[t]?=some true) (λq=>1000-q.2.toNat) ⟨0,rfl,pQ _,⟨ς,λt ht=>?_⟩,λu t hu hl e=>?_⟩ ς ?_
 ·rw[show(0:Int).toNat=0 from rfl,Ka (by rw[mR,pE];omega)]at ht;rcases ht with rfl|ht
  ·exact⟨[],λi hi=>by simp at hi,rfl⟩
  rw[gR]at ht;split at ht<;>simp at ht
 ·have:u=[]:=nF ω;subst this;have:t=0:=by simp[aft]at e;omega
  subst this;rw[show(0:Int).toNat=0 from rfl,Ka (by rw[mR,pE];omega)];exact .inl rfl
 rintro⟨out1,q⟩ ⟨r,e1,r1,r2,r3⟩;simp only at e1 r2 r3;subst e1;unfold UR X9;rw[zj];refine⟨λhc=>?_,λhc=>?_⟩
 ·have hr:r<m.i.length:=ξ hc
  rw[zi];let C:List Bool->Nat->Nat->Prop:=λout s i=>S out/\(∀t:Nat,out1[t]?=some true->out[t]?=some true)/\∀s' i':Nat,(s' < s\/s'=s/\i' < i)->i' < kk m->s' < m.i.length->out1[s']?=some true->0<=(E m s' i').o->out[(E m s' i').o.toNat]?=some true;have round:Ret (loop (λs=>X7 m s.1 s.2) (out1,0)) λout=>C out m.i.length 0:=by
   refine zz (λq=>∃s:Nat,q.2=(s:Int)/\s<=m.i.length/\C q.1 s 0) (λq=>1000-q.2.toNat) ⟨0,rfl,pQ _,r2,λt ht=>ht,λs' i' hh=>ω⟩ ς ?_;rintro⟨out3,q⟩ ⟨s,e1,s1,s2⟩;simp only at e1 s2;subst e1;unfold X7 X8;rw[zj];refine⟨λhc=>?_,λhc=>?_⟩
   ·have hs:s<m.i.length:=ξ hc
    rw[zi];have row:Ret (loop (λq=>X6 m (s:Int) q.1 q.2) (out3,0)) λout=>C out s (kk m):=by
     refine zz (λq=>∃i:Nat,q.2=(i:Int)/\i<=kk m/\C q.1 s i) (λq=>1000-q.2.toNat) ⟨0,rfl,pQ _,s2⟩ ς ?_;rintro⟨out5,q⟩ ⟨i,e1,i1,c1,c2,c3⟩;simp only at e1 c1 c2 c3;subst e1;unfold X6 uz;rw[zj];refine⟨λhc=>?_,λhc=>?_⟩
     ·have hi:i<kk m:=by rw[<-hke]at hc;simpa using hc
      have he:=h.edgeAt hs hi;have hl:s<out5.length:=by rw[c1.1];exact hs
      rw[h.edge_eq hs hi,zA,bdT (pB hl),zj,w1 i ω];have fin:∀out:List Bool,C out s (i+1)->Ret (some (LR.next (out,((i+1:Nat):Int)):LR (List Bool×Int) (List Bool))) (LRP (λs'=>(∃i:Nat,s'.2=(i:Int)/\i<=kk m/\C s'.1 s i)/\1000-s'.2.toNat<1000-(i:Int).toNat) λout=>C out s (kk m)):=by intro out hC;exact z8.2 ⟨⟨i+1,rfl,hi,hC⟩,by simp[pE];omega⟩
      have keep:(out1[s]?=some true->0<=(E m s i).o->out5[(E m s i).o.toNat]?=some true)->C out5 s (i+1):=by
       intro hh;refine⟨c1,c2,λs' i' g1 g2 g3 g4 g5=>?_⟩;by_cases e:s'=s/\i'=i
       ·obtain⟨rfl,rfl⟩:=e;exact hh g4 g5
       exact c3 s' i' ω g2 g3 g4 g5
      refine⟨λhb=>?_,λhb=>?_⟩
      ·have hb':out5[s]?=some true:=by rw[pB hl,hb]
       rw[zj];refine⟨λhc=>?_,λhc=>?_⟩
       ·have h0:0<=(E m s i).o:=ξ hc
        have ht:(E m s i).o.toNat<out5.length:=by rw[c1.1];omega
        have ⟨n,hn⟩:=rj h0;obtain⟨y,hx⟩:∃y,idx out5 (E m s i).o=some y:=by rw[hn]at ht⊢;exact⟨_,pB ht⟩
        rw[bdT hx];refine fin _ ⟨⟨ξ c1.1,λt hh=>?_⟩,λt hh=>(Ka ht).2 (.inr (c2 t hh)),λs' i' g1 g2 g3 g4 g5=>(Ka ht).2 ?_⟩
        ·rcases(Ka ht).1 hh with rfl|hh
         ·exact rch_step (c1.2 s hb') hi h0
         exact c1.2 t hh
        by_cases e:s'=s/\i'=i
        ·obtain⟨rfl,rfl⟩:=e;exact .inl rfl
        exact .inr (c3 s' i' ω g2 g3 g4 g5)
       have h0:¬0<=(E m s i).o:=ξ hc
       exact fin _ (keep λ_ g=>(h0 g).elim)
      have hb':out5[s]?=some false:=by rw[pB hl,hb]
      refine fin _ (keep λg _=>?_);have:=c2 s g;rw[hb']at this;cases this
     have:i=kk m:=by
      have:¬i<kk m:=by rw[<-hke]at hc;simpa using hc
      omega
     subst this;exact z8.2 ⟨c1,c2,c3⟩
    refine row.mono ?_;rintro out ⟨c1,c2,c3⟩;rw[w1 s ω];exact z8.2 ⟨⟨s+1,rfl,hs,c1,c2,λs' i' g1 g2 g3=>c3 s' i' ω g2 g3⟩,by simp[pE];omega⟩
   have:s=m.i.length:=by
    have:¬s<m.i.length:=ξ hc
    omega
   subst this;exact z8.2 s2
  refine round.mono ?_;rintro out ⟨c1,c2,c3⟩;rw[w1 r ω];refine z8.2 ⟨⟨r+1,rfl,hr,c1,λu t hu hl e=>?_⟩,by simp[pE];omega⟩;rcases pM r u.length with q|q
  ·obtain⟨u',i,rfl⟩:∃u' i,u=u' ++ [i]:=by
    rcases rH u with e|⟨u',i,e⟩
    ·subst e;simp at q
    exact⟨u',i,ξ e⟩
   have hu':Wd (kk m) u':=λj hj=>hu j (by simp[hj]);have hi:=hu i ς;rw[(vj m u' 0 i).2]at e;have h1:=z4O h u' 0 ⟨ω,ω⟩ hu';have h0:0<=aft m 0 u':=by
    rcases Int.lt_or_le (aft m 0 u') 0 with g|g
    ·unfold nxE at e;rw[if_pos g]at e;simp only at e;omega
    exact g
   have ⟨s,hs⟩:=rj h0;have hsN:s<m.i.length:=by have:=h1.2;omega
   rw[hs,ul]at e;have:=c3 s i (.inl hsN) hi hsN (r3 u' s hu' (by simp at hl;omega) hs) ω;rw[e]at this;simpa using this
  exact c2 t (r3 u t hu ω e)
 have:r=m.i.length:=by
  have:¬r<m.i.length:=ξ hc
  omega
 subst this;refine z8.2 ⟨r2.1,λt ht=>⟨r2.2 t,?_⟩⟩;rintro⟨u,hu,e⟩;have ⟨w,x1,x2,x3,x4⟩:=Kq h u.length u (pF _) hu ω;exact r3 w t x1 ω (x4.trans e)
end
def z1k (w:TB):zO w=some w:=by unfold zO;rw[gdT ω];simp
def za7 (w:TB)(h:w.length<=4294967296):y9 w=some w:=by unfold y9;rw[gdT (ξ h)]
def z9d (a b:TB)(h:a.length<4611686018427387904):jI a b=some (decide (a=b)):=by
 unfold jI;rw[VR a b h];simp[oB];by_cases e:a=b
 ·subst e;simp[Jl]
 have:jE a b≠0:=λq=>e (z3q q);simp[e,this]
def QW (l:TA):Prop:=l.Pairwise λa b=>¬jE b a<0
def Xp {l:List α}{n:Nat}{x:α}:x∈l.take n↔∃i,i<n/\l[i]?=some x:=by
 rw[gT];constructor
 ·rintro⟨i,h⟩;rw[gB]at h;split at h
  ·exact⟨i,ω,h⟩
  cases h
 rintro⟨i,h1,h2⟩;exact⟨i,by rw[gB,if_pos h1];exact h2⟩
def zbm {x:TB}(h:SW l)(hx:∀y∈l,jE y x<0):SW (l++[x]):=by unfold SW;rw[rh];exact⟨h,ς,λa ha b hb=>by simp at hb;subst hb;exact hx a ha⟩
variable {k:Nat}
section
variable {s:TA}(hq:QW s)(hl:s.length<=4294967296)(hw:∀w∈s,w.length<4611686018427387904)
include hq hl hw
omit hl hw in
theorem zfo {i j:Nat}{x y:TB}(hi:s[i]?=some x)(hj:s[j]?=some y)(h:i<=j):jE x y<0\/x=y:=by
 rcases pM i j with h|h
 ·have:=(mL.1 hq) i j (pC.1 hi).1 (pC.1 hj).1 h;rw[(pC.1 hi).2,(pC.1 hj).2]at this;rcases z64.1 this with q|q
  ·exact .inl q
  exact .inr q.symm
 have:i=j:=ω
 subst this;rw[hi]at hj;exact .inr (ξ hj)
theorem z7K (h1:1<=k)(hk:k<s.length)(hd:s[k-1]?=s[k]?)(hs:SW (s.take k)) :
  Ret (Option.bind (loop (λq=>yQ (k:Int) q.1 q.2.1 q.2.2) (s,(k:Int),1)) λt=>ye t.1 t.2) λr=>r=.done (.inr (srt s)):=by
 rw[zi];refine Ret.mono (zz (λq=>∃kk k2:Nat,q.2.1=(kk:Int)/\q.2.2=(k2:Int)/\1<=k2/\k+k2<=s.length/\kk<k+k2/\q.1.length=s.length/\(∀i,kk<=i->q.1[i]?=s[i]?)/\SW (q.1.take kk)/\∀x,x∈q.1.take kk↔x∈s.take (k+k2)) (λq=>s.length-q.2.2.toNat) (R:=λt=>∃kk:Nat,t.2=(kk:Int)/\kk<=s.length/\t.1.length=s.length/\t.1.take kk=srt s) ?_ ?_ ?_) ?_
 ·refine⟨k,1,rfl,rfl,pF _,hk,ω,rfl,λ_ _=>rfl,hs,λx=>?_⟩;rw[Xp,Xp];constructor
  ·rintro⟨i,h2,h3⟩;exact⟨i,ω,h3⟩
  rintro⟨i,h2,h3⟩;rcases pM i k with h|h
  ·exact⟨i,h,h3⟩
  have:i=k:=ω
  subst this;exact⟨i-1,ω,by rw[hd];exact h3⟩
 ·show s.length-_<_;omega
 ·rintro⟨S,a,b⟩ ⟨kk,k2,rfl,rfl,g1,g2,g3,g4,g5,g6,g7⟩;simp only at g4 g5 g6 g7;show Ret (yQ (k:Int) S (kk:Int) (k2:Int)) _;unfold yQ;rw[zj];refine⟨λhc=>?_,λhc=>?_⟩
  ·have hlt:k2<s.length - k:=by rw[g4]at hc;simpa using hc
   have e1:s[k+k2]?=some s[k+k2]:=pB ω;have e2:s[k+k2-1]?=some s[k+k2-1]:=pB ω;have f1:idx S ((k:Int)+(k2:Int))=some s[k+k2]:=by rw[<-Int.natCast_add,zA,g5 _ ω,e1]
   have f2:idx S ((k:Int)+w64 ((k2:Int)-1))=some s[k+k2-1]:=by rw[zr ω ω,show(k:Int)+((k2:Int)-1)=((k+k2-1:Nat):Int) by omega,zA,g5 _ ω,e2]
   rw[gdT ω,f1];simp only[oB];rw[gdT (by rw[zr ω ω];omega),f2];simp only[oB];rw[z9d _ _ (hw _ (pO ω))];simp only[oB];have hk2:w64 ((k2:Int)+1)=((k2+1:Nat):Int):=by rw[zr ω ω];omega
   by_cases he:s[k+k2]=s[k+k2-1]
   ·simp only[he,decide_true,mH,cond_false];unfold yc;rw[hk2,z8];refine⟨⟨kk,k2+1,rfl,rfl,ω,ω,ω,g4,g5,g6,λx=>?_⟩,by simp only[pE];omega⟩;rw[g7,Xp,Xp];constructor
    ·rintro⟨i,h2,h3⟩;exact⟨i,ω,h3⟩
    rintro⟨i,h2,h3⟩;rcases pM i (k+k2) with h|h
    ·exact⟨i,h,h3⟩
    have:i=k+k2:=ω
    subst this;exact⟨k+k2-1,ω,by rw[e2,<-he,<-e1];exact h3⟩
   simp only[he,decide_false,nM,cond_true];rw[gdT ω];have e3:idx S (kk:Int)=some s[kk]:=by rw[zA,g5 _ (pF _),pB ω]
   rw[e3];simp only[oB];unfold yc;rw[hk2,zr (x:=(kk:Int)+1) ω ω,z8];have hset:(S.set ((kk:Int).toNat) s[k+k2]).take (kk+1)=S.take kk++[s[k+k2]]:=by rw[pE,gI,List.take_set_of_le (pF _),mD ω];rfl
   refine⟨⟨kk+1,k2+1,rfl,rfl,ω,ω,ω,by simp[g4],λi hi=>?_,?_,λx=>?_⟩,by simp only[pE];omega⟩
   ·simp only
    rw[gS ω,g5 _ ω]
   ·simp only
    rw[hset];refine zbm g6 λy hy=>?_;have ⟨i,h2,h3⟩:=Xp.1 ((g7 y).1 hy);have hlast:jE s[k+k2-1] s[k+k2]<0:=by
     rcases zfo hq e2 e1 ω with q|q
     ·exact q
     exact absurd q.symm he
    rcases zfo hq h3 e2 ω with q|q
    ·exact vV q hlast
    rw[q];exact hlast
   simp only
   rw[hset,pD,g7,Xp,Xp];constructor
   ·rintro(⟨i,h2,h3⟩|h)
    ·exact⟨i,ω,h3⟩
    simp at h;subst h;exact⟨k+k2,ω,e1⟩
   rintro⟨i,h2,h3⟩;rcases pM i (k+k2) with h|h
   ·exact .inl ⟨i,h,h3⟩
   have:i=k+k2:=ω
   subst this;rw[e1]at h3;exact .inr (ξ h3.symm)
  have hge:s.length-k<=k2:=by rw[g4]at hc;simpa using hc
  have hkk:k+k2=s.length:=ω
  rw[z8];refine⟨kk,rfl,ω,g4,zbs g6 λx=>?_⟩;rw[g7,hkk,mG]
 rintro⟨S,a⟩ ⟨kk,rfl,h1,h2,h3⟩;simp only at h2 h3;show Ret (ye S (kk:Int)) _;unfold ye;have hlen:(S.take (kk:Int).toNat++List.replicate (S.length-(kk:Int).toNat) ([]:TB)).length=S.length:=by simp[hU];omega
 rw[gdT ω,gdT ω,gdT (by rw[hlen];omega),z8];simp only[pE];rw[List.take_left' (by rw[hU];omega),h3]
theorem zaX:xA s ()=some (srt s):=by
 unfold xA;by_cases h2:s.length<2
 ·have hd:decide ((s.length:Int)<2)=true:=by simp;omega
  simp[hd,cond_true];rw[z00];match s,h2 with
  |[],_=>exact SW.nil
  |[x],_=>simp[SW]
 have hd:decide ((s.length:Int)<2)=false:=by simp;omega
 simp[hd,cond_false];apply Ret.eq;rw[zi];refine Ret.mono (zz (λq:Int=>∃j:Nat,q=(j:Int)/\1<=j/\j<=s.length/\SW (s.take j)) (λq=>s.length-q.toNat) (R:=λt:Unit⊕TA=>match t with|.inl _=>srt s=s|.inr p=>p=srt s) ?_ ?_ ?_) ?_
 ·refine⟨1,rfl,pF _,ω,?_⟩;match s,h2 with
  |[],h2=>simp at h2
  |x::l,_=>simp[SW]
 ·show s.length-_<_;omega
 ·rintro _ ⟨j,rfl,g1,g2,g3⟩;show Ret (xZ s (j:Int)) _;unfold xZ;rw[zj];refine⟨λhc=>?_,λhc=>?_⟩
  ·have hj:j<s.length:=ξ hc
   have e1:s[j]?=some s[j]:=pB hj;have e2:s[j-1]?=some s[j-1]:=pB ω;rw[zr (x:=(j:Int)-1) ω ω,show(j:Int)-1=((j-1:Nat):Int) by omega,zu e1,zu e2];simp[oB];rw[z9d _ _ (hw _ (pO hj))];simp[oB];by_cases he:s[j]=s[j-1]
   ·simp[he,decide_true,cond_true];rw[gdT ω];refine(z7K hq hl hw g1 hj (by rw[e1,e2,he]) g3).mono ?_;rintro _ rfl;rfl
   simp[he,decide_false,cond_false];unfold w7;rw[zr ω ω,z8];refine⟨⟨j+1,rfl,ω,hj,?_⟩,by simp;omega⟩;have:s.take (j+1)=s.take j++[s[j]]:=by rw[gI,e1];rfl
   rw[this];refine zbm g3 λy hy=>?_;have ⟨i,h3,h4⟩:=Xp.1 hy;have hlast:jE s[j-1] s[j]<0:=by
    rcases zfo hq e2 e1 ω with q|q
    ·exact q
    exact absurd q.symm he
   rcases zfo hq h4 e2 ω with q|q
   ·exact vV q hlast
   rw[q];exact hlast
  have hj:j=s.length:=by
   have:¬j<s.length:=ξ hc
   omega
  rw[z8];show srt s=s;rw[hj,mG]at g3;exact z00 g3
 rintro(u|p) h
 ·show Ret (some s) _;rw[z8];exact h.symm
 show Ret (some p) _;rw[z8];exact h
end
def z6M (l:TA):SOk jE l :=
 ⟨λx _=>JR x,λx _ y _ z _ h1 h2=>vV h1 h2,λx _ y _ h1 h2=>by
  rcases z64.1 h1 with q|q
  ·exact absurd q h2
  exact q⟩
def zf5 {l m:TA}(h:l.Perm m):srt l=srt m:=z6L λx=>h.mem_iff
def z3d {c d:TB->TB->Int}:∀{l:TA},(∀x∈l,∀y∈l,c x y=d x y)->Kx c l=Kx d l
 |[],_=>rfl
 |x::l,h=>by
  have ih:=z3d (c:=c) (d:=d) (l:=l) λa ha b hb=>h a (by simp[ha]) b (by simp[hb]);show zb6 c x (Kx c l)=zb6 d x (Kx d l);rw[ih];have gen:∀m:TA,(∀y∈m,y∈l)->zb6 c x m=zb6 d x m:=by
   intro m;induction m with
   |nil=>intro _;rfl
   |cons y m ih2=>intro hm;simp[zb6];rw[h y (by simp[hm y ς]) x ς,ih2 λz hz=>hm z (by simp[hz])]
  exact gen _ λy hy=>(Yd d l).mem_iff.1 hy
def soR (l:TA):TA×Int:=if 4096<(srt l).length\/65536<kA (srt l) then([],3) else(srt l,0)
def Jy (hl:l.length<=100000)(hw:∀w∈l,w.length<=4294967296):xh l=some (soR l):=by
 unfold xh yp;rw[gdT (by simp;omega)];simp only[oB];have hc:∀x∈l,∀y,yG x y=some (jE x y):=λx hx y=>VR x y (by have:=hw x hx;omega);have hso:zbw (λx y=>yG x y) l=some (Kx jE l):=by
  unfold zbw;rw[gdT ⟨ω,λx hx y hy=>by simp only[hc x hx y];rfl⟩];have hcc:∀x∈l,∀y∈l,(yG x y).getD 0=jE x y:=λx hx y _=>by rw[hc x hx y];rfl
  rw[gdT,z3d (c:=λx y=>(yG x y).getD 0) (d:=jE) hcc];have q:=z6M l;refine⟨λx hx=>by show ¬(yG x x).getD 0<0;rw[hcc x hx x hx];exact q.1 x hx,λx hx y hy z hz h1 h2=>?_,λx hx y hy h1 h2=>?_⟩
  ·simp only[hcc x hx y hy,hcc y hy z hz,hcc x hx z hz]at h1 h2⊢;exact q.2.1 x hx y hy z hz h1 h2
  simp only[hcc x hx y hy,hcc y hy x hx]at h1 h2;exact q.2.2 x hx y hy h1 h2
 rw[hso];simp only[oB];have hp:=Yd jE l;have hq:QW (Kx jE l):=Jd (z6M l) (λy hy=>hy);rw[zaX hq (by rw[hp.length_eq];omega) (λw h=>by have:=hw w (hp.mem_iff.1 h);omega)];simp only[oB];unfold wq;simp only[oB];rw[zf5 hp];have hlen:(srt l).length<=100000:=pJ (XW l) hl;have hws:∀w∈srt l,w.length<=4294967296:=λw h=>hw w (ym.1 h);unfold soR;generalize srt l=r at hlen hws;have hsy:kA r<=100000*4294967296:=pJ (z5q hws) (pV _ hlen);by_cases h1:4096<r.length
 ·have:(4096:Int)<(r.length:Int):=ω
  simp[h1,this]
 have d1:decide ((r.length:Int)>4096)=false:=by simp;omega
 simp only[d1,cond_false];rw[z9a r ω,zgR ω];simp only[oB];by_cases h2:65536<kA r
 ·have:(65536:Int)<(kA r:Int):=ω
  simp[h2,this]
 have d2:decide (((kA r:Nat):Int)>65536)=false:=by simp;omega
 simp only[d2,cond_false];rw[if_neg ω];have hloop:=xo (step:=λs=>wH r s.1 s.2) (λi=>((r.take i).map (λq=>(q,true))++(r.drop i).map (λq=>(q,false)),(i:Int))) r.length (t:=r.map λq=>(q,true)) ω (by
  intro i hi;have hA:((r.take i).map (λq=>(q,true))).length=i:=by rw[gD,hU];omega
  have hd:r.drop i=r[i]::r.drop (i+1):=mW hi;have hx:((r.take i).map (λq=>(q,true))++(r.drop i).map (λq=>(q,false)))[i]?=some (r[i],false):=by rw[pH ω,hA,hd];simp
  show wH r _ (i:Int)=_;unfold wH;have hq:decide ((i:Int)<((r.length-(0:Int).toNat:Nat):Int))=true:=ξ hi
  simp only[hq,cond_true];rw[gdT ω,Int.zero_add,zu hx];simp only[oB];rw[za7 _ (hws _ (pO hi))];simp only[oB,z1k,pE];rw[zr ω ω];congr 3;rw[sK _ _ ω,hA,hd,gI,pB hi];simp only[nO,gO,nX,gU,Option.toList_some,rB,pP,gX,mA]) (by
  show wH r _ (r.length:Int)=_;unfold wH;simp)
 have h0:((r.take 0).map (λq=>(q,true))++(r.drop 0).map (λq=>(q,false)),((0:Nat):Int))=(r.map (λq=>(q,false)),(0:Int)):=ς
 rw[h0]at hloop;rw[hloop];simp only[oB];unfold XR;rw[gdT (by intro q hq;obtain⟨_,_,rfl⟩:=pY.1 hq;rfl)];simp[mP,Function.comp_def]
def z3E (a:Nat)(w:TB):TA:=(List.range a).map λs:Nat=>w++[(s:Int)]
def exW (a:Nat):Nat->TA
 |0=>[[]]
 |k+1=>(exW a k).flatMap (z3E a)
def zg6 (a:Nat)(w:TB):(z3E a w).length=a:=by simp[z3E]
def z9Z (a:Nat)(l:TA):(l.flatMap (z3E a)).length=l.length*a:=by
 induction l with
 |nil=>simp
 |cons w l ih=>rw[rQ,pW,ih,zg6,gQ,sI];omega
def Ji (a:Nat):∀k,(exW a k).length=a^k
 |0=>rfl
 |k+1=>by rw[exW,z9Z,Ji,rC]
def ZH (a:Nat):∀k,∀w∈exW a k,w.length=k
 |0,w,h=>by simp[exW]at h;subst h;rfl
 |k+1,w,h=>by rw[exW,mX]at h;obtain⟨v,h1,h2⟩:=h;simp only[z3E,pY]at h2;obtain⟨s,_,rfl⟩:=h2;simp[ZH a k v h1]
variable {a:Nat}
def zmk (ha:a<=16)  (hw:w.length<=1000){nx:TA}(hn:nx.length<=10000000) :
  loop (λs=>uT (a:Int) w s.1 s.2) (nx,0)=some (nx++z3E a w):=by
 have h:=xo (step:=λs=>uT (a:Int) w s.1 s.2) (λi=>(nx++(List.range i).map (λs:Nat=>w++[(s:Int)]),(i:Int))) a (t:=nx++z3E a w) ω (by
  intro i hi;show uT (a:Int) w _ (i:Int)=_;unfold uT;have hq:decide ((i:Int)<(a:Int))=true:=ξ hi
  simp only[hq,cond_true,z1k,oB];rw[gdT (by simp;omega),gdT (by simp;omega),zr ω ω,rO,gU,pP];rfl) (by
  show uT (a:Int) w _ (a:Int)=_;unfold uT;simp[z3E])
 have h0:((nx++(List.range 0).map (λs:Nat=>w++[(s:Int)])),((0:Nat):Int))=(nx,(0:Int)):=ς
 rw[h0]at h;exact h
def zlV (ha:a<=16)  (hw:∀w∈l,w.length<=1000)(hl:l.length<=100000) :
  loop (λs=>uU (a:Int) l s.1 s.2) (([]:TA),0)=some (l.flatMap (z3E a)):=by
 have h:=xo (step:=λs=>uU (a:Int) l s.1 s.2) (λi=>((l.take i).flatMap (z3E a),(i:Int))) l.length (t:=l.flatMap (z3E a)) ω (by
  intro i hi;show uU (a:Int) l _ (i:Int)=_;unfold uU;have hq:decide ((i:Int)<(l.length:Int))=true:=ξ hi
  have hx:l[i]?=some l[i]:=pB hi;have hlen:((l.take i).flatMap (z3E a)).length<=10000000:=by rw[z9Z,hU];have:min i l.length*a<=100000*16:=gY ω ha;omega
  simp only[hq,cond_true,zu hx,oB];rw[bdT (zmk ha (hw _ (pO hi)) hlen)];unfold QB;rw[zr ω ω,gI,hx,List.flatMap_append];simp) (by
  show uU (a:Int) l _ (l.length:Int)=_;unfold uU;simp)
 simpa using h
def vY (a f:Nat):Nat->TA
 |0=>[]
 |k+1=>if f<=k then vY a f k++exW a k else vY a f k
def syW (a f:Nat):Nat->Nat
 |0=>0
 |k+1=>if f<=k then syW a f k+k*a^k else syW a f k
def WD (a f t k:Nat):Prop:=4096<(vY a f (k+1)).length\/65536<syW a f (k+1)\/k<t/\4096<a^k*a
instance (a f t k:Nat):Decidable (WD a f t k):=by unfold WD;infer_instance
def zdw {a f t k:Nat}(ha:1<=a/\a<=16)(hf:f<=256)(ht:t<=256)(hk:k<=t)(ho:(vY a f k).length<=4096)(hs:syW a f k<=65536)(hl:a^k<=4096) :
  kK (a:Int) (f:Int) (t:Int) (vY a f k) (exW a k) (syW a f k:Int) (k:Int)=if WD a f t k then some (.done ([],3)) else if k=t then Option.bind (xh (vY a f (k+1))) (λr=>some (.done (r.1,r.2))) else some (.next (vY a f (k+1),exW a (k+1),(syW a f (k+1):Int),((k+1:Nat):Int))):=by
 have hmul:k*a^k<=256*4096:=gY ω hl;have hma:a^k*a<=4096*16:=gY hl ha.2;have e:kK (a:Int) (f:Int) (t:Int) (vY a f k) (exW a k) (syW a f k:Int) (k:Int)=YC (a:Int) (t:Int) (exW a k) (k:Int) (vY a f (k+1)) (syW a f (k+1):Int):=by
  unfold kK;by_cases h:f<=k
  ·have hd:decide ((k:Int)>=(f:Int))=true:=ξ h
   simp only[hd,cond_true];have hm:w64 ((k:Int)*((exW a k).length:Int))=((k*a^k:Nat):Int):=by rw[Ji,<-gV,zr ω ω]
   rw[gdT (by rw[Ji];omega),hm,zr ω ω];simp only[vY,syW,if_pos h];congr 1
  have hd:decide ((k:Int)>=(f:Int))=false:=by simp;omega
  simp only[hd,cond_false,vY,syW,if_neg h]
 rw[e];unfold YC;by_cases h1:4096<(vY a f (k+1)).length
 ·have:decide (((vY a f (k+1)).length:Int) > 4096)=true:=by simp only[decide_eq_true_eq];omega
  simp only[this,cond_true];rw[if_pos (show WD a f t k from .inl h1)]
 have d1:decide (((vY a f (k+1)).length:Int)>4096)=false:=by simp;omega
 simp only[d1,cond_false];by_cases h2:65536<syW a f (k+1)
 ·have:decide ((syW a f (k+1):Int) > 65536)=true:=by simp only[decide_eq_true_eq];omega
  simp only[this,cond_true];rw[if_pos (show WD a f t k from .inr (.inl h2))]
 have d2:decide ((syW a f (k+1):Int)>65536)=false:=by simp;omega
 simp only[d2,cond_false];have hm:w64 (((exW a k).length:Int)*(a:Int))=((a^k*a:Nat):Int):=by rw[Ji,<-gV,zr ω ω]
 rw[hm];have J4:∀(hns:¬(k<t/\4096<a^k*a)) (b:Bool),YB (a:Int) (t:Int) (exW a k) (k:Int) (vY a f (k+1)) (syW a f (k+1):Int) b=if k=t then Option.bind (xh (vY a f (k+1))) (λr=>some (.done (r.1,r.2))) else some (.next (vY a f (k+1),exW a (k+1),(syW a f (k+1):Int),((k+1:Nat):Int))):=by
  intro hns b;unfold YB;by_cases hkt:k=t
  ·subst hkt;simp
  have hd:((k:Int)==(t:Int))=false:=by simp;omega
  simp only[hd,cond_false,if_neg hkt];rw[bdT (zlV ha.2 (λw hw=>by rw[ZH a k w hw];omega) (by rw[Ji];omega))];unfold QC QD;rw[zr ω ω];rfl
 by_cases hkt:k<t
 ·have hd:decide ((k:Int)<(t:Int))=true:=ξ hkt
  simp only[hd,cond_true];by_cases h3:4096<a^k*a
  ·have:decide (((a ^ k*a:Nat):Int) > 4096)=true:=by simp only[decide_eq_true_eq];omega
   simp only[this,cond_true];rw[if_pos (show WD a f t k from .inr (.inr ⟨hkt,h3⟩))]
  have:decide (((a^k*a:Nat):Int)>4096)=false:=by simp only[decide_eq_false_iff_not];omega
  simp only[this,cond_false];rw[J4 ω,if_neg (show ¬WD a f t k by unfold WD;omega)]
 have hd:decide ((k:Int)<(t:Int))=false:=by simp;omega
 simp only[hd,cond_false];rw[J4 ω,if_neg (show ¬WD a f t k by unfold WD;omega)]
def z5L {a f t k:Nat}(ha:1<=a)(hs:¬WD a f t k)(hk:k<t):(vY a f (k+1)).length<=4096/\syW a f (k+1)<=65536/\a^(k+1)<=4096:=by unfold WD at hs;rw[rC];omega
variable {r:Option (TA×Int)}
def zdA {a f t:Nat}(ha:1<=a/\a<=16)(hf:f<=256)(ht:t<=256){r:Option (TA×Int)}
  (hr:(∃j,j<=t/\WD a f t j)->r=some ([],3)) (hr2:(∀j,j<=t->¬WD a f t j)->r=Option.bind (xh (vY a f (t+1))) λr=>some (r.1,r.2)) :
  ∀(m k:Nat),k<=t->t-k<m->(∀j,j<k->¬WD a f t j)->(vY a f k).length<=4096->syW a f k<=65536->a^k<=4096->z0k (λs=>kK (a:Int) (f:Int) (t:Int) s.1 s.2.1 s.2.2.1 s.2.2.2) m (vY a f k,exW a k,(syW a f k:Int),(k:Int))=r
 |0,k,_,h,_,_,_,_=>ω
 |m+1,k,hk,hm,hns,h1,h2,h3=>by
  rw[XK];dsimp only
  rw[zdw ha hf ht hk h1 h2 h3];by_cases hst:WD a f t k
  ·rw[if_pos hst,hr ⟨k,hk,hst⟩]
  rw[if_neg hst];by_cases hkt:k=t
  ·subst hkt;rw[if_pos rfl,hr2 λj hj=>by
    rcases pM j k with q|q
    ·exact hns j q
    rw[show j=k by omega];exact hst]
   cases xh (vY a f (k+1))<;>rfl
  rw[if_neg hkt];obtain⟨q1,q2,q3⟩:=z5L ha.1 hst ω;exact zdA ha hf ht hr hr2 m (k+1) ω ω (λj hj=>by
   rcases pM j k with q|q
   ·exact hns j q
   rw[show j=k by omega];exact hst) q1 q2 q3
def zmD {a f t:Nat}(ha:1<=a/\a<=16)(hf:f<=256)(ht:t<=256){r:Option (TA×Int)}
  (hr:(∃j,j<=t/\WD a f t j)->r=some ([],3)) (hr2:(∀j,j<=t->¬WD a f t j)->r=Option.bind (xh (vY a f (t+1))) λr=>some (r.1,r.2)) :
  Vu (a:Int) (f:Int) (t:Int)=r:=by
 unfold Vu;have d1:decide ((a:Int)>16)=false:=by simp;omega
 have d2:decide ((a:Int)<1)=false:=by simp;omega
 have d3:decide ((t:Int)<0)=false:=ς
 have d4:decide ((t:Int)>256)=false:=by simp;omega
 simp only[d1,d2,d3,d4,cond_false];have h:=zdA ha hf ht hr hr2 Vn 0 (pQ _) (by show t-0<18446744073709551616;omega) (λj hj=>ω) (by simp[vY]) (by simp[syW]) ς;have h':loop (λs=>kK (a:Int) (f:Int) (t:Int) s.1 s.2.1 s.2.2.1 s.2.2.2) (([]:TA),([[]]:TA),0,0)=r:=h;rw[h'];cases r<;>rfl
def zkm {x:Int}(h1:0<=x)(h2:x<=9223372036854775807):IntKind.u64.wrap x=x:=by simp only[IntKind.wrap,IntKind.bits,IntKind.signed];simp;omega
def zqJ (hs:SW l)(hl:l.length<=1000000)(hw:∀x∈l,x.length<4611686018427387904)(w:TB):z26 l w=some (decide (w∈l)):=by
 unfold z26 yT;apply Ret.eq;rw[zi,zi];refine Ret.mono (zz (λq:Int×Int=>∃i j:Nat,q=((i:Int),(j:Int))/\i<=j/\j<=l.length/\(∀m x,m<i->l[m]?=some x->jE x w<0)/\∀m x,j<=m->l[m]?=some x->¬jE x w<0) (λq=>(q.2-q.1).toNat) (R:=λt=>∃i:Nat,t=(i:Int)/\i<=l.length/\(∀m x,m<i->l[m]?=some x->jE x w<0)/\∀m x,i<=m->l[m]?=some x->¬jE x w<0) ?_ ?_ ?_) ?_
 ·exact⟨0,l.length,rfl,pQ _,pF _,λm x h=>ω,λm x h hx=>by have:=(pC.1 hx).1;omega⟩
 ·simp only;omega
 ·rintro _ ⟨i,j,rfl,g1,g2,g3,g4⟩;show Ret (yq l w (i:Int) (j:Int)) _;unfold yq;rw[zj];refine⟨λhc=>?_,λhc=>?_⟩
  ·have hij:i<j:=ξ hc
   have hh:w64 (Int.fdiv (IntKind.u64.wrap (w64 ((i:Int)+(j:Int)))) (2^1))=(((i+j)/2:Nat):Int):=by
    rw[zr (x:=(i:Int)+(j:Int)) ω ω,zkm ω ω];have:Int.fdiv ((i:Int)+(j:Int)) (2^1)=(((i+j)/2:Nat):Int):=by rw[show((i:Int)+(j:Int))=((i+j:Nat):Int) by omega,show((2:Int)^1)=((2:Nat):Int) by rfl];rw[Int.fdiv_eq_ediv_of_nonneg _ ω];rfl
    rw[this,zr ω ω]
   rw[hh];have hm:(i+j)/2<l.length:=ω
   have hx:l[(i+j)/2]?=some l[(i+j)/2]:=pB hm;rw[zu hx];simp only[oB];rw[VR _ _ (hw _ (pO hm))];simp only[oB];by_cases hc2:jE l[(i+j)/2] w<0
   ·simp only[hc2,decide_true,cond_true];rw[zr ω ω,z8];refine⟨⟨(i+j) / 2+1,j,ς,ω,g2,λm x h hmx=>?_,g4⟩,by simp only;omega⟩;rcases pM m ((i+j) / 2) with q|q
    ·have h1:=(mL.1 hs) m ((i+j)/2) (pC.1 hmx).1 hm q;rw[(pC.1 hmx).2]at h1;exact vV h1 hc2
    rw[show m=(i+j)/2 by omega,hx]at hmx;cases hmx;exact hc2
   simp only[hc2,decide_false,cond_false];rw[z8];refine⟨⟨i,(i+j)/2,rfl,ω,ω,g3,λm x h hmx hlt=>?_⟩,by simp only;omega⟩;rcases pM ((i+j)/2) m with q|q
   ·have h1:=(mL.1 hs) ((i+j)/2) m hm (pC.1 hmx).1 q;rw[(pC.1 hmx).2]at h1;exact hc2 (vV h1 hlt)
   rw[show m=(i+j)/2 by omega,hx]at hmx;cases hmx;exact hc2 hlt
  have hij:i=j:=by
   have:¬i<j:=ξ hc
   omega
  subst hij;rw[z8];exact⟨i,rfl,g2,g3,g4⟩
 rintro _ ⟨i,rfl,h1,h2,h3⟩;unfold yu;rw[zj];refine⟨λhc=>?_,λhc=>?_⟩
 ·have hi:i<l.length:=ξ hc
  have hx:l[i]?=some l[i]:=pB hi;rw[zu hx];simp only[oB];rw[VR _ _ (hw _ (pO hi))];simp only[oB,z8];by_cases he:l[i]=w
  ·rw[he,Jl];have:w∈l:=he▸pO hi;simp[this]
  have hne:(jE l[i] w==0)=false:=by simp;exact λq=>he (z3q q)
  rw[hne];have:w∉l:=by
   intro hm;obtain⟨m,hm⟩:=gT.1 hm;rcases pM m i with q|q
   ·exact JR _ (h2 m w q hm)
   rcases pM i m with q2|q2
   ·have h4:=(mL.1 hs) i m hi (pC.1 hm).1 q2;rw[(pC.1 hm).2]at h4;exact h3 i _ (pF _) hx h4
   rw[show m=i by omega,hx]at hm;cases hm;exact he rfl
  simp[this]
 have hi:i=l.length:=by
  have:¬i<l.length:=ξ hc
  omega
 rw[z8,z8];have:w∉l:=by intro hm;obtain⟨m,hm⟩:=gT.1 hm;exact JR _ (h2 m w (by rw[hi];exact(pC.1 hm).1) hm)
 simp[this]
def zbV (hs:SW l)   (hi:i<=l.length)(h1:∀m x,m<i->l[m]?=some x->jE x w<0)(h2:∀m x,i<=m->l[m]?=some x->jE w x<0):l.take i++w::l.drop i=z4a w l:=by
 have ht:∀x∈l.take i,jE x w<0:=λx hx=>by obtain⟨m,q1,q2⟩:=Xp.1 hx;exact h1 m x q1 q2
 have hd:∀x∈l.drop i,jE w x<0:=λx hx=>by obtain⟨m,q⟩:=gT.1 hx;rw[mU]at q;exact h2 (i+m) x ω q
 refine SW.unique ?_ hs.put λx=>?_
 ·unfold SW;rw[rh,nH];refine⟨hs.sub (List.take_sublist _ _),⟨hd,hs.sub (List.drop_sublist _ _)⟩,λa ha b hb=>?_⟩;rcases pG.1 hb with rfl|hb
  ·exact ht a ha
  exact vV (ht a ha) (hd b hb)
 rw[z0i];have:x∈l↔x∈l.take i\/x∈l.drop i:=by rw[<-pD,mE]
 rw[this];simp only[pD,pG];constructor
 ·rintro(h|h|h)<;>simp[h]
 rintro(h|h|h)<;>simp[h]
def zlK {l:TA}(hs:SW l)(hl:l.length<=1000000)(hw:∀x∈l,x.length<4611686018427387904)  (hww:w.length<=4294967296):z09 l w=some (z4a w l):=by
 unfold z09;apply Ret.eq;rw[zi];refine Ret.mono (zz (λq:Int×Int=>∃i j:Nat,q=((i:Int),(j:Int))/\i<=j/\j<=l.length/\(∀m x,m<i->l[m]?=some x->jE x w<0)/\∀m x,j<=m->l[m]?=some x->¬jE x w<0) (λq=>(q.2-q.1).toNat) (R:=λt=>∃i:Nat,t=(i:Int)/\i<=l.length/\(∀m x,m<i->l[m]?=some x->jE x w<0)/\∀m x,i<=m->l[m]?=some x->¬jE x w<0) ?_ ?_ ?_) ?_
 ·exact⟨0,l.length,rfl,pQ _,pF _,λm x h=>ω,λm x h hx=>by have:=(pC.1 hx).1;omega⟩
 ·simp only;omega
 ·rintro _ ⟨i,j,rfl,g1,g2,g3,g4⟩;show Ret (QN l w (i:Int) (j:Int)) _;unfold QN;rw[zj];refine⟨λhc=>?_,λhc=>?_⟩
  ·have hij:i<j:=ξ hc
   have hh:w64 (Int.tdiv (w64 ((i:Int)+(j:Int))) 2)=(((i+j)/2:Nat):Int):=by
    rw[zr (x:=(i:Int)+(j:Int)) ω ω];have:Int.tdiv ((i:Int)+(j:Int)) 2=(((i+j)/2:Nat):Int):=by rw[show((i:Int)+(j:Int))=((i+j:Nat):Int) by omega,sS ω];rfl
    rw[this,zr ω ω]
   rw[gdT ω,hh];have hm:(i+j)/2<l.length:=ω
   have hx:l[(i+j)/2]?=some l[(i+j)/2]:=pB hm;rw[zu hx];simp only[oB];rw[z7J _ _ (λ_=>hw _ (pO hm))];simp only[oB];by_cases hc2:jE l[(i+j)/2] w<0
   ·simp only[hc2,decide_true,cond_true];rw[zr ω ω,z8];refine⟨⟨(i+j) / 2+1,j,ς,ω,g2,λm x h hmx=>?_,g4⟩,by simp only;omega⟩;rcases pM m ((i+j) / 2) with q|q
    ·have h1:=(mL.1 hs) m ((i+j)/2) (pC.1 hmx).1 hm q;rw[(pC.1 hmx).2]at h1;exact vV h1 hc2
    rw[show m=(i+j)/2 by omega,hx]at hmx;cases hmx;exact hc2
   simp only[hc2,decide_false,cond_false];rw[z8];refine⟨⟨i,(i+j)/2,rfl,ω,ω,g3,λm x h hmx hlt=>?_⟩,by simp only;omega⟩;rcases pM ((i+j)/2) m with q|q
   ·have h1:=(mL.1 hs) ((i+j)/2) m hm (pC.1 hmx).1 q;rw[(pC.1 hmx).2]at h1;exact hc2 (vV h1 hlt)
   rw[show m=(i+j)/2 by omega,hx]at hmx;cases hmx;exact hc2 hlt
  have hij:i=j:=by
   have:¬i<j:=ξ hc
   omega
  subst hij;rw[z8];exact⟨i,rfl,g2,g3,g4⟩
 rintro _ ⟨i,rfl,h1,h2,h3⟩;have J2:(∀x,l[i]?=some x->x≠w)->Ret (YJ l w (i:Int)) λr=>r=z4a w l:=by
  intro hne;have h4:∀m x,i<=m->l[m]?=some x->jE w x<0:=by
   intro m x hm hx;have hil:i<l.length:=by have:=(pC.1 hx).1;omega
   have hxi:l[i]?=some l[i]:=pB hil;have hlt:jE w l[i]<0:=by
    rcases z64.1 (h3 i _ (pF _) hxi) with q|q
    ·exact q
    exact absurd q (hne _ hxi)
   rcases pM i m with q|q
   ·have h5:=(mL.1 hs) i m hil (pC.1 hx).1 q;rw[(pC.1 hx).2]at h5;exact vV hlt h5
   rw[show m=i by omega,hxi]at hx;cases hx;exact hlt
  unfold YJ;rw[gdT (by simp;omega),zi];have hlen:w64 ((((l++([[]]:TA)).length:Nat):Int)-1)=(l.length:Int):=by rw[pW,List.length_singleton,zr ω ω];omega
  rw[hlen];refine Ret.mono (zz (λq:TA×Int=>∃(j:Nat) (x:TB),q=(l.take j++x::l.drop j,(j:Int))/\i<=j/\j<=l.length) (λq=>q.2.toNat) (R:=λt=>∃x:TB,t=l.take i++x::l.drop i) ⟨l.length,[],ς,h1,pF _⟩ (by simp only[pE];omega) ?_) ?_
  ·rintro _ ⟨j,x,rfl,g1,g2⟩;show Ret (QO (i:Int) (l.take j++x::l.drop j) (j:Int)) _;unfold QO;rw[zj];refine⟨λhc=>?_,λhc=>?_⟩
   ·have hij:i<j:=ξ hc
    have hA:(l.take j).length=j:=by rw[hU];omega
    have hy:(l.take j++x::l.drop j)[j-1]?=some l[j-1]:=by rw[pI ω,gB,if_pos ω];exact pB ω
    have hz:(l.take j++x::l.drop j)[j]?=some x:=by rw[pH ω,hA];simp
    rw[zr ω ω,show(j:Int)-1=((j-1:Nat):Int) by omega,zu hy,zu hz];simp only[oB,z8,pE];refine⟨⟨j-1,l[j-1],?_,ω,ω⟩,by simp only[pE];omega⟩;rw[sK _ _ ω,hA,nO,nX];have e1:l.take j=l.take (j-1)++[l[j-1]]:=by have:=gI (l:=l) (i:=j-1);rw[show j-1+1=j by omega,pB ω]at this;exact this
    have e2:l.drop (j-1)=l[j-1]::l.drop j:=by rw[mW ω,show j-1+1=j by omega]
    rw[e2,e1,pP];rfl
   have hij:j=i:=by
    have:¬i<j:=ξ hc
    omega
   subst hij;rw[z8];exact⟨x,rfl⟩
  rintro _ ⟨x,rfl⟩;unfold QP;have hA:(l.take i).length=i:=by rw[hU];omega
  have hz:(l.take i++x::l.drop i)[i]?=some x:=by rw[pH ω,hA];simp
  rw[gdT (ξ hww),zu hz];simp only[oB,z8,pE];rw[sK _ _ ω,hA,nO,nX];exact zbV hs h1 h2 h4
 unfold QQ;rw[zj];refine⟨λhc=>?_,λhc=>?_⟩
 ·have hi:i<l.length:=ξ hc
  have hx:l[i]?=some l[i]:=pB hi;rw[zu hx];simp only[oB];rw[z7J _ _ (λ_=>hw _ (pO hi))];simp only[oB];by_cases he:l[i]=w
  ·have hb:(jE l[i] w==0)=true:=by rw[he,Jl];rfl
   rw[hb,cond_true,z8];refine SW.unique hs hs.put λx=>?_;rw[z0i];refine⟨λq=>.inr q,λq=>?_⟩;rcases q with rfl|q
   ·exact he▸pO hi
   exact q
  have hb:(jE l[i] w==0)=false:=by simp;exact λq=>he (z3q q)
  rw[hb,cond_false];exact J2 λx hx2=>by rw[hx]at hx2;cases hx2;exact he
 have hi:¬i<l.length:=ξ hc
 exact J2 λx hx2=>by have:=(pC.1 hx2).1;omega
def z9s (hl:l.length<=1000000)(hw:∀x∈l,x.length<=4294967296):VA l=some (srt l):=by
 unfold VA;have h:=xo (step:=λs=>qQ l s.1 s.2) (λi=>(srt (l.take i),(i:Int))) l.length (t:=srt l) ω (by
  intro i hi;show qQ l _ (i:Int)=_;unfold qQ;have hq:decide ((i:Int)<(l.length:Int))=true:=ξ hi
  have hx:l[i]?=some l[i]:=pB hi;simp only[hq,cond_true,zu hx,oB];have hlen:(srt (l.take i)).length<=1000000:=by have:=XW (l.take i);rw[hU]at this;omega
  rw[zlK (jG _) hlen (λx hx=>by have:=hw x (gJ (ym.1 hx));omega) (hw _ (pO hi))];simp only[oB];rw[zr ω ω,<-zeZ,gI,hx];rfl) (by
  show qQ l _ (l.length:Int)=_;unfold qQ;simp)
 have h0:(srt (l.take 0),((0:Nat):Int))=(([]:TA),(0:Int)):=by simp[srt]
 rw[h0]at h;rw[bdT h];rfl
def KY {m:Nat}{L:Nat}(hl:l.length<=L)(h:∀w∈l,w.length<=m):kA l<=L*m:=pJ (z5q h) (pV _ hl)
def Yy (h:chE n l=0):l.length<=4096/\(∀w∈l,w.length<=256)/\kA l<=65536/\SW l/\(1<=n/\n<=16)/\∀w∈l,∀c∈w,0<=c/\c<n:=by obtain⟨h1,h2,h3⟩:=za8.1 h;obtain⟨q1,q2,_⟩:=z7j h1;obtain⟨r1,_,r3⟩:=z0m.1 h1;exact⟨q1,q2,h3,h2,r1,λw hw=>(r3 w hw).2⟩
def zeS {l m:TA}(h:List.Sublist l m):kA l<=kA m:=by
 induction h with
 |slnil=>exact pF _
 |cons a _ ih=>simp only[kA,gO,List.sum_cons]at *;omega
 |cons_cons a _ ih=>simp only[kA,gO,List.sum_cons]at *;omega
def z2J (l m:TA):kA (l++m)=kA l+kA m:=by simp[kA]
def Wq (n:Int)(L k:Nat)(l:TA):Prop:=SW l/\l.length<=L/\∀w∈l,w.length<=k/\∀c∈w,0<=c/\c<n
def Wq.ch {L k:Nat}  (h:Wq n L k l)(hn:1<=n/\n<=16)(hL:L<=4096)(hk:k<=256)(hLk:L*k<=65536):chE n l=0:=by obtain⟨h1,h2,h3⟩:=h;refine za8.2 ⟨z0m.2 ⟨hn,ω,λw hw=>⟨by have:=(h3 w hw).1;omega,(h3 w hw).2⟩⟩,h1,?_⟩;exact pJ (KY h2 λw hw=>(h3 w hw).1) hLk
def Wq.take {L k:Nat}  (h:Wq n L k l)(m:Nat):Wq n m k (l.take m) :=
 ⟨h.1.sub (List.take_sublist _ _),by rw[hU];omega,λw hw=>h.2.2 w (gJ hw)⟩
variable {x:xQ}
def zgw {x:xQ}(h:0<=x.j/\x.j<=255):∃n:Int,v6 x=some n/\1<=n/\n<=3:=by
 unfold v6;rw[gdT ω];have e:Int.tmod x.j 3=x.j%3:=nN h.1;refine⟨_,rfl,?_,?_⟩
 ·rw[e,zr (x:=x.j%3) ω ω,zr ω ω];omega
 rw[e,zr (x:=x.j%3) ω ω,zr ω ω];omega
def zfn {x:xQ}  (hn:v6 x=some n)(h1:1<=n/\n<=3)(hw:∀w∈x.O,∀c∈w,0<=c/\c<=255)  (hi:i<x.O.length) :
  Ret (loop (λs=>Yr x (i:Int) s.1 s.2) (([]:TB),0)) λw=>w.length<=12/\∀c∈w,0<=c/\c<n:=by
 refine zz (λq=>∃k:Nat,q.2=(k:Int)/\q.1.length=k/\k<=12/\∀c∈q.1,0<=c/\c<n) (λq=>12-q.2.toNat) ⟨0,rfl,rfl,ω,ς⟩ (by show 12-_<_;omega) ?_;rintro⟨w,_⟩ ⟨k,rfl,g1,g2,g3⟩;simp only at g1 g3;show Ret (Yr x (i:Int) w (k:Int)) _;unfold Yr;have hx:x.O[i]?=some x.O[i]:=pB hi;rw[zu hx,oB,zj];have fin:w.length<=12/\∀c∈w,0<=c/\c<n:=⟨ω,g3⟩;refine⟨λhc=>?_,λhc=>z8.2 fin⟩;rw[zj];refine⟨λhc2=>?_,λhc2=>z8.2 fin⟩;have hk:k<x.O[i].length:=ξ hc
 have hk2:k<12:=by simp only[decide_eq_true_eq]at hc2;omega
 have hy:(x.O[i])[k]?=some (x.O[i])[k]:=pB hk;obtain⟨b1,b2⟩:=hw _ (pO hi) _ (pO hk);rw[oB,zu hy,oB,hn,oB,gdT ω,gdT (by simp;omega),zr (x:=(k:Int)+1) ω ω,z8];refine⟨⟨k+1,rfl,by simp[g1],ω,λc hc=>?_⟩,by simp only;omega⟩;rcases pD.1 hc with q|q
 ·exact g3 c q
 simp at q;subst q;rw[zr ω ω,nN b1];exact⟨Int.emod_nonneg _ ω,Int.emod_lt_of_pos _ ω⟩
def ziV (hn:v6 x=some n)(h1:1<=n/\n<=3)(hw:∀w∈x.O,∀c∈w,0<=c/\c<=255):Ret (JM x) (Wq n 40 12):=by
 have hraw:Ret (Uu x) λr=>r.length<=40/\∀w∈r,w.length<=12/\∀c∈w,0<=c/\c<n:=by
  unfold Uu;rw[zi];refine Ret.mono (zz (λq=>∃k:Nat,q.2=(k:Int)/\q.1.length=k/\k<=40/\∀w∈q.1,w.length<=12/\∀c∈w,0<=c/\c<n) (λq=>40-q.2.toNat) (R:=λr:TA=>r.length<=40/\∀w∈r,w.length<=12/\∀c∈w,0<=c/\c<n) ⟨0,rfl,rfl,ω,ς⟩ (by show 40-_<_;omega) ?_) λr hr=>z8.2 hr;rintro⟨out,_⟩ ⟨k,rfl,g1,g2,g3⟩;simp only at g1 g3;show Ret (Vh x out (k:Int)) _;unfold Vh;have fin:out.length<=40/\∀w∈out,w.length<=12/\∀c∈w,0<=c/\c<n:=⟨ω,g3⟩;rw[zj];refine⟨λhc=>?_,λhc=>z8.2 fin⟩;rw[zj];refine⟨λhc2=>?_,λhc2=>z8.2 fin⟩;have hk:k<x.O.length:=ξ hc
  have hk2:k<40:=by simp only[decide_eq_true_eq]at hc2;omega
  rw[zi];refine(zfn hn h1 hw hk).mono λw hww=>?_;unfold Vi Vj;rw[gdT (by simp;omega),zr ω ω,z8];refine⟨⟨k+1,rfl,by simp[g1],ω,λv hv=>?_⟩,by simp only;omega⟩;rcases pD.1 hv with q|q
  ·exact g3 v q
  simp at q;subst q;exact hww
 unfold JM;rw[zi];refine hraw.mono λr hr=>?_;rw[z9s ω (λw hw=>by have:=(hr.2 w hw).1;omega),oB,z8];exact⟨jG _,pJ (XW _) hr.1,λw hw=>hr.2 w (ym.1 hw)⟩
def z5n (h:i<9223372036854775807):w64 ((i:Int)+1)=((i+1:Nat):Int):=by rw[zr ω ω];rfl
def un (x:List Bool):Nat:=x.countP λb=>!b
def zkk {x:List Bool}{s:Nat}(h:x[s]?=some false):un (x.set s true)<un x:=by
 induction x generalizing s with
 |nil=>simp at h
 |cons b x ih=>
  cases s with
  |zero=>simp at h;subst h;simp[un]
  |succ s=>have:=ih (s:=s) (ξ h);unfold un at *;rw[sE,sL,sL];omega
def zkl:∀{x y:List Bool},y.length=x.length->(∀t:Nat,x[t]?=some true->y[t]?=some true)->un y<=un x
 |[],[],_,_=>pF _
 |a::x,b::y,hl,h=>by
  have ih:=zkl (x:=x) (y:=y) (ξ hl) λt ht=>by simpa using h (t+1) (ξ ht)
  have h0:=h 0;unfold un at *;rw[sL,sL];cases a<;>cases b<;>simp at h0⊢<;>omega
 |[],_::_,hl,_=>by simp at hl
 |_::_,[],hl,_=>by simp at hl
structure Dfs (m:z6)(P:Nat->Prop)(x y:List Bool):Prop where
 len:y.length=x.length
 mono:∀t:Nat,x[t]?=some true->y[t]?=some true
 new:∀t:Nat,y[t]?=some true->x[t]?=some true\/P t/\∀i,i<kk m->0<=(E m t i).o->y[(E m t i).o.toNat]?=some true
variable {P:Nat->Prop}
def Dfs.refl (x:List Bool):Dfs m P x x:=⟨rfl,λ_ h=>h,λ_ h=>.inl h⟩
def Dfs.trans {x y z:List Bool}(h:Dfs m P x y)(k:Dfs m P y z):Dfs m P x z:={
 len:=k.len.trans h.len
 mono:=λt q=>k.mono t (h.mono t q)
 new:=λt q=>by
  rcases k.new t q with g|g
  ·rcases h.new t g with r|⟨r1,r2⟩
   ·exact .inl r
   exact .inr ⟨r1,λi hi h0=>k.mono _ (r2 i hi h0)⟩
  exact .inr g }
section
variable {m:z6}(h:VM m)
include h
theorem zcY (hP:∀t i,P t->t<m.i.length->i<kk m->0<=(E m t i).o->P (E m t i).o.toNat):∀(fu:Nat) (x:List Bool),x.length=m.i.length->un x<fu->∀s:Int,z1p m s->(0<=s->P s.toNat) ->
  ∃y,ya fu s x m=some (y,m)/\Dfs m P x y/\(0<=s->y[s.toNat]?=some true)
 |0,x,_,hu,_,_,_=>ω
 |fu+1,x,hx,hu,s,hs,hPs=>by
  have hk:=h.kk_le;show ∃y,wU (ya fu) s x m=some (y,m)/\_;unfold wU;by_cases h1:s=-1
  ·have:(s == -1)=true:=ξ h1
   rw[this,cond_true];exact⟨x,rfl,Dfs.refl x,λq=>ω⟩
  have e1:(s == -1)=false:=ξ h1
  obtain⟨n,rfl⟩:∃n:Nat,s=n:=⟨s.toNat,by have:=hs.1;omega⟩;have hn:n<m.i.length:=by have:=hs.2;omega
  have hxn:x[n]?=some x[n]:=pB ω;rw[e1,cond_false,zu hxn,oB];by_cases hb:x[n]=true
  ·rw[hb,cond_true];exact⟨x,rfl,Dfs.refl x,λ_=>by simp only[pE];rw[hxn,hb]⟩
  have hb:x[n]=false:=ξ hb
  have ⟨r,hr,hrl,hre⟩:=h.rowAt hn;rw[hb,cond_false,oB,zu hr,oB];simp only[pE];rw[hb]at hxn;have hu1:=zkk hxn;have hxl:(x.set n true).length=m.i.length:=ξ hx
  have run:Ret (loop (λs=>wt (ya fu) r s.1 s.2.1 s.2.2.1 s.2.2.2.1 s.2.2.2.2) (x.set n true,m.j,m.m,m.i,0)) λq=>q.2=m/\Dfs m P (x.set n true) q.1/\∀j,j<kk m->0<=(E m n j).o->q.1[(E m n j).o.toNat]?=some true:=by
   refine zz (λq=>∃i:Nat,q.2=(m.j,m.m,m.i,(i:Int))/\i<=kk m/\Dfs m P (x.set n true) q.1/\∀j,j<i->0<=(E m n j).o->q.1[(E m n j).o.toNat]?=some true) (λq=>100-q.2.2.2.2.toNat) ⟨0,rfl,pQ _,Dfs.refl _,λj hj=>ω⟩ (by show 100-_<_;omega) ?_;rintro⟨q,_⟩ ⟨i,rfl,hi,hd,hall⟩;simp only at hd hall;show Ret (wt (ya fu) r q m.j m.m m.i (i:Int)) _;unfold wt;rw[zj];refine⟨λhc=>?_,λhc=>?_⟩
   ·have hlt:i<kk m:=by simp at hc;omega
    rw[zu (hre i hlt),oB];have hst:z1p m (E m n i).o:=by
     rcases h.edgeAt hn hlt with⟨g,_⟩|⟨g1,g2,_⟩
     ·exact⟨ω,by have:=h.D;omega⟩
     exact⟨ω,g2⟩
    have hPn:P n:=by simpa using hPs ω
    have ⟨y,y1,y2,y3⟩:=zcY hP fu q (by rw[hd.len];exact hxl) (by have:=zkl hd.len hd.mono;omega) (E m n i).o hst (λh0=>hP n i hPn hn hlt h0);have y1':ya fu (E m n i).o q (z6.mk m.j m.m m.i)=some (y,m):=y1;rw[y1',oB,z8,z5n ω];refine⟨⟨i+1,rfl,hlt,hd.trans y2,λj hj h0=>?_⟩,by simp only;omega⟩;by_cases e:j=i
    ·subst e;exact y3 h0
    exact y2.mono _ (hall j ω h0)
   have:i=kk m:=by simp at hc;omega
   subst this;rw[z8];exact⟨rfl,hd,hall⟩
  have ⟨⟨y,m'⟩,e,hm,hd,hall⟩:=run;simp only at hm hd hall;subst hm;rw[e];refine⟨y,rfl,?_,λ_=>hd.mono _ ((Ka ω).2 (.inl rfl))⟩;refine⟨by rw[hd.len];simp,λt ht=>hd.mono t ((Ka ω).2 (.inr ht)),λt ht=>?_⟩;rcases hd.new t ht with g|g
  ·rcases(Ka ω).1 g with rfl|g
   ·exact .inr ⟨by simpa using hPs ω,hall⟩
   exact .inl g
  exact .inr g
omit h in
theorem z4d (l:List Bool)(hl:l.length<4611686018427387904):xX l false=some (!(l.all id)):=by
 unfold xX uH;have hfs:∀(l:List Bool) (k:Nat),(y5 (λi x=>if x=true then none else some ((i:Nat):Int)) l k=none/\l.all id=true)\/∃i:Nat,y5 (λi x=>if x=true then none else some ((i:Nat):Int)) l k=some (i:Int)/\l.all id=false:=by
  intro l;induction l with
  |nil=>intro k;exact .inl ⟨rfl,rfl⟩
  |cons x l ih=>
   intro k;simp only[y5,List.all_cons];cases x with
   |true=>simpa using ih (k+1)
   |false=>exact .inr ⟨k,ς,ς⟩
 rw[bdT (vt l hl (step:=λs=>xW l false s) (λi x=>if x=true then none else some ((i:Nat):Int)) ?_ ?_)]
 ·rcases hfs l 0 with⟨h1,h2⟩|⟨i,h1,h2⟩
  ·rw[h1,h2];rfl
  rw[h1,h2];simp[oS]
 ·intro i x hx;have hi:=(pC.1 hx).1;unfold xW;rw[decide_eq_true ω,cond_true,zu hx,oB];cases x<;>rfl
 unfold xW;rw[decide_eq_false ω,cond_false]
theorem z0w:Ret (vq m) λr=>r.2=0/\(r.1=true↔∀t,t<m.i.length->Rch m t):=by
 have l1:=h.D;have l64:=h.w;unfold vq;rw[V4,z0y h,oB,bne_self_eq_false,cond_false,gdT ω];have e0:(m.i.length:Int).toNat=m.i.length:=ς
 rw[e0];have hun:un (List.replicate m.i.length false)<Vn:=by have:un (List.replicate m.i.length false)<=(List.replicate m.i.length false).length:=sJ;rw[mR]at this;show _<18446744073709551616;omega
 have hP:∀t i,Rch m t->t<m.i.length->i<kk m->0<=(E m t i).o->Rch m (E m t i).o.toNat:=λt i ht _ hi h0=>rch_step ht hi h0;have ⟨y,y1,y2,y3⟩:=zcY h hP Vn (List.replicate m.i.length false) ς hun 0 ⟨ω,ω⟩ (λ_=>⟨[],by simp[Wd],rfl⟩);have hyl:y.length=m.i.length:=by rw[y2.len];simp
 have no:∀t:Nat,(List.replicate m.i.length false)[t]?≠some true:=λt q=>by rw[gR]at q;split at q<;>cases q
 rw[y1,oB,z4d y ω,oB,z8];refine⟨rfl,?_⟩;rw[Bool.not_not,gM];have clo:∀(u:TC) (t:Nat),Wd (kk m) u->aft m 0 u=(t:Int)->y[t]?=some true:=by
  intro u;generalize hlen:u.length=n;induction n generalizing u with
  |zero=>
   intro t _ e;rw[ri.1 hlen]at e;have:t=0:=by have:(0:Int)=t:=e;omega
   subst this;exact y3 ω
  |succ n ih=>
   intro t hu e;have hne:u≠[]:=by intro q;rw[q]at hlen;simp at hlen
   have hsplit:=List.dropLast_concat_getLast hne;have hu':Wd (kk m) u.dropLast:=λi hi=>hu i (List.dropLast_subset _ hi);have hi:u.getLast hne<kk m:=hu _ (List.getLast_mem hne);have h2:=(vj m u.dropLast 0 (u.getLast hne)).2;rw[hsplit,e]at h2;have hin:=z4O h u.dropLast 0 ⟨ω,ω⟩ hu';by_cases hneg:aft m 0 u.dropLast<0
   ·exfalso;unfold nxE at h2;rw[if_pos hneg]at h2;simp at h2
   obtain⟨s,hs⟩:∃s:Nat,aft m 0 u.dropLast=s:=⟨(aft m 0 u.dropLast).toNat,ω⟩;have hy:=ih u.dropLast (by simp[hlen]) s hu' hs;rw[hs,ul]at h2;rcases y2.new s hy with g|⟨_,g⟩
   ·exact absurd g (no s)
   have:=g _ hi ω;rw[<-h2]at this;simpa using this
 constructor
 ·intro q t ht;have hx:y[t]?=some y[t]:=pB ω;have:=q _ (pT hx);rw[show y[t]=true from this]at hx;rcases y2.new t hx with g|⟨g,_⟩
  ·exact absurd g (no t)
  exact g
 intro q b hb;have ⟨t,ht⟩:=gT.1 hb;have htl:=(pC.1 ht).1;have ⟨u,hu,e⟩:=q t ω;have:=clo u t hu e;rw[ht]at this;cases this;rfl
end
def zgX:∀(N:Nat) (l:TC),l.Nodup->(∀t∈l,t<N)->l.length<=N
 |0,l,_,h=>by
  cases l with
  |nil=>exact pF _
  |cons x l=>have:=h x ς;omega
 |N+1,l,hn,h=>by
  have ih:=zgX N (l.erase N) (hn.erase N) λt ht=>by
   have h1:=h t (List.mem_of_mem_erase ht);have h2:t≠N:=λe=>by subst e;exact absurd ht (hn.not_mem_erase)
   omega
  by_cases hm:N∈l
  ·rw[sd hm]at ih;omega
  rw[List.erase_of_not_mem hm]at ih;omega
def Cpl (m:z6):Prop:=∀s i,s<m.i.length->i<kk m->0<=(E m s i).o
def zjP (m:z6):Prop:=∀t,t<m.i.length->Rch m t
def zkd (m:z6):Prop:=∀s t,s<m.i.length->t<m.i.length->SEq m s t->s=t
def PE (m:z6)(e:Int):Prop:=(e=9/\¬Cpl m)\/(e=11/\Cpl m/\¬zjP m)\/(e=12/\Cpl m/\zjP m/\¬zkd m)\/(e=0/\Cpl m/\zjP m/\zkd m)
def PE.uniq {e f:Int}(h:PE m e)(g:PE m f):e=f:=by rcases h with⟨rfl,a⟩|⟨rfl,a,b⟩|⟨rfl,a,b,c⟩|⟨rfl,a,b,c⟩<;>rcases g with⟨rfl,x⟩|⟨rfl,x,y⟩|⟨rfl,x,y,z⟩|⟨rfl,x,y,z⟩<;>first|rfl|exact absurd x a|exact absurd a x|exact absurd y b|exact absurd b y|exact absurd z c|exact absurd c z
section
variable {m:z6}(h:VM m)
include h
theorem zg8 (hs:s<m.i.length){r:List z7}(r2:r.length=kk m)(r3:∀i,i<kk m->r[i]?=some (E m s i)){out0:List (wF Int)}(hl:out0.length<=s*16) :
  Ret (loop (λst=>wQ (yOf λs x=>yw s x.1 x.2) (s:Int) r st.1 st.2) ((.next out0:LR (List (wF Int)) Empty),0)) λy=>∃out,y=.inl (.next out)/\out.length<=(s+1)*16/\(out=[]↔out0=[]/\∀i,i<kk m->0<=(E m s i).o):=by
 have hk:=h.kk_le;have hN:=h.w;refine zz (λst=>∃(i:Nat) (out:List (wF Int)),st.2=(i:Int)/\i<=kk m/\st.1=.next out/\out.length<=s*16+i/\(out=[]↔out0=[]/\∀j,j<i->0<=(E m s j).o)) (λst=>20-st.2.toNat) ⟨0,out0,rfl,ω,rfl,ω,ς⟩ (by show 20-_<_;omega) ?_;rintro⟨_,_⟩ ⟨i,out,rfl,hi,rfl,ho,he⟩;show Ret (wQ (yOf λs x=>yw s x.1 x.2) (s:Int) r (.next out) (i:Int)) _;unfold wQ;rw[zj];refine⟨λhc=>?_,λhc=>?_⟩
 ·have hc:(i:Int)<(r.length:Int):=of_decide_eq_true hc;have hik:i<kk m:=ω
  have w2:w64 ((i:Int)+1)=((i+1:Nat):Int):=by rw[zr ω ω];rfl
  have hed:=h.edgeAt hs hik;rw[bdT (zu (r3 i hik))];unfold yOf yw um;simp only[oB];by_cases ht:(E m s i).o=-1
  ·have ho1:(E m s i).r=-1:=ω
   rw[ht,ho1];simp only[beq_self_eq_true,sO,cond_true];rw[gdT (by simp;omega)];simp only[oB,mH,cond_false];rw[z8,w2];refine⟨⟨i+1,_,rfl,ω,rfl,by simp;omega,?_⟩,by simp only[pE];omega⟩;constructor
   ·intro q;simp at q
   rintro⟨_,q⟩;have:=q i ω;omega
  have e1:((E m s i).o == -1)=false:=ξ ht
  rw[e1,Bool.false_and,cond_false];simp only[oB,mH,cond_false];rw[z8,w2];refine⟨⟨i+1,out,rfl,ω,rfl,ω,he.trans ?_⟩,by simp only[pE];omega⟩;constructor
  ·rintro⟨a,b⟩;refine⟨a,λj hj=>?_⟩;by_cases e:j=i
   ·subst e;omega
   exact b j ω
  rintro⟨a,b⟩;exact⟨a,λj hj=>b j ω⟩
 have hc:=of_decide_eq_false hc;have:i=kk m:=ω
 subst this;exact z8.2 ⟨out,rfl,ω,he⟩
theorem z7I:Ret (qU m) λr=>r.2=0/\(r.1=true↔Cpl m):=by
 have hk:=h.kk_le;have hN:=h.w;unfold qU Zx Vf;rw[V4,z0y h,oB,bne_self_eq_false,cond_false,oB];unfold jX;rw[zi,zi,zi];refine(zz (R:=λy:LR (List (wF Int)) Empty=>∃out,y=.next out/\out.length<=2000/\(out=[]↔Cpl m)) (λst:LR (List (wF Int)) Empty×Int=>∃(s:Nat) (out:List (wF Int)),st.2=(s:Int)/\s<=m.i.length/\st.1=.next out/\out.length<=s*16/\(out=[]↔∀t j,t<s->j<kk m->0<=(E m t j).o)) (λst=>100-st.2.toNat) ⟨0,[],rfl,ω,rfl,ς,ς⟩ (by show 100-_<_;omega) ?_).mono ?_
 ·rintro⟨_,_⟩ ⟨s,out,rfl,hs,rfl,ho,he⟩;show Ret (uo m (yOf λs x=>yw s x.1 x.2) (.next out) (s:Int)) _;unfold uo;rw[zj];refine⟨λhc=>?_,λhc=>?_⟩
  ·have hc:(s:Int)<(m.i.length:Int):=of_decide_eq_true hc;have hsN:s<m.i.length:=ω
   have ⟨r,r1,r2,r3⟩:=h.rowAt hsN;rw[bdT (zu r1),zi];refine(zg8 h hsN r2 r3 ho).mono ?_;rintro y ⟨out',rfl,g1,g2⟩;simp only;unfold kD;rw[z8,zr (x:=(s:Int)+1) ω ω];refine⟨⟨s+1,out',rfl,ω,rfl,g1,g2.trans ?_⟩,by simp only;omega⟩;rw[he];constructor
   ·rintro⟨a,b⟩ t j ht hj;by_cases e:t=s
    ·subst e;exact b j hj
    exact a t j ω hj
   intro a;exact⟨λt j ht hj=>a t j ω hj,λj hj=>a s j ω hj⟩
  have hc:=of_decide_eq_false hc;have:s=m.i.length:=ω
  subst this;exact z8.2 ⟨out,rfl,ω,he⟩
 rintro y ⟨out,rfl,g1,g2⟩;rw[z8];simp only;unfold qK uj;rw[gdT ω,oB,z8,z8];refine⟨rfl,?_⟩;rw[<-g2];cases out with
 |nil=>simp
 |cons a l=>simp;omega
omit h in
theorem ziN {l:TB}(h0:0<l.length)(hl:l.length<=100000):Ret (uK l) λx=>x∈l/\∀y∈l,y<=x:=by
 unfold uK uY;have e0:l[0]?=some l[0]:=pB h0;rw[decide_eq_false ω,cond_false,bdT (show idx l 0=some l[0] from e0),zi];refine Ret.mono ?_ λx hx=>z8.2 hx;refine zz (λst=>∃i:Nat,st.2=(i:Int)/\1<=i/\i<=l.length/\st.1∈l/\∀j y,j<i->l[j]?=some y->y<=st.1) (λst=>100000-st.2.toNat) ⟨1,rfl,ω,ω,pO _,λj y hj hy=>by
  have:j=0:=ω
  subst this;rw[e0]at hy;cases hy;exact Int.le_refl _⟩ (by show 100000-_<_;omega) ?_
 rintro⟨x,_⟩ ⟨i,rfl,i1,i2,hx,hm⟩;simp only at hx hm;show Ret (uX l x (i:Int)) _;unfold uX;rw[zj];refine⟨λhc=>?_,λhc=>?_⟩
 ·have hc:(i:Int)<(l.length:Int):=of_decide_eq_true hc;have hy:l[i]?=some l[i]:=pB ω;rw[bdT (zu hy),z8,zr (x:=(i:Int)+1) ω ω];refine⟨⟨i+1,rfl,ω,ω,?_,λj y hj hjy=>?_⟩,by simp only;omega⟩
  ·show mx x l[i]∈l;unfold mx;split
   ·exact pO _
   exact hx
  show y<=mx x l[i];unfold mx;by_cases e:j=i
  ·subst e;rw[hy]at hjy;cases hjy;split<;>omega
  have:=hm j y ω hjy;split<;>omega
 have hc:=of_decide_eq_false hc;refine z8.2 ⟨hx,λy hy=>?_⟩;have ⟨j,hj⟩:=gT.1 hy;exact hm j y (by have:=(pC.1 hj).1;omega) hj
omit h in
theorem zio (hr:Rgf p)(h0:0<p.length){x:Int}(hx:x∈p)(hm:∀y∈p,y<=x):x=(p.length:Int)-1↔∀s t:Nat,s<p.length->t<p.length->p[s]?=p[t]?->s=t:=by
 constructor
 ·intro e;have ⟨s0,hs0⟩:=gT.1 hx;have ⟨v,v1,v2⟩:=hr s0 x hs0;have hs0l:=(pC.1 hs0).1;have place:∀w:Nat,w<p.length->∃s,s<p.length/\p[s]?=some (w:Int):=by
   intro w hw;by_cases q:w=v
   ·subst q;exact⟨s0,hs0l,by rw[hs0,v1]⟩
   have ⟨t,t1,t2⟩:=v2 w ω;exact⟨t,ω,t2⟩
  intro s t hs ht hst;refine gE λhne=>?_;have:∃g:Nat->Nat,∀w,w<p.length->g w<p.length/\p[g w]?=some (w:Int):=by
   classical
   exact⟨λw=>if q:w<p.length then(place w q).choose else 0,λw hw=>by simp[hw];exact(place w hw).choose_spec⟩
  have ⟨g,hg⟩:=this;have:∃u,u<p.length/\∀w,w<p.length->g w≠u:=by
   refine gE λq=>?_;have q:∀u,u<p.length->∃w,w<p.length/\g w=u:=λu hu=>gE λq2=>q ⟨u,hu,λw hw e=>q2 ⟨w,hw,e⟩⟩;obtain⟨a,a1,rfl⟩:=q s hs;obtain⟨b,b1,rfl⟩:=q t ht;rw[(hg a a1).2,(hg b b1).2]at hst;have:a=b:=by have:=Option.some.inj hst;omega
   exact hne (by rw[this])
  have ⟨u,hu,hgu⟩:=this;have hnd:(u::(List.range p.length).map g).Nodup:=by
   rw[gA];refine⟨λq=>?_,?_⟩
   ·have ⟨w,hw,e⟩:=pY.1 q;exact hgu w (gN.1 hw) e
   rw[List.Nodup,s9];refine rP (λ{a b} ha hb hab=>?_) List.nodup_range;intro e;have ha:=hg a (gN.1 ha);have hb:=hg b (gN.1 hb);rw[e,hb.2]at ha;have:=Option.some.inj ha.2;omega
  have:=zgX p.length _ hnd (λw hw=>by
   rcases pG.1 hw with rfl|q
   ·exact hu
   obtain⟨z,hz,rfl⟩:=pY.1 q;exact(hg z (gN.1 hz)).1)
  simp at this;omega
 intro q;have e:p=(List.range p.length).map Int.ofNat:=by
  refine z9l hr (λs y hy=>?_) ς λs t hs ht=>?_
  ·have hs:s<p.length:=by have:=(pC.1 hy).1;simpa using this
   simp[hs]at hy;refine⟨s,hy.symm,λw hw=>⟨w,hw,by simp[show w<p.length by omega]⟩⟩
  constructor
  ·intro g;rw[q s t hs ht g]
  intro g;simp[hs,ht]at g;have:s=t:=ω
  rw[this]
 have hin:((p.length-1:Nat):Int)∈(List.range p.length).map Int.ofNat:=pY.2 ⟨p.length-1,gN.2 ω,rfl⟩;rw[<-e]at hin;have h1:=hm _ hin;rw[e]at hx;obtain⟨w,hw,rfl⟩:=pY.1 hx;have:=gN.1 hw;have:Int.ofNat w=(w:Int):=rfl;omega
theorem zaK:Ret (xJ m) (PE m):=by
 have hN:=h.w;have hN1:=h.D;unfold xJ Wf Yb Ya Y9 kC;rw[V4,z0y h,oB,bne_self_eq_false,cond_false,oB,zi,zi];refine(z7I h).mono ?_;rintro⟨b1,_⟩ ⟨_,hb1⟩;rw[z8];simp only at hb1⊢;cases b1 with
 |false=>exact z8.2 (.inl ⟨rfl,λq=>by have:=hb1.2 q;cases this⟩)
 |true=>
  have hc:=hb1.1 rfl;simp[mH,cond_false];rw[zi,zi];refine(z0w h).mono ?_;rintro⟨b2,_⟩ ⟨_,hb2⟩;rw[z8];simp only at hb2⊢;cases b2 with
  |false=>exact z8.2 (.inr (.inl ⟨rfl,hc,λq=>by have:=hb2.2 q;cases this⟩))
  |true=>
   have hr:=hb2.1 rfl;simp;rw[zi,zi];refine(zaY h).mono ?_;rintro⟨p,n,e⟩ ⟨_,hp,hrg,hq⟩;simp only at hp hrg hq⊢;rw[zi];refine(ziN (l:=p) ω ω).mono ?_;rintro x ⟨x1,x2⟩;have hmax:=zio hrg ω x1 x2;rw[z8,zr (x:=(p.length:Int)-1) ω ω];have hd:zkd m↔∀s t:Nat,s<p.length->t<p.length->p[s]?=p[t]?->s=t:=by rw[hp];exact⟨λd s t hs ht g=>d s t hs ht ((hq s t hs ht).1 g),λd s t hs ht g=>d s t hs ht ((hq s t hs ht).2 g)⟩
   by_cases g:x=(p.length:Int)-1
   ·rw[beq_iff_eq.2 g];simp;exact z8.2 (.inr (.inr (.inr ⟨rfl,hc,hr,hd.2 (hmax.1 g)⟩)))
   have:(x==(p.length:Int)-1)=false:=ξ g
   rw[this];simp;exact z8.2 (.inr (.inr (.inl ⟨rfl,hc,hr,λd=>g (hmax.2 (hd.1 d))⟩)))
end
structure zgG (m:z6)(F:TC)(p:z6):Prop where
 inp:p.j=m.j
 out:p.m=m.m
 len:p.i.length=F.length
 row:∀k:Nat,k<F.length->∃row,p.i[k]?=some row/\row.length=kk m/\∀i:Nat,i<kk m->∃e,row[i]?=some e/\e.r=(E m F[k]! i).r /\
  ((0<=(E m F[k]! i).o/\∃n:Nat,e.o=(n:Int)/\n<F.length/\SEq m F[n]! (E m F[k]! i).o.toNat)\/((E m F[k]! i).o=-1/\e.o=-1))
variable {F:TC}
def ZM.at (hF:ZM m F)  (hk:k<F.length):F[k]!∈F/\F[k]! < m.i.length/\F[k]?=some F[k]!:=by
 have hm:F[k]!∈F:=by rw[getElem!_pos F k hk];exact pO hk
 exact⟨hm,(hF.acc _ hm).1,by rw[getElem!_pos F k hk];exact pB hk⟩
def ZM.uniq (hF:ZM m F){i j:Nat}(hi:i<F.length)(hj:j<F.length)(h:SEq m F[i]! F[j]!):i=j:=by
 rw[getElem!_pos F i hi,getElem!_pos F j hj]at h;have:=mL.1 hF.dist;rcases nE i j with q|q|q
 ·exact(this i j hi hj q h).elim
 ·exact q
 exact(this j i hj hi q h.symm).elim
def ZM.len (hF:ZM m F):F.length<=m.i.length:=by refine Wg _ F ?_ λx hx=>(hF.acc x hx).1;refine List.Pairwise.imp ?_ hF.dist;intro a b q e;subst e;exact q (SEq.refl _)
section
variable {m:z6}(h:VM m)(hG:GG (kk m) m.i.length<=1000000000){F:TC}(hF:ZM m F)
include h hG hF
theorem zg3 (hs:s<m.i.length)(hr:Rch m s):∃i,i<F.length/\SEq m F[i]! s:=by
 have ⟨r,_,_,_,r3⟩:=z4P h hG;rcases r3 s hs with⟨_,v,_,hv⟩|⟨_,hno⟩
 ·have ⟨t,ht,q,_⟩:=hF.all s v hs hv;have ⟨i,hi,e⟩:=List.getElem_of_mem ht;exact⟨i,hi,by rw[getElem!_pos F i hi,e];exact q⟩
 have ⟨u,hu,e⟩:=hr;exact(hno u hu e).elim
theorem ziP (hf:kN m=some (F.map Int.ofNat)):Ret (z0b m) λo=>o.length=m.i.length/\∀s,s<m.i.length->Rch m s->∃n:Nat,o[s]?=some (n:Int)/\n<F.length/\SEq m F[n]! s:=by
 have l64:=h.w;have hFl:=hF.len;unfold z0b QU;rw[zi];refine(z3r h.wm).mono ?_;rintro p ⟨p1,p2⟩;rw[bdT hf,zi];refine(z8m h).mono ?_;rintro is ⟨q1,q2⟩;rw[zi];have w1:∀n:Nat,n<1000->w64 ((n:Int)+1)=((n+1:Nat):Int):=λn hn=>by rw[zr ω ω];rfl
 refine Ret.mono (Q:=λo=>o.length=m.i.length/\∀s,s<m.i.length->Rch m s->∃n:Nat,o[s]?=some (n:Int)/\n<F.length/\SEq m F[n]! s) ?_ λo ho=>z8.2 ho;refine zz (λq=>∃s:Nat,q.2=(s:Int)/\s<=m.i.length/\q.1.length=s/\∀t:Nat,t<s->Rch m t->∃n:Nat,q.1[t]?=some (n:Int)/\n<F.length/\SEq m F[n]! t) (λq=>1000-q.2.toNat) ⟨0,rfl,pQ _,rfl,λt ht=>ω⟩ ς ?_;rintro⟨out,q⟩ ⟨s,e1,s1,s2,s3⟩;simp only at e1 s2 s3;subst e1;unfold z1A;rw[zj];refine⟨λhc=>?_,λhc=>?_⟩
 ·have hs:s<m.i.length:=by rw[p1]at hc;simpa using hc
  rw[zi];have hl:s<is.length:=ω
  obtain⟨y,hy⟩:∃y,p[s]?=some y:=⟨_,pB ω⟩;have inner:Ret (loop (λq=>QR p (F.map Int.ofNat) is (s:Int) q.1 q.2) ((-1),0)) λk=>Rch m s->∃n:Nat,k=(n:Int)/\n<F.length/\SEq m F[n]! s:=by
   refine zz (λq=>∃n:Nat,q.2=(n:Int)/\n<=F.length/\(Rch m s->(∀i,i<n->¬SEq m F[i]! s)\/∃i:Nat,q.1=(i:Int)/\i<F.length/\SEq m F[i]! s)) (λq=>1000-q.2.toNat) ⟨0,rfl,pQ _,λ_=>.inl λi hi=>ω⟩ ς ?_;rintro⟨k,q⟩ ⟨n,e1,n1,n2⟩;simp only at e1 n2;subst e1;unfold QR YK;rw[zj];refine⟨λhc=>?_,λhc=>?_⟩
   ·have hn:n<F.length:=ξ hc
    have ⟨f1,f2,f3⟩:=hF.at hn;have hx:(F.map Int.ofNat)[n]?=some ((F[n]!:Nat):Int):=by rw[gG,f3];rfl
    obtain⟨x,hx2⟩:∃x,p[F[n]!]?=some x:=⟨_,pB ω⟩;have hcl:=p2 _ _ f2 hs;rw[hx2,hy,Option.some.injEq]at hcl;rw[zA,bdT (pB hl),zj,w1 n ω];have step:∀k',(Rch m s->(∀i,i<n+1->¬SEq m F[i]! s)\/∃i:Nat,k'=(i:Int)/\i<F.length/\SEq m F[i]! s)->Ret (some (LR.next (k',((n+1:Nat):Int)):LR (Int×Int) Int)) (LRP (λs'=>(∃n:Nat,s'.2=(n:Int)/\n<=F.length/\(Rch m s->(∀i,i<n->¬SEq m F[i]! s)\/∃i:Nat,s'.1=(i:Int)/\i<F.length/\SEq m F[i]! s))/\1000-s'.2.toNat<1000-(n:Int).toNat) λk=>Rch m s->∃n:Nat,k=(n:Int)/\n<F.length/\SEq m F[n]! s):=by intro k' hk';exact z8.2 ⟨⟨n+1,rfl,hn,hk'⟩,by simp[pE];omega⟩
    have grow:¬SEq m F[n]! s->Rch m s->(∀i,i<n+1->¬SEq m F[i]! s)\/∃i:Nat,k=(i:Int)/\i<F.length/\SEq m F[i]! s:=by
     intro hno hr;rcases n2 hr with g|g
     ·refine .inl λi hi=>?_;rcases pM i n with q|q
      ·exact g i q
      have:i=n:=ω
      subst this;exact hno
     exact .inr g
    refine⟨λhb=>?_,λhb=>step k λhr=>?_⟩
    ·rw[zA,bdT hx,zA,bdT hx2,zA,bdT hy,zj];refine⟨λe=>step _ λ_=>.inr ⟨n,rfl,hn,hcl.1 (ξ e)⟩,λe=>step _ (grow λg=>?_)⟩;have:=hcl.2 g;simp[this]at e
    have:=(q2 s hs).2 hr;rw[pB hl,hb]at this;cases this
   have:n=F.length:=by
    have:¬n<F.length:=ξ hc
    omega
   subst this;refine z8.2 λhr=>?_;rcases n2 hr with g|g
   ·have ⟨i,hi,q⟩:=zg3 h hG hF hs hr;exact(g i hi q).elim
   exact g
  refine inner.mono λk hk=>?_;unfold QS QT;rw[Xe,w1 s ω];refine⟨by simp;omega,z8.2 ⟨⟨s+1,rfl,hs,by simp[s2],λt ht hr=>?_⟩,by simp[pE];omega⟩⟩;rcases pM t s with q|q
  ·rw[pI (show t<out.length from by rw[s2];exact q)];exact s3 t q hr
  have:t=s:=ω
  subst this;obtain⟨n,rfl,g⟩:=hk hr;exact⟨n,by rw[<-s2,pH (pF _)];simp,g⟩
 have:s=m.i.length:=by
  have:¬s<m.i.length:=by rw[p1]at hc;simpa using hc
  omega
 subst this;exact z8.2 ⟨s2,s3⟩
end
section
variable {m:z6}(h:VM m)(hG:GG (kk m) m.i.length<=1000000000)
include h hG
theorem z8y:Ret (Xk m) λp=>∃F,ZM m F/\zgG m F p:=by
 have l64:=h.w;have hk2:=h.kk_le;have hke:=h.kk_eq;obtain⟨o,hf,F,rfl,hF⟩:=zaT h hG;have hFl:=hF.len;have ⟨mp,hm,m1,m2⟩:=ziP h hG hF hf;have w1:∀n:Nat,n<1000->w64 ((n:Int)+1)=((n+1:Nat):Int):=λn hn=>by rw[zr ω ω];rfl
 unfold Xk X5;rw[bdT hf,bdT hm,zi];let RowI:Nat->List z7->Nat->Prop:=λk row n=>row.length=n/\∀i:Nat,i<n->∃e,row[i]?=some e/\e.r=(E m F[k]! i).r /\
  ((0<=(E m F[k]! i).o/\∃n:Nat,e.o=(n:Int)/\n<F.length/\SEq m F[n]! (E m F[k]! i).o.toNat)\/((E m F[k]! i).o=-1/\e.o=-1))
 have hrow:∀k:Nat,k<F.length->Ret (loop (λs=>X1 m (F.map Int.ofNat) mp (k:Int) s.1 s.2) (([]:List z7),0)) λrow=>RowI k row (kk m):=by
  intro k hk;have ⟨f1,f2,f3⟩:=hF.at hk;have hx:(F.map Int.ofNat)[k]?=some ((F[k]!:Nat):Int):=by rw[gG,f3];rfl
  have hrch:Rch m F[k]!:=by have ⟨_,v,hv⟩:=hF.acc _ f1;exact⟨v,hv.wd,hv.aft⟩
  refine zz (λq=>∃i:Nat,q.2=(i:Int)/\i<=kk m/\RowI k q.1 i) (λq=>1000-q.2.toNat) ⟨0,rfl,pQ _,rfl,λi hi=>ω⟩ ς ?_;rintro⟨row,q⟩ ⟨i,e1,i1,i2,i3⟩;simp only at e1 i2 i3;subst e1;unfold X1;rw[zj];refine⟨λhc=>?_,λhc=>?_⟩
  ·have hi:i<kk m:=by rw[<-hke]at hc;simpa using hc
   have he:=h.edgeAt f2 hi;rw[zA,bdT hx,h.edge_eq f2 hi,zj];have fin:∀to:Int,((0<=(E m F[k]! i).o/\∃n:Nat,to=(n:Int)/\n<F.length/\SEq m F[n]! (E m F[k]! i).o.toNat)\/((E m F[k]! i).o=-1/\to=-1)) ->
     Ret (uw row (i:Int) (E m F[k]! i) to) (LRP (λs'=>(∃i:Nat,s'.2=(i:Int)/\i<=kk m/\RowI k s'.1 i)/\1000-s'.2.toNat<1000-(i:Int).toNat) λrow=>RowI k row (kk m)):=by
    intro to hto;unfold uw;rw[Xe,w1 i ω];refine⟨by simp;omega,z8.2 ⟨⟨i+1,rfl,hi,by simp[i2],λj hj=>?_⟩,by simp[pE];omega⟩⟩;rcases pM j i with q|q
    ·rw[pI (show j<row.length from by rw[i2];exact q)];exact i3 j q
    have:j=i:=ω
    subst this;refine⟨⟨to,(E m F[k]! j).r⟩,?_,rfl,hto⟩
    conv=>lhs;arg 2;rw[<-i2]
    rw[pH (pF _)];simp
   refine⟨λhc=>?_,λhc=>?_⟩
   ·have h0:0<=(E m F[k]! i).o:=ξ hc
    have ⟨t,ht⟩:=rj h0;have htN:t<m.i.length:=ω
    have hr:Rch m t:=by have:=rch_step hrch hi h0;rw[ht]at this;simpa using this
    have ⟨n,n1,n2,n3⟩:=m2 t htN hr;rw[ht,zA,bdT n1];exact fin _ (.inl ⟨h0,n,rfl,n2,by rw[ht];simpa using n3⟩)
   have h0:¬0<=(E m F[k]! i).o:=ξ hc
   have:(E m F[k]! i).o=-1:=ω
   exact fin _ (.inr ⟨this,this⟩)
  have:i=kk m:=by
   have:¬i<kk m:=by rw[<-hke]at hc;simpa using hc
   omega
  subst this;exact z8.2 ⟨i2,i3⟩
 have hloop:Ret (loop (λs=>X2 m (F.map Int.ofNat) mp s.1 s.2) (([]:List (List z7)),0)) λrows=>rows.length=F.length/\∀k:Nat,k<F.length->∃row,rows[k]?=some row/\RowI k row (kk m):=by
  refine zz (λq=>∃k:Nat,q.2=(k:Int)/\k<=F.length/\q.1.length=k/\∀j:Nat,j<k->∃row,q.1[j]?=some row/\RowI j row (kk m)) (λq=>1000-q.2.toNat) ⟨0,rfl,pQ _,rfl,λi hi=>ω⟩ ς ?_;rintro⟨rows,q⟩ ⟨k,e1,k1,k2,k3⟩;simp only at e1 k2 k3;subst e1;unfold X2;rw[zj];refine⟨λhc=>?_,λhc=>?_⟩
  ·have hk:k<F.length:=ξ hc
   rw[zi];refine(hrow k hk).mono λrow hr=>?_;unfold X3 X4;rw[Xe,w1 k ω];refine⟨by simp;omega,z8.2 ⟨⟨k+1,rfl,hk,by simp[k2],λj hj=>?_⟩,by simp[pE];omega⟩⟩;rcases pM j k with q|q
   ·rw[pI (show j<rows.length from by rw[k2];exact q)];exact k3 j q
   have:j=k:=ω
   subst this;refine⟨row,?_,hr⟩
   conv=>lhs;arg 2;rw[<-k2]
   rw[pH (pF _)];simp
  have:k=F.length:=by
   have:¬k<F.length:=ξ hc
   omega
  subst this;exact z8.2 ⟨k2,k3⟩
 refine hloop.mono ?_;rintro rows ⟨r1,r2⟩;refine z8.2 ⟨F,hF,rfl,rfl,r1,λk hk=>?_⟩;have ⟨row,e,q1,q2⟩:=r2 k hk;exact⟨row,e,q1,q2⟩
end
section
variable {m:z6}(h:VM m)
include h
omit h in
theorem zpd {p:z6}(hp:zgG m F p)(hk:kk p=kk m){k i:Nat}(h1:k<F.length)(hi:i<kk m):(E p k i).r=(E m F[k]! i).r/\((0<=(E m F[k]! i).o/\∃n:Nat,(E p k i).o=(n:Int)/\n<F.length/\SEq m F[n]! (E m F[k]! i).o.toNat)\/((E m F[k]! i).o=-1/\(E p k i).o=-1)):=by
 have ⟨row,q1,q2,q3⟩:=hp.row k h1;have ⟨e,e1,e2⟩:=q3 i hi;have:E p k i=e:=by unfold E;rw[q1,pX,e1];rfl
 rw[this];exact e2
omit h in
theorem z8j (hF:ZM m F){p:z6}(hp:zgG m F p):∀(w:TC) (k:Nat),k<F.length->Wd (kk m) w->rsp p (k:Int) w=rsp m ((F[k]!:Nat):Int) w
 |[],_,_,_=>rfl
 |i::w,k,hk,hw=>by
  have hkk:kk p=kk m:=by unfold kk;rw[hp.inp]
  have hi:=hw i ς;have hw':Wd (kk m) w:=λj hj=>hw j (by simp[hj]);have ⟨e1,e2⟩:=zpd hp hkk hk hi;simp only[rsp,ul,e1,List.cons.injEq,true_and];rcases e2 with⟨h0,n,g1,g2,g3⟩|⟨g1,g2⟩
  ·rw[g1,z8j hF hp w n g2 hw',g3 w hw'];congr 1;omega
  rw[g1,g2,z2Q _ _ _ ω,z2Q _ _ _ ω]
theorem z4E (hF:ZM m F):0<F.length/\F[0]! = 0:=by
 have l1:=h.D;have hacc:Acc m 0 []:=⟨λi hi=>by simp at hi,by show 0<m.i.length;omega,rfl,λu _ _=>by simp[rk,GG,VS]⟩;have ⟨s,hs,_,w,hw,hle⟩:=hF.all 0 [] ω hacc;have hw0:w=[]:=z9k hw.wd hacc.wd (by
  have:rk (kk m) ([]:TC)=0:=by simp[rk,GG,VS]
  omega)
 subst hw0;have hs0:s=0:=by have:=hw.aft;simp[aft]at this;omega
 subst hs0;have ⟨j,hj,ej⟩:=List.getElem_of_mem hs;refine⟨ω,?_⟩;rcases rG j with rfl|q
 ·rw[getElem!_pos F 0 ω];exact ej
 have h0:0<F.length:=ω
 have:=mL.1 hF.sorted 0 j h0 hj q;have ⟨_,v,hv⟩:=hF.acc F[0] (pO h0);have:=this v [] hv (by rw[ej];exact hacc);simp[rk,GG,VS]at this
theorem zh1 {s:Int}(hs:z1p m s)  (hi:i<kk m):0<=(nxE m s i).o↔0<=(nxE m s i).r:=by
 unfold nxE;split
 ·simp
 have:=hs.2;have:=h.edgeAt (s:=s.toNat) ω hi;omega
end
instance edgeDec:DecidableEq z7:=λx y=>if h:x.o=y.o/\x.r=y.r then isTrue (by cases x;cases y;simp_all) else isFalse (by rintro rfl;exact h ⟨rfl,rfl⟩)
def zg9 {x y:z7}:((x.o==y.o)&&((x.r==y.r)&&true))=decide (x=y):=by cases x;cases y;simp only[z7.mk.injEq,sD,Bool.decide_and];rfl
def zly {p q:z6}(hi:p.j=q.j)(ho:p.m=q.m)(hp:p.i.length<=1000)(hr:∀r∈p.i,r.length<=1000):Y8 p q=some (decide (p.i=q.i)):=by
 have w1:∀n:Nat,n<1000->w64 ((n:Int)+1)=((n+1:Nat):Int):=λn hn=>by rw[zr ω ω];rfl
 refine Ret.eq ?_;unfold Y8;rw[hi,ho];simp only[bne_self_eq_false,cond_false];rw[zj];refine⟨λhc=>?_,λhc=>?_⟩
 ·refine z8.2 ?_;rw[decide_eq_false];intro e;simp[e]at hc
 have hl:p.i.length=q.i.length:=by
  have:(p.i.length:Int)=(q.i.length:Int):=ξ hc
  omega
 rw[zi];have hloop:Ret (loop (λs=>Uo p q s) 0) λr=>match r with
   |.inl _=>p.i=q.i
   |.inr v=>v=false/\p.i≠q.i:=by
  refine zz (λk=>∃s:Nat,k=(s:Int)/\s<=p.i.length/\∀j:Nat,j<s->p.i[j]?=q.i[j]?) (λk=>2000-k.toNat) ⟨0,rfl,pQ _,λj hj=>ω⟩ ς ?_;rintro k ⟨s,rfl,s1,s2⟩;unfold Uo;rw[zj];refine⟨λhc=>?_,λhc=>?_⟩
  ·have hs:s<p.i.length:=ξ hc
   have hx:p.i[s]?=some p.i[s]:=pB hs;have hy:q.i[s]?=some (q.i[s]'ω):=pB ω;have hrl:=hr _ (pO hs);rw[zA,bdT hx,zA,bdT hy,zj];have neq:p.i[s]≠q.i[s]'ω->p.i≠q.i:=λg e=>g (by
    have:p.i[s]?=q.i[s]?:=by rw[e]
    rw[hx,hy]at this;exact Option.some.inj this)
   refine⟨λhc=>?_,λhc=>?_⟩
   ·refine z8.2 ⟨rfl,neq λe=>?_⟩;rw[e]at hc;simp at hc
   have hll:p.i[s].length=(q.i[s]'ω).length:=by
    have:((p.i[s].length:Nat):Int)=(((q.i[s]'ω).length:Nat):Int):=ξ hc
    omega
   rw[zi];have inner:Ret (loop (λi=>Un p q (s:Int) i) 0) λr=>match r with
     |.inl _=>p.i[s]=q.i[s]'ω
     |.inr v=>v=false/\p.i[s]≠q.i[s]'ω:=by
    refine zz (λk=>∃i:Nat,k=(i:Int)/\i<=p.i[s].length/\∀j:Nat,j<i->p.i[s][j]?=(q.i[s]'ω)[j]?) (λk=>2000-k.toNat) ⟨0,rfl,pQ _,λj hj=>ω⟩ ς ?_;rintro k ⟨i,rfl,i1,i2⟩;unfold Un;rw[zA,bdT hx,zj];refine⟨λhc=>?_,λhc=>?_⟩
    ·have hi:i<p.i[s].length:=ξ hc
     have ex:p.i[s][i]?=some p.i[s][i]:=pB hi;have ey:(q.i[s]'ω)[i]?=some ((q.i[s]'ω)[i]'ω):=pB ω;rw[bdT hx,zA,bdT ex,zA,bdT hy,zA,bdT ey,zg9,zj];refine⟨λhc=>?_,λhc=>?_⟩
     ·have hne:p.i[s][i]≠(q.i[s]'ω)[i]'ω:=ξ hc
      refine z8.2 ⟨rfl,λe=>hne ?_⟩;have:p.i[s][i]?=(q.i[s]'ω)[i]?:=by rw[e]
      rw[ex,ey]at this;exact Option.some.inj this
     have he:p.i[s][i]=(q.i[s]'ω)[i]'ω:=ξ hc
     rw[w1 i ω];refine z8.2 ⟨⟨i+1,rfl,hi,λj hj=>?_⟩,by simp only[pE];omega⟩;rcases pM j i with g|g
     ·exact i2 j g
     have:j=i:=ω
     subst this;rw[ex,ey,he]
    have:i=p.i[s].length:=by
     have:¬i<p.i[s].length:=ξ hc
     omega
    subst this;refine z8.2 (show p.i[s]=q.i[s]'ω from gW λj=>?_);rcases pM j p.i[s].length with g|g
    ·exact i2 j g
    rw[pL g,pL ω]
   refine inner.mono λr hr=>?_;cases r with
   |inl u=>
    have hr:p.i[s]=q.i[s]'ω:=hr;unfold Up;rw[w1 s ω];refine z8.2 ⟨⟨s+1,rfl,hs,λj hj=>?_⟩,by simp only[pE];omega⟩;rcases pM j s with g|g
    ·exact s2 j g
    have:j=s:=ω
    subst this;rw[hx,hy,hr]
   |inr v=>exact z8.2 ⟨hr.1,neq hr.2⟩
  have:s=p.i.length:=by
   have:¬s<p.i.length:=ξ hc
   omega
  subst this;refine z8.2 (show p.i=q.i from gW λj=>?_);rcases pM j p.i.length with g|g
  ·exact s2 j g
  rw[pL g,pL ω]
 refine hloop.mono λr hr=>?_;cases r with
 |inl u=>have hr:p.i=q.i:=hr;exact z8.2 (by rw[decide_eq_true hr])
 |inr v=>exact z8.2 (by rw[hr.1,decide_eq_false hr.2])
def tE (m:z6)(J:Nat):Nat:=(E m (J/kk m) (J%kk m)).o.toNat
def UT (m:z6):Nat->Nat
 |0=>1
 |J+1=>if tE m J=UT m J then UT m J+1 else UT m J
def ziG {I J:Nat}(h:I<=J):UT m I<=UT m J:=by
 induction h with
 |refl=>exact pF _
 |step _ ih=>refine pJ ih ?_;simp only[UT];split<;>omega
def zga {s k j:Nat}(h:j<k):(s*k+j)/k=s/\(s*k+j)%k=j :=
 ⟨by rw[nI,Nat.mul_add_div ω,Nat.div_eq_of_lt h,mV],by rw[nI,Nat.mul_add_mod,nY h]⟩
def zoT {J n k:Nat}(h:J<n*k):J/k<n/\J%k<k:=by
 have hk:0<k:=by rcases rG k with e|e;(rw[e]at h;omega);exact e
 exact⟨(Nat.div_lt_iff_lt_mul hk).2 h,sF _ hk⟩
section
variable {m:z6}(h:VM m)(hc:Cpl m)
include h hc
theorem zlo {s j:Nat}(hs:s<m.i.length)(hj:j<kk m):((tE m (s*kk m+j):Nat):Int)=(E m s j).o/\tE m (s*kk m+j)<m.i.length:=by unfold tE;obtain⟨e1,e2⟩:=zga (s:=s) hj;rw[e1,e2];have h1:=hc s j hs hj;have h2:=h.edgeAt hs hj;omega
theorem znv {J:Nat}(hJ:J<m.i.length*kk m):tE m J<m.i.length:=by obtain⟨h1,h2⟩:=zoT hJ;have:=(zlo h hc h1 h2).2;rwa[nI,Nat.div_add_mod]at this
theorem zlQ {J:Nat}(hJ:J<=m.i.length*kk m):UT m J<=m.i.length:=by
 induction J with
 |zero=>exact h.D
 |succ J ih=>have h1:=ih ω;have h2:=znv h hc (J:=J) ω;simp only[UT];split<;>omega
def zgF (m:z6)(b:Bool):Prop :=
 (b=true/\(∀J,J<m.i.length*kk m->tE m J<=UT m J)/\(∀s,s<m.i.length->s<UT m (s*kk m))/\UT m (m.i.length*kk m)=m.i.length) \/
 (b=false/\∃J,(∀I,I<J->tE m I<=UT m I)/\((J<m.i.length*kk m/\UT m J<tE m J)\/∃s,s<m.i.length/\J=s*kk m/\UT m J=s))
theorem zfg:Ret (Yx m) (zgF m):=by
 have l1:=h.D;have l64:=h.w;have k1:=h.kk_pos;have k16:=h.kk_le;have w1:∀n:Nat,n<10000->w64 ((n:Int)+1)=((n+1:Nat):Int):=λn hn=>by rw[zr ω ω];rfl
 unfold Yx;rw[zi];have outer:Ret (loop (λs=>qY m s.1 s.2) (1,0)) λr=>match r with
   |.inl p=>∃s:Nat,p=(s:Int)/\s<=m.i.length/\UT m (s*kk m)=s/\(∀J,J<s*kk m->tE m J<=UT m J)/\∀t,t<s->t<UT m (t*kk m)
   |.inr b=>zgF m b:=by
  refine zz (λq=>∃s:Nat,q.2=(s:Int)/\q.1=((UT m (s*kk m):Nat):Int)/\s<=m.i.length/\s<=UT m (s*kk m)/\(∀J,J<s*kk m->tE m J<=UT m J)/\∀t,t<s->t<UT m (t*kk m)) (λq=>1000-q.2.toNat) ⟨0,rfl,by rw[Nat.zero_mul];rfl,pQ _,pQ _,λJ hJ=>ω,λt ht=>ω⟩ ς ?_;rintro⟨_,_⟩ ⟨s,rfl,rfl,hs,hsn,hJ,ht⟩;show Ret (qY m _ (s:Int)) _;have hb:=zlQ h hc (J:=s*kk m) (pV _ hs);unfold qY;rw[zj];refine⟨λc=>?_,λc=>?_⟩
  ·have hlt:s<UT m (s*kk m):=by have:=of_decide_eq_true c;omega
   have hsl:s<m.i.length:=ω
   obtain⟨r,r1,r2,r3⟩:=h.rowAt hsl;have hend:s*kk m+kk m=(s+1)*kk m:=by rw[gZ,nU]
   have hsk:(s+1)*kk m<=m.i.length*kk m:=pV _ hsl;rw[zA,bdT r1,zi];have inner:Ret (loop (λq=>qX r q.1 q.2) (((UT m (s*kk m):Nat):Int),0)) λr=>match r with
     |.inl p=>p=((UT m ((s+1)*kk m):Nat):Int)/\∀J,J<(s+1)*kk m->tE m J<=UT m J
     |.inr b=>zgF m b:=by
    refine zz (λq=>∃j:Nat,q.2=(j:Int)/\q.1=((UT m (s*kk m+j):Nat):Int)/\j<=kk m/\∀J,J<s*kk m+j->tE m J<=UT m J) (λq=>1000-q.2.toNat) ⟨0,rfl,rfl,pQ _,hJ⟩ ς ?_;rintro⟨_,_⟩ ⟨j,rfl,rfl,hj,hJ2⟩;show Ret (qX r _ (j:Int)) _;unfold qX;rw[zj];refine⟨λc=>?_,λc=>?_⟩
    ·have hjl:j<kk m:=by have:=of_decide_eq_true c;omega
     obtain⟨t1,t2⟩:=zlo h hc hsl hjl;have hb2:=zlQ h hc (J:=s*kk m+j) ω;rw[zA,bdT (r3 j hjl),<-t1,zj];have fin:∀v:Nat,v=UT m (s*kk m+j+1)->tE m (s*kk m+j)<=UT m (s*kk m+j)->Ret (vT (j:Int) (v:Int)) (LRP (λq=>(∃j:Nat,q.2=(j:Int)/\q.1=((UT m (s*kk m+j):Nat):Int)/\j<=kk m/\∀J,J<s*kk m+j->tE m J<=UT m J)/\1000-q.2.toNat<1000-((j:Nat):Int).toNat) λr=>match r with
       |.inl p=>p=((UT m ((s+1)*kk m):Nat):Int)/\∀J,J<(s+1)*kk m->tE m J<=UT m J
       |.inr b=>zgF m b):=by
      intro v hv hle;unfold vT;rw[w1 j ω];refine z8.2 ⟨⟨j+1,rfl,by rw[hv];rfl,hjl,λJ hJ=>?_⟩,by simp only[pE];omega⟩;rcases pM J (s*kk m+j) with g|g
      ·exact hJ2 J g
      have:J=s*kk m+j:=ω
      rw[this];exact hle
     refine⟨λc2=>?_,λc2=>?_⟩
     ·have:=of_decide_eq_true c2;exact z8.2 (.inr ⟨rfl,s*kk m+j,hJ2,.inl ⟨ω,ω⟩⟩)
     have:=of_decide_eq_false c2;rw[zj];refine⟨λc3=>?_,λc3=>?_⟩
     ·have he:tE m (s*kk m+j)=UT m (s*kk m+j):=by simp at c3;omega
      rw[w1 _ ω];exact fin _ (by simp only[UT];rw[if_pos he]) ω
     have he:tE m (s*kk m+j)≠UT m (s*kk m+j):=by intro e;rw[e]at c3;simp at c3
     exact fin _ (by simp only[UT];rw[if_neg he]) ω
    have:j=kk m:=by have:=of_decide_eq_false c;omega
    subst this;rw[hend]at hJ2⊢;exact z8.2 ⟨rfl,hJ2⟩
   refine inner.mono ?_;rintro(p|b) hp
   ·obtain⟨rfl,hp⟩:=hp;show Ret (qZ (s:Int) _) _;unfold qZ;rw[w1 s ω];have:=ziG (m:=m) (I:=s*kk m) (J:=(s+1)*kk m) ω;refine z8.2 ⟨⟨s+1,rfl,rfl,hsl,ω,hp,λt hts=>?_⟩,by simp only[pE];omega⟩;rcases pM t s with g|g
    ·exact ht t g
    have:t=s:=ω
    rw[this];exact hlt
   exact z8.2 hp
  have:UT m (s*kk m)=s:=by have:=of_decide_eq_false c;omega
  exact z8.2 ⟨s,by rw[this],hs,this,hJ,ht⟩
 refine outer.mono ?_;rintro(p|b) hp
 ·obtain⟨s,rfl,s1,s2,s3,s4⟩:=hp;show Ret (jA m (s:Int)) _;unfold jA;refine z8.2 ?_;by_cases e:s=m.i.length
  ·rw[e]at s2 s3 s4⊢;exact .inl ⟨ς,s3,s4,s2⟩
  refine .inr ⟨?_,s*kk m,s3,.inr ⟨s,ω,rfl,s2⟩⟩;simp only[beq_eq_false_iff_ne,ne_eq];omega
 exact z8.2 hp
end
def z33 {l:TB}(h:∀c∈l,0<=c):(l.map Int.toNat).map Int.ofNat=l:=by
 rw[mP]
 conv=>rhs;rw[<-List.map_id l]
 exact nC λc hc=>by have:=h c hc;show((c.toNat:Nat):Int)=c;omega
def zqF (l:TA):List TC:=l.map (List.map Int.toNat)
def fd:TB->TB->Nat->Int
 |x::a,y::b,k=>if x=y then fd a b (k+1) else(k:Int)
 |_,_,_=>-1
def ouS:Unit⊕Int->Int
 |.inl _=>-1
 |.inr p=>p
section
variable {m o:z6}(hm:VM m)(ho:VM o)(hi:m.j=o.j)
include hm ho hi
theorem zhb:kk m=kk o:=by have:=hm.kk_eq;have:=ho.kk_eq;omega
omit hm ho hi in
theorem st0 (hm:VM m):z1p m 0:=⟨ω,by have:=hm.D;omega⟩
def stp (m o:z6)(w:TB):Int:=fd (rsp m 0 (w.map Int.toNat)) (rsp o 0 (w.map Int.toNat)) 0
theorem z9V (hw:∀c∈w,0<=c/\c<m.j)(hl:w.length<=1000):Jg m o w=some (stp m o w):=by
 have hk:=hm.kk_eq;have hk2:=zhb hm ho hi;obtain⟨v,hv⟩:∃v,v=w.map Int.toNat:=⟨_,rfl⟩;have hn:v.map Int.ofNat=w:=by rw[hv];exact z33 λc hc=>(hw c hc).1
 have hd:∀i∈v,i<kk m:=λi h=>by rw[hv]at h;obtain⟨c,hc,rfl⟩:=pY.1 h;have:=hw c hc;omega
 have hvl:v.length=w.length:=by rw[hv,gD]
 unfold Jg;refine Ret.eq ?_;rw[zi];have key:Ret (loop (λs=>V2 m o w s.1 s.2.1 s.2.2) (0,0,0)) λt=>ouS t=stp m o w:=by
  refine zz (λq=>∃k:Nat,q.2.2=(k:Int)/\k<=v.length/\z1p m q.1/\z1p o q.2.1/\fd (rsp m q.1 (v.drop k)) (rsp o q.2.1 (v.drop k)) k=stp m o w) (λq=>2000-q.2.2.toNat) ⟨0,rfl,pQ _,st0 hm,st0 ho,by rw[hv];rfl⟩ (by show 2000-_<_;omega) ?_;rintro⟨s,t,_⟩ ⟨k,rfl,hkl,hs,ht,e⟩;simp only at hs ht e;show Ret (V2 m o w s t (k:Int)) _;unfold V2;rw[zj];refine⟨λc=>?_,λc=>?_⟩
  ·have hlt:k<v.length:=by rw[hvl];simpa using c
   have hx:w[k]?=some ((v[k]:Nat):Int):=by rw[<-hn,gG,pB hlt];rfl
   have hxk:v[k]<kk m:=hd _ (pO hlt);have hxo:v[k]<kk o:=hk2▸hxk;rw[mW hlt]at e;simp only[rsp,fd]at e;have hw64:w64 ((k:Int)+1)=((k+1:Nat):Int):=by rw[zr ω ω];rfl
   have fin:Ret (kP (k:Int) (nxE m s v[k]).o (nxE m s v[k]).r (nxE o t v[k]).o (nxE o t v[k]).r) (LRP (λq=>(∃k:Nat,q.2.2=(k:Int)/\k<=v.length/\z1p m q.1/\z1p o q.2.1/\fd (rsp m q.1 (v.drop k)) (rsp o q.2.1 (v.drop k)) k=stp m o w)/\2000-q.2.2.toNat<2000-((k:Int)).toNat) λt=>ouS t=stp m o w):=by
    unfold kP;rw[zj];refine⟨λc2=>?_,λc2=>?_⟩
    ·have hne:(nxE m s v[k]).r≠(nxE o t v[k]).r:=ξ c2
     rw[if_neg hne]at e;exact z8.2 e
    have he:(nxE m s v[k]).r=(nxE o t v[k]).r:=ξ c2
    rw[if_pos he]at e;rw[hw64];exact z8.2 ⟨⟨k+1,rfl,hlt,zaO hm hs hxk,zaO ho ht hxo,e⟩,by simp only[pE];omega⟩
   have fin3:Ret (kQ o t (k:Int) ((v[k]:Nat):Int) (nxE m s v[k]).o (nxE m s v[k]).r) (LRP (λq=>(∃k:Nat,q.2.2=(k:Int)/\k<=v.length/\z1p m q.1/\z1p o q.2.1/\fd (rsp m q.1 (v.drop k)) (rsp o q.2.1 (v.drop k)) k=stp m o w)/\2000-q.2.2.toNat<2000-((k:Int)).toNat) λt=>ouS t=stp m o w):=by
    unfold kQ;rw[zj];refine⟨λc2=>?_,λc2=>?_⟩
    ·have h1:t≠-1:=ξ c2
     have h2:=ht.1;have h3:=ht.2;have he:=ho.edge_eq (s:=t.toNat) ω hxo (f:=λe=>kP (k:Int) (nxE m s v[k]).o (nxE m s v[k]).r e.o e.r);rw[show((t.toNat:Nat):Int)=t by omega]at he;rw[he];have:nxE o t v[k]=E o t.toNat v[k]:=by unfold nxE;rw[if_neg ω]
     rw[<-this];exact fin
    have h1:t=-1:=ξ c2
    have:nxE o t v[k]=⟨-1,-1⟩:=by unfold nxE;rw[if_pos ω]
    rw[this]at fin;exact fin
   rw[zA,bdT hx,zj];refine⟨λc2=>?_,λc2=>?_⟩
   ·have h1:s≠-1:=ξ c2
    have h2:=hs.1;have h3:=hs.2;have he:=hm.edge_eq (s:=s.toNat) ω hxk (f:=λe=>kQ o t (k:Int) ((v[k]:Nat):Int) e.o e.r);rw[show((s.toNat:Nat):Int)=s by omega]at he;rw[he];have:nxE m s v[k]=E m s.toNat v[k]:=by unfold nxE;rw[if_neg ω]
    rw[<-this];exact fin3
   have h1:s=-1:=ξ c2
   have:nxE m s v[k]=⟨-1,-1⟩:=by unfold nxE;rw[if_pos ω]
   rw[this]at fin3;exact fin3
  have hge:k=v.length:=by have:=of_decide_eq_false c;omega
  subst hge;rw[List.drop_length]at e;exact z8.2 e
 refine key.mono λt ht=>?_;rw[<-ht];cases t<;>exact z8.2 rfl
variable {l:TA}(hl:l.length<=1000)(hw:∀w∈l,w.length<=1000/\∀c∈w,0<=c/\c<m.j)
include hl hw
end
def ziL {a c:Nat}(hc:1<=c):min (min a 65537*c) 65537=min (a*c) 65537:=by
 rcases Nat.le_total a 65537 with h|h
 ·rw[mM h]
 rw[Nat.min_eq_right h];have h1:=pV c h;omega
section
variable {m:z6}(h:VM m)
include h
theorem zgf (hs:1<=s/\s<=65536):Ret (loop (λq=>XC m (s:Int) q.1 q.2) (1,0)) λx=>∃i:Nat,i<=s*kk m/\x=(((s*m.m.toNat)^i:Nat):Int)/\(i=s*kk m\/65536<x):=by
 have hk:=h.kk_eq;have hk2:=h.kk_le;have o1:=h.out1;have o2:=h.out16;obtain⟨o,ho⟩:∃o:Nat,m.m=(o:Int):=⟨m.m.toNat,ω⟩;rw[ho,pE];have hN:s*kk m<=65536*16:=gY hs.2 hk2;have hC:s*o<=65536*16:=gY hs.2 ω;have e1:w64 ((s:Int)*m.j)=((s*kk m:Nat):Int):=by rw[<-hk,<-gV,zr ω ω]
 have e2:w64 ((s:Int)*m.m)=((s*o:Nat):Int):=by rw[ho,<-gV,zr ω ω]
 refine zz (λq=>∃i:Nat,q.2=(i:Int)/\i<=s*kk m/\q.1=(((s*o)^i:Nat):Int)) (λq=>2000000-q.2.toNat) ⟨0,rfl,pQ _,ς⟩ (by show 2000000-_<_;omega) ?_;rintro⟨_,_⟩ ⟨i,rfl,hi,rfl⟩;show Ret (XC m (s:Int) _ (i:Int)) _;unfold XC;rw[e1,e2,zj];refine⟨λc=>?_,λc=>?_⟩
 ·have hlt:i<s*kk m:=by have:=of_decide_eq_true c;omega
  rw[zj];refine⟨λc2=>?_,λc2=>?_⟩
  ·have hp:(s*o) ^ i<=65536:=by have:=of_decide_eq_true c2;omega
   have hm:(s*o)^i*(s*o)<=65536*(65536*16):=gY hp hC;have hw:w64 ((i:Int)+1)=((i+1:Nat):Int):=by rw[zr ω ω];rfl
   rw[<-gV,zr (x:=(((s*o)^i*(s*o):Nat):Int)) ω ω,hw];exact z8.2 ⟨⟨i+1,rfl,hlt,by rw[rC]⟩,by simp only[pE];omega⟩
  exact z8.2 ⟨i,hi,rfl,.inr (by have:=of_decide_eq_false c2;omega)⟩
 exact z8.2 ⟨i,hi,rfl,.inl (by have:=of_decide_eq_false c;omega)⟩
theorem zik (hs:1<=s/\s<=20):WR m (s:Int)=some ((min ((s*m.m.toNat)^(s*kk m)) 65537:Nat):Int):=by
 have hk:=h.kk_eq;have hk2:=h.kk_le;have o1:=h.out1;have o2:=h.out16;obtain⟨o,ho⟩:∃o:Nat,m.m=(o:Int):=⟨m.m.toNat,ω⟩;rw[ho,pE];have hN:s*kk m<=20*16:=gY hs.2 hk2;have hC:1<=s*o:=gY hs.1 (show 1<=o by omega);have e1:w64 ((s:Int)*m.j)=((s*kk m:Nat):Int):=by rw[<-hk,<-gV,zr ω ω]
 have hloop:loop (λq=>wO m (s:Int) q.1 q.2) (1,0)=some ((min ((s*o)^(s*kk m)) 65537:Nat):Int):=by
  have:=xo (step:=λq=>wO m (s:Int) q.1 q.2) (λi=>(((min ((s*o)^i) 65537:Nat):Int),(i:Int))) (s*kk m) (t:=((min ((s*o)^(s*kk m)) 65537:Nat):Int)) ω (λi hi=>?_) ?_
  ·exact this
  ·show wO m (s:Int) _ (i:Int)=_;unfold wO;have hw:w64 ((i:Int)+1)=((i+1:Nat):Int):=by rw[zr ω ω];rfl
   obtain⟨a,ha⟩:∃a,a=min ((s*o)^i) 65537:=⟨_,rfl⟩;have ha2:a<=65537:=ω
   have m1:a*s<=65537*20:=gY ha2 hs.2;have m2:a*s*o<=65537*20*16:=gY m1 ω;have q:=ziL (a:=(s*o)^i) hC;rw[<-ha,<-Nat.mul_assoc,<-rC]at q;rw[e1,decide_eq_true ω,cond_true,<-ha,<-gV,zr (x:=((a*s:Nat):Int)) ω ω,ho,<-gV,zr (x:=((a*s*o:Nat):Int)) ω ω,hw,<-q];congr 3;unfold mn;split<;>omega
  show wO m (s:Int) _ ((s*kk m:Nat):Int)=_;unfold wO;rw[e1,decide_eq_false ω];rfl
 unfold WR;rw[decide_eq_false ω,cond_false,bdT hloop];rfl
end
def rdy (m o:z6)(l:TA):Int:=if chk m≠0 then chk m else if chk o≠0 then chk o else if m.j≠o.j then 5 else chE m.j l
def zix (m o:z6)(l:TA):VL m o l=some (rdy m o l):=by
 have n1:loop (λs=>Xx m o s) 0=some (oS (y5 (λ_ x=>if chk x=0 then none else some (chk x)) [m,o] 0)):=by
  refine vt [m,o] ς _ (λi x hx=>?_) ?_
  ·have hlt:=(pC.1 hx).1;unfold Xx;rw[decide_eq_true ω,cond_true,zA,bdT hx,bdT (V4 x)];by_cases h:chk x=0
   ·rw[if_pos h,h];rfl
   rw[if_neg h,show(chk x !=0)=true by simpa using h];rfl
  unfold Xx;rw[decide_eq_false ω];rfl
 unfold VL rdy;rw[bdT n1];by_cases h:chk m=0
 ·rw[if_neg (show ¬chk m≠0 by simp[h])];by_cases h2:chk o=0
  ·rw[if_neg (show ¬chk o≠0 by simp[h2])];have e:y5 (λ_ x=>if chk x=0 then none else some (chk x)) [m,o] 0=none:=by simp[y5,h,h2]
   rw[e];show Xy m o l=_;unfold Xy;by_cases h3:m.j=o.j
   ·rw[if_neg (show ¬m.j≠o.j by simp[h3]),show(m.j !=o.j)=false by simp[h3],cond_false,bdT (KX _ _)]
   rw[if_pos (show m.j≠o.j from h3),show(m.j !=o.j)=true by simpa using h3];rfl
  rw[if_pos (show chk o≠0 from h2)];have e:y5 (λ_ x=>if chk x=0 then none else some (chk x)) [m,o] 0=some (chk o):=by simp[y5,h,h2]
  rw[e];rfl
 rw[if_pos (show chk m≠0 from h)];have e:y5 (λ_ x=>if chk x=0 then none else some (chk x)) [m,o] 0=some (chk m):=by simp[y5,h]
 rw[e];rfl
def dg (O d:Nat):z7:=⟨((d/O:Nat):Int),((d%O:Nat):Int)⟩
def esR (O B:Nat):Nat->Nat->List z7
 |0,_=>[]
 |L+1,k=>dg O (k%B)::esR O B L (k/B)
def InE (O S:Nat)(e:z7):Prop:=0<=e.r/\e.r<(O:Int)/\0<=e.o/\e.o<(S:Int)
def z9R (O S:Nat):List z7->Option (List z7)
 |[]=>none
 |e::r=>if e.r+1<(O:Int) then some (⟨e.o,e.r+1⟩::r) else if e.o+1<(S:Int) then some (⟨e.o+1,0⟩::r) else(z9R O S r).map (⟨0,0⟩ :: ·)
def zmn {O S d:Nat}(hO:1<=O)(hd:d<S*O):InE O S (dg O d):=by have h1:=sF d hO;have h2:=(Nat.div_lt_iff_lt_mul hO).2 hd;exact⟨mS _,Int.ofNat_lt.2 h1,mS _,Int.ofNat_lt.2 h2⟩
def z1h (O B:Nat):∀L k,(esR O B L k).length=L
 |0,_=>rfl
 |L+1,k=>by simp[esR,z1h O B L]
def zcV {O B:Nat}:∀{L k j},j<L->(esR O B L k)[j]?=some (dg O (k/B^j%B))
 |L+1,k,0,_=>by simp[esR]
 |L+1,k,j+1,h=>by rw[esR,rR,zcV ω,Nat.div_div_eq_div_mul,rC,nI B]
def za1 (O B:Nat):∀L,esR O B L 0=List.replicate L ⟨0,0⟩
 |0=>rfl
 |L+1=>by rw[esR,Nat.zero_mod,Nat.zero_div,za1 O B L,nB];unfold dg;rw[Nat.zero_div,Nat.zero_mod];rfl
def z9Q {O S:Nat}(hO:1<=O)(hS:1<=S):∀(L k:Nat),k<(S*O)^L->z9R O S (esR O (S*O) L k)=if k+1<(S*O)^L then some (esR O (S*O) L (k+1)) else none
 |0,k,h=>by rw[Nat.pow_zero]at h⊢;rw[if_neg ω];rfl
 |L+1,k,h=>by
  have hB:0<S*O:=Nat.mul_pos hS hO;obtain⟨B,hBe⟩:∃B,B=S*O:=⟨_,rfl⟩;have h2:k/(S*O)<(S*O)^L:=by rw[Nat.div_lt_iff_lt_mul hB,<-rC];exact h
  have ih:=z9Q hO hS L (k/(S*O)) h2;have hd:=sF k hB;have hk:=Nat.div_add_mod k (S*O);obtain⟨d,hde⟩:∃d,d=k%(S*O):=⟨_,rfl⟩;have hdd:=Nat.div_add_mod d O;have hdm:=sF d hO;have hdl:=(Nat.div_lt_iff_lt_mul hO).2 (show d<S*O by omega);have hp:=rC (S*O) L;have up:d+1<S*O->k+1<(S*O)^(L+1)/\(k+1)%(S*O)=d+1/\(k+1)/(S*O)=k/(S*O):=λq=>by
   have e:k+1=S*O*(k/(S*O))+(d+1):=ω
   refine⟨?_,by rw[e,Nat.mul_add_mod,nY q],by rw[e,Nat.mul_add_div hB,Nat.div_eq_of_lt q,mV]⟩;have:=Nat.mul_le_mul_left (S*O) (Nat.succ_le_of_lt h2);rw[Nat.mul_succ]at this;rw[hp,e,nI ((S*O)^L)];omega
  rw[esR,<-hde];unfold z9R;show(if((d%O:Nat):Int)+1<(O:Int) then _ else if((d/O:Nat):Int)+1<(S:Int) then _ else _)=_;by_cases c1:d%O+1<O
  ·rw[if_pos ω];have q:d+1<S*O:=by have:=Nat.mul_le_mul_left O (Nat.succ_le_of_lt hdl);rw[Nat.mul_succ,nI O S]at this;omega
   obtain⟨u1,u2,u3⟩:=up q;have e:d+1=O*(d/O)+(d%O+1):=ω
   rw[if_pos u1,esR,u2,u3];unfold dg;have e1:(d+1)/O=d/O:=by rw[e,Nat.mul_add_div hO,Nat.div_eq_of_lt c1,mV]
   have e2:(d+1)%O=d%O+1:=by rw[e,Nat.mul_add_mod,nY c1]
   rw[e1,e2];rfl
  rw[if_neg ω];have e:d+1=O*(d/O+1):=by rw[Nat.mul_add,Nat.mul_one];omega
  by_cases c2:d/O+1<S
  ·rw[if_pos ω];have q:d+1<S*O:=by have:=Nat.mul_lt_mul_of_pos_left c2 hO;rw[nI O S]at this;omega
   obtain⟨u1,u2,u3⟩:=up q;rw[if_pos u1,esR,u2,u3];unfold dg;rw[e,Nat.mul_div_cancel_left _ hO,Nat.mul_mod_right];rfl
  rw[if_neg ω,ih];have q:d+1=S*O:=by rw[e,show d/O+1=S by omega,nI]
  have e3:k+1=S*O*(k/(S*O)+1):=by rw[Nat.mul_add,Nat.mul_one];omega
  have e4:(k+1)%(S*O)=0:=by rw[e3,Nat.mul_mod_right]
  have e5:(k+1)/(S*O)=k/(S*O)+1:=by rw[e3,Nat.mul_div_cancel_left _ hB]
  have e6:k+1<(S*O)^(L+1)↔k/(S*O)+1<(S*O)^L:=by rw[hp,e3,nI ((S*O)^L)];exact Nat.mul_lt_mul_left hB
  by_cases c3:k/(S*O)+1<(S*O)^L
  ·rw[if_pos c3,if_pos (e6.2 c3),esR,e4,e5];unfold dg;rw[Nat.zero_div,Nat.zero_mod];rfl
  rw[if_neg c3,if_neg (λg=>c3 (e6.1 g))];rfl
def z47 {n:Nat}(h:n<4611686018427387904):w64 ((n:Int)+1)=((n+1:Nat):Int):=by rw[zr ω ω];rfl
def zj6 {O S:Nat}(hm:m.m=(O:Int))(hO:O<=10000)(hS:S<=10000){all:List z7}(hl:all.length<=10000)(ha:∀e∈all,InE O S e) :
  Ret (loop (λq=>v7 m (S:Int) q.1 q.2) (all,w64 ((all.length:Int)-1))) λr=>match z9R O S all.reverse with|some x=>r.1=x.reverse/\0<=r.2|none=>r.2<0:=by
 refine zz (λq=>∃(p:List z7) (z:Nat),q.1=p++List.replicate z (⟨0,0⟩:z7)/\q.2=(p.length:Int)-1/\(∀e∈p,InE O S e)/\p.length+z=all.length/\z9R O S all.reverse=(z9R O S p.reverse).map (List.replicate z (⟨0,0⟩:z7) ++ ·)) (λq=>(q.2+1).toNat) ⟨all,0,ς,by rw[zr ω ω],ha,rfl,by cases z9R O S all.reverse<;>simp⟩ (by simp only;rw[zr ω ω];omega) ?_;rintro⟨_,_⟩ ⟨p,z,rfl,rfl,h3,h4,h5⟩;show Ret (v7 m (S:Int) _ _) _;unfold v7;rw[zj];refine⟨λc=>?_,λc=>?_⟩
 ·have hp:1<=p.length:=by have:=of_decide_eq_true c;omega
  obtain⟨p',e,rfl⟩:∃p' e,p=p' ++ [e]:=by
   rcases rH p with g|⟨p',e,g⟩
   ·subst g;simp at hp
   exact⟨p',e,ξ g⟩
  obtain⟨i1,i2,i3,i4⟩:=h3 e ς;have hj:(((p' ++ [e]).length:Nat):Int)-1=(p'.length:Int):=ς
  have hset:∀x y:z7,(p' ++ [x]++List.replicate z (⟨0,0⟩:z7)).set p'.length y=p' ++ [y]++List.replicate z (⟨0,0⟩:z7):=λx y=>by rw[pP,sV,if_neg ω,nO,pP];rfl
  have hget:∀x:z7,(p' ++ [x]++List.replicate z (⟨0,0⟩:z7))[p'.length]?=some x:=λx=>by rw[pP,pH (pF _),nO];rfl
  have hr:(p' ++ [e]).reverse=e::p'.reverse:=ς
  rw[hr]at h5;have hw1:w64 (e.r+1)=e.r+1:=zr ω ω;have hw2:w64 (e.o+1)=e.o+1:=zr ω ω;rw[hj,pE,zA,bdT (hget e),bdT (hget e),hset,hw1,zA,bdT (hget _),zj,hm];refine⟨λc=>?_,λc=>?_⟩
  ·have c:e.r+1<(O:Int):=of_decide_eq_true c;have hin:z9R O S (e::p'.reverse)=some (⟨e.o,e.r+1⟩::p'.reverse):=by unfold z9R;rw[if_pos c]
   rw[hin]at h5;refine z8.2 ?_;rw[h5];exact⟨ς,by simp only;omega⟩
  have c:¬e.r+1<(O:Int):=of_decide_eq_false c;rw[bdT (hget _),hset,zA,bdT (hget _),hset,zA,hw2,bdT (hget _),zj];refine⟨λc2=>?_,λc2=>?_⟩
  ·have c2:e.o+1<(S:Int):=of_decide_eq_true c2;have hin:z9R O S (e::p'.reverse)=some (⟨e.o+1,0⟩::p'.reverse):=by unfold z9R;rw[if_neg c,if_pos c2]
   rw[hin]at h5;refine z8.2 ?_;rw[h5];exact⟨ς,by simp only;omega⟩
  have c2:¬e.o+1<(S:Int):=of_decide_eq_false c2;have hin:z9R O S (e::p'.reverse)=(z9R O S p'.reverse).map (⟨0,0⟩ :: ·):=by show(if e.r+1<(O:Int) then _ else if e.o+1<(S:Int) then _ else _)=_;rw[if_neg c,if_neg c2]
  rw[bdT (hget _),hset];have hpl:p'.length<=10000:=by simp at h4;omega
  rw[zr ω ω];refine z8.2 ⟨⟨p',z+1,by rw[nB,pP];rfl,rfl,λx hx=>h3 x (by simp[hx]),by simp at h4;omega,?_⟩,?_⟩
  ·rw[hin]at h5;rw[h5];cases z9R O S p'.reverse with
   |none=>rfl
   |some r=>simp[List.replicate_succ']
  simp only
  omega
 have hp:p.length=0:=by have:=of_decide_eq_false c;omega
 rw[ri.1 hp]at h5⊢;refine z8.2 ?_;rw[h5];show _<(0:Int);simp
def tb (m:z6)(S k:Nat):z6 :=
 ⟨m.j,m.m,(List.range S).map λs=>(List.range (kk m)).map λi=>dg m.m.toNat (k/(S*m.m.toNat)^(S*kk m-1-(s*kk m+i))%(S*m.m.toNat))⟩
def tot (m:z6)(S:Nat):Nat:=(S*m.m.toNat)^(S*kk m)
def lin {S I s i:Nat}(hs:s<S)(hi:i<I):s*I+i<S*I:=by have:=pV I (show s+1<=S from hs);rw[gZ]at this;omega
def z6U (es:List α)(I:Nat):∀l:TC,(∀s∈l,(s+1)*I<=es.length)->z2S es (l.map λs=>some (((s*I:Nat):Int),(((s+1)*I:Nat):Int),(((s+1)*I:Nat):Int)))=some (l.map λs=>(es.drop (s*I)).take I)
 |[],_=>rfl
 |s::l,h=>by
  have h1:=h s re;have e:(s+1)*I=s*I+I:=by rw[gZ,nU]
  rw[gO,z2S];rw[gdT ⟨mS _,Int.ofNat_le.2 ω,rfl,h1⟩,bdT (z6U es I l λt ht=>h t (mY _ ht))];simp only[pE];rw[show(s+1)*I-s*I=I by omega,gO]
section
variable {m:z6}(h:VM m){S:Nat}(hS:1<=S/\S<=20)
include h hS
omit h hS in
theorem zil (k:Nat):z2S (esR m.m.toNat (S*m.m.toNat) (S*kk m) k).reverse ((List.range S).map λs=>some (((s*kk m:Nat):Int),(((s+1)*kk m:Nat):Int),(((s+1)*kk m:Nat):Int)))=some (tb m S k).i:=by
 have hl:(esR m.m.toNat (S*m.m.toNat) (S*kk m) k).reverse.length=S*kk m:=by rw[mT,z1h]
 rw[z6U _ _ _ (λs hs=>by rw[hl];exact pV _ (gN.1 hs))];unfold tb;refine congrArg some (nC λs hs=>?_);have hs:=gN.1 hs;have hle:=pV (kk m) (show s+1<=S from hs);rw[gZ,nU]at hle;refine gW λi=>?_;by_cases hi:i<kk m
 ·rw[List.getElem?_take_of_lt hi,mU,List.getElem?_reverse (by rw[z1h];omega),z1h,zcV ω,gG,nW hi];rfl
 rw[pL (by rw[hU];omega),pL (by simp;omega)]
theorem zfu:loop (λs=>xK m (S:Int) s.1 s.2) ((List.replicate S none),0)=some ((List.range S).map λs=>some (((s*kk m:Nat):Int),(((s+1)*kk m:Nat):Int),(((s+1)*kk m:Nat):Int))):=by
 have hk:=h.kk_eq;have k16:=h.kk_le;have hN:S*kk m<=20*16:=gY hS.2 k16;have e0:w64 ((S:Int)*m.j)=((S*kk m:Nat):Int):=by rw[<-hk,<-gV,zr ω ω]
 have:=xo (step:=λs=>xK m (S:Int) s.1 s.2) (λi=>((List.range S).map λs=>if s<i then some (((s*kk m:Nat):Int),(((s+1)*kk m:Nat):Int),(((s+1)*kk m:Nat):Int)) else none,(i:Int))) S (t:=(List.range S).map λs=>some (((s*kk m:Nat):Int),(((s+1)*kk m:Nat):Int),(((s+1)*kk m:Nat):Int))) ω (λi hi=>?_) ?_
 ·rw[show(List.replicate S (none:Option (Int×Int×Int)),(0:Int))=((List.range S).map λs=>if s<0 then some (((s*kk m:Nat):Int),(((s+1)*kk m:Nat):Int),(((s+1)*kk m:Nat):Int)) else none,((0:Nat):Int)) from rE (by simp[List.map_const']) rfl];exact this
 ·show xK m (S:Int) _ (i:Int)=_;have hle:=pV (kk m) (show i+1<=S from hi);have hle2:i*kk m<=(i+1)*kk m:=pV _ (Nat.le_succ i);have e1:w64 ((i:Int)*m.j)=((i*kk m:Nat):Int):=by rw[<-hk,<-gV,zr ω ω]
  have e2:w64 (((i+1:Nat):Int)*m.j)=(((i+1)*kk m:Nat):Int):=by rw[<-hk,<-gV,zr ω ω]
  unfold xK;rw[decide_eq_true ω,cond_true,z47 ω,e1,e2,e0,gdT (by simp only[mR,pE];omega),zA,bdT (u:=none) (by rw[gG,nW hi];simp),gdT rfl,pE,z6O];refine congrArg some (congrArg LR.next (rE ?_ rfl));refine nC λs hs=>?_;by_cases q:s=i
  ·rw[if_pos q,if_pos ω,q]
  rw[if_neg q];by_cases q2:s<i
  ·rw[if_pos q2,if_pos ω]
  rw[if_neg q2,if_neg ω]
 show xK m (S:Int) _ (S:Int)=_;unfold xK;rw[decide_eq_false ω,cond_false];refine congrArg some (congrArg LR.done (nC λs hs=>?_));rw[if_pos (gN.1 hs)]
end
def zht {n:Nat}(h:n<4611686018427387904):w64 (n:Int)=(n:Int):=zr ω ω
set_option linter.unusedSectionVars false
variable {τ:Type}
section
variable {m:z6}(h:VM m){S:Nat}(hS:1<=S/\S<=20)(ht:tot m S<=65536)
include h hS ht
theorem zma (hk:k<tot m S):Ret (loop (λq=>v7 m (S:Int) q.1 q.2) ((esR m.m.toNat (S*m.m.toNat) (S*kk m) k).reverse,w64 ((((esR m.m.toNat (S*m.m.toNat) (S*kk m) k).reverse.length:Nat):Int)-1))) λr=>if k+1<tot m S then r.1=(esR m.m.toNat (S*m.m.toNat) (S*kk m) (k+1)).reverse/\0<=r.2 else r.2<0:=by
 have o1:=h.out1;have o2:=h.out16;have k16:=h.kk_le;have hN:S*kk m<=20*16:=gY hS.2 k16;have hO:1<=m.m.toNat:=ω
 refine(zj6 (m:=m) (O:=m.m.toNat) (S:=S) ω ω ω (by rw[mT,z1h];omega) (λe he=>?_)).mono λr hr=>?_
 ·obtain⟨j,hj⟩:=rN (List.mem_reverse.1 he);have hlt:=(pC.1 hj).1;rw[z1h]at hlt;rw[zcV hlt]at hj;cases hj;exact zmn hO (sF _ (Nat.mul_pos hS.1 hO))
 rw[List.reverse_reverse,z9Q hO hS.1 _ _ hk]at hr;unfold tot;by_cases c:k+1<(S*m.m.toNat)^(S*kk m)
 ·rw[if_pos c]at hr⊢;exact hr
 rw[if_neg c]at hr⊢;exact hr
theorem z2a {yy:τ->z6->Option (τ×Bool)}{s s':τ}  (hk:k<tot m S){b:Bool}(hy:yy s (tb m S k)=some (s',b)) :
  yj m (S:Int) yy ((List.range S).map λs=>some (((s*kk m:Nat):Int),(((s+1)*kk m:Nat):Int),(((s+1)*kk m:Nat):Int))) s (esR m.m.toNat (S*m.m.toNat) (S*kk m) k).reverse=some (if b=true/\k+1<tot m S then .next (s',(esR m.m.toNat (S*m.m.toNat) (S*kk m) (k+1)).reverse) else .done s'):=by
 unfold yj;rw[bdT (zil k),show z6.mk m.j m.m (tb m S k).i=tb m S k from rfl,bdT hy];cases b with
 |false=>rw[if_neg (λq=>by cases q.1)];rfl
 |true=>
  obtain⟨r,r1,r2⟩:=zma h hS ht hk;rw[cond_true,bdT r1];unfold Xc;by_cases c:k+1<tot m S
  ·rw[if_pos c]at r2;rw[if_pos ⟨rfl,c⟩,decide_eq_false ω,cond_false,r2.1]
  rw[if_neg c]at r2;rw[if_neg (λq=>c q.2),decide_eq_true r2,cond_true]
theorem z96 {yy:τ->z6->Option (τ×Bool)}{s r:τ}(hl:loop (λq=>yj m (S:Int) yy ((List.range S).map λs=>some (((s*kk m:Nat):Int),(((s+1)*kk m:Nat):Int),(((s+1)*kk m:Nat):Int))) q.1 q.2) (s,(esR m.m.toNat (S*m.m.toNat) (S*kk m) 0).reverse)=some r):ur m (S:Int) yy s=some r:=by
 have hk:=h.kk_eq;have k16:=h.kk_le;have hN:S*kk m<=20*16:=gY hS.2 k16;have e0:w64 ((S:Int)*m.j)=((S*kk m:Nat):Int):=by rw[<-hk,<-gV,zr ω ω]
 unfold ur;rw[e0,gdT ω,gdT ω,pE,bdT (zfu h hS)];unfold Xd;rw[za1,List.reverse_replicate]at hl;rw[e0,pE,bdT hl]
theorem zhy:1<=tot m S:=by have o1:=h.out1;exact Nat.pow_pos (Nat.mul_pos hS.1 (show 0<m.m.toNat by omega))
theorem z4l {yy:τ->z6->Option (τ×Bool)}(st:Nat->τ)(hy:∀k,k<tot m S->yy (st k) (tb m S k)=some (st (k+1),true)):ur m (S:Int) yy (st 0)=some (st (tot m S)):=by
 have hp:=zhy h hS ht;refine z96 h hS ht ?_;refine xo (step:=λq=>yj m (S:Int) yy _ q.1 q.2) (λk=>(st k,(esR m.m.toNat (S*m.m.toNat) (S*kk m) k).reverse)) (tot m S-1) ω (λk hk=>?_) ?_
 ·show yj m (S:Int) yy _ (st k) _=_;rw[z2a h hS ht ω (hy k ω),if_pos ⟨rfl,ω⟩]
 show yj m (S:Int) yy _ (st (tot m S-1)) _=_;rw[z2a h hS ht ω (hy (tot m S-1) ω),if_neg ω,show tot m S-1+1=tot m S by omega]
theorem z8f {yy:τ->z6->Option (τ×Bool)}{K:Nat}(hK:K<tot m S){s r:τ}(hy:∀k,k<K->yy s (tb m S k)=some (s,true))(hr:yy s (tb m S K)=some (r,false)):ur m (S:Int) yy s=some r:=by
 refine z96 h hS ht ?_;refine xo (step:=λq=>yj m (S:Int) yy _ q.1 q.2) (λk=>(s,(esR m.m.toNat (S*m.m.toNat) (S*kk m) k).reverse)) K ω (λk hk=>?_) ?_
 ·show yj m (S:Int) yy _ s _=_;rw[z2a h hS ht ω (hy k hk),if_pos ⟨rfl,ω⟩]
 show yj m (S:Int) yy _ s _=_;rw[z2a h hS ht hK hr,if_neg (λq=>by cases q.1)]
end
def KA:∀{l:List Bool} {i:Nat},l[i]?=some false->(l.set i true).count false+1=l.count false
 |[],i,h=>by simp at h
 |x::l,0,h=>by simp at h;subst h;simp
 |x::l,i+1,h=>by have:=KA (l:=l) (i:=i) (ξ h);rw[sE,List.count_cons,List.count_cons];omega
section
variable (m t:z6)
def z6N (ku:List Bool)(p:Nat×Nat):Prop:=ku[p.1*t.i.length+p.2]?=some true
def Mkx (p:Nat×Nat):Prop:=∃n,Mk (kk m) (wo m t) (nxP m t) n p
def zqn (ku:List Bool)(p:Nat×Nat):Prop:=∀i,i<kk m->wo m t p i=false/\∀q,nxP m t p i=some q->z6N t ku q
def z6e (X:Nat×Nat->Prop)(ku:List Bool)(list:List (wF Int)):Prop :=
 ku.length=m.i.length*t.i.length/\list.length+ku.count false<=m.i.length*t.i.length/\(∀x∈list,∃p,InP m t p/\x=pA p/\z6N t ku p)/\z6N t ku (0,0)/\(∀p,InP m t p->z6N t ku p->Mkx m t p->Mkx m t (0,0))/\∀p,InP m t p->z6N t ku p->pA p∈list\/X p\/zqn m t ku p
end
variable {ku:List Bool}{t:z6}
theorem zby (hi:i<ku.length){p:Nat×Nat}:z6N t (ku.set i true) p↔z6N t ku p\/p.1*t.i.length+p.2=i:=by
 unfold z6N;rw[s7];by_cases e:i=p.1*t.i.length+p.2
 ·rw[if_pos e,if_pos hi];simp[e]
 rw[if_neg e];exact⟨.inl,λq=>q.elim id λq=>absurd q.symm e⟩
section
variable {m t:z6}(hm:VM m)(ht:VM t)(hi:m.j=t.j)(cm:Cpl m)(ct:Cpl t)
include hm ht hi cm ct
theorem zmo {p:Nat×Nat}(hp:InP m t p)(ku:List Bool)(list:List (wF Int))(h0:z6e m t (·=p) ku list)(h1:z6N t ku p) :
  Ret (loop (λq=>Xz t (pA p) (m.i[p.1]?.getD []) q.1 q.2.1 q.2.2) (ku,list,0)) λr=>match r with
   |.inl q=>z6e m t (λ_=>False) q.1 q.2/\q.2.length+2*q.1.count false<=list.length+2*ku.count false
   |.inr b=>b=false/\Mkx m t (0,0):=by
 have k16:=hm.kk_le;have lm:=hm.w;have lt:=ht.w;have hk:kk m=kk t:=zhb hm ht hi;obtain⟨p1,p2⟩:=hp;obtain⟨r,r1,r2,r3⟩:=hm.rowAt p1;rw[r1,pX];have hMT:m.i.length*t.i.length<=64*64:=gY lm lt;refine(zz (R:=λr:(List Bool×List (wF Int))⊕Bool=>match r with
   |.inl q=>(z6e m t (·=p) q.1 q.2/\zqn m t q.1 p)/\q.2.length+2*q.1.count false<=list.length+2*ku.count false
   |.inr b=>b=false/\Mkx m t (0,0)) (λq=>∃i:Nat,q.2.2=(i:Int)/\i<=kk m/\z6e m t (·=p) q.1 q.2.1/\z6N t q.1 p/\(∀j,j<i->wo m t p j=false/\∀q',nxP m t p j=some q'->z6N t q.1 q')/\q.2.1.length+2*q.1.count false<=list.length+2*ku.count false) (λq=>100-q.2.2.toNat) ?_ ς ?_).mono ?_
 ·exact⟨0,rfl,pQ _,h0,h1,λj hj=>ω,pF _⟩
 ·rintro⟨fg,fy,_⟩ ⟨i,rfl,hik,hd,hsp,hj,hms⟩;replace hd:z6e m t (·=p) fg fy:=hd;show Ret (Xz t (pA p) r fg fy (i:Int)) _;unfold Xz;rw[zj];refine⟨λc=>?_,λc=>?_⟩
  ·have hlt:i<kk m:=by have:=of_decide_eq_true c;omega
   have e1:=cm p.1 i p1 hlt;have e2:=hm.edgeAt p1 hlt;have f1:=ct p.2 i p2 ω;have f2:=ht.edgeAt p2 (i:=i) ω;rw[zA,bdT (r3 i hlt)];show Ret (Option.bind (idx t.i ((p.2:Nat):Int)) _) _;rw[ht.edge_eq p2 (i:=i) ω,zj];refine⟨λc=>?_,λc=>?_⟩
   ·have hb:wo m t p i=true:=c;exact z8.2 ⟨rfl,hd.2.2.2.2.1 p ⟨p1,p2⟩ hsp ⟨1,.inr ⟨i,hlt,.inl hb⟩⟩⟩
   have hb:wo m t p i=false:=c;obtain⟨q,hq⟩:∃q:Nat×Nat,q=((E m p.1 i).o.toNat,(E t p.2 i).o.toNat):=⟨_,rfl⟩;have hnx:nxP m t p i=some q:=by unfold nxP;rw[if_pos ⟨e1,f1⟩,hq]
   have hqi:InP m t q:=by rw[hq];exact⟨by simp only;omega,by simp only;omega⟩
   have hix:=lin hqi.1 hqi.2;have hI:w64 (w64 ((E m p.1 i).o*(t.i.length:Int))+(E t p.2 i).o)=((q.1*t.i.length+q.2:Nat):Int):=by rw[show(E m p.1 i).o=((q.1:Nat):Int) by rw[hq];simp only;omega,show(E t p.2 i).o=((q.2:Nat):Int) by rw[hq];simp only;omega,<-gV,zht ω,<-Int.natCast_add,zht ω]
   have hg:fg[q.1*t.i.length+q.2]?=some (fg[q.1*t.i.length+q.2]'(by rw[hd.1];exact hix)):=pB _;obtain⟨v,hv⟩:∃v,v=fg[q.1*t.i.length+q.2]'(by rw[hd.1];exact hix):=⟨_,rfl⟩;rw[<-hv]at hg;rw[hI,zA,bdT hg,zj];unfold XB;rw[z47 ω];refine⟨λc=>?_,λc=>?_⟩
   ·have hvf:v=false:=ξ c
    rw[hvf]at hg;obtain⟨d1,d2,d3,d4,d5,d6⟩:=hd;have hc:=KA hg;have hsn:∀{p'},z6N t (fg.set (q.1*t.i.length+q.2) true) p'↔z6N t fg p'\/p'.1*t.i.length+p'.2=q.1*t.i.length+q.2:=λ{p'}=>zby (by rw[d1];exact hix);have hqe:∀{p'},InP m t p'->p'.1*t.i.length+p'.2=q.1*t.i.length+q.2->p'=q:=λ{p'} h1 h2=>by have a1:=zga (s:=p'.1) h1.2;have a2:=zga (s:=q.1) hqi.2;rw[h2]at a1;exact rE (a1.1.symm.trans a2.1) (a1.2.symm.trans a2.2)
    rw[bdT hg,gdT (by simp;omega),pE];refine z8.2 ⟨⟨i+1,rfl,hlt,⟨ξ d1,?_,?_,hsn.2 (.inl d4),?_,?_⟩,hsn.2 (.inl hsp),?_,?_⟩,?_⟩
    ·show(fy++[_]).length+(fg.set (q.1*t.i.length+q.2) true).count false<=_;rw[pW,List.length_singleton];omega
    ·intro x hx;rcases pD.1 hx with g|g
     ·obtain⟨p',a1,a2,a3⟩:=d3 x g;exact⟨p',a1,a2,hsn.2 (.inl a3)⟩
     refine⟨q,hqi,?_,hsn.2 (.inr rfl)⟩;rw[pK.1 g,hq];unfold pA;simp only[wF.mk.injEq];omega
    ·intro p' a1 a2 ⟨n,a3⟩;rcases hsn.1 a2 with g|g
     ·exact d5 p' a1 g ⟨n,a3⟩
     obtain rfl:=hqe a1 g;exact d5 p ⟨p1,p2⟩ hsp ⟨n+1,.inr ⟨i,hlt,.inr ⟨_,hnx,a3⟩⟩⟩
    ·intro p' a1 a2;rcases hsn.1 a2 with g|g
     ·rcases d6 p' a1 g with b|b|b
      ·exact .inl (rf _ b)
      ·exact .inr (.inl b)
      exact .inr (.inr λj hj=>⟨(b j hj).1,λq' h'=>hsn.2 (.inl ((b j hj).2 q' h'))⟩)
     obtain rfl:=hqe a1 g;refine .inl (rY _ (pK.2 ?_));rw[hq];unfold pA;simp only[wF.mk.injEq];omega
    ·intro j hjl;rcases pM j i with g|g
     ·exact⟨(hj j g).1,λq' h'=>hsn.2 (.inl ((hj j g).2 q' h'))⟩
     obtain rfl:j=i:=ω
     refine⟨hb,λq' h'=>?_⟩;rw[hnx]at h';cases h';exact hsn.2 (.inr rfl)
    ·show(fy++[_]).length+2*(fg.set (q.1*t.i.length+q.2) true).count false<=_;rw[pW,List.length_singleton];replace hms:fy.length+2*fg.count false<=list.length+2*ku.count false:=hms;omega
    simp only[pE];omega
   have hvt:v=true:=ξ c
   rw[hvt]at hg;refine z8.2 ⟨⟨i+1,rfl,hlt,hd,hsp,λj hjl=>?_,hms⟩,by simp only[pE];omega⟩;rcases pM j i with g|g
   ·exact hj j g
   obtain rfl:j=i:=ω
   refine⟨hb,λq' h'=>?_⟩;rw[hnx]at h';cases h';exact hg
  have:i=kk m:=by have:=of_decide_eq_false c;omega
  subst this;exact z8.2 ⟨⟨hd,hj⟩,hms⟩
 rintro(q|b) hr
 ·obtain⟨⟨⟨d1,d2,d3,d4,d5,d6⟩,hcl⟩,hms⟩:=hr;refine⟨⟨d1,d2,d3,d4,d5,λp' a1 a2=>?_⟩,hms⟩;rcases d6 p' a1 a2 with g|g|g
  ·exact .inl g
  ·have g:p'=p:=g;rw[g];exact .inr (.inr hcl)
  exact .inr (.inr g)
 exact hr
theorem zjl (h:z6e m t (λ_=>False) ku [])(n:Nat):∀p,InP m t p->z6N t ku p->¬Mk (kk m) (wo m t) (nxP m t) n p:=by
 induction n with
 |zero=>exact λp _ _ q=>q
 |succ n ih=>
  rintro p h1 h2 (q|⟨i,hi,q⟩)
  ·exact ih p h1 h2 q
  rcases h.2.2.2.2.2 p h1 h2 with g|g|g
  ·cases g
  ·exact g
  obtain⟨g1,g2⟩:=g i hi;rcases q with q|⟨q',a,b⟩
  ·rw[g1]at q;cases q
  exact ih q' (z9S hm ht ‹_› p i q' h1 hi a) (g2 q' a) b
theorem zjf:Ret (VN m t) λb=>b=true↔¬Mkx m t (0,0):=by
 have lm:=hm.w;have lt:=ht.w;have lm1:=hm.D;have lt1:=ht.D;have hMT:m.i.length*t.i.length<=64*64:=gY lm lt;have hMT1:1<=m.i.length*t.i.length:=Nat.mul_pos lm1 lt1;obtain⟨N,hN⟩:∃N,N=m.i.length*t.i.length:=⟨_,rfl⟩;have hNw:w64 ((m.i.length:Int)*(t.i.length:Int))=(N:Int):=by rw[<-gV,<-hN,zht ω]
 have hz:(List.replicate N false)[0]?=some false:=by rw[gR,if_pos ω]
 unfold VN;rw[hNw,gdT ω,pE];show Ret (Option.bind (idx (List.replicate N false) ((0:Nat):Int)) _) _;rw[zA,bdT hz,zi];have start:z6e m t (λ_=>False) ((List.replicate N false).set 0 true) [wF.mk 0 0]:=by
  have hc:=KA hz;have hs0:∀{p},z6N t ((List.replicate N false).set 0 true) p->p.1*t.i.length+p.2=0:=λ{p} q=>by
   rcases(zby (by simp;omega)).1 q with g|g
   ·unfold z6N at g;rw[gR]at g;split at g<;>cases g
   exact g
  have h00:z6N t ((List.replicate N false).set 0 true) (0,0):=(zby (by simp;omega)).2 (.inr ς);have hz0:∀{p:Nat×Nat},InP m t p->p.1*t.i.length+p.2=0->p=(0,0):=λ{p} h1 h2=>by have a:=zga (s:=p.1) h1.2;rw[h2,Nat.zero_div,Nat.zero_mod]at a;exact rE a.1.symm a.2.symm
  refine⟨by simp[hN],?_,λx hx=>⟨(0,0),⟨lm1,lt1⟩,pK.1 hx,h00⟩,h00,λp h1 h2 q=>?_,λp h1 h2=>?_⟩
  ·rw[List.count_replicate]at hc;simp at hc;rw[List.length_singleton];omega
  ·rwa[hz0 h1 (hs0 h2)]at q
  rw[hz0 h1 (hs0 h2)];exact .inl (pK.2 rfl)
 have lp:Ret (loop (λs=>XA m t s.1 s.2) ((List.replicate N false).set (0:Int).toNat true,[wF.mk 0 0])) λr=>match r with
   |.inl _=>¬Mkx m t (0,0)
   |.inr b=>b=false/\Mkx m t (0,0):=by
  refine zz (λq=>z6e m t (λ_=>False) q.1 q.2) (λq=>q.2.length+2*q.1.count false) start (by have:=start.2.1;have:([wF.mk (0:Int) 0]:List (wF Int)).length=1:=rfl;show([wF.mk (0:Int) 0]:List (wF Int)).length+2*List.count false ((List.replicate N false).set 0 true)<_;omega) ?_;rintro⟨ku,list⟩ hd;replace hd:z6e m t (λ_=>False) ku list:=hd;show Ret (XA m t ku list) _;obtain⟨d1,d2,d3,d4,d5,d6⟩:=hd;unfold XA;rw[zj];refine⟨λc=>?_,λc=>?_⟩
  ·have hl:1<=list.length:=by have:=of_decide_eq_true c;omega
   obtain⟨l',x,rfl⟩:∃l' x,list=l' ++ [x]:=by
    rcases rH list with g|⟨l',x,g⟩
    ·subst g;simp at hl
    exact⟨l',x,ξ g⟩
   have hll:(l' ++ [x]).length=l'.length+1:=ς
   obtain⟨p,p1,rfl,p2⟩:=d3 x ς;have hw:w64 (((l' ++ [pA p]).length:Nat)-1:Int)=(l'.length:Int):=by rw[hll,zr ω ω];omega
   obtain⟨r,r1,r2,r3⟩:=hm.rowAt p1.1;rw[hw,zA,bdT (u:=pA p) (by rw[pH (pF _),nO];rfl),gdT ω];show Ret (Option.bind (idx m.i ((p.1:Nat):Int)) _) _;rw[zA,bdT r1,zi,pE,List.take_left']
   ·have:=zmo hm ht ‹_› cm ct p1 ku l' ⟨d1,ω,λx hx=>d3 x (rf _ hx),d4,d5,λp' h1 h2=>by
     rcases d6 p' h1 h2 with g|g|g
     ·rcases pD.1 g with g|g
      ·exact .inl g
      refine .inr (.inl ?_);have g:=pK.1 g;unfold pA at g;simp only[wF.mk.injEq]at g;exact rE ω ω
     ·exact g.elim
     exact .inr (.inr g)⟩ p2
    rw[r1,pX]at this;refine this.mono ?_;rintro(q|b) hq
    ·exact z8.2 ⟨hq.1,by have:=hq.2;simp only[hll];omega⟩
    exact z8.2 hq
   rfl
  have hl:list.length=0:=by have:=of_decide_eq_false c;omega
  obtain rfl:=ri.1 hl;refine z8.2 ?_;rintro⟨n,hn⟩;exact zjl hm ht ‹_› cm ct ⟨d1,d2,d3,d4,d5,d6⟩ n (0,0) ⟨lm1,lt1⟩ d4 hn
 refine lp.mono ?_;rintro(_|b) hb
 ·exact z8.2 ⟨λ_=>hb,λ_=>rfl⟩
 obtain⟨rfl,hb⟩:=hb;exact z8.2 ⟨λe=>(by cases e),λe=>absurd hb e⟩
end
section
variable {m:z6}(hm:VM m){S:Nat}(hS:1<=S/\S<=20)(k:Nat)
include hm hS
theorem z6H:(tb m S k).i.length=S:=by simp[tb]
theorem zeP:VM (tb m S k):=by
 have hk:=hm.kk_eq;have o1:=hm.out1;have hO:1<=m.m.toNat:=ω
 have hB:=Nat.mul_pos hS.1 hO;have hl:=z6H hm hS k;refine⟨hm.Q,hm.N,o1,hm.out16,ω,ω,λr hr=>?_,λr hr x hx=>.inr ?_⟩
 ·obtain⟨s,_,rfl⟩:=pY.1 hr;rw[gD,List.length_range];exact hk
 obtain⟨s,_,rfl⟩:=pY.1 hr;obtain⟨i,_,rfl⟩:=pY.1 hx;obtain⟨h1,h2,h3,h4⟩:=zmn (S:=S) hO (sF (k/(S*m.m.toNat)^(S*kk m-1-(s*kk m+i))) hB);rw[hl];exact⟨h3,h4,h1,Int.lt_of_lt_of_le h2 (show((m.m.toNat:Nat):Int)<=m.m by omega)⟩
theorem zln:Cpl (tb m S k):=λs i hs hi=>by have hl:=z6H hm hS k;rw[hl]at hs;have hi:i<kk m:=hi;unfold E tb;simp only;rw[gG,nW hs,gK,pX,gG,nW hi];exact mS _
end
def UY (m:z6)(l:TA)(S k:Nat):Bool:=(w8 ⟨m,l,()⟩ (tb m S k)).getD false
abbrev G18:Type:=Option z6×Nat
def Xj (g:Bool)(t:z6)(q:G18):G18:=if g=true then(some (q.1.getD t),q.2+1) else q
def Q4 (m:z6)(l:TA)(S:Nat)(q:G18):Nat->G18
 |0=>q
 |K+1=>Xj (UY m l S K) (tb m S K) (Q4 m l S q K)
def vW (m:z6)(l:TA):Nat->G18
 |0=>(none,0)
 |S+1=>Q4 m l (S+1) (vW m l S) (tot m (S+1))
def z18:z6:=⟨0,0,[]⟩
def zlP (q:G18):Prop:=q.1=none↔q.2=0
def zlq {g:Bool}  {q:G18}(h:zlP q):zlP (Xj g t q):=by
 unfold Xj;split
 ·exact⟨λe=>(by cases e),λe=>(by cases e)⟩
 exact h
variable {S:Nat}
def zgS {q:G18}(h:zlP q):∀K,zlP (Q4 m l S q K)
 |0=>h
 |K+1=>zlq (zgS h K)
def zdy (m:z6)(l:TA):∀S,zlP (vW m l S)
 |0=>⟨λ_=>rfl,λ_=>rfl⟩
 |S+1=>zgS (zdy m l S) _
def zbE (m:z6)(l:TA)(S:Nat)(q:G18):∀K,(Q4 m l S q K).2<=q.2+K
 |0=>pF _
 |K+1=>by
  have:=zbE m l S q K;show(Xj _ _ _).2<=_;unfold Xj;split
  ·simp only;omega
  omega
def z9e {q:G18}{x:z6}:∀{K J:Nat},K<=J->(Q4 m l S q K).1=some x->(Q4 m l S q J).1=some x:=by
 intro K J h e;induction h with
 |refl=>exact e
 |step _ ih=>
  show(Xj _ _ _).1=_;unfold Xj;split
  ·simp only[ih,pX]
  exact ih
def z5x {q:G18}(h:q.1=none):∀{K:Nat},(∀k,k<K->UY m l S k=false)->(Q4 m l S q K).1=none
 |0,_=>h
 |K+1,g=>by show(Xj _ _ _).1=_;unfold Xj;rw[g K (gH K),if_neg θ];exact z5x h λk hk=>g k (Nat.lt_succ_of_lt hk)
section
variable {m:z6}(hm:VM m)(cm:Cpl m){l:TA}(hl:l.length<=5000)(hw:∀w∈l,w.length<=1000/\∀c∈w,0<=c/\c<m.j)
include hm cm hl hw
theorem zfZ (ht:VM t)(hi:m.j=t.j):Ret (loop (λs=>ZC ⟨m,l,()⟩ t s) 0) λr=>(r=.inl ()/\∀w∈l,stp m t w=-1)\/(r=.inr false/\¬∀w∈l,stp m t w=-1):=by
 refine zz (λq=>∃i:Nat,q=(i:Int)/\i<=l.length/\∀w∈l.take i,stp m t w=-1) (λq=>9000-q.toNat) ⟨0,rfl,pQ _,λw h=>by simp at h⟩ ς ?_;rintro _ ⟨i,rfl,hi2,hall⟩;unfold ZC;rw[zj];refine⟨λc=>?_,λc=>?_⟩
 ·have hlt:i<l.length:=by have:=of_decide_eq_true c;simp only at this;omega
  have hx:=pB hlt;have hmem:=pO hlt;show Ret (Option.bind (idx l (i:Int)) _) _;rw[zA,bdT hx,bdT (z9V hm ht hi (hw _ hmem).2 (hw _ hmem).1),zj];refine⟨λc=>z8.2 (.inr ⟨rfl,λq=>?_⟩),λc=>?_⟩
  ·rw[q _ hmem]at c;simp at c
  rw[z47 ω];refine z8.2 ⟨⟨i+1,rfl,hlt,λw h=>?_⟩,by simp only[pE];omega⟩;rw[gI,hx]at h;rcases pD.1 h with g|g
  ·exact hall w g
  rw[show w=l[i] by simpa using g];simpa using c
 have:i=l.length:=by have:=of_decide_eq_false c;simp only at this;omega
 rw[this,mG]at hall;exact z8.2 (.inl ⟨rfl,hall⟩)
variable (h4:m.j<=4)
include h4
end
section
variable {m:z6}(hm:VM m){l:TA}{n:Nat}(hn:1<=n/\n<=5)(ht:∀S,1<=S->S<=n->tot m S<=65536)
include hm hn ht
theorem zdz:∀S,S<=n->(vW m l S).2<=S*65536
 |0,_=>pQ _
 |S+1,h=>by have h1:=zdz S ω;have h2:=zbE m l (S+1) (vW m l S) (tot m (S+1));have h3:=ht (S+1) ω h;show(Q4 m l (S+1) (vW m l S) (tot m (S+1))).2<=_;omega
theorem zqN (gb:∀S k,1<=S->S<=n->k<tot m S->w8 ⟨m,l,()⟩ (tb m S k)=some (UY m l S k)):xD (λ(s:Int) _=>some (w64 (s+1),true)) m l (n:Int) 0=some (((vW m l n).2:Nat):Int):=by
 unfold xD;refine xo (step:=λq:Int×Int=>yl (λs _=>some (w64 (s+1),true)) m l (n:Int) q.1 q.2) (λS=>((S:Int)+1,(((vW m l S).2:Nat):Int))) n ω (λS hS=>?_) ?_
 ·have h1:=zdz hm hn ht (l:=l) S ω;have h2:=ht (S+1) ω hS;have ta:=z4l (S:=S+1) hm ω h2 (yy:=yOf λs x=>yb (λ(s:Int) _=>some (w64 (s+1),true)) m l s x) (λk=>LR.next (((Q4 m l (S+1) (vW m l S) k).2:Nat):Int)) (λk hk=>by
   have hle:=zbE m l (S+1) (vW m l S) k;unfold yOf yb;simp only;rw[bdT (gb (S+1) k ω hS hk)];show _=some (LR.next (((Xj _ _ _).2:Nat):Int),true);unfold Xj;cases UY m l (S+1) k with
   |false=>rfl
   |true=>rw[cond_true,if_pos rfl];simp only[oB,cond_true];rw[z47 ω])
  show yl _ m l (n:Int) ((S:Int)+1) _=_;unfold yl;rw[decide_eq_true ω,cond_true,show((S:Int)+1)=((S+1:Nat):Int) by omega];unfold UB;rw[oB];show Option.bind (ur m ((S+1:Nat):Int) _ (LR.next (((Q4 m l (S+1) (vW m l S) 0).2:Nat):Int))) _=_;rw[bdT ta];simp only;rw[z47 ω];rfl
 show yl _ m l (n:Int) ((n:Int)+1) _=_;unfold yl;rw[decide_eq_false ω,cond_false]
end
section
variable {m:z6}(h:VM m)
include h
theorem zlY {s:Int}(hs:z1p m s)(v:TC)(hv:Wd (kk m) v)(hl:v.length<=1000):Ret (WY m s (v.map Int.ofNat)) λo=>o.1=rsp m s v/\o.2=aft m s v:=by
 have hN:=h.w;have hw:∀k:Nat,k<=1000->w64 ((k:Int)+1)=((k+1:Nat):Int):=λk hk=>by rw[zr ω ω];rfl
 unfold WY;rw[Xe];refine⟨by simp[gD];omega,?_⟩;rw[zi];refine Ret.mono (Q:=λo=>o.2=rsp m s v/\o.1=aft m s v) ?_ λo ho=>?_
 ·refine zz (λq=>∃(i:Nat),q.2.2=(i:Int)/\i<=v.length/\z1p m q.1/\aft m s (v.take i)=q.1/\q.2.1=rsp m s (v.take i)++List.replicate (v.length - i) 0) (λq=>2000 - q.2.2.toNat) ⟨0,rfl,pQ _,hs,rfl,by simp[rsp]⟩ ς ?_;rintro⟨st,out,q⟩ ⟨i,e2,hi,ht,ha,e3⟩;simp only at ht ha e2 e3;subst e2;subst e3;unfold Jc um;rw[zj];refine⟨λc=>?_,λc=>?_⟩
  ·have hi':i<v.length:=ξ c
   have hx:v[i]?=some v[i]:=pB hi';have hxk:v[i]<kk m:=hv _ (pO hi');have hgx:(v.map Int.ofNat)[i]?=some ((v[i]:Nat):Int):=by rw[gG,hx];rfl
   have hrl:(rsp m s (v.take i)).length=i:=by rw[QL,hU];omega
   have hrep:List.replicate (v.length-i) (0:Int)=0::List.replicate (v.length-(i+1)) 0:=by rw[show v.length-i=(v.length-(i+1))+1 by omega];rfl
   have htk:v.take (i+1)=v.take i++[v[i]]:=by rw[gI,hx];rfl
   have ⟨r1,r2⟩:=vj m (v.take i) s v[i];have hnx:=zaO h ht hxk;have hg:(rsp m s (v.take i)++List.replicate (v.length-i) 0)[i]?=some (0:Int):=by rw[hrep,pH ω,hrl];simp
   have fin:Ret (vR (rsp m s (v.take i)++List.replicate (v.length-i) 0) (i:Int) (nxE m st v[i]).o (nxE m st v[i]).r) (LRP (λq'=>(∃(i:Nat),q'.2.2=(i:Int)/\i<=v.length/\z1p m q'.1/\aft m s (v.take i)=q'.1/\q'.2.1=rsp m s (v.take i)++List.replicate (v.length-i) 0)/\2000-q'.2.2.toNat<2000-((i:Int)).toNat) λo=>o.2=rsp m s v/\o.1=aft m s v):=by
    unfold vR;rw[zA,bdT hg,hw i ω];refine z8.2 ⟨⟨i+1,rfl,hi',hnx,?_,?_⟩,by simp[pE];omega⟩
    ·rw[htk,r2,ha]
    simp[pE];rw[htk,r1,ha,hrep,sV,if_neg ω,hrl,nO];simp
   rw[zA,bdT hgx,oB,zj];refine⟨λc2=>?_,λc2=>?_⟩
   ·have hst:0<=st:=by
     have h1:st≠-1:=ξ c2
     have:=ht.1;omega
    have hlt:st.toNat<m.i.length:=by have:=ht.2;omega
    have he:=h.edge_eq hlt hxk (f:=λe=>vR (rsp m s (v.take i)++List.replicate (v.length-i) 0) (i:Int) e.o e.r);rw[show((st.toNat:Nat):Int)=st by omega]at he;rw[he];have:nxE m st v[i]=E m st.toNat v[i]:=by unfold nxE;rw[if_neg ω]
    rw[<-this];exact fin
   have h1:st=-1:=ξ c2
   have:nxE m st v[i]=⟨-1,-1⟩:=by unfold nxE;rw[if_pos ω]
   rw[this]at fin;exact fin
  have hi':i=v.length:=by
   have:¬i<v.length:=ξ c
   omega
  subst hi';rw[mG]at ha⊢;exact z8.2 ⟨ς,ha.symm⟩
 unfold Wh;exact z8.2 ho
end
def agB (a b:z6)(L:List TC):Bool:=L.all λw=>decide (rsp a 0 w=rsp b 0 w)
def zdI (k:Nat):∀n,GG k (n+1)=k*GG k n+1
 |0=>by simp[GG]
 |n+1=>by have ih:=zdI k n;show GG k (n+1)+k^(n+1)=k*(GG k n+k^n)+1;rw[ih,Nat.mul_add,rC,nI (k^n) k];omega
def zij (k:Nat):∀u:TC,rv k u=rk k u.reverse
 |[]=>by simp[rv,rk,GG,VS]
 |i::u=>by have ih:=zij k u;unfold rk at ih⊢;rw[List.reverse_reverse,mT]at ih⊢;simp[rv,gQ,VS,ih,zdI,gZ];rw[nI (GG k u.length) k,nI (VS k u) k];omega
def nx1 (m:z6)(s i:Nat):TD:=if 0<=(E m s i).o then some (E m s i).o.toNat else none
abbrev nob:Nat->Nat->Bool:=λ_ _=>false
def z9A:∀(N:Nat) (l:TC),l.Nodup->(∀t∈l,t<N)->l.length<=N
 |0,l,_,h=>by
  cases l with
  |nil=>exact pF _
  |cons x l=>have:=h x ς;omega
 |N+1,l,hn,h=>by
  have ih:=z9A N (l.erase N) (hn.erase N) λt ht=>by
   have h1:=h t (List.mem_of_mem_erase ht);have h2:t≠N:=λe=>by subst e;exact absurd ht (hn.not_mem_erase)
   omega
  by_cases hm:N∈l
  ·rw[sd hm]at ih;omega
  rw[List.erase_of_not_mem hm]at ih;omega
variable {L:List (Nat×TC)}{c:Nat×TC}
section
variable {m:z6}(h:VM m)
include h
theorem JG:∀(u:TC) (q:Nat),z4g (kk m) nob (nx1 m) 0 u q->Wd (kk m) u.reverse/\aft m 0 u.reverse=(q:Int)/\q<m.i.length
 |[],q,e=>by have e:q=0:=e;subst e;exact⟨by simp[Wd],rfl,h.D⟩
 |i::u,q,⟨p,hp,hi,_,hn⟩=>by
  have ⟨g1,g2,g3⟩:=JG u p hp;unfold nx1 at hn;split at hn
  ·rename_i h0;cases hn;have q2:=(vj m u.reverse 0 i).2;rw[g2,ul]at q2;rw[rl];refine⟨λj hj=>?_,by rw[q2];omega,?_⟩
   ·rcases pD.1 hj with g|g
    ·exact g1 j g
    rw[pK.1 g];exact hi
   rcases h.edgeAt g3 hi with⟨g,_⟩|⟨_,g,_⟩<;>omega
  cases hn
theorem z6a:∀(u:TC) (q:Nat),Wd (kk m) u.reverse->aft m 0 u.reverse=(q:Int)->z4g (kk m) nob (nx1 m) 0 u q
 |[],q,_,e=>by have:(0:Int)=q:=e;show q=0;omega
 |i::u,q,hu,e=>by
  rw[rl]at hu e;have hu':Wd (kk m) u.reverse:=λj hj=>hu j (by simp[List.mem_reverse.1 hj]);have hi:i<kk m:=hu i ς;have q2:=(vj m u.reverse 0 i).2;rw[e]at q2;have hin:=z4O h u.reverse 0 ⟨ω,by have:=h.D;omega⟩ hu';by_cases hneg:aft m 0 u.reverse<0
  ·exfalso;unfold nxE at q2;rw[if_pos hneg]at q2;simp at q2
  obtain⟨s,hs⟩:∃s:Nat,aft m 0 u.reverse=s:=⟨(aft m 0 u.reverse).toNat,ω⟩;rw[hs,ul]at q2;refine⟨s,z6a u s hu' hs,hi,rfl,?_⟩;unfold nx1;rw[if_pos ω,<-q2];simp
def zmN (L:List (Nat×TC))(a:Nat)(x:zk)(c:Nat×TC):Prop :=
 x.G=(c.1:Int)/\((c.2=[]/\x.from_=-1)\/∃(i:Nat) (u:TC) (p j:Nat),c.2=i::u/\x.R=(i:Int)/\x.from_=(p:Int)/\j<a/\L[j]?=some (p,u))
structure Que (m:z6)(L:List (Nat×TC))(a:Nat)(seen:List Bool)(Q:List zk):Prop where
 len:seen.length=m.i.length
 seen:∀t:Nat,seen[t]?=some true↔∃u,(t,u)∈L
 nodup:(L.map (·.1)).Nodup
 qlen:Q.length+a=L.length
 arr:∀(j:Nat) (x:zk),Q[j]?=some x->∃c,L[a+j]?=some c/\zmN L (a+j) x c
theorem z8n (hb:Bfs (kk m) nob (nx1 m) 0 L a i)(hn:(L.map (·.1)).Nodup):L.length<=m.i.length:=by
 have:=z9A m.i.length (L.map (·.1)) hn λt ht=>by obtain⟨c,hc,rfl⟩:=pY.1 ht;exact(JG h c.2 c.1 (hb.path c hc)).2.2
 simpa using this
theorem zim {seen:List Bool}{Q:List zk}{σ:Type}(yr:σ×Bool)(x:zk)(hc:L[a]?=some c)(hx:x.G=(c.1:Int))
  (hb:Bfs (kk m) nob (nx1 m) 0 L a 0) (hq:Que m L (a+1) seen Q) {r:List z7} (hr:r.length=kk m) (hre:∀i,i<kk m->r[i]?=some (E m c.1 i)) :
  Ret (loop (λs=>wG x yr r s.1 s.2.1 s.2.2) (seen,Q,0)) λt=>t.1=yr.1/\∃L',L.length<=L'.length/\L'.take L.length=L/\Bfs (kk m) nob (nx1 m) 0 L' a (kk m)/\Que m L' (a+1) t.2.1 t.2.2:=by
 have hk:=h.kk_le;have hal:=(pC.1 hc).1;have hcN:=(JG h c.2 c.1 (hb.path c (pT hc))).2.2;refine zz (λs=>∃(i:Nat) (L':List (Nat×TC)),s.2.2=(i:Int)/\i<=kk m/\L.length<=L'.length/\L'.take L.length=L/\Bfs (kk m) nob (nx1 m) 0 L' a i/\Que m L' (a+1) s.1 s.2.1) (λs=>100-s.2.2.toNat) ⟨0,L,rfl,pQ _,pF _,mG,hb,hq⟩ (by show 100-_<_;omega) ?_;rintro⟨seen',Q',_⟩ ⟨i,L',rfl,hi,hll,htk,hb',hq'⟩;simp only at hq';show Ret (wG x yr r seen' Q' (i:Int)) _;unfold wG;rw[zj];refine⟨λh1=>?_,λh1=>?_⟩
 ·have hlt:i<kk m:=by simp at h1;omega
  have hc':L'[a]?=some c:=by
   have:(L'.take L.length)[a]?=some c:=by rw[htk];exact hc
   rwa[gB,if_pos hal]at this
  rw[zu (hre i hlt),oB];have old:(∀q,nx1 m c.1 i=some q->∃b∈L',b.1=q)->Ret (xc (σ:=σ) (i:Int) seen' Q') (LRP (λs'=>(∃(i:Nat) (L':List (Nat×TC)),s'.2.2=(i:Int)/\i<=kk m/\L.length<=L'.length/\L'.take L.length=L/\Bfs (kk m) nob (nx1 m) 0 L' a i/\Que m L' (a+1) s'.1 s'.2.1)/\100-s'.2.2.toNat<100-((i:Int)).toNat) (λt=>t.1=yr.1/\∃L',L.length<=L'.length/\L'.take L.length=L/\Bfs (kk m) nob (nx1 m) 0 L' a (kk m)/\Que m L' (a+1) t.2.1 t.2.2)):=by intro hn;unfold xc;rw[z8,z5n ω];exact⟨⟨i+1,L',rfl,hlt,hll,htk,hb'.old hc' hlt rfl hn,hq'⟩,by simp only;omega⟩
  rcases h.edgeAt hcN hlt with⟨g1,_⟩|⟨g1,g2,_⟩
  ·have:((E m c.1 i).o != -1)=false:=by rw[g1];rfl
   rw[this,cond_false];exact old λq hq=>by unfold nx1 at hq;rw[if_neg ω]at hq;cases hq
  have e1:((E m c.1 i).o != -1)=true:=by simp;omega
  obtain⟨q,hq0⟩:∃q:Nat,(E m c.1 i).o=q:=⟨(E m c.1 i).o.toNat,ω⟩;have hqN:q<m.i.length:=ω
  have hnx:nx1 m c.1 i=some q:=by unfold nx1;rw[if_pos g1,hq0];simp
  have hsq:seen'[q]?=some seen'[q]!:=by
   have:q<seen'.length:=by rw[hq'.len];exact hqN
   rw[pB this];simp[this]
  rw[e1,cond_true,hq0,zu hsq,oB];by_cases hs:seen'[q]! = true
  ·rw[hs];simp only[mH,cond_false];refine old λq' hq2=>?_;rw[hnx]at hq2;cases hq2;rw[hs]at hsq;have ⟨u,hu⟩:=(hq'.seen q).1 hsq;exact⟨_,hu,rfl⟩
  have hs:seen'[q]! = false:=ξ hs
  have hnot:∀u,(q,u)∉L':=λu hu=>by have:=(hq'.seen q).2 ⟨u,hu⟩;rw[hsq,hs]at this;cases this
  have hL':=z8n h hb' hq'.nodup;have hN:=h.w;have hql:=hq'.qlen;rw[hs];simp only[nM,cond_true];rw[oB,gdT (by simp;omega)];unfold xc;rw[z8,z5n ω];refine⟨⟨i+1,L' ++ [(q,i::c.2)],rfl,hlt,by simp;omega,by rw[List.take_append_of_le_length hll,htk],hb'.new hc' hlt rfl hnx,?_⟩,by simp only;omega⟩;refine⟨by simp[hq'.len],λt=>?_,?_,by simp;omega,λj y hy=>?_⟩
  ·simp only[pE];rw[Ka (by rw[hq'.len];exact hqN),hq'.seen];constructor
   ·rintro(rfl|⟨u,hu⟩)
    ·exact⟨_,rY _ (pK.2 rfl)⟩
    exact⟨u,rf _ hu⟩
   rintro⟨u,hu⟩;rcases pD.1 hu with g|g
   ·exact .inr ⟨u,g⟩
   have:=pK.1 g;cases this;exact .inl rfl
  ·rw[gU,pU];refine⟨hq'.nodup,ς,λt ht s hs' e=>?_⟩;obtain⟨b,hb1,rfl⟩:=pY.1 ht;have hs2:s=q:=ξ hs'
   exact hnot b.2 (by rw[<-hs2,<-e];exact hb1)
  rcases pM j Q'.length with g|g
  ·rw[pI g]at hy;have ⟨d,d1,d2,d3⟩:=hq'.arr j y hy;have dl:=(pC.1 d1).1;refine⟨d,by rw[pI dl];exact d1,d2,?_⟩;rcases d3 with d3|⟨i',u',p,j',e1,e2,e3,e4,e5⟩
   ·exact .inl d3
   exact .inr ⟨i',u',p,j',e1,e2,e3,e4,by rw[pI (pC.1 e5).1];exact e5⟩
  have hjl:=(pC.1 hy).1;simp at hjl;have hj:j=Q'.length:=ω
  subst hj;simp at hy;subst hy;refine⟨(q,i::c.2),by rw[pH ω,show a+1+Q'.length-L'.length=0 by omega];rfl,rfl,.inr ⟨i,c.2,c.1,a,rfl,rfl,hx,ω,?_⟩⟩;rw[pI ω,hc']
 have:i=kk m:=by simp at h1;omega
 subst this;rw[z8];exact⟨rfl,L',hll,htk,hb',hq'⟩
structure zmJ (m:z6)(L:List (Nat×TC))(a:Nat)(l:TA)(is:List Bool):Prop where
 l1:l.length=m.i.length
 l2:is.length=m.i.length
 got:∀(j:Nat) (c:Nat×TC),j<a->L[j]?=some c->is[c.1]?=some true/\l[c.1]?=some (c.2.reverse.map Int.ofNat)
 rest:∀t:Nat,t<m.i.length->(∀(j:Nat) (c:Nat×TC),j<a->L[j]?=some c->c.1≠t)->is[t]?=some false/\l[t]?=some []
omit h in
theorem zms (w:TB)(hw:w.length<=4294967296):y9 w=some w:=za7 w hw
theorem zfr {is:List Bool}(hp:zmJ m L a l is)  (hc:L[a]?=some c){x:zk}(hx:zmN L a x c)(hn:(L.map (·.1)).Nodup)(hb:Bfs (kk m) nob (nx1 m) 0 L a 0) :
  ∃l' is',wy l is x=some (.next (l',is'))/\zmJ m L (a+1) l' is':=by
 have hal:=(pC.1 hc).1;have hcN:=(JG h c.2 c.1 (hb.path c (pT hc))).2.2;have ⟨q1,q2⟩:=hx;have hne:∀(j:Nat) (d:Nat×TC),j<a->L[j]?=some d->d.1≠c.1:=λj d hj hd e=>by
  have h1:(L.map (·.1))[j]?=some d.1:=by rw[gG,hd];rfl
  have h2:(L.map (·.1))[a]?=some c.1:=by rw[gG,hc];rfl
  rw[<-e]at h2;have:=((List.getElem?_inj (pC.1 h1).1 hn).1 (h1.trans h2.symm));omega
 have ⟨r1,r2⟩:=hp.rest c.1 hcN hne;have main:∀w:TB,w=c.2.reverse.map Int.ofNat->zmJ m L (a+1) (l.set c.1 w) (is.set c.1 true):=by
  intro w hw;refine⟨by simp[hp.l1],by simp[hp.l2],λj d hj hd=>?_,λt ht hall=>?_⟩
  ·by_cases e:j=a
   ·subst e;rw[hc]at hd;cases hd;rw[mD (by rw[hp.l2];exact hcN),mD (by rw[hp.l1];exact hcN),hw];exact⟨rfl,rfl⟩
   have hne':=hne j d ω hd;rw[gS (rA hne'),gS (rA hne')];exact hp.got j d ω hd
  have hne':c.1≠t:=hall a c ω hc;rw[gS hne',gS hne'];exact hp.rest t ht λj d hj hd=>hall j d ω hd
 unfold wy;rw[q1,zu r1,oB];simp[pE];rcases q2 with⟨q2,q3⟩|⟨i,u,p,j,q2,q3,q4,q5,q6⟩
 ·have:(x.from_ != -1)=false:=by rw[q3];rfl
  rw[this,cond_false];refine⟨l,is.set c.1 true,rfl,?_⟩;have:=main [] (by rw[q2];rfl);have e:l.set c.1 []=l:=by
   apply gW;intro t;by_cases e:t=c.1
   ·subst e;rw[mD (by rw[hp.l1];exact hcN),r2]
   rw[gS (rA e)]
  rwa[e]at this
 have:(x.from_ != -1)=true:=by rw[q4];simp<;>omega
 have ⟨g1,g2⟩:=hp.got j (p,u) q5 q6;have hul:u.length<=j:=hb.short j (p,u) q6;have hjL:=(pC.1 q6).1;have hLN:=z8n h hb hn;have hN:=h.w;rw[this,cond_true,q4,zu g2,oB,zms _ (by simp;omega),oB,gdT (by simp;omega),z1k,oB,zu r2,oB];refine⟨_,_,rfl,main _ ?_⟩;rw[q2,q3];simp
theorem z4Y:Ret (VW m 0) (z0P m):=by
 have l1:=h.D;have hN:=h.w;have e0:(m.i.length:Int).toNat=m.i.length:=ς
 unfold VW V6;rw[gdT ω,gdT ω,oB,e0,zi];refine Ret.mono (Q:=λt=>∃l is,t=.next (l,is)/\z0P m (l,is)) ?_ ?_
 ·dsimp only
  unfold jT;have hrep:(List.replicate m.i.length false)[(0:Nat)]?=some false:=by rw[gR,if_pos ω]
  rw[gdT ω,e0,zi,show idx (List.replicate m.i.length false) 0=some false from hrep,z8,zi];refine Ret.mono (Q:=λt=>∃l is,t=.next (l,is)/\z0P m (l,is)) ?_ λt ht=>z8.2 ht;have hst0:Que m [(0,[])] 0 ((List.replicate m.i.length false).set (0:Int).toNat true) [zk.mk 0 (-1) (-1)]:=by
   refine⟨ς,λt=>?_,ς,ς,λj x hx=>?_⟩
   ·show((List.replicate m.i.length false).set 0 true)[t]?=some true↔_;rw[Ka (by simp;omega)];constructor
    ·rintro(rfl|q)
     ·exact⟨[],ς⟩
     rw[gR]at q;split at q<;>cases q
    rintro⟨u,hu⟩;simp at hu;exact .inl hu.1
   have hj:=(pC.1 hx).1;simp at hj;subst hj;simp at hx;subst hx;exact⟨(0,[]),rfl,rfl,.inl ⟨rfl,rfl⟩⟩
  have hp0:zmJ m [(0,[])] 0 (List.replicate m.i.length ([]:TB)) (List.replicate m.i.length false):=by refine⟨ς,ς,λj c hj=>ω,λt ht _=>?_⟩;rw[gR,gR,if_pos ht,if_pos ht];exact⟨rfl,rfl⟩
  refine zz (λs=>∃(a:Nat) (L:List (Nat×TC)) (l:TA) (is:List Bool),s.1=.next (l,is)/\a<=L.length/\Bfs (kk m) nob (nx1 m) 0 L a 0/\Que m L a s.2.1 s.2.2/\zmJ m L a l is) (λs=>match s.1 with|.next (l,is)=>200-(is.countP id)|.done _=>0) ⟨0,_,_,_,rfl,ς,Bfs.start,hst0,hp0⟩ (by show 200-_<_;omega) ?_;rintro⟨sg,seen,Q⟩ ⟨a,L,l,is,hsg,haL,hb,hq,hp⟩;simp only at hsg hq;subst hsg;have hLN:=z8n h hb hq.nodup;have hql:=hq.qlen;show Ret (vZ m (yOf (λs x=>wy s.1 s.2 x)) (.next (l,is)) seen Q) _;unfold vZ;rw[zj];refine⟨λh1=>?_,λh1=>?_⟩
  ·have hQ:0<Q.length:=by simp at h1;omega
   have hx0:Q[0]?=some Q[0]:=pB hQ;have ⟨c,c1,c2⟩:=hq.arr 0 _ hx0;rw[mV]at c1 c2;have hal:=(pC.1 c1).1;have hcN:=(JG h c.2 c.1 (hb.path c (pT c1))).2.2;have ⟨l',is',y1,y2⟩:=zfr h hp c1 c2 hq.nodup hb;have yv:yOf (λ(s:TA×List Bool) x=>wy s.1 s.2 x) (.next (l,is)) Q[0]=some (.next (l',is'),true):=by unfold yOf;simp only;rw[y1]
   have ⟨r,hr,hrl,hre⟩:=h.rowAt hcN;have hs0:=c2.1;rw[show idx Q 0=some Q[0] from hx0,oB,gdT ω,yv,oB];simp only[mH,cond_false];rw[hs0,zu hr,oB,zi];have hq':Que m L (a+1) seen (Q.drop 1):=by refine⟨hq.len,hq.seen,hq.nodup,by rw[List.length_drop];omega,λj x hx=>?_⟩;rw[mU]at hx;have:=hq.arr (1+j) x hx;rwa[show a+(1+j)=a+1+j by omega]at this
   refine(zim h (σ:=LR (TA×List Bool) Empty) (LR.next (l',is'),true) Q[0] c1 hs0 hb hq' hrl hre).mono ?_;rintro⟨sg',seen',Q'⟩ ⟨e1,L',g1,g2,g3,g4⟩;simp only at e1 g4;rw[z8];have same:∀j,j<L.length->L'[j]?=L[j]?:=λj hj=>by
    have:(L'.take L.length)[j]?=L[j]?:=by rw[g2]
    rwa[gB,if_pos hj]at this
   have hal':a<L'.length:=ω
   refine⟨⟨a+1,L',l',is',e1,hal',g3.step hal',g4,?_⟩,?_⟩
   ·refine⟨y2.l1,y2.l2,λj d hj hd=>y2.got j d hj (by rw[<-same j ω];exact hd),λt ht hall=>y2.rest t ht λj d hj hd=>hall j d hj (by rw[same j ω];exact hd)⟩
   subst e1;have hfalse:is[c.1]?=some false:=(hp.rest c.1 hcN λj d hj hd e=>by
    have h1:(L.map (·.1))[j]?=some d.1:=by rw[gG,hd];rfl
    have h2:(L.map (·.1))[a]?=some c.1:=by rw[gG,c1];rfl
    rw[<-e]at h2;have:=((List.getElem?_inj (pC.1 h1).1 hq.nodup).1 (h1.trans h2.symm));omega).1
   have hset:is'=is.set c.1 true:=by
    unfold wy at y1;rw[hs0,zu hfalse,oB]at y1;simp only[pE]at y1;rcases zt y1 with⟨_,y1⟩|⟨_,y1⟩
    ·have ⟨_,_,y1⟩:=zl y1;have ⟨_,_,y1⟩:=zl y1;have ⟨_,y1⟩:=gdE y1;have ⟨_,_,y1⟩:=zl y1;have ⟨_,_,y1⟩:=zl y1;cases y1;rfl
    cases y1;rfl
   subst hset;have hcl:c.1<is.length:=by rw[hp.l2];exact hcN
   have cnt:(is.set c.1 true).countP id=is.countP id+1:=by
    rw[List.countP_set hcl];have:is[c.1]=false:=by rw[pB hcl]at hfalse;exact Option.some.inj hfalse
    simp[this]
   have cle:(is.set c.1 true).countP id<=(is.set c.1 true).length:=sJ;rw[sU,hp.l2]at cle;show 200-(is.set c.1 true).countP id<200-is.countP id;omega
  have hQ:Q.length=0:=by simp at h1;simp[h1]
  have ha:a=L.length:=ω
  rw[z8];refine⟨l,is,rfl,hp.l1,hp.l2,λt ht=>?_⟩;have atEnd:∀c,L[a]?=some c->False:=λc hc=>by have:=(pC.1 hc).1;omega
  by_cases hex:∃u,(t,u)∈L
  ·have ⟨u,hu⟩:=hex;have ⟨j,hj⟩:=rN hu;have hjl:=(pC.1 hj).1;have ⟨g1,g2⟩:=hp.got j (t,u) ω hj;have ⟨p1,p2,p3⟩:=JG h u t (hb.path _ hu);refine .inl ⟨g1,u.reverse,g2,p1,?_,p2,λv hv e=>?_⟩
   ·rw[mT];have:u.length<=j:=hb.short j (t,u) hj;omega
   have ⟨j2,b,b1,b2,b3⟩:=hb.reach v.reverse t (z6a h v.reverse t (by rw[List.reverse_reverse];exact hv) (by rw[List.reverse_reverse];exact e)) λc hc=>(atEnd c hc).elim;have hb2:b.2=u:=by
    have h1:(L.map (·.1))[j]?=some t:=by rw[gG,hj];rfl
    have h2:(L.map (·.1))[j2]?=some t:=by rw[gG,b1];exact congrArg some b2
    have:=((List.getElem?_inj (pC.1 h1).1 hq.nodup).1 (h1.trans h2.symm));subst this;rw[hj]at b1;cases b1;rfl
   rw[hb2,zij,zij,List.reverse_reverse]at b3;exact b3
  refine .inr ⟨(hp.rest t ht λj c hj hc e=>hex ⟨c.2,by rw[<-e];exact pT hc⟩).1,λv hv e=>?_⟩;have ⟨j2,b,b1,b2,_⟩:=hb.reach v.reverse t (z6a h v.reverse t (by rw[List.reverse_reverse];exact hv) (by rw[List.reverse_reverse];exact e)) λc hc=>(atEnd c hc).elim;exact hex ⟨b.2,by rw[<-b2];exact pT b1⟩
 rintro t ⟨l,is,rfl,ha⟩;simp only;unfold V5;exact z8.2 ha
theorem z80:Ret (WO m) λr=>r.2.2=0/\z0P m (r.1,r.2.1):=by unfold WO;rw[V4,z0y h,oB,bne_self_eq_false,cond_false,zi];exact(z4Y h).mono λr hr=>z8.2 ⟨rfl,hr⟩
end
end Go.Own
