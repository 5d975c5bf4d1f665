/- -/
import Derived.Test.YtcodjgfoodacaaaGreatDoorPartG
import Derived.Test.YtcodjgfoodacaaaGreatDoorPartE
import Derived.Test.YtcodjgfoodacaaaGreatDoorPartB
import Derived.OpenShut
import Derived.ChangeShapes
import Derived.Stop.LaidErr
import Derived.Test.YtcodjgfoodacaaaGreatDoorPartC
import Derived.WalkKit
import Derived.ProofKit
import Derived.Carry
set_option linter.unusedVariables false
set_option linter.unusedSimpArgs false
namespace Go.Own
def SEq (m:z6)(s t:Nat):Prop:=∀w:List Nat,(∀i∈w,i<kk m)->rsp m (s:Int) w=rsp m (t:Int) w
theorem z9U (m:z6):∀(w:List Nat) (s:Int),s<0->rsp m s w=w.map fun _=>-1
 | [],_,_=>rfl
 | i::w,s,h=>by
  simp only [rsp,nxE,if_pos h,List.map_cons]
  rw [z9U m w (-1) (by omega)]
theorem YQ (m:z6)(s i:Nat):nxE m (s:Int) i=E m s i:=by
 unfold nxE
 rw [if_neg (by omega),Int.toNat_natCast]
section
variable {m:z6}(h:WM m)
include h
theorem za6:∀(n:Nat) (p:Nat×Nat),p.1<m.Rows.length->p.2<m.Rows.length->Mk (kk m) (z1V m m) (nxP m m) n p->∃w:List Nat,(∀i∈w,i<kk m)/\rsp m (p.1:Int) w≠rsp m (p.2:Int) w
 | 0,p,_,_,q=>q.elim
 | n+1,p,h1,h2,q=>by
  rcases q with q|⟨i,hi,q|⟨r,hr,q⟩⟩
  ·exact za6 n p h1 h2 q
  ·refine⟨[i],by simpa using hi,fun e=>?_⟩
   simp only [rsp,YQ,List.cons.injEq,and_true]at e
   simp [z1V,e]at q
  ·have hin:=h.nx_in h1 h2 hi hr
   obtain⟨w,hw,hne⟩:=za6 n r hin.1 hin.2 q
   refine⟨i::w,fun j hj=>by rcases List.mem_cons.1 hj with rfl|hj;exact hi;exact hw j hj,fun e=>hne ?_⟩
   simp only [rsp,YQ,List.cons.injEq]at e
   unfold nxP at hr
   split at hr
   ·rename_i hc
    cases hr
    have e1:(((E m p.1 i).To.toNat:Nat):Int)=(E m p.1 i).To:=by omega
    have e2:(((E m p.2 i).To.toNat:Nat):Int)=(E m p.2 i).To:=by omega
    simp only [e1,e2]
    exact e.2
   ·cases hr
theorem zc2:∀(w:List Nat) (p:Nat×Nat),p.1<m.Rows.length->p.2<m.Rows.length->(∀i∈w,i<kk m)->rsp m (p.1:Int) w≠rsp m (p.2:Int) w->Mk (kk m) (z1V m m) (nxP m m) w.length p
 | [],p,_,_,_,q=>(q rfl).elim
 | i::w,p,h1,h2,hw,q=>by
  have hi:=hw i (by simp)
  refine .inr ⟨i,hi,?_⟩
  by_cases hb:z1V m m p i=true
  ·exact .inl hb
  ·have he:(E m p.1 i).Out=(E m p.2 i).Out:=by simpa [z1V] using hb
   simp only [rsp,YQ,he,ne_eq,List.cons.injEq,true_and]at q
   have a:=h.edgeAt h1 hi
   have b:=h.edgeAt h2 hi
   by_cases hc:0<=(E m p.1 i).To/\0<=(E m p.2 i).To
   ·have hr:nxP m m p i=some ((E m p.1 i).To.toNat,(E m p.2 i).To.toNat):=by unfold nxP;rw [if_pos hc]
    have hin:=h.nx_in h1 h2 hi hr
    have e1:(((E m p.1 i).To.toNat:Nat):Int)=(E m p.1 i).To:=by omega
    have e2:(((E m p.2 i).To.toNat:Nat):Int)=(E m p.2 i).To:=by omega
    exact .inr ⟨_,hr,zc2 w _ hin.1 hin.2 (fun j hj=>hw j (by simp [hj])) (by simpa only [e1,e2] using q)⟩
   ·exfalso
    refine q ?_
    have e1:(E m p.1 i).To=-1:=by omega
    have e2:(E m p.2 i).To=-1:=by omega
    rw [e1,e2]
theorem z0H {s t:Nat}(hs:s<m.Rows.length)(ht:t<m.Rows.length):mrk m m.Rows.length s t=false↔SEq m s t:=by
 have e:mrk m m.Rows.length s t=true↔¬SEq m s t:=by
  unfold mrk
  rw [z7M]
  constructor
  ·intro q g
   obtain⟨w,hw,hne⟩:=za6 h _ (s,t) hs ht q
   exact hne (g w hw)
  ·intro q
   obtain⟨w,hw⟩:=Classical.not_forall.1 q
   obtain⟨hw,hne⟩:=Classical.not_imp.1 hw
   have:=zfl h hs ht (zc2 h w (s,t) hs ht hw hne)
   exact this.mono (by omega)
 constructor
 ·intro q
  exact Classical.byContradiction fun g=>by rw [e.2 g]at q;cases q
 ·intro q
  cases hm:mrk m m.Rows.length s t with
  | false=>rfl
  | true=>exact(e.1 hm q).elim
theorem z5D:Ret (kY m) fun l=>l.length=m.Rows.length/\∀s t,s<m.Rows.length->t<m.Rows.length->(l[s]?=l[t]?↔SEq m s t):=by
 have hl:=h.len
 unfold kY UR
 rw [zy,bdT (zd7 h m.Rows.length (by omega)),zy]
 refine Ret.mono (zfi (by omega) (fun s hs=>(z0H h hs hs).2 fun w _=>rfl) (fun s t hs ht q=>(z0H h ht hs).2 fun w hw=>((z0H h hs ht).1 q w hw).symm) (fun s t u hs ht hu q r=>(z0H h hs hu).2 fun w hw=>((z0H h hs ht).1 q w hw).trans ((z0H h ht hu).1 r w hw))) ?_
 rintro l ⟨h1,h2⟩
 exact zg.2 (zg.2 ⟨h1,fun s t hs ht=>(h2 s t hs ht).trans (z0H h hs ht)⟩)
end
variable {m:z6}
theorem zbp (h:VM m):∀(w:List Nat) (n:Nat) (s:Int),z8g m s->(∀i∈w,i<kk m)->w.length<n->YN n m s (w.map Int.ofNat)=some (aft m s w)
 | w,0,_,_,_,hn=>by omega
 | [],n+1,s,hs,_,_=>by
  show kZ (YN n) m s []=_
  rfl
 | i::w,n+1,s,hs,hw,hn=>by
  show kZ (YN n) m s ((i:Int)::w.map Int.ofNat)=_
  have hi:=hw i (by simp)
  have hx:=zd3 h hs hi
  unfold kZ
  have hz:(((((i:Int)::w.map Int.ofNat).length:Nat):Int)==0)=false:=by
   rw [beq_eq_false_iff_ne]
   simp only [List.length_cons]
   omega
  rw [hz,cond_false]
  have e0:idx ((i:Int)::w.map Int.ofNat) 0=some (i:Int):=rfl
  rw [bdT e0,bdT hx.1,gdT (by simp;omega)]
  have e1:((i:Int)::w.map Int.ofNat).drop (1:Int).toNat=w.map Int.ofNat:=rfl
  rw [e1,bdT (zbp h w n _ hx.2 (fun j hj=>hw j (by simp [hj])) (by simp at hn;omega))]
  rfl
theorem zgn (h:VM m){s:Int}(hs:z8g m s)(w:List Nat)(hw:∀i∈w,i<kk m):QX m s (w.map Int.ofNat)=some (aft m s w):=by
 unfold QX
 exact zbp h w _ s hs hw (by simp)
def z9f (k:Nat):List Nat->Option (List Nat)
 | []=>none
 | d::r=>if d+1<k then some ((d+1)::r) else(z9f k r).map (0 :: ·)
def JU (k:Nat):List Nat->Nat
 | []=>0
 | d::r=>d+k*JU k r
variable {k:Nat}
theorem z9H {k:Nat}:∀{r:List Nat},(∀d∈r,d<k)->JU k r<k ^ r.length
 | [],_=>by simp [JU]
 | d::r,h=>by
  have ih:=z9H (k:=k) (r:=r) fun x hx=>h x (by simp [hx])
  have hd:=h d (by simp)
  simp only [JU,List.length_cons,Nat.pow_succ]
  have:k*(JU k r+1)<=k*k ^ r.length:=Nat.mul_le_mul_left k ih
  rw [Nat.mul_add,Nat.mul_one]at this
  rw [Nat.mul_comm (k ^ r.length) k]
  omega
theorem zat:∀{r s:List Nat},r.length=s.length->(∀d∈r,d<k)->(∀d∈s,d<k)->JU k r=JU k s->r=s
 | [],[],_,_,_,_=>rfl
 | [],_::_,h,_,_,_=>by simp at h
 | _::_,[],h,_,_,_=>by simp at h
 | d::r,e::s,h,h1,h2,hv=>by
  have hd:=h1 d (by simp)
  have he:=h2 e (by simp)
  simp only [JU]at hv
  have a1:(d+k*JU k r) % k=d:=by rw [Nat.add_mul_mod_self_left,Nat.mod_eq_of_lt hd]
  have a2:(e+k*JU k s) % k=e:=by rw [Nat.add_mul_mod_self_left,Nat.mod_eq_of_lt he]
  have hde:d=e:=by rw [<-a1,<-a2,hv]
  subst hde
  have hk:0<k:=by omega
  have:k*JU k r=k*JU k s:=by omega
  have:=Nat.eq_of_mul_eq_mul_left hk this
  rw [zat (by simpa using h) (fun x hx=>h1 x (by simp [hx])) (fun x hx=>h2 x (by simp [hx])) this]
theorem z9d:∀{r s:List Nat},(∀d∈r,d<k)->z9f k r=some s->s.length=r.length/\(∀d∈s,d<k)/\JU k s=JU k r+1
 | [],s,_,h=>by cases h
 | d::r,s,hr,h=>by
  have hd:=hr d (by simp)
  unfold z9f at h
  split at h
  ·rename_i hc
   cases h
   exact⟨rfl,fun x hx=>by rcases List.mem_cons.1 hx with rfl|hx;exact hc;exact hr x (by simp [hx]),by simp only [JU];omega⟩
  ·rename_i hc
   obtain⟨s',h1,rfl⟩:=Option.map_eq_some_iff.1 h
   obtain⟨g1,g2,g3⟩:=z9d (fun x hx=>hr x (by simp [hx])) h1
   refine⟨by simp [g1],fun x hx=>by rcases List.mem_cons.1 hx with rfl|hx;omega;exact g2 x hx,?_⟩
   simp only [JU,g3,Nat.mul_add,Nat.mul_one]
   omega
theorem z9e (hk:0<k):∀{r:List Nat},(∀d∈r,d<k)->z9f k r=none->JU k r+1=k ^ r.length
 | [],_,_=>by simp [JU]
 | d::r,hr,h=>by
  have hd:=hr d (by simp)
  unfold z9f at h
  split at h
  ·cases h
  ·rename_i hc
   have h1:z9f k r=none:=by cases e:z9f k r with|none=>rfl|some x=>rw [e]at h;cases h
   have:=z9e hk (fun x hx=>hr x (by simp [hx])) h1
   simp only [JU,List.length_cons,Nat.pow_succ,<-this,Nat.add_mul,Nat.one_mul,Nat.mul_comm k]
   omega
def za4 (k:Nat)(w:List Nat):List Nat:=match z9f k w.reverse with|some r=>r.reverse|none=>List.replicate (w.length+1) 0
theorem zd2 (hk:1<=k)(hk2:k<=1000){w:List Nat}(hw:∀i∈w,i<k)(hl:w.length<=100000):Va (w.map Int.ofNat) (k:Int)=some ((za4 k w).map Int.ofNat):=by
 have hloop:Ret (loop (fun s=>YJ (k:Int) s.1 s.2) (w.map Int.ofNat,w64 ((((w.map Int.ofNat).length:Nat):Int) - 1))) fun r=>match r with
   | .inl o=>z9f k w.reverse=none/\o=List.replicate w.length (0:Int)
   | .inr o=>∃r,z9f k w.reverse=some r/\o=r.reverse.map Int.ofNat:=by
  refine zW (fun q=>∃(p:List Nat) (z:Nat),q.1=(p++List.replicate z 0).map Int.ofNat/\q.2=(p.length:Int) - 1/\(∀i∈p,i<k)/\p.length+z=w.length/\z9f k w.reverse=(z9f k p.reverse).map (fun r=>List.replicate z 0++r)) (fun q=>(q.2+1).toNat) ⟨w,0,by simp,by rw [zT (by simp;omega) (by simp;omega)];simp,hw,by simp,by cases z9f k w.reverse <;> simp⟩ (by simp only;rw [zT (by simp;omega) (by simp;omega)];simp;omega) ?_
  rintro⟨out,j⟩ ⟨p,z,h1,h2,h3,h4,h5⟩
  simp only at h1 h2
  subst h1;subst h2
  unfold YJ
  rw [zF]
  refine⟨fun hc=>?_,fun hc=>?_⟩
  ·have hp:1<=p.length:=by simp at hc;omega
   obtain⟨p',d,rfl⟩:∃p' d,p=p' ++ [d]:=by
    rcases List.eq_nil_or_concat p with e|⟨p',d,e⟩
    ·subst e;simp at hp
    ·exact⟨p',d,by simpa using e⟩
   have hd:=h3 d (by simp)
   have hj:(((p' ++ [d]).length:Nat):Int) - 1=((p'.length:Nat):Int):=by simp
   have hx:((p' ++ [d]++List.replicate z 0).map Int.ofNat)[p'.length]?=some (d:Int):=by
    simp
   have hset:∀e:Nat,((p' ++ [d]++List.replicate z 0).map Int.ofNat).set p'.length (e:Int)=(p' ++ e::List.replicate z 0).map Int.ofNat:=by
    intro e
    rw [List.append_assoc,List.map_append,List.set_append,if_neg (by simp)]
    simp
   have hr:(p' ++ [d]).reverse=d::p'.reverse:=by simp
   rw [hr]at h5
   have hin:z9f k (d::p'.reverse)=if d+1<k then some ((d+1)::p'.reverse) else(z9f k p'.reverse).map (0 :: ·):=rfl
   have hw1:w64 ((d:Int)+1)=((d+1:Nat):Int):=by rw [zT (by omega) (by omega)];rfl
   rw [hj,y5,bdT hx,hw1,zF]
   refine⟨fun hc=>?_,fun hc=>?_⟩
   ·have hdk:d+1<k:=by simp at hc;omega
    rw [bdT hx,bdT hx,hw1,Int.toNat_natCast,hset]
    refine zg.2 ?_
    rw [hin,if_pos hdk]at h5
    exact⟨_,h5,by simp⟩
   ·have hdk:¬d+1<k:=by simp at hc;omega
    rw [bdT hx,Int.toNat_natCast,zT (by omega) (by omega)]
    have h0:=hset 0
    simp only [Int.natCast_zero]at h0
    refine zg.2 ⟨⟨p',z+1,?_,rfl,fun i hi=>h3 i (by simp [hi]),by simp at h4;omega,?_⟩,?_⟩
    ·rw [List.replicate_succ];exact h0
    ·rw [hin,if_neg hdk]at h5
     rw [h5]
     cases z9f k p'.reverse with
     | none=>rfl
     | some r=>simp [List.replicate_succ']
    ·simp only
     omega
  ·have hp:p=[]:=List.eq_nil_of_length_eq_zero (by simp at hc;omega)
   subst hp
   refine zg.2 ⟨?_,?_⟩
   ·rw [h5];rfl
   ·simp at h4;simp [h4]
 unfold Va
 rw [gdT (by simp;omega)]
 obtain⟨r,e,hr⟩:=hloop
 rw [bdT e]
 unfold za4
 cases r with
 | inl o=>
  obtain⟨g1,rfl⟩:=hr
  show YK _=_
  unfold YK
  rw [gdT (by simp;omega),g1]
  simp [List.replicate_succ']
 | inr o=>
  obtain⟨r,g1,rfl⟩:=hr
  show some _=_
  rw [g1]
def GG (k:Nat):Nat->Nat
 | 0=>0
 | n+1=>GG k n+k ^ n
theorem z8d {k n m:Nat}(h:n<=m):GG k n<=GG k m:=by
 induction h with
 | refl=>exact Nat.le_refl _
 | step _ ih=>exact Nat.le_trans ih (Nat.le_add_right _ _)
def rk (k:Nat)(w:List Nat):Nat:=GG k w.length+JU k w.reverse
def Wd (k:Nat)(w:List Nat):Prop:=∀i∈w,i<k
theorem Wd.rev {w:List Nat}(h:Wd k w):∀d∈w.reverse,d<k:=fun d hd=>h d (by simpa using hd)
theorem zhN {w:List Nat}(h:Wd k w):rk k w<GG k (w.length+1):=by
 have:=z9H h.rev
 rw [List.length_reverse]at this
 show GG k w.length+JU k w.reverse<GG k w.length+k ^ w.length
 omega
theorem zaM {k:Nat}{w u:List Nat}(hw:Wd k w)(h:w.length<u.length):rk k w<rk k u:=by
 have h1:=zhN hw
 have h2:=z8d (k:=k) (show w.length+1<=u.length from h)
 unfold rk at *
 omega
theorem zaN {w u:List Nat}(hw:Wd k w)(hu:Wd k u)(h:rk k w=rk k u):w=u:=by
 have hl:w.length=u.length:=by
  rcases Nat.lt_trichotomy w.length u.length with q|q|q
  ·have:=zaM hw q;omega
  ·exact q
  ·have:=zaM hu q;omega
 have hv:JU k w.reverse=JU k u.reverse:=by unfold rk at h;rw [hl]at h;omega
 have:=zat (by simpa using hl) hw.rev hu.rev hv
 simpa using congrArg List.reverse this
theorem z8w (k:Nat):∀n,JU k (List.replicate n 0)=0
 | 0=>rfl
 | n+1=>by simp [List.replicate_succ,JU,z8w k n]
theorem zfk (hk:1<=k){w:List Nat}(hw:Wd k w):Wd k (za4 k w)/\rk k (za4 k w)=rk k w+1/\(za4 k w).length<=w.length+1:=by
 unfold za4
 cases e:z9f k w.reverse with
 | some r=>
  obtain⟨h1,h2,h3⟩:=z9d hw.rev e
  rw [List.length_reverse]at h1
  refine⟨fun i hi=>h2 i (by simpa using hi),?_,by simp [h1]⟩
  simp only [rk,List.length_reverse,List.reverse_reverse,h1,h3]
  omega
 | none=>
  have h:=z9e (by omega) hw.rev e
  rw [List.length_reverse]at h
  refine⟨fun i hi=>by have:=(List.mem_replicate.1 hi).2;omega,?_,by simp⟩
  simp only [rk,List.length_replicate,List.reverse_replicate,z8w,GG,<-h]
  omega
section
variable {m:z6}
def z65 (m:z6)(from_:Int)(l:List (List Int))(is:List Bool)(r t:Nat):Prop :=
 (is[t]?=some true/\∃v:List Nat,l[t]?=some (v.map Int.ofNat)/\rk (kk m) v<r/\Wd (kk m) v/\v.length<m.Rows.length/\aft m from_ v=(t:Int)/\∀u,Wd (kk m) u->aft m from_ u=(t:Int)->rk (kk m) v<=rk (kk m) u) \/
 (is[t]?=some false/\l[t]?=some []/\∀u,Wd (kk m) u->rk (kk m) u<r->aft m from_ u≠(t:Int))
theorem z9u (h:VM m):∀(w:List Nat) (s:Int),z8g m s->Wd (kk m) w->z8g m (aft m s w)
 | [],s,hs,_=>hs
 | i::w,s,hs,hw=>z9u h w _ (znv h hs (hw i (by simp))) fun j hj=>hw j (by simp [hj])
theorem zcR (h:VM m)(hG:GG (kk m) m.Rows.length<=1000000000){from_:Int}(hf:z8g m from_) :
  Ret (VH m from_) fun r=>r.1.length=m.Rows.length/\r.2.length=m.Rows.length/\∀t,t<m.Rows.length->z65 m from_ r.1 r.2 (GG (kk m) m.Rows.length) t:=by
 have l64:=h.len64
 have l1:=h.len1
 have hk:=h.kk_pos
 have hk2:=h.kk_le
 have hke:=h.kk_eq
 unfold VH XO
 rw [UJ,UJ]
 refine⟨by omega,by omega,?_⟩
 rw [zy]
 refine Ret.mono ?_ fun r hr=>zg.2 hr
 refine zW (fun q=>∃w:List Nat,q.2.2=w.map Int.ofNat/\Wd (kk m) w/\w.length<=m.Rows.length/\rk (kk m) w<=GG (kk m) m.Rows.length/\q.1.length=m.Rows.length/\q.2.1.length=m.Rows.length/\∀t,t<m.Rows.length->z65 m from_ q.1 q.2.1 (rk (kk m) w) t)
  (fun q=>GG (kk m) m.Rows.length - rk (kk m) (q.2.2.map Int.toNat)) ⟨[],rfl,fun i hi=>by simp at hi,by simp,by simp [rk,GG,JU],by simp,by simp,fun t ht=>.inr ⟨by simp [ht],by simp [ht],fun u _ hu=>by simp [rk,GG,JU]at hu⟩⟩ (by simp only;omega) ?_
 rintro⟨l,is,wi⟩ ⟨w,h1,hw,hwl,hwr,h2,h3,h4⟩
 simp only at h1 h2 h3 h4
 subst h1
 have hback:∀w:List Nat,(w.map Int.ofNat).map Int.toNat=w:=fun w=>by induction w with|nil=>rfl|cons a w ih=>simp only [List.map_cons,ih];rfl
 simp only [hback]
 unfold XN
 rw [zF]
 refine⟨fun hc=>?_,fun hc=>?_⟩
 ·have hlt:w.length<m.Rows.length:=by simpa using hc
  have hrk:rk (kk m) w<GG (kk m) m.Rows.length:=Nat.lt_of_lt_of_le (zhN hw) (z8d hlt)
  obtain⟨n1,n2,n3⟩:=zfk hk hw
  have hnx:Va (w.map Int.ofNat) m.Inputs=some ((za4 (kk m) w).map Int.ofNat):=by rw [<-hke];exact zd2 hk (by omega) hw (by omega)
  have fin:∀(l2:List (List Int)) (is2:List Bool),l2.length=m.Rows.length->is2.length=m.Rows.length->(∀t,t<m.Rows.length->z65 m from_ l2 is2 (rk (kk m) w+1) t) ->
    Ret (u6 m (w.map Int.ofNat) l2 is2) (LRP (fun s'=>(∃w:List Nat,s'.2.2=w.map Int.ofNat/\Wd (kk m) w/\w.length<=m.Rows.length/\rk (kk m) w<=GG (kk m) m.Rows.length/\s'.1.length=m.Rows.length/\s'.2.1.length=m.Rows.length/\∀t,t<m.Rows.length->z65 m from_ s'.1 s'.2.1 (rk (kk m) w) t)/\GG (kk m) m.Rows.length - rk (kk m) (s'.2.2.map Int.toNat)<GG (kk m) m.Rows.length - rk (kk m) w)
     fun r=>r.1.length=m.Rows.length/\r.2.length=m.Rows.length/\∀t,t<m.Rows.length->z65 m from_ r.1 r.2 (GG (kk m) m.Rows.length) t):=by
   intro l2 is2 a1 a2 a3
   unfold u6
   rw [bdT hnx]
   refine zg.2 ⟨⟨_,rfl,n1,by omega,by omega,a1,a2,fun t ht=>by rw [n2];exact a3 t ht⟩,?_⟩
   rw [hback,n2]
   omega
  have hin:=z9u h w from_ hf hw
  rw [bdT (zgn h hf w hw),zF]
  have stay:∀t,t<m.Rows.length->(aft m from_ w=(t:Int)->is[t]?=some true)->z65 m from_ l is (rk (kk m) w+1) t:=by
   intro t ht hn
   rcases h4 t ht with⟨g1,v,g2,g3,g4⟩|⟨g1,g2,g3⟩
   ·exact .inl ⟨g1,v,g2,by omega,g4⟩
   ·refine .inr ⟨g1,g2,fun u hu hr e=>?_⟩
    rcases Nat.lt_or_ge (rk (kk m) u) (rk (kk m) w) with q|q
    ·exact g3 u hu q e
    ·have:=zaN hu hw (by omega)
     subst this
     rw [hn e]at g1
     cases g1
  refine⟨fun hc=>?_,fun hc=>?_⟩
  ·have hs0:0<=aft m from_ w:=by simpa using hc
   obtain⟨s,hs⟩:=Int.eq_ofNat_of_zero_le hs0
   have hsN:s<m.Rows.length:=by have:=hin.2;omega
   rw [hs]
   rcases h4 s hsN with⟨g1,v,g2,g3⟩|⟨g1,g2,g3⟩
   ·rw [y5,bdT g1]
    simp only [Bool.not_true,cond_false]
    refine fin l is h2 h3 fun t ht=>stay t ht fun e=>?_
    have:t=s:=by omega
    subst this;exact g1
   ·rw [y5,bdT g1]
    simp only [Bool.not_false,cond_true]
    rw [bdT g1,y5,bdT g2,Int.toNat_natCast]
    refine fin _ _ (by simpa using h2) (by simpa using h3) fun t ht=>?_
    by_cases e:t=s
    ·subst e
     refine .inl ⟨by simp [h3,ht],w,by simp [h2,ht],by omega,hw,hlt,hs,fun u hu he=>?_⟩
     rcases Nat.lt_or_ge (rk (kk m) u) (rk (kk m) w) with q|q
     ·exact(g3 u hu q he).elim
     ·exact q
    ·have:=stay t ht fun e2=>by omega
     unfold z65 at this ⊢
     rw [List.getElem?_set_ne (by omega),List.getElem?_set_ne (by omega)]
     exact this
  ·have hs0:¬0<=aft m from_ w:=by simpa using hc
   exact fin l is h2 h3 fun t ht=>stay t ht fun e=>by omega
 ·have hlt:¬w.length<m.Rows.length:=by simpa using hc
  have hle:w.length=m.Rows.length:=by omega
  have hrk:rk (kk m) w=GG (kk m) m.Rows.length:=by
   have:GG (kk m) m.Rows.length<=rk (kk m) w:=by rw [<-hle];unfold rk;omega
   omega
  refine zg.2 ⟨h2,h3,fun t ht=>?_⟩
  rw [<-hrk]
  exact h4 t ht
end
theorem JX (k:Nat):∀(r:List Nat) (d:Nat),JU k (r++[d])=JU k r+d*k ^ r.length
 | [],d=>by simp [JU]
 | e::r,d=>by
  simp only [List.cons_append,JU,JX k r d,List.length_cons,Nat.pow_succ,Nat.mul_add]
  rw [Nat.mul_left_comm k d,Nat.mul_comm k (k ^ r.length)]
  omega
theorem zc4 {k:Nat}:∀(i:Nat) (a b:List Nat),a.length=b.length->Wd k a->Wd k b->∀x y,a.take i=b.take i->a[i]?=some x->b[i]?=some y->x<y->JU k a.reverse<JU k b.reverse
 | 0,a,b,hl,ha,hb,x,y,_,h1,h2,h=>by
  cases a with
  | nil=>simp at h1
  | cons d a=>
   cases b with
   | nil=>simp at h2
   | cons e b=>
    simp at h1 h2 hl
    subst h1;subst h2
    rw [List.reverse_cons,List.reverse_cons,JX,JX,List.length_reverse,List.length_reverse,<-hl]
    have:=z9H (k:=k) (r:=a.reverse) (fun z hz=>ha z (by simp at hz;simp [hz]))
    rw [List.length_reverse]at this
    have h3:(d+1)*k ^ a.length<=e*k ^ a.length:=Nat.mul_le_mul_right _ h
    rw [Nat.add_mul,Nat.one_mul]at h3
    omega
 | i+1,a,b,hl,ha,hb,x,y,ht,h1,h2,h=>by
  cases a with
  | nil=>simp at h1
  | cons d a=>
   cases b with
   | nil=>simp at h2
   | cons e b=>
    simp only [List.take_succ_cons,List.cons.injEq]at ht
    simp at h1 h2 hl
    have ih:=zc4 i a b hl (fun z hz=>ha z (by simp [hz])) (fun z hz=>hb z (by simp [hz])) x y ht.2 h1 h2 h
    rw [List.reverse_cons,List.reverse_cons,JX,JX,List.length_reverse,List.length_reverse,<-hl,ht.1]
    omega
theorem zia {a b:List Nat}(ha:Wd k a)(hb:Wd k b)(hl:a.length<=100000)(hl2:b.length<=100000):Qp (a.map Int.ofNat) (b.map Int.ofNat)=some (if rk k a<rk k b then 1 else 0):=by
 refine Ret.eq ?_
 unfold Qp
 rw [zF]
 refine⟨fun hc=>?_,fun hc=>?_⟩
 ·have hne:a.length≠b.length:=by intro e;simp [e]at hc
  rw [zF]
  refine⟨fun hc=>?_,fun hc=>?_⟩
  ·have:a.length<b.length:=by simpa using hc
   exact zg.2 (by rw [if_pos (zaM ha this)])
  ·have:¬a.length<b.length:=by simpa using hc
   have:=zaM hb (u:=a) (w:=b) (by omega)
   exact zg.2 (by rw [if_neg (by omega)])
 ·have he:a.length=b.length:=by
   have:((a.length:Nat):Int)=((b.length:Nat):Int):=by simpa using hc
   omega
  rw [zy]
  have hloop:Ret (loop (fun s=>YL (a.map Int.ofNat) (b.map Int.ofNat) s) 0) fun r=>match r with
    | .inl _=>a=b
    | .inr r=>r=if rk k a<rk k b then 1 else 0:=by
   refine zW (fun q=>∃i:Nat,q=(i:Int)/\i<=a.length/\a.take i=b.take i) (fun q=>100000 - q.toNat) ⟨0,rfl,Nat.zero_le _,rfl⟩ (by simp) ?_
   rintro q ⟨i,rfl,hi,ht⟩
   unfold YL
   rw [zF]
   refine⟨fun hc=>?_,fun hc=>?_⟩
   ·have hia:i<a.length:=by simpa using hc
    have hib:i<b.length:=by omega
    have ea:(a.map Int.ofNat)[i]?=some ((a[i]:Nat):Int):=by simp [hia]
    have eb:(b.map Int.ofNat)[i]?=some ((b[i]:Nat):Int):=by simp [hib]
    have ea':a[i]?=some a[i]:=List.getElem?_eq_getElem hia
    have eb':b[i]?=some b[i]:=List.getElem?_eq_getElem hib
    rw [y5,bdT ea,y5,bdT eb,zF]
    refine⟨fun hc=>?_,fun hc=>?_⟩
    ·rw [bdT ea,bdT eb,zF]
     refine⟨fun hc=>?_,fun hc2=>?_⟩
     ·have hlt:a[i]<b[i]:=by simpa using hc
      have:=zc4 i a b he ha hb _ _ ht ea' eb' hlt
      refine zg.2 ?_
      show(1:Int)=_
      rw [if_pos (by unfold rk;rw [he];omega)]
     ·have h1:¬a[i]<b[i]:=by simpa using hc2
      have h2:a[i]≠b[i]:=by intro e;simp [e]at hc
      have:=zc4 i b a he.symm hb ha _ _ ht.symm eb' ea' (by omega)
      refine zg.2 ?_
      show(0:Int)=_
      rw [if_neg (by unfold rk;rw [he];omega)]
    ·have h2:a[i]=b[i]:=by
      have:((a[i]:Nat):Int)=((b[i]:Nat):Int):=by simpa using hc
      omega
     rw [zT (by omega) (by omega)]
     refine zg.2 ⟨⟨i+1,rfl,hia,?_⟩,by simp only [Int.toNat_natCast];omega⟩
     rw [List.take_add_one,List.take_add_one,ht,ea',eb',h2]
   ·have:i=a.length:=by
     have:¬i<a.length:=by simpa using hc
     omega
    subst this
    refine zg.2 ?_
    show a=b
    rw [List.take_length]at ht
    rw [ht,he,List.take_length]
  refine hloop.mono fun r hr=>?_
  cases r with
  | inl u=>
   have hr:a=b:=hr
   subst hr
   exact zg.2 (by rw [if_neg (Nat.lt_irrefl _)])
  | inr r=>exact zg.2 hr
theorem z8c (m:z6):∀(u w:List Nat) (s:Int),aft m s (u++w)=aft m (aft m s u) w
 | [],_,_=>rfl
 | i::u,w,s=>by simp only [List.cons_append,aft,z8c m u w]
theorem ze4 (m:z6):∀(w:List Nat) (s:Int),s<0->aft m s w<0
 | [],s,h=>h
 | i::w,s,h=>by
  simp only [aft,nxE,if_pos h]
  exact ze4 m w (-1) (by omega)
section
variable {m:z6}(h:VM m)
include h
theorem z0E:∀(n:Nat) (u:List Nat),u.length<=n->Wd (kk m) u->0<=aft m 0 u->∃w,Wd (kk m) w/\w.length<m.Rows.length/\w.length<=u.length/\aft m 0 w=aft m 0 u
 | n,u,hn,hu,h0=>by
  have l1:=h.len1
  rcases Nat.lt_or_ge u.length m.Rows.length with q|q
  ·exact⟨u,hu,q,Nat.le_refl _,rfl⟩
  ·cases n with
   | zero=>omega
   | succ n=>
    have hin0:z8g m 0:=⟨by omega,by omega⟩
    have hpre:∀i,0<=aft m 0 (u.take i)/\aft m 0 (u.take i)<(m.Rows.length:Int):=by
     intro i
     have e:=z8c m (u.take i) (u.drop i) 0
     rw [List.take_append_drop]at e
     have h1:=z9u h (u.take i) 0 hin0 fun j hj=>hu j (List.mem_of_mem_take hj)
     refine⟨?_,h1.2⟩
     rcases Int.lt_or_le (aft m 0 (u.take i)) 0 with g|g
     ·have:=ze4 m (u.drop i) _ g
      omega
     ·exact g
    have hex:∃i j,i<j/\j<=m.Rows.length/\aft m 0 (u.take i)=aft m 0 (u.take j):=by
     refine Classical.byContradiction fun hno=>?_
     have hnd:((List.range (m.Rows.length+1)).map fun i=>(aft m 0 (u.take i)).toNat).Nodup:=by
      unfold List.Nodup
      rw [List.pairwise_map]
      refine List.Pairwise.imp_of_mem ?_ (List.pairwise_lt_range (n:=m.Rows.length+1))
      intro a b ha hb hab e
      have h1:=(hpre a).1
      have h2:=(hpre b).1
      exact hno ⟨a,b,hab,by have:=List.mem_range.1 hb;omega,by omega⟩
     have:=VL m.Rows.length _ hnd fun x hx=>by
      obtain⟨i,_,rfl⟩:=List.mem_map.1 hx
      have:=hpre i
      omega
     simp at this
     omega
    obtain⟨i,j,hij,hj,e⟩:=hex
    have e1:aft m 0 (u.take i++u.drop j)=aft m 0 u:=by
     rw [z8c,e,<-z8c,List.take_append_drop]
    have hlen:(u.take i++u.drop j).length<=n:=by simp;omega
    obtain⟨w,w1,w2,w3,w4⟩:=z0E n (u.take i++u.drop j) hlen (fun x hx=>by
     rcases List.mem_append.1 hx with q|q
     ·exact hu x (List.mem_of_mem_take q)
     ·exact hu x (List.mem_of_mem_drop q)) (by rw [e1];exact h0)
    exact⟨w,w1,w2,by simp at w3;omega,w4.trans e1⟩
end
structure Acc (m:z6)(t:Nat)(v:List Nat):Prop where
 wd:Wd (kk m) v
 len:v.length<m.Rows.length
 aft:aft m 0 v=(t:Int)
 least:∀u,Wd (kk m) u->Go.Own.aft m 0 u=(t:Int)->rk (kk m) v<=rk (kk m) u
section
variable {m:z6}(h:VM m)(hG:GG (kk m) m.Rows.length<=1000000000)
include h hG
def zoA (m:z6)(r:List (List Int)×List Bool):Prop :=
 r.1.length=m.Rows.length/\r.2.length=m.Rows.length/\∀t,t<m.Rows.length ->
  (r.2[t]?=some true/\∃v:List Nat,r.1[t]?=some (v.map Int.ofNat)/\Acc m t v)\/(r.2[t]?=some false/\∀u,Wd (kk m) u->aft m 0 u≠(t:Int))
theorem z75:Ret (W4 m) (zoA m):=by
 have l1:=h.len1
 unfold W4
 rw [zy]
 refine(zcR h hG (from_:=0) ⟨by omega,by omega⟩).mono fun r hr=>zg.2 ⟨hr.1,hr.2.1,fun t ht=>?_⟩
 rcases hr.2.2 t ht with⟨g1,v,g2,g3,g4,g5,g6,g7⟩|⟨g1,g2,g3⟩
 ·exact .inl ⟨g1,v,g2,⟨g4,g5,g6,g7⟩⟩
 ·refine .inr ⟨g1,fun u hu e=>?_⟩
  obtain⟨w,w1,w2,w3,w4⟩:=z0E h u.length u (Nat.le_refl _) hu (by omega)
  exact g3 w w1 (Nat.lt_of_lt_of_le (zhN w1) (z8d w2)) (w4.trans e)
end
theorem ziL {s t:Nat}{v w:List Nat}(hv:Acc m s v)(hw:Acc m t w)(h:rk (kk m) v=rk (kk m) w):s=t:=by
 have:=zaN hv.wd hw.wd h
 subst this
 have h1:=hv.aft
 have h2:=hw.aft
 omega
def zbq (m:z6)(L:List Nat):Prop:=L.Pairwise fun s t=>∀v w,Acc m s v->Acc m t w->rk (kk m) v<rk (kk m) w
variable {s:Nat}
theorem Jn {v w:List Nat}(hv:Acc m s v)(hw:Acc m s w):v=w :=
 zaN hv.wd hw.wd (Nat.le_antisymm (hv.least w hw.wd hw.aft) (hw.least v hv.wd hv.aft))
section
variable {m:z6}(h:VM m)(hG:GG (kk m) m.Rows.length<=1000000000)
include h hG
theorem zcU:Ret (VI m) fun o=>∃L:List Nat,o=L.map Int.ofNat/\zbq m L/\(∀t∈L,t<m.Rows.length/\∃v,Acc m t v)/\∀t,t<m.Rows.length->t∉L->∀u,Wd (kk m) u->aft m 0 u≠(t:Int):=by
 have l64:=h.len64
 unfold VI
 rw [zy]
 refine(z75 h hG).mono ?_
 rintro r ⟨r1,r2,r3⟩
 rw [zy]
 let I:List Nat->Nat->Prop:=fun L s=>s<=m.Rows.length/\L.length<=s/\zbq m L/\(∀t∈L,t<s/\∃v,Acc m t v)/\∀t,t<s->t∉L->∀u,Wd (kk m) u->aft m 0 u≠(t:Int)
 have hI:∀L s,I L s=(s<=m.Rows.length/\L.length<=s/\zbq m L/\(∀t∈L,t<s/\∃v,Acc m t v)/\∀t,t<s->t∉L->∀u,Wd (kk m) u->aft m 0 u≠(t:Int)):=fun _ _=>rfl
 suffices hloop:Ret (loop (fun s=>ZB r s.1 s.2) (([]:List Int),0)) fun o=>∃L:List Nat,o=L.map Int.ofNat/\I L m.Rows.length from by
  refine hloop.mono ?_
  rintro o ⟨L,rfl,q1,q2,q3,q4,q5⟩
  exact zg.2 ⟨L,rfl,q3,q4,q5⟩
 refine zW (fun q=>∃(L:List Nat) (s:Nat),q.1=L.map Int.ofNat/\q.2=(s:Int)/\I L s) (fun q=>1000 - q.2.toNat) ⟨[],0,rfl,rfl,Nat.zero_le _,Nat.le_refl _,List.Pairwise.nil,fun t ht=>by simp at ht,fun t ht=>by omega⟩ (by simp) ?_
 rintro⟨out,q⟩ ⟨L,s,e1,e2,i1,i2,i3,i4,i5⟩
 simp only at e1 e2
 subst e1;subst e2
 unfold ZB
 rw [zF]
 refine⟨fun hc=>?_,fun hc=>?_⟩
 ·have hs:s<m.Rows.length:=by rw [r1]at hc;simpa using hc
  have hw:w64 ((s:Int)+1)=((s+1:Nat):Int):=by rw [zT (by omega) (by omega)];rfl
  have fin:∀L':List Nat,I L' (s+1)->Ret (qN (s:Int) (L'.map Int.ofNat)) (LRP (fun s'=>(∃(L:List Nat) (s:Nat),s'.1=L.map Int.ofNat/\s'.2=(s:Int)/\I L s)/\1000 - s'.2.toNat<1000 - (s:Int).toNat) fun o=>∃L:List Nat,o=L.map Int.ofNat/\I L m.Rows.length):=by
   intro L' hL
   unfold qN
   rw [hw]
   exact zg.2 ⟨⟨L',s+1,rfl,rfl,hL⟩,by simp only [Int.toNat_natCast];omega⟩
  rcases r3 s hs with⟨g1,v,g2,g3⟩|⟨g1,g2⟩
  ·rw [y5,bdT g1]
   simp only [Bool.not_true,cond_false]
   rw [zy]
   have inner:Ret (loop (fun k=>ZA r (L.map Int.ofNat) (s:Int) k) 0) fun k=>∃n:Nat,k=(n:Int)/\n<=L.length/\(∀t∈L.take n,∀w,Acc m t w->rk (kk m) w<rk (kk m) v)/\∀t,L[n]?=some t->∀w,Acc m t w->rk (kk m) v<rk (kk m) w:=by
    refine zW (fun k=>∃n:Nat,k=(n:Int)/\n<=L.length/\∀t∈L.take n,∀w,Acc m t w->rk (kk m) w<rk (kk m) v) (fun k=>1000 - k.toNat) ⟨0,rfl,Nat.zero_le _,fun t ht=>by simp at ht⟩ (by simp) ?_
    rintro k ⟨n,rfl,n1,n2⟩
    unfold ZA
    rw [zF]
    refine⟨fun hc=>?_,fun hc=>?_⟩
    ·have hn:n<L.length:=by simpa using hc
     have hx:(L.map Int.ofNat)[n]?=some ((L[n]:Nat):Int):=by simp [hn]
     have hx':L[n]?=some L[n]:=List.getElem?_eq_getElem hn
     obtain⟨ht,w,hw2⟩:=i4 L[n] (List.getElem_mem hn)
     have hacc:r.1[L[n]]?=some (w.map Int.ofNat):=by
      rcases r3 L[n] (by omega) with⟨_,w',k2,k3⟩|⟨_,k2⟩
      ·rw [k2,Jn k3 hw2]
      ·exact(k2 w hw2.wd hw2.aft).elim
     have hle:=hw2.len
     have hlv:=g3.len
     rw [y5,bdT hx,y5,bdT hacc,y5,bdT g2,bdT (zia hw2.wd g3.wd (by omega) (by omega)),zF]
     by_cases hlt:rk (kk m) w<rk (kk m) v
     ·rw [if_pos hlt]
      refine⟨fun _=>?_,fun e=>by simp at e⟩
      rw [zT (by omega) (by omega)]
      refine zg.2 ⟨⟨n+1,rfl,hn,fun t ht=>?_⟩,by simp only [Int.toNat_natCast];omega⟩
      rw [List.take_add_one,hx',List.mem_append]at ht
      rcases ht with ht|ht
      ·exact n2 t ht
      ·have:t=L[n]:=by simpa using ht
       subst this
       intro w' hw'
       rw [Jn hw' hw2];exact hlt
     ·rw [if_neg hlt]
      refine⟨fun e=>by simp at e,fun _=>zg.2 ⟨n,rfl,n1,n2,fun t ht w' hw'=>?_⟩⟩
      rw [hx']at ht
      cases ht
      rw [Jn hw' hw2]
      rcases Nat.lt_or_ge (rk (kk m) v) (rk (kk m) w) with q|q
      ·exact q
      ·have:=ziL hw2 g3 (by omega)
       omega
    ·have hn:¬n<L.length:=by simpa using hc
     refine zg.2 ⟨n,rfl,n1,n2,fun t ht=>?_⟩
     have:n<L.length:=(List.getElem?_eq_some_iff.1 ht).1
     omega
   refine inner.mono ?_
   rintro k ⟨n,rfl,n1,n2,n3⟩
   unfold XP
   have e1:(((L.map Int.ofNat).drop 0).take ((n:Int).toNat - 0))=(L.take n).map Int.ofNat:=by simp [List.map_take]
   have e2:(L.map Int.ofNat).drop (n:Int).toNat=(L.drop n).map Int.ofNat:=by simp [List.map_drop]
   rw [e1,e2,UJ,UJ,UJ,UJ,UJ]
   refine⟨by simp;omega,by simp;omega,by simp;omega,by simp;omega,by simp;omega,?_⟩
   have e3:((L.take n).map Int.ofNat++([(s:Int)]:List Int))++(L.drop n).map Int.ofNat=(L.take n++s::L.drop n).map Int.ofNat:=by simp
   rw [e3]
   have hperm:∀t,t∈L.take n++s::L.drop n↔t=s\/t∈L:=by
    intro t
    have:t∈L↔t∈L.take n\/t∈L.drop n:=by rw [<-List.mem_append,List.take_append_drop]
    rw [this,List.mem_append,List.mem_cons]
    constructor
    ·rintro(q|q|q)
     ·exact .inr (.inl q)
     ·exact .inl q
     ·exact .inr (.inr q)
    ·rintro(q|q|q)
     ·exact .inr (.inl q)
     ·exact .inl q
     ·exact .inr (.inr q)
   have hdrop:∀t∈L.drop n,∀w,Acc m t w->rk (kk m) v<rk (kk m) w:=by
    intro t ht w hw'
    rcases Nat.lt_or_ge n L.length with q|q
    ·rw [List.drop_eq_getElem_cons q]at ht
     have hx':L[n]?=some L[n]:=List.getElem?_eq_getElem q
     obtain⟨_,w0,hw0⟩:=i4 L[n] (List.getElem_mem q)
     have h0:=n3 L[n] hx' w0 hw0
     rcases List.mem_cons.1 ht with rfl|ht
     ·rw [Jn hw' hw0];exact h0
     ·have hd:(L.drop n).Pairwise fun s t=>∀v w,Acc m s v->Acc m t w->rk (kk m) v<rk (kk m) w:=List.Pairwise.sublist (List.drop_sublist n L) i3
      rw [List.drop_eq_getElem_cons q]at hd
      exact Nat.lt_trans h0 ((List.pairwise_cons.1 hd).1 t ht w0 w hw0 hw')
    ·rw [List.drop_eq_nil_of_le q]at ht
     cases ht
   refine fin _ ⟨hs,by simp;omega,?_,fun t ht=>?_,fun t ht hn u hu=>?_⟩
   ·show List.Pairwise _ _
    rw [List.pairwise_append]
    refine⟨List.Pairwise.sublist (List.take_sublist n L) i3,List.pairwise_cons.2 ⟨fun t ht v' w hv' hw'=>?_,List.Pairwise.sublist (List.drop_sublist n L) i3⟩,?_⟩
    ·rw [Jn hv' g3]
     exact hdrop t ht w hw'
    ·intro a ha b hb v' w hv' hw'
     have hav:=n2 a ha v' hv'
     rcases List.mem_cons.1 hb with rfl|hb
     ·rw [Jn hw' g3];exact hav
     ·exact Nat.lt_trans hav (hdrop b hb w hw')
   ·rcases(hperm t).1 ht with rfl|ht
    ·exact⟨by omega,v,g3⟩
    ·have:=i4 t ht
     exact⟨by omega,this.2⟩
   ·have hne:t≠s:=fun e=>hn ((hperm t).2 (.inl e))
    exact i5 t (by omega) (fun q=>hn ((hperm t).2 (.inr q))) u hu
  ·rw [y5,bdT g1]
   simp only [Bool.not_false,cond_true]
   refine fin L ⟨hs,by omega,i3,fun t ht=>⟨by have:=(i4 t ht).1;omega,(i4 t ht).2⟩,fun t ht hn u hu=>?_⟩
   rcases Nat.lt_or_ge t s with q|q
   ·exact i5 t q hn u hu
   ·have:t=s:=by omega
    subst this;exact g2 u hu
 ·have hs:¬s<m.Rows.length:=by rw [r1]at hc;simpa using hc
  have:s=m.Rows.length:=by omega
  subst this
  exact zg.2 ⟨L,rfl,i1,i2,i3,i4,i5⟩
end
theorem SEq.refl (s:Nat):SEq m s s:=fun _ _=>rfl
theorem SEq.symm {s t:Nat}(h:SEq m s t):SEq m t s:=fun w hw=>(h w hw).symm
theorem SEq.trans {s t u:Nat}(h:SEq m s t)(k:SEq m t u):SEq m s u:=fun w hw=>(h w hw).trans (k w hw)
structure Xg (m:z6)(F:List Nat):Prop where
 sorted:zbq m F
 acc:∀t∈F,t<m.Rows.length/\∃v,Acc m t v
 dist:F.Pairwise fun s t=>¬SEq m s t
 all:∀t v,t<m.Rows.length->Acc m t v->∃s∈F,SEq m s t/\∃w,Acc m s w/\rk (kk m) w<=rk (kk m) v
section
variable {m:z6}(h:VM m)(hG:GG (kk m) m.Rows.length<=1000000000)
include h hG
theorem zbM:Ret (kG m) fun o=>∃F:List Nat,o=F.map Int.ofNat/\Xg m F:=by
 have l64:=h.len64
 unfold kG YC
 rw [zy]
 refine(z5D h.wm).mono ?_
 rintro p ⟨p1,p2⟩
 rw [zy]
 refine(zcU h hG).mono ?_
 rintro o ⟨L,rfl,s1,s2,s3⟩
 have hLn:L.length<=m.Rows.length:=by
  refine VL _ L ?_ fun x hx=>(s2 x hx).1
  refine List.Pairwise.imp_of_mem ?_ s1
  intro a b ha hb q e
  subst e
  obtain⟨v,hv⟩:=(s2 a ha).2
  exact Nat.lt_irrefl _ (q v v hv hv)
 rw [zy]
 refine Ret.mono (Q:=fun o=>∃F:List Nat,o=F.map Int.ofNat/\Xg m F) ?_ fun o ho=>zg.2 ho
 let J:List Nat->Nat->Prop:=fun F k=>k<=L.length/\F.length<=k/\F.Sublist (L.take k)/\(F.Pairwise fun s t=>¬SEq m s t)/\∀t∈L.take k,∃s∈F,SEq m s t/\∀v w,Acc m s w->Acc m t v->rk (kk m) w<=rk (kk m) v
 refine zW (fun q=>∃(F:List Nat) (k:Nat),q.1=F.map Int.ofNat/\q.2=(k:Int)/\J F k) (fun q=>1000 - q.2.toNat) ⟨[],0,rfl,rfl,Nat.zero_le _,Nat.le_refl _,List.nil_sublist _,List.Pairwise.nil,fun t ht=>by simp at ht⟩ (by simp) ?_
 rintro⟨out,q⟩ ⟨F,k,e1,e2,j1,j2,j3,j4,j5⟩
 simp only at e1 e2
 subst e1;subst e2
 have cl:∀n,n<L.length->∃x,p[L[n]!]?=some x:=by
  intro n hn
  have hm:L[n]!∈L:=by rw [getElem!_pos L n hn];exact List.getElem_mem hn
  have:=(s2 _ hm).1
  exact⟨_,List.getElem?_eq_getElem (by omega)⟩
 have gx:∀n,n<L.length->(L.map Int.ofNat)[n]?=some ((L[n]!:Nat):Int):=by
  intro n hn
  rw [getElem!_pos L n hn]
  simp [hn]
 have gl:∀n,n<L.length->L[n]!∈L/\L[n]! < m.Rows.length:=by
  intro n hn
  have hm:L[n]!∈L:=by rw [getElem!_pos L n hn];exact List.getElem_mem hn
  exact⟨hm,(s2 _ hm).1⟩
 unfold YA
 rw [zF]
 refine⟨fun hc=>?_,fun hc=>?_⟩
 ·have hk:k<L.length:=by simpa using hc
  have hw:∀k:Nat,k<1000->w64 ((k:Int)+1)=((k+1:Nat):Int):=fun k hk=>by rw [zT (by omega) (by omega)];rfl
  rw [zy]
  have inner:Ret (loop (fun s=>kE p (L.map Int.ofNat) (k:Int) s.1 s.2) (0,0)) fun c=>(c=0/\∀n,n<k->¬SEq m L[n]! L[k]!)\/(c=1/\∃n,n<k/\SEq m L[n]! L[k]!):=by
   refine zW (fun q=>∃n:Nat,q.2=(n:Int)/\n<=k/\((q.1=0/\∀i,i<n->¬SEq m L[i]! L[k]!)\/(q.1=1/\∃i,i<k/\SEq m L[i]! L[k]!))) (fun q=>1000 - q.2.toNat) ⟨0,rfl,Nat.zero_le _,.inl ⟨rfl,fun i hi=>by omega⟩⟩ (by simp) ?_
   rintro⟨c,q⟩ ⟨n,e2,n1,n2⟩
   simp only at e2 n2
   subst e2
   unfold kE kF
   rw [zF]
   refine⟨fun hc=>?_,fun hc=>?_⟩
   ·have hn:n<k:=by simpa using hc
    obtain⟨x,hx⟩:=cl n (by omega)
    obtain⟨y,hy⟩:=cl k hk
    rw [y5,bdT (gx n (by omega)),y5,bdT hx,y5,bdT (gx k hk),y5,bdT hy,hw n (by omega),zF]
    have hs:=p2 _ _ (gl n (by omega)).2 (gl k hk).2
    rw [hx,hy,Option.some.injEq]at hs
    refine⟨fun e=>?_,fun e=>?_⟩
    ·have:SEq m L[n]! L[k]!:=hs.1 (by simpa using e)
     exact zg.2 ⟨⟨n+1,rfl,hn,.inr ⟨rfl,n,hn,this⟩⟩,by simp only [Int.toNat_natCast];omega⟩
    ·have hno:¬SEq m L[n]! L[k]!:=fun g=>by have:=hs.2 g;simp [this]at e
     refine zg.2 ⟨⟨n+1,rfl,hn,?_⟩,by simp only [Int.toNat_natCast];omega⟩
     rcases n2 with⟨c0,n2⟩|n2
     ·refine .inl ⟨c0,fun i hi=>?_⟩
      rcases Nat.lt_or_ge i n with q|q
      ·exact n2 i q
      ·have:i=n:=by omega
       subst this;exact hno
     ·exact .inr n2
   ·have:n=k:=by
     have:¬n<k:=by simpa using hc
     omega
    subst this
    exact zg.2 n2
  refine inner.mono fun c hc=>?_
  have hx':L[k]?=some L[k]!:=by rw [getElem!_pos L k hk];exact List.getElem?_eq_getElem hk
  have htk:L.take (k+1)=L.take k++[L[k]!]:=by rw [List.take_add_one,hx'];rfl
  have hmt:∀n,n<k->L[n]!∈L.take k:=by
   intro n hn
   rw [getElem!_pos L n (by omega)]
   have:(L.take k)[n]'(by simp;omega)=L[n]:=by simp
   rw [<-this];exact List.getElem_mem _
  unfold YB
  rw [zF]
  have fin:∀F':List Nat,J F' (k+1)->Ret (uu (k:Int) (F'.map Int.ofNat)) (LRP (fun s'=>(∃(F:List Nat) (k:Nat),s'.1=F.map Int.ofNat/\s'.2=(k:Int)/\J F k)/\1000 - s'.2.toNat<1000 - (k:Int).toNat) fun o=>∃F:List Nat,o=F.map Int.ofNat/\Xg m F):=by
   intro F' hF
   unfold uu
   rw [hw k (by omega)]
   exact zg.2 ⟨⟨F',k+1,rfl,rfl,hF⟩,by simp only [Int.toNat_natCast];omega⟩
  rcases hc with⟨rfl,hc⟩|⟨rfl,n,hn,hc⟩
  ·refine⟨fun _=>?_,fun e=>by simp at e⟩
   rw [y5,bdT (gx k hk),UJ]
   refine⟨by simp;omega,?_⟩
   have e3:F.map Int.ofNat++([((L[k]!:Nat):Int)]:List Int)=(F++[L[k]!]).map Int.ofNat:=by simp
   rw [e3]
   refine fin _ ⟨hk,by simp;omega,by rw [htk];exact List.Sublist.append j3 (List.Sublist.refl _),?_,fun t ht=>?_⟩
   ·rw [List.pairwise_append]
    refine⟨j4,List.pairwise_singleton _ _,fun a ha b hb e=>?_⟩
    have hb:b=L[k]!:=by simpa using hb
    subst hb
    have ha':a∈L.take k:=j3.subset ha
    obtain⟨i,hi,e4⟩:=List.getElem_of_mem ha'
    have hi':i<k/\i<L.length:=by rw [List.length_take]at hi;omega
    have:L[i]! = a:=by rw [getElem!_pos L i (by omega),<-e4];simp
    exact hc i hi'.1 (by rw [this];exact e)
   ·rw [htk,List.mem_append]at ht
    rcases ht with ht|ht
    ·obtain⟨s,q1,q2,q3⟩:=j5 t ht
     exact⟨s,List.mem_append.2 (.inl q1),q2,q3⟩
    ·have:t=L[k]!:=by simpa using ht
     subst this
     exact⟨_,List.mem_append.2 (.inr (by simp)),SEq.refl _,fun v w hv hv'=>by rw [Jn hv hv'];exact Nat.le_refl _⟩
  ·refine⟨fun e=>by simp at e,fun _=>fin F ⟨hk,by omega,by rw [htk];exact j3.trans (List.sublist_append_left _ _),j4,fun t ht=>?_⟩⟩
   rw [htk,List.mem_append]at ht
   rcases ht with ht|ht
   ·exact j5 t ht
   ·have:t=L[k]!:=by simpa using ht
    subst this
    obtain⟨s,q1,q2,q3⟩:=j5 _ (hmt n hn)
    refine⟨s,q1,q2.trans hc,fun v w hw' hv'=>?_⟩
    obtain⟨u,hu⟩:=(s2 _ (gl n (by omega)).1).2
    refine Nat.le_trans (q3 u w hw' hu) (Nat.le_of_lt ?_)
    have:=List.pairwise_iff_getElem.1 s1 n k (by omega) hk hn
    rw [<-getElem!_pos L n (by omega),<-getElem!_pos L k hk]at this
    exact this u v hu hv'
 ·have hk:¬k<L.length:=by simpa using hc
  have:k=L.length:=by omega
  subst this
  rw [List.take_length]at j3 j5
  refine zg.2 ⟨F,rfl,List.Pairwise.sublist j3 s1,fun t ht=>s2 t (j3.subset ht),j4,fun t v ht hv=>?_⟩
  have hmem:t∈L:=Classical.byContradiction fun g=>s3 t ht g v hv.wd hv.aft
  obtain⟨s,q1,q2,q3⟩:=j5 t hmem
  obtain⟨w,hw⟩:=(s2 s (j3.subset q1)).2
  exact⟨s,q1,q2,w,hw,q3 v w hw hv⟩
end
def Rch (m:z6)(t:Nat):Prop:=∃u,Wd (kk m) u/\aft m 0 u=(t:Int)
theorem z3C {out:List Bool}{j t:Nat}(hj:j<out.length):(out.set j true)[t]?=some true↔t=j\/out[t]?=some true:=by
 by_cases e:t=j
 ·subst e;simp [hj]
 ·rw [List.getElem?_set_ne (Ne.symm e)]
  exact⟨.inr,fun q=>q.resolve_left e⟩
section
variable {m:z6}(h:VM m)
include h
omit h in theorem rch_step {s i:Nat} (hs:Rch m s) (hi:i<kk m) (h0:0<=(E m s i).To):Rch m (E m s i).To.toNat:=by
 obtain⟨u,hu,e⟩:=hs
 refine⟨u++[i],fun j hj=>?_,?_⟩
 ·rcases List.mem_append.1 hj with q|q
  ·exact hu j q
  ·have:j=i:=by simpa using q
   omega
 ·have:=(z1E m u 0 i).2
  rw [e,YQ]at this
  rw [this]
  omega
theorem z9Z:Ret (YM m 0) fun is=>is.length=m.Rows.length/\∀t,t<m.Rows.length->(is[t]?=some true↔Rch m t):=by
 have l64:=h.len64
 have l1:=h.len1
 have hk2:=h.kk_le
 have hke:=h.kk_eq
 have w1:∀n:Nat,n<1000->w64 ((n:Int)+1)=((n+1:Nat):Int):=fun n hn=>by rw [zT (by omega) (by omega)];rfl
 unfold YM ZV
 rw [UJ]
 refine⟨by omega,?_⟩
 have e0:idx (List.replicate ((m.Rows.length:Nat):Int).toNat false) 0=some false:=by
  show(List.replicate ((m.Rows.length:Nat):Int).toNat false)[0]?=some false
  rw [List.getElem?_replicate,if_pos (by rw [Int.toNat_natCast];omega)]
 rw [bdT e0,zy]
 let S:List Bool->Prop:=fun out=>out.length=m.Rows.length/\∀t:Nat,out[t]?=some true->Rch m t
 refine Ret.mono (Q:=fun is=>is.length=m.Rows.length/\∀t,t<m.Rows.length->(is[t]?=some true↔Rch m t)) ?_ fun o ho=>zg.2 ho
 refine zW (fun q=>∃r:Nat,q.2=(r:Int)/\r<=m.Rows.length/\S q.1/\∀(u:List Nat) (t:Nat),Wd (kk m) u->u.length<=r->aft m 0 u=((t:Nat):Int)->q.1[t]?=some true) (fun q=>1000 - q.2.toNat) ⟨0,rfl,Nat.zero_le _,⟨by simp,fun t ht=>?_⟩,fun u t hu hl e=>?_⟩ (by simp) ?_
 ·rw [show(0:Int).toNat=0 from rfl,z3C (by rw [List.length_replicate,Int.toNat_natCast];omega)]at ht
  rcases ht with rfl|ht
  ·exact⟨[],fun i hi=>by simp at hi,rfl⟩
  ·rw [List.getElem?_replicate]at ht
   split at ht <;> simp at ht
 ·have:u=[]:=List.eq_nil_of_length_eq_zero (by omega)
  subst this
  have:t=0:=by simp [aft]at e;omega
  subst this
  rw [show(0:Int).toNat=0 from rfl,z3C (by rw [List.length_replicate,Int.toNat_natCast];omega)]
  exact .inl rfl
 rintro⟨out1,q⟩ ⟨r,e1,r1,r2,r3⟩
 simp only at e1 r2 r3
 subst e1
 unfold ZS ZU
 rw [zF]
 refine⟨fun hc=>?_,fun hc=>?_⟩
 ·have hr:r<m.Rows.length:=by simpa using hc
  rw [zy]
  let C:List Bool->Nat->Nat->Prop:=fun out s i=>S out/\(∀t:Nat,out1[t]?=some true->out[t]?=some true)/\∀s' i':Nat,(s' < s\/s'=s/\i' < i)->i' < kk m->s' < m.Rows.length->out1[s']?=some true->0<=(E m s' i').To->out[(E m s' i').To.toNat]?=some true
  have round:Ret (loop (fun s=>qE m s.1 s.2) (out1,0)) fun out=>C out m.Rows.length 0:=by
   refine zW (fun q=>∃s:Nat,q.2=(s:Int)/\s<=m.Rows.length/\C q.1 s 0) (fun q=>1000 - q.2.toNat) ⟨0,rfl,Nat.zero_le _,r2,fun t ht=>ht,fun s' i' hh=>by omega⟩ (by simp) ?_
   rintro⟨out3,q⟩ ⟨s,e1,s1,s2⟩
   simp only at e1 s2
   subst e1
   unfold qE ZT
   rw [zF]
   refine⟨fun hc=>?_,fun hc=>?_⟩
   ·have hs:s<m.Rows.length:=by simpa using hc
    rw [zy]
    have row:Ret (loop (fun q=>qD m (s:Int) q.1 q.2) (out3,0)) fun out=>C out s (kk m):=by
     refine zW (fun q=>∃i:Nat,q.2=(i:Int)/\i<=kk m/\C q.1 s i) (fun q=>1000 - q.2.toNat) ⟨0,rfl,Nat.zero_le _,s2⟩ (by simp) ?_
     rintro⟨out5,q⟩ ⟨i,e1,i1,c1,c2,c3⟩
     simp only at e1 c1 c2 c3
     subst e1
     unfold qD vC
     rw [zF]
     refine⟨fun hc=>?_,fun hc=>?_⟩
     ·have hi:i<kk m:=by rw [<-hke]at hc;simpa using hc
      have he:=h.edgeAt hs hi
      have hl:s<out5.length:=by rw [c1.1];exact hs
      rw [h.edge_eq hs hi,y5,bdT (List.getElem?_eq_getElem hl),zF,w1 i (by omega)]
      have fin:∀out:List Bool,C out s (i+1)->Ret (some (LR.next (out,((i+1:Nat):Int)):LR (List Bool×Int) (List Bool))) (LRP (fun s'=>(∃i:Nat,s'.2=(i:Int)/\i<=kk m/\C s'.1 s i)/\1000 - s'.2.toNat<1000 - (i:Int).toNat) fun out=>C out s (kk m)):=by
       intro out hC
       exact zg.2 ⟨⟨i+1,rfl,hi,hC⟩,by simp only [Int.toNat_natCast];omega⟩
      have keep:(out1[s]?=some true->0<=(E m s i).To->out5[(E m s i).To.toNat]?=some true)->C out5 s (i+1):=by
       intro hh
       refine⟨c1,c2,fun s' i' g1 g2 g3 g4 g5=>?_⟩
       by_cases e:s'=s/\i'=i
       ·obtain⟨rfl,rfl⟩:=e
        exact hh g4 g5
       ·exact c3 s' i' (by omega) g2 g3 g4 g5
      refine⟨fun hb=>?_,fun hb=>?_⟩
      ·have hb':out5[s]?=some true:=by rw [List.getElem?_eq_getElem hl,hb]
       rw [zF]
       refine⟨fun hc=>?_,fun hc=>?_⟩
       ·have h0:0<=(E m s i).To:=by simpa using hc
        have ht:(E m s i).To.toNat<out5.length:=by rw [c1.1];omega
        obtain⟨n,hn⟩:=Int.eq_ofNat_of_zero_le h0
        obtain⟨y,hx⟩:∃y,idx out5 (E m s i).To=some y:=by
         rw [hn]at ht ⊢
         exact⟨_,List.getElem?_eq_getElem ht⟩
        rw [bdT hx]
        refine fin _ ⟨⟨by simpa using c1.1,fun t hh=>?_⟩,fun t hh=>(z3C ht).2 (.inr (c2 t hh)),fun s' i' g1 g2 g3 g4 g5=>(z3C ht).2 ?_⟩
        ·rcases(z3C ht).1 hh with rfl|hh
         ·exact rch_step (c1.2 s hb') hi h0
         ·exact c1.2 t hh
        ·by_cases e:s'=s/\i'=i
         ·obtain⟨rfl,rfl⟩:=e
          exact .inl rfl
         ·exact .inr (c3 s' i' (by omega) g2 g3 g4 g5)
       ·have h0:¬0<=(E m s i).To:=by simpa using hc
        exact fin _ (keep fun _ g=>(h0 g).elim)
      ·have hb':out5[s]?=some false:=by rw [List.getElem?_eq_getElem hl,hb]
       refine fin _ (keep fun g _=>?_)
       have:=c2 s g
       rw [hb']at this
       cases this
     ·have:i=kk m:=by
       have:¬i<kk m:=by rw [<-hke]at hc;simpa using hc
       omega
      subst this
      exact zg.2 ⟨c1,c2,c3⟩
    refine row.mono ?_
    rintro out ⟨c1,c2,c3⟩
    rw [w1 s (by omega)]
    exact zg.2 ⟨⟨s+1,rfl,hs,c1,c2,fun s' i' g1 g2 g3=>c3 s' i' (by omega) g2 g3⟩,by simp only [Int.toNat_natCast];omega⟩
   ·have:s=m.Rows.length:=by
     have:¬s<m.Rows.length:=by simpa using hc
     omega
    subst this
    exact zg.2 s2
  refine round.mono ?_
  rintro out ⟨c1,c2,c3⟩
  rw [w1 r (by omega)]
  refine zg.2 ⟨⟨r+1,rfl,hr,c1,fun u t hu hl e=>?_⟩,by simp only [Int.toNat_natCast];omega⟩
  rcases Nat.lt_or_ge r u.length with q|q
  ·obtain⟨u',i,rfl⟩:∃u' i,u=u' ++ [i]:=by
    rcases List.eq_nil_or_concat u with e|⟨u',i,e⟩
    ·subst e;simp at q
    ·exact⟨u',i,by simpa using e⟩
   have hu':Wd (kk m) u':=fun j hj=>hu j (by simp [hj])
   have hi:=hu i (by simp)
   rw [(z1E m u' 0 i).2]at e
   have h1:=z9u h u' 0 ⟨by omega,by omega⟩ hu'
   have h0:0<=aft m 0 u':=by
    rcases Int.lt_or_le (aft m 0 u') 0 with g|g
    ·unfold nxE at e
     rw [if_pos g]at e
     simp only at e
     omega
    ·exact g
   obtain⟨s,hs⟩:=Int.eq_ofNat_of_zero_le h0
   have hsN:s<m.Rows.length:=by have:=h1.2;omega
   rw [hs,YQ]at e
   have:=c3 s i (.inl hsN) hi hsN (r3 u' s hu' (by simp at hl;omega) hs) (by omega)
   rw [e]at this
   simpa using this
  ·exact c2 t (r3 u t hu (by omega) e)
 ·have:r=m.Rows.length:=by
   have:¬r<m.Rows.length:=by simpa using hc
   omega
  subst this
  refine zg.2 ⟨r2.1,fun t ht=>⟨r2.2 t,?_⟩⟩
  rintro⟨u,hu,e⟩
  obtain⟨w,x1,x2,x3,x4⟩:=z0E h u.length u (Nat.le_refl _) hu (by omega)
  exact r3 w t x1 (by omega) (x4.trans e)
end
structure zgj (m:z6)(F:List Nat)(p:z6):Prop where
 inp:p.Inputs=m.Inputs
 out:p.Outputs=m.Outputs
 len:p.Rows.length=F.length
 row:∀k:Nat,k<F.length->∃row,p.Rows[k]?=some row/\row.length=kk m/\∀i:Nat,i<kk m->∃e,row[i]?=some e/\e.Out=(E m F[k]! i).Out /\
  ((0<=(E m F[k]! i).To/\∃n:Nat,e.To=(n:Int)/\n<F.length/\SEq m F[n]! (E m F[k]! i).To.toNat)\/((E m F[k]! i).To=-1/\e.To=-1))
variable {F:List Nat}
theorem Xg.at (hF:Xg m F)  (hk:k<F.length):F[k]!∈F/\F[k]! < m.Rows.length/\F[k]?=some F[k]!:=by
 have hm:F[k]!∈F:=by rw [getElem!_pos F k hk];exact List.getElem_mem hk
 exact⟨hm,(hF.acc _ hm).1,by rw [getElem!_pos F k hk];exact List.getElem?_eq_getElem hk⟩
theorem Xg.uniq (hF:Xg m F){i j:Nat}(hi:i<F.length)(hj:j<F.length)(h:SEq m F[i]! F[j]!):i=j:=by
 rw [getElem!_pos F i hi,getElem!_pos F j hj]at h
 have:=List.pairwise_iff_getElem.1 hF.dist
 rcases Nat.lt_trichotomy i j with q|q|q
 ·exact(this i j hi hj q h).elim
 ·exact q
 ·exact(this j i hj hi q h.symm).elim
theorem Xg.len (hF:Xg m F):F.length<=m.Rows.length:=by
 refine VL _ F ?_ fun x hx=>(hF.acc x hx).1
 refine List.Pairwise.imp ?_ hF.dist
 intro a b q e
 subst e
 exact q (SEq.refl _)
section
variable {m:z6}(h:VM m)(hG:GG (kk m) m.Rows.length<=1000000000){F:List Nat}(hF:Xg m F)
include h hG hF
theorem zfO (hs:s<m.Rows.length)(hr:Rch m s):∃i,i<F.length/\SEq m F[i]! s:=by
 obtain⟨r,_,_,_,r3⟩:=z75 h hG
 rcases r3 s hs with⟨_,v,_,hv⟩|⟨_,hno⟩
 ·obtain⟨t,ht,q,_⟩:=hF.all s v hs hv
  obtain⟨i,hi,e⟩:=List.getElem_of_mem ht
  exact⟨i,hi,by rw [getElem!_pos F i hi,e];exact q⟩
 ·obtain⟨u,hu,e⟩:=hr
  exact(hno u hu e).elim
theorem zi7 (hf:kG m=some (F.map Int.ofNat)):Ret (Kc m) fun o=>o.length=m.Rows.length/\∀s,s<m.Rows.length->Rch m s->∃n:Nat,o[s]?=some (n:Int)/\n<F.length/\SEq m F[n]! s:=by
 have l64:=h.len64
 have hFl:=hF.len
 unfold Kc UQ
 rw [zy]
 refine(z5D h.wm).mono ?_
 rintro p ⟨p1,p2⟩
 rw [bdT hf,zy]
 refine(z9Z h).mono ?_
 rintro is ⟨q1,q2⟩
 rw [zy]
 have w1:∀n:Nat,n<1000->w64 ((n:Int)+1)=((n+1:Nat):Int):=fun n hn=>by rw [zT (by omega) (by omega)];rfl
 refine Ret.mono (Q:=fun o=>o.length=m.Rows.length/\∀s,s<m.Rows.length->Rch m s->∃n:Nat,o[s]?=some (n:Int)/\n<F.length/\SEq m F[n]! s) ?_ fun o ho=>zg.2 ho
 refine zW (fun q=>∃s:Nat,q.2=(s:Int)/\s<=m.Rows.length/\q.1.length=s/\∀t:Nat,t<s->Rch m t->∃n:Nat,q.1[t]?=some (n:Int)/\n<F.length/\SEq m F[n]! t) (fun q=>1000 - q.2.toNat) ⟨0,rfl,Nat.zero_le _,rfl,fun t ht=>by omega⟩ (by simp) ?_
 rintro⟨out,q⟩ ⟨s,e1,s1,s2,s3⟩
 simp only at e1 s2 s3
 subst e1
 unfold UN
 rw [zF]
 refine⟨fun hc=>?_,fun hc=>?_⟩
 ·have hs:s<m.Rows.length:=by rw [p1]at hc;simpa using hc
  rw [zy]
  have hl:s<is.length:=by omega
  obtain⟨y,hy⟩:∃y,p[s]?=some y:=⟨_,List.getElem?_eq_getElem (by omega)⟩
  have inner:Ret (loop (fun q=>W2 p (F.map Int.ofNat) is (s:Int) q.1 q.2) ((-1),0)) fun k=>Rch m s->∃n:Nat,k=(n:Int)/\n<F.length/\SEq m F[n]! s:=by
   refine zW (fun q=>∃n:Nat,q.2=(n:Int)/\n<=F.length/\(Rch m s->(∀i,i<n->¬SEq m F[i]! s)\/∃i:Nat,q.1=(i:Int)/\i<F.length/\SEq m F[i]! s)) (fun q=>1000 - q.2.toNat) ⟨0,rfl,Nat.zero_le _,fun _=>.inl fun i hi=>by omega⟩ (by simp) ?_
   rintro⟨k,q⟩ ⟨n,e1,n1,n2⟩
   simp only at e1 n2
   subst e1
   unfold W2 Yh
   rw [zF]
   refine⟨fun hc=>?_,fun hc=>?_⟩
   ·have hn:n<F.length:=by simpa using hc
    obtain⟨f1,f2,f3⟩:=hF.at hn
    have hx:(F.map Int.ofNat)[n]?=some ((F[n]!:Nat):Int):=by rw [List.getElem?_map,f3];rfl
    obtain⟨x,hx2⟩:∃x,p[F[n]!]?=some x:=⟨_,List.getElem?_eq_getElem (by omega)⟩
    have hcl:=p2 _ _ f2 hs
    rw [hx2,hy,Option.some.injEq]at hcl
    rw [y5,bdT (List.getElem?_eq_getElem hl),zF,w1 n (by omega)]
    have step:∀k',(Rch m s->(∀i,i<n+1->¬SEq m F[i]! s)\/∃i:Nat,k'=(i:Int)/\i<F.length/\SEq m F[i]! s)->Ret (some (LR.next (k',((n+1:Nat):Int)):LR (Int×Int) Int)) (LRP (fun s'=>(∃n:Nat,s'.2=(n:Int)/\n<=F.length/\(Rch m s->(∀i,i<n->¬SEq m F[i]! s)\/∃i:Nat,s'.1=(i:Int)/\i<F.length/\SEq m F[i]! s))/\1000 - s'.2.toNat<1000 - (n:Int).toNat) fun k=>Rch m s->∃n:Nat,k=(n:Int)/\n<F.length/\SEq m F[n]! s):=by
     intro k' hk'
     exact zg.2 ⟨⟨n+1,rfl,hn,hk'⟩,by simp only [Int.toNat_natCast];omega⟩
    have grow:¬SEq m F[n]! s->Rch m s->(∀i,i<n+1->¬SEq m F[i]! s)\/∃i:Nat,k=(i:Int)/\i<F.length/\SEq m F[i]! s:=by
     intro hno hr
     rcases n2 hr with g|g
     ·refine .inl fun i hi=>?_
      rcases Nat.lt_or_ge i n with q|q
      ·exact g i q
      ·have:i=n:=by omega
       subst this;exact hno
     ·exact .inr g
    refine⟨fun hb=>?_,fun hb=>step k fun hr=>?_⟩
    ·rw [y5,bdT hx,y5,bdT hx2,y5,bdT hy,zF]
     refine⟨fun e=>step _ fun _=>.inr ⟨n,rfl,hn,hcl.1 (by simpa using e)⟩,fun e=>step _ (grow fun g=>?_)⟩
     have:=hcl.2 g
     simp [this]at e
    ·have:=(q2 s hs).2 hr
     rw [List.getElem?_eq_getElem hl,hb]at this
     cases this
   ·have:n=F.length:=by
     have:¬n<F.length:=by simpa using hc
     omega
    subst this
    refine zg.2 fun hr=>?_
    rcases n2 hr with g|g
    ·obtain⟨i,hi,q⟩:=zfO h hG hF hs hr
     exact(g i hi q).elim
    ·exact g
  refine inner.mono fun k hk=>?_
  unfold UO UP
  rw [UJ,w1 s (by omega)]
  refine⟨by simp;omega,zg.2 ⟨⟨s+1,rfl,hs,by simp [s2],fun t ht hr=>?_⟩,by simp only [Int.toNat_natCast];omega⟩⟩
  rcases Nat.lt_or_ge t s with q|q
  ·rw [List.getElem?_append_left (show t<out.length from by rw [s2];exact q)]
   exact s3 t q hr
  ·have:t=s:=by omega
   subst this
   obtain⟨n,rfl,g⟩:=hk hr
   exact⟨n,by rw [<-s2,List.getElem?_append_right (Nat.le_refl _)];simp,g⟩
 ·have:s=m.Rows.length:=by
   have:¬s<m.Rows.length:=by rw [p1]at hc;simpa using hc
   omega
  subst this
  exact zg.2 ⟨s2,s3⟩
end
section
variable {m:z6}(h:VM m)(hG:GG (kk m) m.Rows.length<=1000000000)
include h hG
theorem za7:Ret (Yz m) fun p=>∃F,Xg m F/\zgj m F p:=by
 have l64:=h.len64
 have hk2:=h.kk_le
 have hke:=h.kk_eq
 obtain⟨o,hf,F,rfl,hF⟩:=zbM h hG
 have hFl:=hF.len
 obtain⟨mp,hm,m1,m2⟩:=zi7 h hG hF hf
 have w1:∀n:Nat,n<1000->w64 ((n:Int)+1)=((n+1:Nat):Int):=fun n hn=>by rw [zT (by omega) (by omega)];rfl
 unfold Yz ZR
 rw [bdT hf,bdT hm,zy]
 let RowI:Nat->List z8->Nat->Prop:=fun k row n=>row.length=n/\∀i:Nat,i<n->∃e,row[i]?=some e/\e.Out=(E m F[k]! i).Out /\
  ((0<=(E m F[k]! i).To/\∃n:Nat,e.To=(n:Int)/\n<F.length/\SEq m F[n]! (E m F[k]! i).To.toNat)\/((E m F[k]! i).To=-1/\e.To=-1))
 have hrow:∀k:Nat,k<F.length->Ret (loop (fun s=>qB m (F.map Int.ofNat) mp (k:Int) s.1 s.2) (([]:List z8),0)) fun row=>RowI k row (kk m):=by
  intro k hk
  obtain⟨f1,f2,f3⟩:=hF.at hk
  have hx:(F.map Int.ofNat)[k]?=some ((F[k]!:Nat):Int):=by rw [List.getElem?_map,f3];rfl
  have hrch:Rch m F[k]!:=by obtain⟨_,v,hv⟩:=hF.acc _ f1;exact⟨v,hv.wd,hv.aft⟩
  refine zW (fun q=>∃i:Nat,q.2=(i:Int)/\i<=kk m/\RowI k q.1 i) (fun q=>1000 - q.2.toNat) ⟨0,rfl,Nat.zero_le _,rfl,fun i hi=>by omega⟩ (by simp) ?_
  rintro⟨row,q⟩ ⟨i,e1,i1,i2,i3⟩
  simp only at e1 i2 i3
  subst e1
  unfold qB
  rw [zF]
  refine⟨fun hc=>?_,fun hc=>?_⟩
  ·have hi:i<kk m:=by rw [<-hke]at hc;simpa using hc
   have he:=h.edgeAt f2 hi
   rw [y5,bdT hx,h.edge_eq f2 hi,zF]
   have fin:∀to:Int,((0<=(E m F[k]! i).To/\∃n:Nat,to=(n:Int)/\n<F.length/\SEq m F[n]! (E m F[k]! i).To.toNat)\/((E m F[k]! i).To=-1/\to=-1)) ->
     Ret (vB row (i:Int) (E m F[k]! i) to) (LRP (fun s'=>(∃i:Nat,s'.2=(i:Int)/\i<=kk m/\RowI k s'.1 i)/\1000 - s'.2.toNat<1000 - (i:Int).toNat) fun row=>RowI k row (kk m)):=by
    intro to hto
    unfold vB
    rw [UJ,w1 i (by omega)]
    refine⟨by simp;omega,zg.2 ⟨⟨i+1,rfl,hi,by simp [i2],fun j hj=>?_⟩,by simp only [Int.toNat_natCast];omega⟩⟩
    rcases Nat.lt_or_ge j i with q|q
    ·rw [List.getElem?_append_left (show j<row.length from by rw [i2];exact q)]
     exact i3 j q
    ·have:j=i:=by omega
     subst this
     refine⟨⟨to,(E m F[k]! j).Out⟩,?_,rfl,hto⟩
     conv=>lhs;arg 2;rw [<-i2]
     rw [List.getElem?_append_right (Nat.le_refl _)]
     simp
   refine⟨fun hc=>?_,fun hc=>?_⟩
   ·have h0:0<=(E m F[k]! i).To:=by simpa using hc
    obtain⟨t,ht⟩:=Int.eq_ofNat_of_zero_le h0
    have htN:t<m.Rows.length:=by omega
    have hr:Rch m t:=by have:=rch_step hrch hi h0;rw [ht]at this;simpa using this
    obtain⟨n,n1,n2,n3⟩:=m2 t htN hr
    rw [ht,y5,bdT n1]
    exact fin _ (.inl ⟨h0,n,rfl,n2,by rw [ht];simpa using n3⟩)
   ·have h0:¬0<=(E m F[k]! i).To:=by simpa using hc
    have:(E m F[k]! i).To=-1:=by omega
    exact fin _ (.inr ⟨this,this⟩)
  ·have:i=kk m:=by
    have:¬i<kk m:=by rw [<-hke]at hc;simpa using hc
    omega
   subst this
   exact zg.2 ⟨i2,i3⟩
 have hloop:Ret (loop (fun s=>qC m (F.map Int.ofNat) mp s.1 s.2) (([]:List (List z8)),0)) fun rows=>rows.length=F.length/\∀k:Nat,k<F.length->∃row,rows[k]?=some row/\RowI k row (kk m):=by
  refine zW (fun q=>∃k:Nat,q.2=(k:Int)/\k<=F.length/\q.1.length=k/\∀j:Nat,j<k->∃row,q.1[j]?=some row/\RowI j row (kk m)) (fun q=>1000 - q.2.toNat) ⟨0,rfl,Nat.zero_le _,rfl,fun i hi=>by omega⟩ (by simp) ?_
  rintro⟨rows,q⟩ ⟨k,e1,k1,k2,k3⟩
  simp only at e1 k2 k3
  subst e1
  unfold qC
  rw [zF]
  refine⟨fun hc=>?_,fun hc=>?_⟩
  ·have hk:k<F.length:=by simpa using hc
   rw [zy]
   refine(hrow k hk).mono fun row hr=>?_
   unfold ZP ZQ
   rw [UJ,w1 k (by omega)]
   refine⟨by simp;omega,zg.2 ⟨⟨k+1,rfl,hk,by simp [k2],fun j hj=>?_⟩,by simp only [Int.toNat_natCast];omega⟩⟩
   rcases Nat.lt_or_ge j k with q|q
   ·rw [List.getElem?_append_left (show j<rows.length from by rw [k2];exact q)]
    exact k3 j q
   ·have:j=k:=by omega
    subst this
    refine⟨row,?_,hr⟩
    conv=>lhs;arg 2;rw [<-k2]
    rw [List.getElem?_append_right (Nat.le_refl _)]
    simp
  ·have:k=F.length:=by
    have:¬k<F.length:=by simpa using hc
    omega
   subst this
   exact zg.2 ⟨k2,k3⟩
 refine hloop.mono ?_
 rintro rows ⟨r1,r2⟩
 refine zg.2 ⟨F,hF,rfl,rfl,r1,fun k hk=>?_⟩
 obtain⟨row,e,q1,q2⟩:=r2 k hk
 exact⟨row,e,q1,q2⟩
end
section
variable {m:z6}(h:VM m)
include h
omit h in
theorem zoz {p:z6}(hp:zgj m F p)(hk:kk p=kk m){k i:Nat}(h1:k<F.length)(hi:i<kk m):(E p k i).Out=(E m F[k]! i).Out/\((0<=(E m F[k]! i).To/\∃n:Nat,(E p k i).To=(n:Int)/\n<F.length/\SEq m F[n]! (E m F[k]! i).To.toNat)\/((E m F[k]! i).To=-1/\(E p k i).To=-1)):=by
 obtain⟨row,q1,q2,q3⟩:=hp.row k h1
 obtain⟨e,e1,e2⟩:=q3 i hi
 have:E p k i=e:=by unfold E;rw [q1,Option.getD_some,e1];rfl
 rw [this]
 exact e2
omit h in
theorem z9V (hF:Xg m F){p:z6}(hp:zgj m F p):∀(w:List Nat) (k:Nat),k<F.length->Wd (kk m) w->rsp p (k:Int) w=rsp m ((F[k]!:Nat):Int) w
 | [],_,_,_=>rfl
 | i::w,k,hk,hw=>by
  have hkk:kk p=kk m:=by unfold kk;rw [hp.inp]
  have hi:=hw i (by simp)
  have hw':Wd (kk m) w:=fun j hj=>hw j (by simp [hj])
  obtain⟨e1,e2⟩:=zoz hp hkk hk hi
  simp only [rsp,YQ,e1,List.cons.injEq,true_and]
  rcases e2 with⟨h0,n,g1,g2,g3⟩|⟨g1,g2⟩
  ·rw [g1,z9V hF hp w n g2 hw',g3 w hw']
   congr 1
   omega
  ·rw [g1,g2,z9U _ _ _ (by omega),z9U _ _ _ (by omega)]
theorem z6U (hF:Xg m F):0<F.length/\F[0]! = 0:=by
 have l1:=h.len1
 have hacc:Acc m 0 []:=⟨fun i hi=>by simp at hi,by show 0<m.Rows.length;omega,rfl,fun u _ _=>by simp [rk,GG,JU]⟩
 obtain⟨s,hs,_,w,hw,hle⟩:=hF.all 0 [] (by omega) hacc
 have hw0:w=[]:=zaN hw.wd hacc.wd (by
  have:rk (kk m) ([]:List Nat)=0:=by simp [rk,GG,JU]
  omega)
 subst hw0
 have hs0:s=0:=by have:=hw.aft;simp [aft]at this;omega
 subst hs0
 obtain⟨j,hj,ej⟩:=List.getElem_of_mem hs
 refine⟨by omega,?_⟩
 rcases Nat.eq_zero_or_pos j with rfl|q
 ·rw [getElem!_pos F 0 (by omega)];exact ej
 ·have h0:0<F.length:=by omega
  have:=List.pairwise_iff_getElem.1 hF.sorted 0 j h0 hj q
  obtain⟨_,v,hv⟩:=hF.acc F[0] (List.getElem_mem h0)
  have:=this v [] hv (by rw [ej];exact hacc)
  simp [rk,GG,JU]at this
end
def jH:List Int->List Int->Int
 | [],[]=>0
 | [],_::_=>-1
 | _::_,[]=>1
 | x::a,y::b=>if x<y then -1 else if y<x then 1 else jH a b
def Vd (a b:List Int):Int:=if a.length<b.length then -1 else if b.length<a.length then 1 else jH a b
theorem zdb:∀{a b:List Int},jH a b=0->a=b
 | [],[],_=>rfl
 | [],_::_,h=>by simp [jH]at h
 | _::_,[],h=>by simp [jH]at h
 | x::a,y::b,h=>by
  simp only [jH]at h
  split at h
  ·simp at h
  ·split at h
   ·simp at h
   ·rw [show x=y by omega,zdb h]
theorem z94:∀a:List Int,jH a a=0
 | []=>rfl
 | x::a=>by simp [jH,z94 a]
theorem zb2:∀a b:List Int,jH b a=- jH a b
 | [],[]=>rfl
 | [],_::_=>rfl
 | _::_,[]=>rfl
 | x::a,y::b=>by
  simp only [jH]
  split
  ·rw [if_neg (by omega)]
  ·split
   ·rfl
   ·exact zb2 a b
theorem z6S:∀{a b c:List Int},jH a b<0->jH b c<0->jH a c<0
 | [],[],_,h,_=>by simp [jH]at h
 | [],_::_,[],_,h=>by simp [jH]at h
 | [],_::_,_::_,_,_=>by simp [jH]
 | _::_,[],_,h,_=>by simp [jH]at h
 | _::_,_::_,[],_,h=>by simp [jH]at h
 | x::a,y::b,z::c,h1,h2=>by
  simp only [jH]at h1 h2 ⊢
  by_cases e1:x<y
  ·by_cases e2:y<z
   ·rw [if_pos (by omega)];omega
   ·rw [if_neg e2]at h2
    by_cases e3:z<y
    ·rw [if_pos e3]at h2;omega
    ·rw [if_pos (by omega)];omega
  ·rw [if_neg e1]at h1
   by_cases e3:y<x
   ·rw [if_pos e3]at h1;omega
   ·rw [if_neg e3]at h1
    have:x=y:=by omega
    subst this
    by_cases e2:x<z
    ·rw [if_pos e2];omega
    ·rw [if_neg e2]at h2 ⊢
     by_cases e4:z<x
     ·rw [if_pos e4]at h2;omega
     ·rw [if_neg e4]at h2 ⊢
      exact z6S h1 h2
variable {a b:List Int}
theorem z7X (h:Vd a b=0):a=b:=by
 unfold Vd at h
 split at h
 ·simp at h
 ·split at h
  ·simp at h
  ·exact zdb h
theorem z1P (a:List Int):Vd a a=0:=by simp [Vd,z94]
theorem zbk:Vd a b=0↔a=b:=⟨z7X,fun h=>h ▸ z1P a⟩
theorem zbi (a b:List Int):Vd b a=- Vd a b:=by
 unfold Vd
 by_cases h1:a.length<b.length
 ·rw [if_pos h1,if_neg (by omega),if_pos h1];rfl
 ·by_cases h2:b.length<a.length
  ·rw [if_pos h2,if_neg h1,if_pos h2]
  ·rw [if_neg h1,if_neg h2,if_neg h2,if_neg h1,zb2]
theorem Vc {a b c:List Int}(h1:Vd a b<0)(h2:Vd b c<0):Vd a c<0:=by
 unfold Vd at *
 by_cases e1:a.length<b.length
 ·by_cases e2:b.length<c.length
  ·rw [if_pos (by omega)];omega
  ·rw [if_neg e2]at h2
   by_cases e3:c.length<b.length
   ·rw [if_pos e3]at h2;omega
   ·rw [if_pos (by omega)];omega
 ·rw [if_neg e1]at h1
  by_cases e3:b.length<a.length
  ·rw [if_pos e3]at h1;omega
  ·rw [if_neg e3]at h1
   have e:a.length=b.length:=by omega
   rw [e]
   by_cases e2:b.length<c.length
   ·rw [if_pos e2];omega
   ·rw [if_neg e2]at h2 ⊢
    by_cases e4:c.length<b.length
    ·rw [if_pos e4]at h2;omega
    ·rw [if_neg e4]at h2 ⊢
     exact z6S h1 h2
theorem zbj (a:List Int):¬Vd a a<0:=by rw [z1P];omega
theorem zdH (h:Vd a b<0):¬Vd b a<0:=by rw [zbi a b];omega
theorem zdG:¬Vd a b<0↔Vd b a<0\/a=b:=by
 rw [<-zbk,zbi a b];omega
def SW (l:List (List Int)):Prop:=l.Pairwise fun a b=>Vd a b<0
theorem SW.nil:SW []:=List.Pairwise.nil
variable {l:List (List Int)}{x:List Int}
theorem SW.tail (h:SW (x::l)):SW l:=(List.pairwise_cons.1 h).2
theorem SW.head (h:SW (x::l)):∀y∈l,Vd x y<0:=(List.pairwise_cons.1 h).1
theorem SW.unique:∀{l m:List (List Int)},SW l->SW m->(∀x,x∈l↔x∈m)->l=m
 | [],[],_,_,_=>rfl
 | [],y::m,_,_,h=>by have:=(h y).2 (by simp);simp at this
 | x::l,[],_,_,h=>by have:=(h x).1 (by simp);simp at this
 | x::l,y::m,h1,h2,h=>by
  have hxy:x=y:=by
   rcases List.mem_cons.1 ((h x).1 (by simp)) with e|e
   ·exact e
   ·rcases List.mem_cons.1 ((h y).2 (by simp)) with e'|e'
    ·exact e'.symm
    ·exact absurd (h2.head x e) (zdH (h1.head y e'))
  subst hxy
  rw [SW.unique h1.tail h2.tail fun z=>?_]
  constructor
  ·intro hz
   rcases List.mem_cons.1 ((h z).1 (by simp [hz])) with e|e
   ·subst e;exact absurd (h1.head _ hz) (zbj _)
   ·exact e
  ·intro hz
   rcases List.mem_cons.1 ((h z).2 (by simp [hz])) with e|e
   ·subst e;exact absurd (h2.head _ hz) (zbj _)
   ·exact e
theorem SW.sub {l m:List (List Int)}(h:SW l)(hs:List.Sublist m l):SW m:=List.Pairwise.sublist hs h
def z6L (w:List Int):List (List Int)->List (List Int)
 | []=>[w]
 | x::l=>if Vd x w<0 then x::z6L w l else if Vd x w=0 then x::l else w::x::l
theorem z1H {w x:List Int}:∀{l:List (List Int)},x∈z6L w l↔x=w\/x∈l
 | []=>by simp [z6L]
 | y::l=>by
  simp only [z6L]
  split
  ·simp only [List.mem_cons,z1H]
   constructor
   ·rintro(h|h|h) <;> simp [h]
   ·rintro(h|h|h) <;> simp [h]
  ·split
   ·rename_i h1 h2
    have:=z7X h2
    subst this
    simp
   ·simp
variable {w:List Int}
theorem SW.put:∀{l:List (List Int)},SW l->SW (z6L w l)
 | [],_=>by simp [z6L,SW]
 | y::l,h=>by
  simp only [z6L]
  split
  ·rename_i h1
   refine List.pairwise_cons.2 ⟨fun z hz=>?_,SW.put h.tail⟩
   rcases z1H.1 hz with rfl|hz
   ·exact h1
   ·exact h.head z hz
  ·split
   ·exact h
   ·rename_i h1 h2
    have hw:Vd w y<0:=by
     rcases zdG.1 h1 with q|q
     ·exact q
     ·exact absurd (zbk.2 q) h2
    refine List.pairwise_cons.2 ⟨fun z hz=>?_,h⟩
    rcases List.mem_cons.1 hz with rfl|hz
    ·exact hw
    ·exact Vc hw (h.head z hz)
theorem zaV (w:List Int):∀l,(z6L w l).length<=l.length+1
 | []=>by simp [z6L]
 | y::l=>by
  simp only [z6L]
  split
  ·have:=zaV w l;simp;omega
  ·split <;> simp
def srt (l:List (List Int)):List (List Int):=l.foldl (fun m w=>z6L w m) []
theorem z9O:∀(l m:List (List Int)),SW m->SW (l.foldl (fun m w=>z6L w m) m)/\∀x,x∈l.foldl (fun m w=>z6L w m) m↔x∈m\/x∈l
 | [],m,h=>⟨h,by simp⟩
 | w::l,m,h=>by
  obtain⟨h1,h2⟩:=z9O l (z6L w m) h.put
  refine⟨h1,fun x=>?_⟩
  rw [List.foldl_cons,h2,z1H]
  simp only [List.mem_cons]
  constructor
  ·rintro((h|h)|h) <;> simp [h]
  ·rintro(h|h|h) <;> simp [h]
theorem zcg (l:List (List Int)):SW (srt l):=(z9O l [] .nil).1
theorem za8:x∈srt l↔x∈l:=by rw [srt,(z9O l [] .nil).2];simp
theorem zeS (l:List (List Int))(w:List Int):srt (l++[w])=z6L w (srt l):=by simp [srt]
theorem z9N (l:List (List Int)):(srt l).length<=l.length:=by
 have:∀(l m:List (List Int)),(l.foldl (fun m w=>z6L w m) m).length<=m.length+l.length:=by
  intro l
  induction l with
  | nil=>intro m;simp
  | cons w l ih=>intro m;have:=ih (z6L w m);have:=zaV w m;simp only [List.foldl_cons,List.length_cons];omega
 have q:=this l []
 simp only [List.length_nil,Nat.zero_add]at q
 exact q
variable {α:Type}{i:Nat}
theorem zN {l:List α}  {x:α}(h:l[i]?=some x):idx l (i:Int)=some x:=h
theorem zdr (b:List Int)(g:Nat->Int->Option Int)(hg:∀i x y,b[i]?=some y->g i x=if x<y then some (-1) else if y<x then some 1 else none) :
  ∀(a:List Int) (k:Nat),k+a.length=b.length->(xc g a k).getD 0=jH a (b.drop k)
 | [],k,h=>by
  have:b.drop k=[]:=List.drop_eq_nil_of_le (by simp at h;omega)
  rw [this];rfl
 | x::a,k,h=>by
  simp only [List.length_cons]at h
  have hk:k<b.length:=by omega
  rw [List.drop_eq_getElem_cons hk]
  simp only [xc,jH,hg k x b[k] (List.getElem?_eq_getElem hk)]
  by_cases h1:x<b[k]
  ·simp [h1]
  ·by_cases h2:b[k]<x
   ·simp [h1,h2]
   ·simp only [h1,h2,if_false]
    exact zdr b g hg a (k+1) (by omega)
theorem z5C (a b:List Int)(h:a.length=b.length->a.length<4611686018427387904):uX a b=some (Vd a b):=by
 unfold uX
 by_cases hl:a.length=b.length
 ·have h':=h hl
  simp only [hl,bne_self_eq_false,cond_false]
  rw [bdT (uE a h' (fun i x=>match b[i]? with|some y=>if x<y then some (-1:Int) else if y<x then some 1 else none|none=>none) ?_ ?_)]
  ·have q:=zdr b (fun i x=>match b[i]? with|some y=>if x<y then some (-1:Int) else if y<x then some 1 else none|none=>none) (fun i x y hy=>by simp only [hy]) a 0 (by omega)
   rw [List.drop_zero]at q
   have hc:Vd a b=jH a b:=by unfold Vd;rw [if_neg (by omega),if_neg (by omega)]
   rw [hc,<-q]
   cases xc (fun i x=>match b[i]? with|some y=>if x<y then some (-1:Int) else if y<x then some 1 else none|none=>none) a 0 <;> rfl
  ·intro i x hx
   have hi:i<a.length:=(List.getElem?_eq_some_iff.1 hx).1
   have hy:b[i]?=some b[i]:=List.getElem?_eq_getElem (by omega)
   unfold qA
   have hc:decide ((i:Int)<(a.length:Int))=true:=by simpa using hi
   simp only [hc,cond_true,zN hx,zN hy,hy,Option.bind_some]
   by_cases h1:x<b[i]
   ·simp [h1,nS]
   ·by_cases h2:b[i]<x
    ·simp [h1,h2,nS]
    ·simp [h1,h2,nS]
  ·unfold qA
   simp
 ·have h1:(((a.length:Nat):Int) !=((b.length:Nat):Int))=true:=by simp;omega
  simp only [h1,cond_true]
  unfold Vd
  by_cases h2:a.length<b.length
  ·simp [h2]
  ·have h3:b.length<a.length:=by omega
   simp [h2,h3]
def cI (x y:Int):Int:=if x<y then -1 else if y<x then 1 else 0
theorem zdF (x y:Int):uM x y=some (cI x y):=by
 unfold uM X4 cI
 simp only [bne_self_eq_false,Option.bind_some,cond_false]
 by_cases h1:x<y
 ·simp [h1]
 ·by_cases h2:y<x
  ·simp [h1,h2]
  ·simp [h1,h2]
theorem zhL (a b:List Int)(h:a.length<4611686018427387904):∃c,xQ a b=some c/\(a.length=b.length->c=jH a b):=by
 unfold xQ
 have hloop:=uE a h (step:=fun s=>yn a b s) (fun i x=>match b[i]? with|some y=>if x<y then some (-1:Int) else if y<x then some 1 else none|none=>some 1) (by
  intro i x hx
  have hi:i<a.length:=(List.getElem?_eq_some_iff.1 hx).1
  unfold yn
  have hc:decide ((i:Int)<(a.length:Int))=true:=by simpa using hi
  simp only [hc,cond_true,zN hx,Option.bind_some]
  by_cases hb:i<b.length
  ·have hy:b[i]?=some b[i]:=List.getElem?_eq_getElem hb
   have hd:decide ((i:Int)>=(b.length:Int))=false:=by simp;omega
   simp only [hd,cond_false,zN hy,hy,Option.bind_some,zdF]
   unfold cI
   by_cases h1:x<b[i]
   ·simp [h1,nS]
   ·by_cases h2:b[i]<x
    ·simp [h1,h2,nS]
    ·simp [h1,h2,nS]
  ·have hy:b[i]?=none:=List.getElem?_eq_none (by omega)
   have hd:decide ((i:Int)>=(b.length:Int))=true:=by simp;omega
   simp only [hd,cond_true,hy,nS]) (by unfold yn;simp)
 rw [bdT hloop]
 have q:=fun hl=>zdr b (fun i x=>match b[i]? with|some y=>if x<y then some (-1:Int) else if y<x then some 1 else none|none=>some 1) (fun i x y hy=>by simp only [hy]) a 0 hl
 cases hf:xc (fun i x=>match b[i]? with|some y=>if x<y then some (-1:Int) else if y<x then some 1 else none|none=>some 1) a 0 with
 | some r=>
  refine⟨r,rfl,fun hl=>?_⟩
  have:=q (by omega)
  rw [hf]at this
  simpa using this
 | none=>
  unfold w7
  by_cases hl:a.length<b.length
  ·refine⟨-1,by simp [oS,hl],fun hl2=>by omega⟩
  ·refine⟨0,by simp [oS,hl],fun hl2=>?_⟩
   have:=q (by omega)
   rw [hf]at this
   simpa using this
theorem zqo (x y:Int):QB [x,y]=some (if x=0 then y else x):=by
 unfold QB
 rw [bdT (uE [x,y] (by simp) (step:=fun s=>Zk [x,y] s) (fun i v=>if v≠0 then some v else none) ?_ ?_)]
 ·by_cases h1:x=0
  ·by_cases h2:y=0
   ·simp [xc,h1,h2,oS,WZ]
   ·simp [xc,h1,h2,oS]
  ·simp [xc,h1,oS]
 ·intro i v hv
  have hi:i<[x,y].length:=(List.getElem?_eq_some_iff.1 hv).1
  unfold Zk
  have hc:decide ((i:Int)<(([x,y]:List Int).length:Int))=true:=by simp only [decide_eq_true_eq];omega
  simp only [hc,cond_true,zN hv,Option.bind_some]
  by_cases h:v=0
  ·simp [h,nS]
  ·have hb:(v != 0)=true:=by simpa using h
   simp [h,hb,nS]
 ·unfold Zk;simp
theorem zbV (a b:List Int)(h:a.length<4611686018427387904):uT a b=some (Vd a b):=by
 unfold uT
 obtain⟨c,hc,hl⟩:=zhL a b h
 rw [zdF,hc]
 simp only [Option.bind_some,zqo]
 unfold cI Vd
 by_cases h1:a.length<b.length
 ·simp [h1]
 ·by_cases h2:b.length<a.length
  ·simp [h1,h2]
  ·simp [h1,h2,hl (by omega)]
def wE (n:Int)(w:List Int):Int:=if 256<w.length then 3 else if w.any (fun c=>decide (c<0) || decide (n<=c)) then 1 else 0
variable {n:Int}
theorem z9G:wE n w=0↔w.length<=256/\∀c∈w,0<=c/\c<n:=by
 unfold wE
 by_cases h:256<w.length
 ·rw [if_pos h]
  exact⟨fun q=>by simp at q,fun q=>by omega⟩
 ·rw [if_neg h]
  by_cases h2:w.any (fun c=>decide (c<0) || decide (n<=c))=true
  ·rw [if_pos h2]
   simp only [List.any_eq_true,Bool.or_eq_true,decide_eq_true_eq]at h2
   obtain⟨c,h3,h4⟩:=h2
   refine⟨fun q=>by simp at q,fun q=>?_⟩
   have:=q.2 c h3
   omega
  ·rw [if_neg h2]
   simp only [List.any_eq_true,Bool.or_eq_true,decide_eq_true_eq,not_exists,not_and,not_or]at h2
   refine⟨fun _=>⟨by omega,fun c hc=>?_⟩,fun _=>rfl⟩
   have:=h2 c hc
   omega
variable {ρ:Type}
theorem zgM (p:Int->Bool)(g:Nat->Int->Option ρ)(hg:∀i x,(g i x).isSome=p x):∀(w:List Int) (k:Nat),(xc g w k).isSome=w.any p
 | [],k=>rfl
 | x::w,k=>by
  simp only [xc,List.any_cons]
  have:=hg k x
  cases hx:g k x with
  | some r=>rw [hx]at this;simp at this;simp [<-this]
  | none=>rw [hx]at this;simp at this;rw [this,Bool.false_or];exact zgM p g hg w (k+1)
theorem z8v (n:Int)(w:List Int):jQ w n=some (if 16<n then 3 else if 256<w.length then 3 else if n<1 then 1 else wE n w):=by
 unfold jQ
 by_cases h0:16<n
 ·simp [h0]
 by_cases h:256<w.length
 ·have h':(256:Int)<(w.length:Int):=by omega
  simp [h0,h,h']
 by_cases h1:n<1
 ·have h':¬(256:Int)<(w.length:Int):=by omega
  simp [h0,h,h',h1]
 ·have hd:decide (((w.length:Nat):Int) > 256)=false:=by simp;omega
  have hd0:decide (n > 16)=false:=by simp;omega
  have hd1:decide (n<1)=false:=by simp;omega
  simp only [hd,hd0,hd1,cond_false,if_neg h,if_neg h0,if_neg h1]
  unfold xH ws wE
  have hl:=uE w (by omega) (step:=fun s=>ye w n s) (fun i c=>if c<0\/n<=c then some (i:Int) else none) (by
   intro i c hc
   have hi:i<w.length:=(List.getElem?_eq_some_iff.1 hc).1
   unfold ye WO
   have hq:decide ((i:Int)<(w.length:Int))=true:=by simpa using hi
   simp only [hq,cond_true,zN hc,Option.bind_some]
   by_cases h1:c<0
   ·simp [h1,nS]
   ·by_cases h2:n<=c
    ·simp [h1,h2,nS]
    ·simp [h1,h2,nS]) (by unfold ye;simp)
  rw [bdT hl,if_neg h]
  have q:=zgM (fun c=>decide (c<0) || decide (n<=c)) (fun i c=>if c<0\/n<=c then some (i:Int) else none) (fun i c=>by by_cases h:c<0\/n<=c <;> simp [h] <;> simpa using h) w 0
  cases hf:xc (fun i c=>if c<0\/n<=c then some (i:Int) else none) w 0 with
  | none=>rw [hf]at q;rw [<-q];rfl
  | some r=>
   rw [hf]at q
   obtain⟨i,x,h1,h2⟩:=qj hf
   rw [<-q]
   split at h2
   ·cases h2
    simp [oS]
   ·cases h2
def eS (e:Int):Option Int:=if e=0 then none else some e
def loE (n:Int)(l:List (List Int)):Int:=if 16<n then 3 else if 4096<l.length then 3 else if n<1 then 1 else(xc (fun _ w=>eS (wE n w)) l 0).getD 0
theorem zbd:∀{l:List (List Int)} {k:Nat},(xc (fun _ w=>eS (wE n w)) l k).getD 0=0↔∀w∈l,wE n w=0
 | [],_=>by simp [xc]
 | w::l,k=>by
  by_cases h:wE n w=0
  ·have:eS (wE n w)=none:=by simp [eS,h]
   simp only [xc,this]
   rw [zbd]
   simp [h]
  ·have:eS (wE n w)=some (wE n w):=by simp [eS,h]
   simp [xc,this,h]
theorem z7N:loE n l=0↔(1<=n/\n<=16)/\l.length<=4096/\∀w∈l,w.length<=256/\∀c∈w,0<=c/\c<n:=by
 unfold loE
 by_cases h0:16<n
 ·rw [if_pos h0];exact⟨fun q=>by simp at q,fun q=>by omega⟩
 by_cases h1:4096<l.length
 ·rw [if_neg h0,if_pos h1];exact⟨fun q=>by simp at q,fun q=>by omega⟩
 by_cases h2:n<1
 ·rw [if_neg h0,if_neg h1,if_pos h2];exact⟨fun q=>by simp at q,fun q=>by omega⟩
 rw [if_neg h0,if_neg h1,if_neg h2,zbd]
 constructor
 ·intro q;exact⟨by omega,by omega,fun w hw=>z9G.1 (q w hw)⟩
 ·intro q w hw;exact z9G.2 (q.2.2 w hw)
theorem zfs (l:List (List Int))(n:Int):Xk l n=some (loE n l):=by
 unfold Xk loE
 by_cases h0:16<n
 ·simp [h0]
 by_cases h1:4096<l.length
 ·have h':(4096:Int)<(l.length:Int):=by omega
  simp [h0,h1,h']
 by_cases h2:n<1
 ·have h':¬(4096:Int)<(l.length:Int):=by omega
  simp [h0,h1,h2,h']
 have d0:decide (n > 16)=false:=by simp;omega
 have d1:decide (((l.length:Nat):Int) > 4096)=false:=by simp;omega
 have d2:decide (n<1)=false:=by simp;omega
 simp only [d0,d1,d2,cond_false,if_neg h0,if_neg h1,if_neg h2]
 rw [bdT (uE l (by omega) (step:=fun s=>qI l n s) (fun _ w=>eS (wE n w)) ?_ ?_)]
 ·cases xc (fun _ w=>eS (wE n w)) l 0 <;> rfl
 ·intro i w hw
  have hi:i<l.length:=(List.getElem?_eq_some_iff.1 hw).1
  have hq:decide ((i:Int)<(l.length:Int))=true:=by simpa using hi
  have he:jQ w n=some (wE n w):=by
   rw [z8v,if_neg h0,if_neg h2]
   by_cases h:256<w.length
   ·rw [if_pos h];unfold wE;rw [if_pos h]
   ·rw [if_neg h]
  unfold qI
  simp only [hq,cond_true,zN hw,Option.bind_some,he]
  by_cases hz:wE n w=0
  ·simp [hz,eS,nS]
  ·have hb:(wE n w != 0)=true:=by simpa using hz
   simp [hz,hb,eS,nS]
 ·unfold qI;simp
theorem zft (l:List (List Int))(hl:l.length<4611686018427387904){step:Int×Int->Option (LR (Int×Int) Int)}
  (h:∀(n:Int) (i:Nat) (x:List Int),l[i]?=some x->step (n,(i:Int))=some (.next (w64 (n+((x.length:Nat):Int)),w64 ((i:Int)+1)))) (h2:∀n,step (n,(l.length:Int))=some (.done n)) :
  loop step (0,0)=some (l.foldl (fun n x=>w64 (n+((x.length:Nat):Int))) 0):=by
 have gen:∀(m k:Nat) (n:Int),k<=l.length->l.length - k<m->z0J step m (n,(k:Int))=some ((l.drop k).foldl (fun n x=>w64 (n+((x.length:Nat):Int))) n):=by
  intro m
  induction m with
  | zero=>intro k n _ h;omega
  | succ m ih=>
   intro k n hk hn
   rw [Qs]
   rcases Nat.lt_or_ge k l.length with hlt|hge
   ·have hx:l[k]?=some l[k]:=List.getElem?_eq_getElem hlt
    rw [h n k _ hx,List.drop_eq_getElem_cons hlt]
    simp only [List.foldl_cons]
    rw [zT (x:=(k:Int)+1) (by omega) (by omega)]
    exact ih (k+1) _ hlt (by omega)
   ·have:k=l.length:=by omega
    subst this
    rw [h2,List.drop_length]
    rfl
 exact gen fuel 0 0 (Nat.zero_le _) (by show l.length - 0<18446744073709551616;omega)
def stW (l:List (List Int)):Int:=l.foldl (fun n x=>w64 (n+((x.length:Nat):Int))) 0
theorem zeQ (l:List (List Int))(hl:l.length<4611686018427387904):Xj l=some (stW l):=by
 unfold Xj
 rw [bdT (zft l hl (step:=fun s=>qH l s.1 s.2) ?_ ?_)]
 ·rfl
 ·intro n i x hx
  have hi:i<l.length:=(List.getElem?_eq_some_iff.1 hx).1
  have hq:decide ((i:Int)<(l.length:Int))=true:=by simpa using hi
  unfold qH
  simp only [hq,cond_true,zN hx,Option.bind_some]
 ·intro n;unfold qH;simp
def z67 (l:List (List Int)):Nat:=(l.map List.length).sum
theorem zjT (h:z67 l<4611686018427387904):stW l=(z67 l:Int):=by
 have gen:∀(l:List (List Int)) (n:Nat),n+z67 l<4611686018427387904->l.foldl (fun n x=>w64 (n+((x.length:Nat):Int))) (n:Int)=((n+z67 l:Nat):Int):=by
  intro l
  induction l with
  | nil=>intro n _;simp [z67]
  | cons x l ih=>
   intro n hn
   have hs:z67 (x::l)=x.length+z67 l:=by simp [z67]
   rw [hs]at hn ⊢
   rw [List.foldl_cons,zT (by omega) (by omega),<-Int.natCast_add,ih (n+x.length) (by omega)]
   congr 1;omega
 have:=gen l 0 (by omega)
 simpa [stW] using this
theorem zcc {m:Nat}(h:∀w∈l,w.length<=m):z67 l<=l.length*m:=by
 induction l with
 | nil=>simp [z67]
 | cons x l ih=>
  have hs:z67 (x::l)=x.length+z67 l:=by simp [z67]
  have h1:=h x (by simp)
  have h2:=ih fun w hw=>h w (by simp [hw])
  rw [hs,List.length_cons,Nat.add_mul]
  omega
theorem zax:∀{l:List (List Int)},SW l↔∀i x y,l[i]?=some x->l[i+1]?=some y->Vd x y<0
 | []=>by simp [SW]
 | [x]=>⟨fun _ i a b _ h2=>by simp at h2,fun _=>by simp [SW]⟩
 | x::y::l=>by
  constructor
  ·intro h i a b h1 h2
   cases i with
   | zero=>
    simp at h1 h2
    subst h1;subst h2
    exact h.head y (by simp)
   | succ i=>exact zax.1 h.tail i a b (by simpa using h1) (by simpa using h2)
  ·intro h
   have ht:SW (y::l):=zax.2 fun i a b h1 h2=>h (i+1) a b (by simpa using h1) (by simpa using h2)
   have h0:=h 0 x y rfl rfl
   refine List.pairwise_cons.2 ⟨fun z hz=>?_,ht⟩
   rcases List.mem_cons.1 hz with rfl|hz
   ·exact h0
   ·exact Vc h0 (ht.head z hz)
theorem zbH {α ρ:Type}(l:List α)(hl:l.length<4611686018427387904){step:Int->Option (LR Int (Unit⊕ρ))}(f:Nat->α->Option ρ)
  (h:∀(i:Nat) (x:α),1<=i->l[i]?=some x->step (i:Int)=some (nS i (f i x))) (h2:∀k:Nat,l.length<=k->step (k:Int)=some (.done (.inl ()))) :
  loop step 1=some (oS (xc f (l.drop 1) 1)):=by
 have gen:∀(n:Nat) (k:Nat),1<=k->l.length - k<n->z0J step n (k:Int)=some (oS (xc f (l.drop k) k)):=by
  intro n
  induction n with
  | zero=>intro k _ h;omega
  | succ n ih=>
   intro k hk hn
   rw [Qs]
   rcases Nat.lt_or_ge k l.length with hlt|hge
   ·have hx:l[k]?=some l[k]:=List.getElem?_eq_getElem hlt
    rw [h k _ hk hx,List.drop_eq_getElem_cons hlt]
    simp only [xc]
    cases hf:f k l[k] with
    | some r=>rfl
    | none=>
     simp only [nS]
     rw [zT (by omega) (by omega)]
     exact ih (k+1) (by omega) (by omega)
   ·rw [h2 k hge,List.drop_eq_nil_of_le hge]
    rfl
 exact gen fuel 1 (Nat.le_refl _) (by show l.length - 1<18446744073709551616;omega)
instance (l:List (List Int)):Decidable (SW l):=by unfold SW;infer_instance
theorem zfM (l:List (List Int))(r:ρ):xc (fun i x=>match l[i - 1]? with|some y=>if 0<=Vd y x then some r else none|none=>none) (l.drop 1) 1=if SW l then none else some r:=by
 by_cases hs:SW l
 ·rw [if_pos hs]
  refine XA fun i x hx=>?_
  rw [List.getElem?_drop]at hx
  have hi:1+i<l.length:=(List.getElem?_eq_some_iff.1 hx).1
  have hy:l[1+i - 1]?=some l[i]:=by rw [show 1+i - 1=i by omega];exact List.getElem?_eq_getElem (by omega)
  rw [hy]
  have:=zax.1 hs i l[i] x (List.getElem?_eq_getElem (by omega)) (by rw [Nat.add_comm];exact hx)
  simp only
  rw [if_neg (by omega)]
 ·rw [if_neg hs]
  cases hf:xc (fun i x=>match l[i - 1]? with|some y=>if 0<=Vd y x then some r else none|none=>none) (l.drop 1) 1 with
  | some r'=>
   obtain⟨i,x,h1,h2⟩:=qj hf
   split at h2
   ·split at h2
    ·exact h2.symm
    ·cases h2
   ·cases h2
  | none=>
   exfalso
   refine hs (zax.2 fun i x y hx hy=>?_)
   have:=qm hf i y (by rw [List.getElem?_drop,Nat.add_comm];exact hy)
   rw [show 1+i - 1=i by omega,hx]at this
   simp only at this
   split at this
   ·cases this
   ·omega
theorem zgh (l:List (List Int))(h:l.length<=4096)(hw:∀w∈l,w.length<4611686018427387904):Vk l=some (decide (SW l)):=by
 unfold Vk
 rw [bdT (zbH l (by omega) (step:=fun s=>qJ l s) (fun i x=>match l[i - 1]? with|some y=>if 0<=Vd y x then some false else none|none=>none) ?_ ?_),zfM]
 ·by_cases hs:SW l
  ·simp [hs,oS,XD]
  ·simp [hs,oS]
 ·intro i x hi hx
  have hil:i<l.length:=(List.getElem?_eq_some_iff.1 hx).1
  have hy:l[i - 1]?=some l[i - 1]:=List.getElem?_eq_getElem (by omega)
  have hq:decide ((i:Int)<(l.length:Int))=true:=by simpa using hil
  unfold qJ
  rw [zT (x:=(i:Int) - 1) (by omega) (by omega),show((i:Int) - 1)=((i - 1:Nat):Int) by omega]
  have hE:=zbV l[i - 1] x (hw _ (List.getElem_mem (by omega)))
  simp only [hq,cond_true,zN hx,zN hy,Option.bind_some,hy,hE]
  by_cases hc:0<=Vd l[i - 1] x
  ·simp [hc,nS]
  ·simp [hc,nS]
 ·intro k hk;unfold qJ;have:decide ((k:Int)<(l.length:Int))=false:=by simp;omega
  simp only [this,cond_false]
def chE (n:Int)(l:List (List Int)):Int:=if loE n l≠0 then loE n l else if SW l then(if 65536<z67 l then 3 else 0) else 1
theorem zbl:chE n l=0↔loE n l=0/\SW l/\z67 l<=65536:=by
 unfold chE
 by_cases h:loE n l=0
 ·rw [if_neg (by simp [h])]
  by_cases h2:SW l
  ·rw [if_pos h2]
   by_cases h3:65536<z67 l
   ·rw [if_pos h3];exact⟨fun q=>by simp at q,fun q=>by omega⟩
   ·rw [if_neg h3];exact⟨fun _=>⟨h,h2,by omega⟩,fun _=>rfl⟩
  ·rw [if_neg h2];exact⟨fun q=>by simp at q,fun q=>absurd q.2.1 h2⟩
 ·rw [if_pos h];exact⟨fun q=>absurd q h,fun q=>absurd q.1 h⟩
theorem z92 (h:loE n l=0):l.length<=4096/\(∀w∈l,w.length<=256)/\z67 l<=1048576:=by
 obtain⟨_,h1,h2⟩:=z7N.1 h
 refine⟨h1,fun w hw=>(h2 w hw).1,?_⟩
 have:=zcc (m:=256) fun w hw=>(h2 w hw).1
 omega
theorem zca (l:List (List Int))(n:Int):Vl l n=some (chE n l):=by
 unfold Vl chE
 rw [zfs]
 simp only [Option.bind_some]
 by_cases h:loE n l=0
 ·obtain⟨h1,h2,h3⟩:=z92 h
  rw [zgh l h1 fun w hw=>by have:=h2 w hw;omega,zeQ l (by omega),zjT (by omega)]
  simp only [h,bne_self_eq_false,cond_false,Option.bind_some,ne_eq,not_true,if_false]
  by_cases hs:SW l
  ·by_cases hq:65536<z67 l
   ·have:(65536:Int)<(z67 l:Int):=by omega
    simp [hs,hq,this]
   ·have:¬(65536:Int)<(z67 l:Int):=by omega
    simp [hs,hq,this]
  ·simp [hs]
 ·have hb:(loE n l != 0)=true:=by simpa using h
  simp [h,hb]
def QW (l:List (List Int)):Prop:=l.Pairwise fun a b=>¬Vd b a<0
theorem zfo {l:List α}{n:Nat}{x:α}:x∈l.take n↔∃i,i<n/\l[i]?=some x:=by
 rw [List.mem_iff_getElem?]
 constructor
 ·rintro⟨i,h⟩
  rw [List.getElem?_take]at h
  split at h
  ·exact⟨i,by omega,h⟩
  ·cases h
 ·rintro⟨i,h1,h2⟩
  exact⟨i,by rw [List.getElem?_take,if_pos h1];exact h2⟩
theorem zcL (hs:SW l)   (hi:i<=l.length)(h1:∀m x,m<i->l[m]?=some x->Vd x w<0)(h2:∀m x,i<=m->l[m]?=some x->Vd w x<0):l.take i++w::l.drop i=z6L w l:=by
 have ht:∀x∈l.take i,Vd x w<0:=fun x hx=>by
  obtain⟨m,q1,q2⟩:=zfo.1 hx
  exact h1 m x q1 q2
 have hd:∀x∈l.drop i,Vd w x<0:=fun x hx=>by
  obtain⟨m,q⟩:=List.mem_iff_getElem?.1 hx
  rw [List.getElem?_drop]at q
  exact h2 (i+m) x (by omega) q
 refine SW.unique ?_ hs.put fun x=>?_
 ·unfold SW
  rw [List.pairwise_append,List.pairwise_cons]
  refine⟨hs.sub (List.take_sublist _ _),⟨hd,hs.sub (List.drop_sublist _ _)⟩,fun a ha b hb=>?_⟩
  rcases List.mem_cons.1 hb with rfl|hb
  ·exact ht a ha
  ·exact Vc (ht a ha) (hd b hb)
 ·rw [z1H]
  have:x∈l↔x∈l.take i\/x∈l.drop i:=by rw [<-List.mem_append,List.take_append_drop]
  rw [this]
  simp only [List.mem_append,List.mem_cons]
  constructor
  ·rintro(h|h|h) <;> simp [h]
  ·rintro(h|h|h) <;> simp [h]
theorem zkg {l:List (List Int)}(hs:SW l)(hl:l.length<=1000000)(hw:∀x∈l,x.length<4611686018427387904)  (hww:w.length<=4294967296):Kb l w=some (z6L w l):=by
 unfold Kb
 apply Ret.eq
 rw [zy]
 refine Ret.mono (zW (fun q:Int×Int=>∃i j:Nat,q=((i:Int),(j:Int))/\i<=j/\j<=l.length/\(∀m x,m<i->l[m]?=some x->Vd x w<0)/\∀m x,j<=m->l[m]?=some x->¬Vd x w<0) (fun q=>(q.2 - q.1).toNat) (R:=fun t=>∃i:Nat,t=(i:Int)/\i<=l.length/\(∀m x,m<i->l[m]?=some x->Vd x w<0)/\∀m x,i<=m->l[m]?=some x->¬Vd x w<0) ?_ ?_ ?_) ?_
 ·exact⟨0,l.length,rfl,Nat.zero_le _,Nat.le_refl _,fun m x h=>by omega,fun m x h hx=>by have:=(List.getElem?_eq_some_iff.1 hx).1;omega⟩
 ·simp only;omega
 ·rintro _ ⟨i,j,rfl,g1,g2,g3,g4⟩
  show Ret (W0 l w (i:Int) (j:Int)) _
  unfold W0
  rw [zF]
  refine⟨fun hc=>?_,fun hc=>?_⟩
  ·have hij:i<j:=by simpa using hc
   have hh:w64 (Int.tdiv (w64 ((i:Int)+(j:Int))) 2)=(((i+j) / 2:Nat):Int):=by
    rw [zT (x:=(i:Int)+(j:Int)) (by omega) (by omega)]
    have:Int.tdiv ((i:Int)+(j:Int)) 2=(((i+j) / 2:Nat):Int):=by
     rw [show((i:Int)+(j:Int))=((i+j:Nat):Int) by omega,Int.tdiv_eq_ediv_of_nonneg (by omega)]
     rfl
    rw [this,zT (by omega) (by omega)]
   rw [gdT (by omega),hh]
   have hm:(i+j) / 2<l.length:=by omega
   have hx:l[(i+j) / 2]?=some l[(i+j) / 2]:=List.getElem?_eq_getElem hm
   rw [zN hx]
   simp only [Option.bind_some]
   rw [z5C _ _ (fun _=>hw _ (List.getElem_mem hm))]
   simp only [Option.bind_some]
   by_cases hc2:Vd l[(i+j) / 2] w<0
   ·simp only [hc2,decide_true,cond_true]
    rw [zT (by omega) (by omega),zg]
    refine⟨⟨(i+j) / 2+1,j,by simp,by omega,g2,fun m x h hmx=>?_,g4⟩,by simp only;omega⟩
    rcases Nat.lt_or_ge m ((i+j) / 2) with q|q
    ·have h1:=(List.pairwise_iff_getElem.1 hs) m ((i+j) / 2) (List.getElem?_eq_some_iff.1 hmx).1 hm q
     rw [(List.getElem?_eq_some_iff.1 hmx).2]at h1
     exact Vc h1 hc2
    ·rw [show m=(i+j) / 2 by omega,hx]at hmx
     cases hmx
     exact hc2
   ·simp only [hc2,decide_false,cond_false]
    rw [zg]
    refine⟨⟨i,(i+j) / 2,rfl,by omega,by omega,g3,fun m x h hmx hlt=>?_⟩,by simp only;omega⟩
    rcases Nat.lt_or_ge ((i+j) / 2) m with q|q
    ·have h1:=(List.pairwise_iff_getElem.1 hs) ((i+j) / 2) m hm (List.getElem?_eq_some_iff.1 hmx).1 q
     rw [(List.getElem?_eq_some_iff.1 hmx).2]at h1
     exact hc2 (Vc h1 hlt)
    ·rw [show m=(i+j) / 2 by omega,hx]at hmx
     cases hmx
     exact hc2 hlt
  ·have hij:i=j:=by
    have:¬i<j:=by simpa using hc
    omega
   subst hij
   rw [zg]
   exact⟨i,rfl,g2,g3,g4⟩
 ·rintro _ ⟨i,rfl,h1,h2,h3⟩
  have J2:(∀x,l[i]?=some x->x≠w)->Ret (Yf l w (i:Int)) fun r=>r=z6L w l:=by
   intro hne
   have h4:∀m x,i<=m->l[m]?=some x->Vd w x<0:=by
    intro m x hm hx
    have hil:i<l.length:=by have:=(List.getElem?_eq_some_iff.1 hx).1;omega
    have hxi:l[i]?=some l[i]:=List.getElem?_eq_getElem hil
    have hlt:Vd w l[i]<0:=by
     rcases zdG.1 (h3 i _ (Nat.le_refl _) hxi) with q|q
     ·exact q
     ·exact absurd q (hne _ hxi)
    rcases Nat.lt_or_ge i m with q|q
    ·have h5:=(List.pairwise_iff_getElem.1 hs) i m hil (List.getElem?_eq_some_iff.1 hx).1 q
     rw [(List.getElem?_eq_some_iff.1 hx).2]at h5
     exact Vc hlt h5
    ·rw [show m=i by omega,hxi]at hx
     cases hx
     exact hlt
   unfold Yf
   rw [gdT (by simp;omega),zy]
   have hlen:w64 ((((l++([[]]:List (List Int))).length:Nat):Int) - 1)=((l.length:Nat):Int):=by
    rw [List.length_append,List.length_singleton,zT (by omega) (by omega)];omega
   rw [hlen]
   refine Ret.mono (zW (fun q:List (List Int)×Int=>∃(j:Nat) (x:List Int),q=(l.take j++x::l.drop j,(j:Int))/\i<=j/\j<=l.length) (fun q=>q.2.toNat) (R:=fun t=>∃x:List Int,t=l.take i++x::l.drop i) ⟨l.length,[],by simp,h1,Nat.le_refl _⟩ (by simp only [Int.toNat_natCast];omega) ?_) ?_
   ·rintro _ ⟨j,x,rfl,g1,g2⟩
    show Ret (W1 (i:Int) (l.take j++x::l.drop j) (j:Int)) _
    unfold W1
    rw [zF]
    refine⟨fun hc=>?_,fun hc=>?_⟩
    ·have hij:i<j:=by simpa using hc
     have hA:(l.take j).length=j:=by rw [List.length_take];omega
     have hy:(l.take j++x::l.drop j)[j - 1]?=some l[j - 1]:=by
      rw [List.getElem?_append_left (by omega),List.getElem?_take,if_pos (by omega)];exact List.getElem?_eq_getElem (by omega)
     have hz:(l.take j++x::l.drop j)[j]?=some x:=by
      rw [List.getElem?_append_right (by omega),hA];simp
     rw [zT (by omega) (by omega),show(j:Int) - 1=((j - 1:Nat):Int) by omega,zN hy,zN hz]
     simp only [Option.bind_some,zg,Int.toNat_natCast]
     refine⟨⟨j - 1,l[j - 1],?_,by omega,by omega⟩,by simp only [Int.toNat_natCast];omega⟩
     rw [List.set_append_right _ _ (by omega),hA,Nat.sub_self,List.set_cons_zero]
     have e1:l.take j=l.take (j - 1)++[l[j - 1]]:=by
      have:=List.take_add_one (l:=l) (i:=j - 1)
      rw [show j - 1+1=j by omega,List.getElem?_eq_getElem (by omega)]at this
      exact this
     have e2:l.drop (j - 1)=l[j - 1]::l.drop j:=by
      rw [List.drop_eq_getElem_cons (by omega),show j - 1+1=j by omega]
     rw [e2,e1,List.append_assoc]
     rfl
    ·have hij:j=i:=by
      have:¬i<j:=by simpa using hc
      omega
     subst hij
     rw [zg]
     exact⟨x,rfl⟩
   ·rintro _ ⟨x,rfl⟩
    unfold UL
    have hA:(l.take i).length=i:=by rw [List.length_take];omega
    have hz:(l.take i++x::l.drop i)[i]?=some x:=by
     rw [List.getElem?_append_right (by omega),hA];simp
    rw [gdT (by simpa using hww),zN hz]
    simp only [Option.bind_some,zg,Int.toNat_natCast]
    rw [List.set_append_right _ _ (by omega),hA,Nat.sub_self,List.set_cons_zero]
    exact zcL hs h1 h2 h4
  unfold UM
  rw [zF]
  refine⟨fun hc=>?_,fun hc=>?_⟩
  ·have hi:i<l.length:=by simpa using hc
   have hx:l[i]?=some l[i]:=List.getElem?_eq_getElem hi
   rw [zN hx]
   simp only [Option.bind_some]
   rw [z5C _ _ (fun _=>hw _ (List.getElem_mem hi))]
   simp only [Option.bind_some]
   by_cases he:l[i]=w
   ·have hb:(Vd l[i] w==0)=true:=by rw [he,z1P];rfl
    rw [hb,cond_true,zg]
    refine SW.unique hs hs.put fun x=>?_
    rw [z1H]
    refine⟨fun q=>.inr q,fun q=>?_⟩
    rcases q with rfl|q
    ·exact he ▸ List.getElem_mem hi
    ·exact q
   ·have hb:(Vd l[i] w==0)=false:=by simp;exact fun q=>he (z7X q)
    rw [hb,cond_false]
    exact J2 fun x hx2=>by rw [hx]at hx2;cases hx2;exact he
  ·have hi:¬i<l.length:=by simpa using hc
   exact J2 fun x hx2=>by have:=(List.getElem?_eq_some_iff.1 hx2).1;omega
theorem zaU (hl:l.length<=1000000)(hw:∀x∈l,x.length<=4294967296):V9 l=some (srt l):=by
 unfold V9
 have h:=XR (step:=fun s=>vM l s.1 s.2) (fun i=>(srt (l.take i),(i:Int))) l.length (t:=srt l) (by omega) (by
  intro i hi
  show vM l _ (i:Int)=_
  unfold vM
  have hq:decide ((i:Int)<(l.length:Int))=true:=by simpa using hi
  have hx:l[i]?=some l[i]:=List.getElem?_eq_getElem hi
  simp only [hq,cond_true,zN hx,Option.bind_some]
  have hlen:(srt (l.take i)).length<=1000000:=by have:=z9N (l.take i);rw [List.length_take]at this;omega
  rw [zkg (zcg _) hlen (fun x hx=>by have:=hw x (List.mem_of_mem_take (za8.1 hx));omega) (hw _ (List.getElem_mem hi))]
  simp only [Option.bind_some]
  rw [zT (by omega) (by omega),<-zeS,List.take_add_one,hx]
  rfl) (by
  show vM l _ (l.length:Int)=_
  unfold vM
  simp)
 have h0:(srt (l.take 0),((0:Nat):Int))=(([]:List (List Int)),(0:Int)):=by simp [srt]
 rw [h0]at h
 rw [bdT h]
 rfl
theorem z4u (a b:List (List Int))(hl:a.length<4611686018427387904)(hw:∀x∈a,x.length<4611686018427387904):Yg a b=some (decide (a=b)):=by
 unfold Yg
 by_cases he:a.length=b.length
 ·have hb:(((a.length:Nat):Int) !=((b.length:Nat):Int))=false:=by simp;omega
  simp only [hb,cond_false]
  rw [bdT (uE a hl (step:=fun s=>kX a b s) (fun i x=>if b[i]?=some x then none else some false) ?_ ?_)]
  ·cases hf:xc (fun i x=>if b[i]?=some x then none else some false) a 0 with
   | some r=>
    obtain⟨i,x,h1,h2⟩:=qj hf
    rw [Nat.zero_add]at h2
    split at h2
    ·cases h2
    ·rename_i h3
     have:a≠b:=fun e=>h3 (by rw [<-e];exact h1)
     cases h2
     simp [oS,this]
   | none=>
    have hab:a=b:=by
     refine List.ext_getElem? fun i=>?_
     rcases Nat.lt_or_ge i a.length with q|q
     ·have hx:a[i]?=some a[i]:=List.getElem?_eq_getElem q
      have:=qm hf i _ hx
      rw [Nat.zero_add]at this
      split at this
      ·rename_i h3;rw [h3,hx]
      ·cases this
     ·rw [List.getElem?_eq_none q,List.getElem?_eq_none (by omega)]
    simp [oS,WT,hab]
  ·intro i x hx
   have hi:i<a.length:=(List.getElem?_eq_some_iff.1 hx).1
   have hq:decide ((i:Int)<(a.length:Int))=true:=by simpa using hi
   have hy:b[i]?=some b[i]:=List.getElem?_eq_getElem (by omega)
   have hxm:x∈a:=(List.getElem?_eq_some_iff.1 hx).2 ▸ List.getElem_mem hi
   unfold kX
   simp only [hq,cond_true,zN hx,zN hy,Option.bind_some,z5C x b[i] (fun _=>hw x hxm),hy]
   by_cases h:b[i]=x
   ·rw [if_pos (by rw [h]),h,z1P];rfl
   ·have:(Vd x b[i] != 0)=true:=by simp;exact fun q=>h (z7X q).symm
    rw [this,if_neg (by simpa using h)]
    rfl
  ·unfold kX;simp
 ·have hb:(((a.length:Nat):Int) !=((b.length:Nat):Int))=true:=by simp;omega
  have:a≠b:=fun e=>he (by rw [e])
  simp [hb,this]
theorem zcb {m:Nat}{L:Nat}(hl:l.length<=L)(h:∀w∈l,w.length<=m):z67 l<=L*m:=Nat.le_trans (zcc h) (Nat.mul_le_mul_right _ hl)
theorem zg0 (h:chE n l=0):l.length<=4096/\(∀w∈l,w.length<=256)/\z67 l<=65536/\SW l/\(1<=n/\n<=16)/\∀w∈l,∀c∈w,0<=c/\c<n:=by
 obtain⟨h1,h2,h3⟩:=zbl.1 h
 obtain⟨q1,q2,_⟩:=z92 h1
 obtain⟨r1,_,r3⟩:=z7N.1 h1
 exact⟨q1,q2,h3,h2,r1,fun w hw=>(r3 w hw).2⟩
def Wq (n:Int)(L k:Nat)(l:List (List Int)):Prop:=SW l/\l.length<=L/\∀w∈l,w.length<=k/\∀c∈w,0<=c/\c<n
theorem Wq.ch {L k:Nat}  (h:Wq n L k l)(hn:1<=n/\n<=16)(hL:L<=4096)(hk:k<=256)(hLk:L*k<=65536):chE n l=0:=by
 obtain⟨h1,h2,h3⟩:=h
 refine zbl.2 ⟨z7N.2 ⟨hn,by omega,fun w hw=>⟨by have:=(h3 w hw).1;omega,(h3 w hw).2⟩⟩,h1,?_⟩
 exact Nat.le_trans (zcb h2 fun w hw=>(h3 w hw).1) hLk
theorem zgf {x:yU}(h:0<=x.Inputs/\x.Inputs<=255):∃n:Int,wB x=some n/\1<=n/\n<=3:=by
 unfold wB
 rw [gdT (by omega)]
 have e:Int.tmod x.Inputs 3=x.Inputs % 3:=Int.tmod_eq_emod_of_nonneg h.1
 refine⟨_,rfl,?_,?_⟩
 ·rw [e,zT (x:=x.Inputs % 3) (by omega) (by omega),zT (by omega) (by omega)];omega
 ·rw [e,zT (x:=x.Inputs % 3) (by omega) (by omega),zT (by omega) (by omega)];omega
theorem zfg {x:yU}  (hn:wB x=some n)(h1:1<=n/\n<=3)(hw:∀w∈x.Words,∀c∈w,0<=c/\c<=255)  (hi:i<x.Words.length) :
  Ret (loop (fun s=>qO x (i:Int) s.1 s.2) (([]:List Int),0)) fun w=>w.length<=12/\∀c∈w,0<=c/\c<n:=by
 refine zW (fun q=>∃k:Nat,q.2=(k:Int)/\q.1.length=k/\k<=12/\∀c∈q.1,0<=c/\c<n) (fun q=>12 - q.2.toNat) ⟨0,rfl,rfl,by omega,by simp⟩ (by show 12 - _<_;omega) ?_
 rintro⟨w,_⟩ ⟨k,rfl,g1,g2,g3⟩
 simp only at g1 g3
 show Ret (qO x (i:Int) w (k:Int)) _
 unfold qO
 have hx:x.Words[i]?=some x.Words[i]:=List.getElem?_eq_getElem hi
 rw [zN hx,Option.bind_some,zF]
 have fin:w.length<=12/\∀c∈w,0<=c/\c<n:=⟨by omega,g3⟩
 refine⟨fun hc=>?_,fun hc=>zg.2 fin⟩
 rw [zF]
 refine⟨fun hc2=>?_,fun hc2=>zg.2 fin⟩
 have hk:k<x.Words[i].length:=by simpa using hc
 have hk2:k<12:=by simp only [decide_eq_true_eq]at hc2;omega
 have hy:(x.Words[i])[k]?=some (x.Words[i])[k]:=List.getElem?_eq_getElem hk
 obtain⟨b1,b2⟩:=hw _ (List.getElem_mem hi) _ (List.getElem_mem hk)
 rw [Option.bind_some,zN hy,Option.bind_some,hn,Option.bind_some,gdT (by omega),gdT (by simp;omega),zT (x:=(k:Int)+1) (by omega) (by omega),zg]
 refine⟨⟨k+1,rfl,by simp [g1],by omega,fun c hc=>?_⟩,by simp only;omega⟩
 rcases List.mem_append.1 hc with q|q
 ·exact g3 c q
 ·simp at q
  subst q
  rw [zT (by omega) (by omega),Int.tmod_eq_emod_of_nonneg b1]
  exact⟨Int.emod_nonneg _ (by omega),Int.emod_lt_of_pos _ (by omega)⟩
theorem zi9 {x:yU}  (hn:wB x=some n)(h1:1<=n/\n<=3)(hw:∀w∈x.Words,∀c∈w,0<=c/\c<=255):Ret (Qu x) (Wq n 40 12):=by
 have hraw:Ret (VO x) fun r=>r.length<=40/\∀w∈r,w.length<=12/\∀c∈w,0<=c/\c<n:=by
  unfold VO
  rw [zy]
  refine Ret.mono (zW (fun q=>∃k:Nat,q.2=(k:Int)/\q.1.length=k/\k<=40/\∀w∈q.1,w.length<=12/\∀c∈w,0<=c/\c<n) (fun q=>40 - q.2.toNat) (R:=fun r:List (List Int)=>r.length<=40/\∀w∈r,w.length<=12/\∀c∈w,0<=c/\c<n) ⟨0,rfl,rfl,by omega,by simp⟩ (by show 40 - _<_;omega) ?_) fun r hr=>zg.2 hr
  rintro⟨out,_⟩ ⟨k,rfl,g1,g2,g3⟩
  simp only at g1 g3
  show Ret (ZF x out (k:Int)) _
  unfold ZF
  have fin:out.length<=40/\∀w∈out,w.length<=12/\∀c∈w,0<=c/\c<n:=⟨by omega,g3⟩
  rw [zF]
  refine⟨fun hc=>?_,fun hc=>zg.2 fin⟩
  rw [zF]
  refine⟨fun hc2=>?_,fun hc2=>zg.2 fin⟩
  have hk:k<x.Words.length:=by simpa using hc
  have hk2:k<40:=by simp only [decide_eq_true_eq]at hc2;omega
  rw [zy]
  refine(zfg hn h1 hw hk).mono fun w hww=>?_
  unfold XS XT
  rw [gdT (by simp;omega),zT (by omega) (by omega),zg]
  refine⟨⟨k+1,rfl,by simp [g1],by omega,fun v hv=>?_⟩,by simp only;omega⟩
  rcases List.mem_append.1 hv with q|q
  ·exact g3 v q
  ·simp at q
   subst q
   exact hww
 unfold Qu
 rw [zy]
 refine hraw.mono fun r hr=>?_
 rw [zaU (by omega) (fun w hw=>by have:=(hr.2 w hw).1;omega),Option.bind_some,zg]
 exact⟨zcg _,Nat.le_trans (z9N _) hr.1,fun w hw=>hr.2 w (za8.1 hw)⟩
theorem z7q (h:i<9223372036854775807):w64 ((i:Int)+1)=((i+1:Nat):Int):=by rw [zT (by omega) (by omega)];rfl
def un (x:List Bool):Nat:=x.countP fun b=>!b
theorem zjf {x:List Bool}{s:Nat}(h:x[s]?=some false):un (x.set s true)<un x:=by
 induction x generalizing s with
 | nil=>simp at h
 | cons b x ih=>
  cases s with
  | zero=>simp at h;subst h;simp [un]
  | succ s=>
   have:=ih (s:=s) (by simpa using h)
   unfold un at *
   rw [List.set_cons_succ,List.countP_cons,List.countP_cons]
   omega
theorem zjg:∀{x y:List Bool},y.length=x.length->(∀t:Nat,x[t]?=some true->y[t]?=some true)->un y<=un x
 | [],[],_,_=>Nat.le_refl _
 | a::x,b::y,hl,h=>by
  have ih:=zjg (x:=x) (y:=y) (by simpa using hl) fun t ht=>by simpa using h (t+1) (by simpa using ht)
  have h0:=h 0
  unfold un at *
  rw [List.countP_cons,List.countP_cons]
  cases a <;> cases b <;> simp at h0 ⊢ <;> omega
 | [],_::_,hl,_=>by simp at hl
 | _::_,[],hl,_=>by simp at hl
structure Dfs (m:z6)(P:Nat->Prop)(x y:List Bool):Prop where
 len:y.length=x.length
 mono:∀t:Nat,x[t]?=some true->y[t]?=some true
 new:∀t:Nat,y[t]?=some true->x[t]?=some true\/P t/\∀i,i<kk m->0<=(E m t i).To->y[(E m t i).To.toNat]?=some true
variable {P:Nat->Prop}
theorem Dfs.refl (x:List Bool):Dfs m P x x:=⟨rfl,fun _ h=>h,fun _ h=>.inl h⟩
theorem Dfs.trans {x y z:List Bool}(h:Dfs m P x y)(k:Dfs m P y z):Dfs m P x z:={
 len:=k.len.trans h.len
 mono:=fun t q=>k.mono t (h.mono t q)
 new:=fun t q=>by
  rcases k.new t q with g|g
  ·rcases h.new t g with r|⟨r1,r2⟩
   ·exact .inl r
   ·exact .inr ⟨r1,fun i hi h0=>k.mono _ (r2 i hi h0)⟩
  ·exact .inr g }
section
variable {m:z6}(h:VM m)
include h
theorem zdD (hP:∀t i,P t->t<m.Rows.length->i<kk m->0<=(E m t i).To->P (E m t i).To.toNat):∀(fu:Nat) (x:List Bool),x.length=m.Rows.length->un x<fu->∀s:Int,z8g m s->(0<=s->P s.toNat) ->
  ∃y,yc fu s x m=some (y,m)/\Dfs m P x y/\(0<=s->y[s.toNat]?=some true)
 | 0,x,_,hu,_,_,_=>by omega
 | fu+1,x,hx,hu,s,hs,hPs=>by
  have hk:=h.kk_le
  show ∃y,xR (yc fu) s x m=some (y,m)/\_
  unfold xR
  by_cases h1:s=-1
  ·have:(s == -1)=true:=by simpa using h1
   rw [this,cond_true]
   exact⟨x,rfl,Dfs.refl x,fun q=>by omega⟩
  ·have e1:(s == -1)=false:=by simpa using h1
   obtain⟨n,rfl⟩:∃n:Nat,s=n:=⟨s.toNat,by have:=hs.1;omega⟩
   have hn:n<m.Rows.length:=by have:=hs.2;omega
   have hxn:x[n]?=some x[n]:=List.getElem?_eq_getElem (by omega)
   rw [e1,cond_false,zN hxn,Option.bind_some]
   by_cases hb:x[n]=true
   ·rw [hb,cond_true]
    exact⟨x,rfl,Dfs.refl x,fun _=>by simp only [Int.toNat_natCast];rw [hxn,hb]⟩
   ·have hb:x[n]=false:=by simpa using hb
    obtain⟨r,hr,hrl,hre⟩:=h.rowAt hn
    rw [hb,cond_false,Option.bind_some,zN hr,Option.bind_some]
    simp only [Int.toNat_natCast]
    rw [hb]at hxn
    have hu1:=zjf hxn
    have hxl:(x.set n true).length=m.Rows.length:=by simpa using hx
    have run:Ret (loop (fun s=>yM (yc fu) r s.1 s.2.1 s.2.2.1 s.2.2.2.1 s.2.2.2.2) (x.set n true,m.Inputs,m.Outputs,m.Rows,0)) fun q=>q.2=m/\Dfs m P (x.set n true) q.1/\∀j,j<kk m->0<=(E m n j).To->q.1[(E m n j).To.toNat]?=some true:=by
     refine zW (fun q=>∃i:Nat,q.2=(m.Inputs,m.Outputs,m.Rows,(i:Int))/\i<=kk m/\Dfs m P (x.set n true) q.1/\∀j,j<i->0<=(E m n j).To->q.1[(E m n j).To.toNat]?=some true) (fun q=>100 - q.2.2.2.2.toNat) ⟨0,rfl,Nat.zero_le _,Dfs.refl _,fun j hj=>by omega⟩ (by show 100 - _<_;omega) ?_
     rintro⟨q,_⟩ ⟨i,rfl,hi,hd,hall⟩
     simp only at hd hall
     show Ret (yM (yc fu) r q m.Inputs m.Outputs m.Rows (i:Int)) _
     unfold yM
     rw [zF]
     refine⟨fun hc=>?_,fun hc=>?_⟩
     ·have hlt:i<kk m:=by simp at hc;omega
      rw [zN (hre i hlt),Option.bind_some]
      have hst:z8g m (E m n i).To:=by
       rcases h.edgeAt hn hlt with⟨g,_⟩|⟨g1,g2,_⟩
       ·exact⟨by omega,by have:=h.len1;omega⟩
       ·exact⟨by omega,g2⟩
      have hPn:P n:=by simpa using hPs (by omega)
      obtain⟨y,y1,y2,y3⟩:=zdD hP fu q (by rw [hd.len];exact hxl) (by have:=zjg hd.len hd.mono;omega) (E m n i).To hst (fun h0=>hP n i hPn hn hlt h0)
      have y1':yc fu (E m n i).To q (z6.mk m.Inputs m.Outputs m.Rows)=some (y,m):=y1
      rw [y1',Option.bind_some,zg,z7q (by omega)]
      refine⟨⟨i+1,rfl,hlt,hd.trans y2,fun j hj h0=>?_⟩,by simp only;omega⟩
      by_cases e:j=i
      ·subst e;exact y3 h0
      ·exact y2.mono _ (hall j (by omega) h0)
     ·have:i=kk m:=by simp at hc;omega
      subst this
      rw [zg]
      exact⟨rfl,hd,hall⟩
    obtain⟨⟨y,m'⟩,e,hm,hd,hall⟩:=run
    simp only at hm hd hall
    subst hm
    rw [e]
    refine⟨y,rfl,?_,fun _=>hd.mono _ ((z3C (by omega)).2 (.inl rfl))⟩
    refine⟨by rw [hd.len];simp,fun t ht=>hd.mono t ((z3C (by omega)).2 (.inr ht)),fun t ht=>?_⟩
    rcases hd.new t ht with g|g
    ·rcases(z3C (by omega)).1 g with rfl|g
     ·exact .inr ⟨by simpa using hPs (by omega),hall⟩
     ·exact .inl g
    ·exact .inr g
omit h in
theorem z6v (l:List Bool)(hl:l.length<4611686018427387904):xm l false=some (!(l.all id)):=by
 unfold xm vq
 have hfs:∀(l:List Bool) (k:Nat),(xc (fun i x=>if x=true then none else some ((i:Nat):Int)) l k=none/\l.all id=true)\/∃i:Nat,xc (fun i x=>if x=true then none else some ((i:Nat):Int)) l k=some (i:Int)/\l.all id=false:=by
  intro l
  induction l with
  | nil=>intro k;exact .inl ⟨rfl,rfl⟩
  | cons x l ih=>
   intro k
   simp only [xc,List.all_cons]
   cases x with
   | true=>simpa using ih (k+1)
   | false=>exact .inr ⟨k,by simp,by simp⟩
 rw [bdT (uE l hl (step:=fun s=>ym l false s) (fun i x=>if x=true then none else some ((i:Nat):Int)) ?_ ?_)]
 ·rcases hfs l 0 with⟨h1,h2⟩|⟨i,h1,h2⟩
  ·rw [h1,h2];rfl
  ·rw [h1,h2];simp [oS]
 ·intro i x hx
  have hi:=(List.getElem?_eq_some_iff.1 hx).1
  unfold ym
  rw [decide_eq_true (by omega),cond_true,zN hx,Option.bind_some]
  cases x <;> rfl
 ·unfold ym
  rw [decide_eq_false (by omega),cond_false]
theorem z7W:Ret (vR m) fun r=>r.2=0/\(r.1=true↔∀t,t<m.Rows.length->Rch m t):=by
 have l1:=h.len1
 have l64:=h.len64
 unfold vR
 rw [z1Q,z9q h,Option.bind_some,bne_self_eq_false,cond_false,gdT (by omega)]
 have e0:((m.Rows.length:Nat):Int).toNat=m.Rows.length:=by simp
 rw [e0]
 have hun:un (List.replicate m.Rows.length false)<fuel:=by
  have:un (List.replicate m.Rows.length false)<=(List.replicate m.Rows.length false).length:=List.countP_le_length
  rw [List.length_replicate]at this
  show _<18446744073709551616
  omega
 have hP:∀t i,Rch m t->t<m.Rows.length->i<kk m->0<=(E m t i).To->Rch m (E m t i).To.toNat:=fun t i ht _ hi h0=>rch_step ht hi h0
 obtain⟨y,y1,y2,y3⟩:=zdD h hP fuel (List.replicate m.Rows.length false) (by simp) hun 0 ⟨by omega,by omega⟩ (fun _=>⟨[],by simp [Wd],rfl⟩)
 have hyl:y.length=m.Rows.length:=by rw [y2.len];simp
 have no:∀t:Nat,(List.replicate m.Rows.length false)[t]?≠some true:=fun t q=>by
  rw [List.getElem?_replicate]at q
  split at q <;> cases q
 rw [y1,Option.bind_some,z6v y (by omega),Option.bind_some,zg]
 refine⟨rfl,?_⟩
 rw [Bool.not_not,List.all_eq_true]
 have clo:∀(u:List Nat) (t:Nat),Wd (kk m) u->aft m 0 u=(t:Int)->y[t]?=some true:=by
  intro u
  generalize hlen:u.length=n
  induction n generalizing u with
  | zero=>
   intro t _ e
   rw [List.length_eq_zero_iff.1 hlen]at e
   have:t=0:=by have:(0:Int)=t:=e;omega
   subst this
   exact y3 (by omega)
  | succ n ih=>
   intro t hu e
   have hne:u≠[]:=by intro q;rw [q]at hlen;simp at hlen
   have hsplit:=List.dropLast_concat_getLast hne
   have hu':Wd (kk m) u.dropLast:=fun i hi=>hu i (List.dropLast_subset _ hi)
   have hi:u.getLast hne<kk m:=hu _ (List.getLast_mem hne)
   have h2:=(z1E m u.dropLast 0 (u.getLast hne)).2
   rw [hsplit,e]at h2
   have hin:=z9u h u.dropLast 0 ⟨by omega,by omega⟩ hu'
   by_cases hneg:aft m 0 u.dropLast<0
   ·exfalso
    unfold nxE at h2
    rw [if_pos hneg]at h2
    simp at h2
   ·obtain⟨s,hs⟩:∃s:Nat,aft m 0 u.dropLast=s:=⟨(aft m 0 u.dropLast).toNat,by omega⟩
    have hy:=ih u.dropLast (by simp [hlen]) s hu' hs
    rw [hs,YQ]at h2
    rcases y2.new s hy with g|⟨_,g⟩
    ·exact absurd g (no s)
    ·have:=g _ hi (by omega)
     rw [<-h2]at this
     simpa using this
 constructor
 ·intro q t ht
  have hx:y[t]?=some y[t]:=List.getElem?_eq_getElem (by omega)
  have:=q _ (List.mem_of_getElem? hx)
  rw [show y[t]=true from this]at hx
  rcases y2.new t hx with g|⟨g,_⟩
  ·exact absurd g (no t)
  ·exact g
 ·intro q b hb
  obtain⟨t,ht⟩:=List.mem_iff_getElem?.1 hb
  have htl:=(List.getElem?_eq_some_iff.1 ht).1
  obtain⟨u,hu,e⟩:=q t (by omega)
  have:=clo u t hu e
  rw [ht]at this
  cases this
  rfl
end
def ed (rows:List (List z8))(s i:Nat):z8:=((rows[s]?.getD [])[i]?).getD ⟨-1,-1⟩
structure TM (n k o:Nat)(rows:List (List z8)):Prop where
 len:rows.length=n
 row:∀(s:Nat) (r:List z8),rows[s]?=some r->r.length=k
 edge:∀s i,s<n->i<k->-1<=(ed rows s i).To/\(ed rows s i).To<(n:Int)/\0<=(ed rows s i).Out/\(ed rows s i).Out<(o:Int)
variable {r:List z8}
section
variable {n k o:Nat}{rows:List (List z8)}
theorem TM.rowAt (h:TM n k o rows)  (hs:s<n):∃r,rows[s]?=some r/\r.length=k/\∀i,i<k->r[i]?=some (ed rows s i):=by
 have hsl:s<rows.length:=by rw [h.len];exact hs
 have hr:rows[s]?=some rows[s]:=List.getElem?_eq_getElem hsl
 have hl:=h.row s _ hr
 refine⟨_,hr,hl,fun i hi=>?_⟩
 unfold ed
 rw [hr,Option.getD_some,List.getElem?_eq_getElem (by omega),Option.getD_some]
theorem TM.upd (h:TM n k o rows){s i:Nat}(hs:s<n)(hi:i<k)  (hr:rows[s]?=some r){t:Int}(t0:-1<=t)(t1:t<(n:Int)) :
  TM n k o (rows.set s (r.set i ⟨t,(ed rows s i).Out⟩))/\∀s' i',ed (rows.set s (r.set i ⟨t,(ed rows s i).Out⟩)) s' i'=if s'=s/\i'=i then⟨t,(ed rows s i).Out⟩ else ed rows s' i':=by
 have hsl:s<rows.length:=by rw [h.len];exact hs
 have hrl:=h.row s r hr
 have q2:=h.edge s i hs hi
 generalize (ed rows s i).Out=oo at q2 ⊢
 have key:∀s' i',ed (rows.set s (r.set i ⟨t,oo⟩)) s' i'=if s'=s/\i'=i then⟨t,oo⟩ else ed rows s' i':=by
  intro s' i'
  by_cases e:s'=s
  ·subst e
   conv=>lhs;unfold ed
   rw [List.getElem?_set_self hsl,Option.getD_some]
   by_cases e2:i'=i
   ·subst e2
    rw [List.getElem?_set_self (by omega),if_pos ⟨rfl,rfl⟩,Option.getD_some]
   ·rw [List.getElem?_set_ne (fun q=>e2 q.symm),if_neg (fun q=>e2 q.2)]
    unfold ed
    rw [hr,Option.getD_some]
  ·conv=>lhs;unfold ed
   rw [List.getElem?_set_ne (fun q=>e q.symm),if_neg (fun q=>e q.1)]
   rfl
 refine⟨⟨by rw [List.length_set];exact h.len,fun s' r' hr'=>?_,fun s' i' hs' hi'=>?_⟩,key⟩
 ·rw [List.getElem?_set]at hr'
  split at hr'
  ·cases hr';rw [List.length_set];exact hrl
  ·exact h.row s' r' hr'
 ·rw [key]
  have q:=h.edge s' i' hs' hi'
  split
  ·rename_i e
   exact⟨t0,t1,q2.2.2.1,q2.2.2.2⟩
  ·exact q
theorem TM.idx2 (h:TM n k o rows){s i:Nat}(hs:s<n)(hi:i<k):∃r,rows[s]?=some r/\r.length=k/\r[i]?=some (ed rows s i):=by
 obtain⟨r,h1,h2,h3⟩:=h.rowAt hs
 exact⟨r,h1,h2,h3 i hi⟩
end
theorem z6O (l:List Int)(hl:∀v∈l,0<=v/\v<=65535){q:Int}(hq:0<=q):Ret (Yj l q) fun v=>0<=v/\v<=65535:=by
 unfold Yj
 rw [zF]
 refine⟨fun hc=>?_,fun _=>zg.2 (by omega)⟩
 have hc:q<((l.length:Nat):Int):=of_decide_eq_true hc
 have hx:l[q.toNat]?=some l[q.toNat]:=List.getElem?_eq_getElem (by omega)
 rw [zy,z9W]
 have:=hl _ (List.mem_of_getElem? hx)
 exact⟨hq,_,hx,zg.2 (by rw [zT (by omega) (by omega)];exact this)⟩
structure zn3 (x:zC):Prop where
 s0:0<=x.States
 i0:0<=x.Inputs
 o0:0<=x.Outputs
 t0:∀v∈x.Tree,0<=v/\v<=255
 e0:∀v∈x.Edges,0<=v/\v<=65535
variable {rows:List (List z8)}
section
variable {x:zC}(h:zn3 x){n k o:Nat}(hn:w64 (1+w64 (Int.tmod x.States 6))=(n:Int))(hk:w64 (1+w64 (Int.tmod x.Inputs 3))=(k:Int))(ho:w64 (1+w64 (Int.tmod x.Outputs 3))=(o:Int))
 (n1:1<=n/\n<=6) (k1:1<=k/\k<=3) (o1:1<=o/\o<=3)
include h hn hk ho n1 k1 o1
theorem zf8 (hs:s<n):Ret (loop (fun st=>qP x (s:Int) st.1 st.2) (([]:List z8),0)) fun r=>r.length=k/\∀e∈r,e.To=-1/\0<=e.Out/\e.Out<(o:Int):=by
 refine zW (fun st=>∃i:Nat,st.2=(i:Int)/\i<=k/\st.1.length=i/\∀e∈st.1,e.To=-1/\0<=e.Out/\e.Out<(o:Int)) (fun st=>10 - st.2.toNat) ⟨0,rfl,by omega,rfl,by simp⟩ (by show 10 - _<_;omega) ?_
 rintro⟨row,_⟩ ⟨i,rfl,h1,h2,h3⟩
 simp only at h2 h3
 show Ret (qP x (s:Int) row (i:Int)) _
 unfold qP
 rw [hk,hn,ho,zF]
 have hsk:s*k<=5*3:=Nat.mul_le_mul (by omega) (by omega)
 have w1:w64 ((s:Int)*(k:Int))=((s*k:Nat):Int):=by rw [zT (by rw [<-Int.natCast_mul];omega) (by rw [<-Int.natCast_mul];omega)];exact(Int.natCast_mul s k).symm
 refine⟨fun hc=>?_,fun hc=>zg.2 ⟨by have:=of_decide_eq_false hc;omega,h3⟩⟩
 have hc:(i:Int)<(k:Int):=of_decide_eq_true hc
 rw [w1,zT (x:=((s*k:Nat):Int)+(i:Int)) (by omega) (by omega),zy]
 refine(z6O x.Edges h.e0 (q:=((s*k:Nat):Int)+(i:Int)) (by omega)).mono fun v hv=>?_
 have d0:0<=Int.tdiv v n/\Int.tdiv v n<=v:=by
  rw [Int.tdiv_eq_ediv_of_nonneg hv.1]
  exact⟨Int.ediv_nonneg hv.1 (by omega),Int.ediv_le_self _ hv.1⟩
 rw [gdT (by omega),gdT (by omega),gdT (by simp;omega),zg,zT (x:=Int.tdiv v n) (by omega) (by omega),zT (x:=(i:Int)+1) (by omega) (by omega)]
 refine⟨⟨i+1,rfl,by omega,by simp [h2],fun e he=>?_⟩,by simp only;omega⟩
 rcases List.mem_append.1 he with q|q
 ·exact h3 e q
 ·simp only [List.mem_cons,List.not_mem_nil,or_false]at q
  subst q
  exact⟨rfl,Int.tmod_nonneg _ d0.1,Int.tmod_lt_of_pos _ (by omega)⟩
theorem zcD:Ret (loop (fun st=>qQ x st.1 st.2) (([]:List (List z8)),0)) fun rows=>TM n k o rows/\∀s i,s<n->i<k->(ed rows s i).To=-1:=by
 refine zW (fun st=>∃s:Nat,st.2=(s:Int)/\s<=n/\st.1.length=s/\∀r∈st.1,r.length=k/\∀e∈r,e.To=-1/\0<=e.Out/\e.Out<(o:Int)) (fun st=>10 - st.2.toNat) ⟨0,rfl,by omega,rfl,by simp⟩ (by show 10 - _<_;omega) ?_
 rintro⟨rows,_⟩ ⟨s,rfl,h1,h2,h3⟩
 simp only at h2 h3
 show Ret (qQ x rows (s:Int)) _
 unfold qQ
 rw [hn,zF]
 refine⟨fun hc=>?_,fun hc=>?_⟩
 ·have hc:(s:Int)<(n:Int):=of_decide_eq_true hc
  rw [zy]
  refine(zf8 h hn hk ho n1 k1 o1 (s:=s) (by omega)).mono fun r hr=>?_
  unfold XU XV
  rw [gdT (by simp;omega),zg,zT (x:=(s:Int)+1) (by omega) (by omega)]
  refine⟨⟨s+1,rfl,by omega,by simp [h2],fun r' hr'=>?_⟩,by simp only;omega⟩
  rcases List.mem_append.1 hr' with q|q
  ·exact h3 r' q
  ·simp only [List.mem_cons,List.not_mem_nil,or_false]at q
   subst q
   exact hr
 ·have hsn:s=n:=by have:=of_decide_eq_false hc;omega
  have all:∀s i,s<n->i<k->(ed rows s i).To=-1/\0<=(ed rows s i).Out/\(ed rows s i).Out<(o:Int):=by
   intro t i ht hi
   have hr:rows[t]?=some rows[t]:=List.getElem?_eq_getElem (by omega)
   obtain⟨g1,g2⟩:=h3 _ (List.getElem_mem (by omega:t<rows.length))
   have hx:(rows[t])[i]?=some (rows[t])[i]:=List.getElem?_eq_getElem (by omega)
   unfold ed
   rw [hr,Option.getD_some,hx,Option.getD_some]
   exact g2 _ (List.getElem_mem _)
  refine zg.2 ⟨⟨by omega,fun t r hr=>(h3 r (List.mem_of_getElem? hr)).1,fun t i ht hi=>?_⟩,fun t i ht hi=>(all t i ht hi).1⟩
  obtain⟨a,b,c⟩:=all t i ht hi
  omega
omit h hn hk ho n1 k1 o1 in
theorem zck:∀a:Nat,a<=100->w64 (a:Int)=(a:Int):=fun a ha=>zT (by omega) (by omega)
omit h hn hk ho n1 o1 in
theorem zgO {c s:Nat}(hc:c<s*k):c / k<s/\c % k<k/\Int.tdiv (c:Int) (k:Int)=((c / k:Nat):Int)/\Int.tmod (c:Int) (k:Int)=((c % k:Nat):Int) :=
 ⟨Nat.div_lt_of_lt_mul (by rw [Nat.mul_comm];exact hc),Nat.mod_lt _ (by omega),by rw [Int.tdiv_eq_ediv_of_nonneg (by omega)];rfl,by rw [Int.tmod_eq_emod_of_nonneg (by omega)];rfl⟩
omit h hn ho o1 in
theorem zfN (hT:TM n k o rows){s:Nat}(s1:1<=s)(sn:s<n)(hfree:∀i,i<k->(ed rows (s - 1) i).To=-1) :
  Ret (loop (fun st=>qR x rows (s:Int) st.1 st.2) (([]:List Int),0)) fun fr=>fr≠[]/\fr.length<=100/\∀c∈fr,∃q:Nat,c=(q:Int)/\q<s*k/\(ed rows (q / k) (q % k)).To<0:=by
 have hsk:s*k<=5*3:=Nat.mul_le_mul (by omega) (by omega)
 refine zW (fun st=>∃q:Nat,st.2=(q:Int)/\q<=s*k/\st.1.length<=q/\((s - 1)*k<q->st.1≠[])/\∀c∈st.1,∃q:Nat,c=(q:Int)/\q<s*k/\(ed rows (q / k) (q % k)).To<0) (fun st=>20 - st.2.toNat) ⟨0,rfl,by omega,by simp,by omega,by simp⟩ (by show 20 - _<_;omega) ?_
 rintro⟨fr,_⟩ ⟨q,rfl,h1,h2,h3,h4⟩
 simp only at h2 h3 h4
 show Ret (qR x rows (s:Int) fr (q:Int)) _
 unfold qR
 have w1:w64 ((s:Int)*(k:Int))=((s*k:Nat):Int):=by rw [zT (by rw [<-Int.natCast_mul];omega) (by rw [<-Int.natCast_mul];omega)];exact(Int.natCast_mul s k).symm
 rw [hk,w1,zF]
 refine⟨fun hc=>?_,fun hc=>?_⟩
 ·have hc:((q:Nat):Int)<((s*k:Nat):Int):=of_decide_eq_true hc
  have hqs:q<s*k:=by omega
  obtain⟨d1,d2,d3,d4⟩:=zgO k1 hqs
  obtain⟨r,r1,r2,r3⟩:=hT.idx2 (s:=q / k) (i:=q % k) (by omega) d2
  rw [gdT (by omega),d3,zck (q / k) (by omega),bdT (zN r1),gdT (by omega),d4,bdT (zN r3),zF]
  have w2:w64 ((q:Int)+1)=((q+1:Nat):Int):=by rw [zT (by omega) (by omega)];rfl
  unfold ZG
  refine⟨fun ht=>?_,fun ht=>?_⟩
  ·have ht:(ed rows (q / k) (q % k)).To<0:=of_decide_eq_true ht
   rw [gdT (by simp;omega),zg,w2]
   refine⟨⟨q+1,rfl,by omega,by simp;omega,fun _=>by simp,fun c hc=>?_⟩,by simp only [Int.toNat_natCast];omega⟩
   rcases List.mem_append.1 hc with g|g
   ·exact h4 c g
   ·simp only [List.mem_cons,List.not_mem_nil,or_false]at g
    exact⟨q,g,hqs,ht⟩
  ·have ht:=of_decide_eq_false ht
   rw [zg,w2]
   refine⟨⟨q+1,rfl,by omega,by simp only;omega,fun hlt=>?_,h4⟩,by simp only [Int.toNat_natCast];omega⟩
   by_cases e:(s - 1)*k<q
   ·exact h3 e
   ·exfalso
    have e2:q=(s - 1)*k:=by omega
    have:q / k=s - 1:=by rw [e2];exact Nat.mul_div_cancel _ (by omega)
    have q2:=hfree (q % k) d2
    rw [this,q2]at ht
    omega
 ·have hc:=of_decide_eq_false hc
  have e:(s - 1)*k<s*k:=Nat.mul_lt_mul_of_pos_right (by omega) (by omega)
  exact zg.2 ⟨h3 (by omega),by omega,h4⟩
structure Tree (s:Nat)(rows:List (List z8)):Prop where
 tm:TM n k o rows
 par:∀t,1<=t->t<s->∃r i,r<t/\i<k/\(ed rows r i).To=(t:Int)
 free:∀r i,s<=r+1->r<n->i<k->(ed rows r i).To=-1
omit h hn ho o1 in
theorem zhY {rows:List (List z8)}{s:Nat}(s1:1<=s)(sn:s<n)(hT:Tree (n:=n) (k:=k) (o:=o) s rows){q:Nat}(hq:q<s*k)(hf:(ed rows (q / k) (q % k)).To<0) :
  ∃rows',u9 x rows (s:Int) (q:Int)=some (.next (rows',((s+1:Nat):Int)))/\Tree (n:=n) (k:=k) (o:=o) (s+1) rows':=by
 have hsk:s*k<=5*3:=Nat.mul_le_mul (by omega) (by omega)
 obtain⟨d1,d2,d3,d4⟩:=zgO k1 hq
 obtain⟨r,r1,r2,r3⟩:=hT.tm.idx2 (s:=q / k) (i:=q % k) (by omega) d2
 obtain⟨u1,u2⟩:=hT.tm.upd (s:=q / k) (i:=q % k) (by omega) d2 r1 (t:=(s:Int)) (by omega) (by omega)
 refine⟨_,?_,u1,fun t t1 t2=>?_,fun r' i g1 g2 g3=>?_⟩
 ·unfold u9 WU
  have w2:w64 ((s:Int)+1)=((s+1:Nat):Int):=by rw [zT (by omega) (by omega)];rfl
  rw [hk,gdT (by omega),d3,zck (q / k) (by omega),bdT (zN r1),gdT (by omega),d4,bdT (zN r3),w2]
  rfl
 ·by_cases e:t=s
  ·subst e
   exact⟨q / k,q % k,d1,d2,by rw [u2,if_pos ⟨rfl,rfl⟩]⟩
  ·obtain⟨r',i,g1,g2,g3⟩:=hT.par t t1 (by omega)
   refine⟨r',i,g1,g2,?_⟩
   rw [u2,if_neg,g3]
   rintro⟨rfl,rfl⟩
   omega
 ·rw [u2,if_neg (by rintro⟨e,_⟩;omega)]
  exact hT.free r' i (by omega) g2 g3
omit ho o1 in
theorem zei (hT:TM n k o rows)(hfree:∀s i,s<n->i<k->(ed rows s i).To=-1):Ret (loop (fun st=>Zd x st.1 st.2) (rows,1)) (Tree (n:=n) (k:=k) (o:=o) n):=by
 refine zW (fun st=>∃s:Nat,st.2=(s:Int)/\1<=s/\s<=n/\Tree (n:=n) (k:=k) (o:=o) s st.1) (fun st=>10 - st.2.toNat) ⟨1,rfl,by omega,by omega,hT,fun t _ _=>by omega,fun r i _=>hfree r i⟩ (by show 10 - _<_;omega) ?_
 rintro⟨rows,_⟩ ⟨s,rfl,s1,sn,hS⟩
 simp only at hS
 show Ret (Zd x rows (s:Int)) _
 unfold Zd
 rw [hn,zF]
 refine⟨fun hc=>?_,fun hc=>?_⟩
 ·have hc:(s:Int)<(n:Int):=of_decide_eq_true hc
  have hsn:s<n:=by omega
  rw [zy]
  refine(zfN hk n1 k1 hS.tm s1 hsn fun i hi=>hS.free (s - 1) i (by omega) (by omega) hi).mono fun fr hfr=>?_
  obtain⟨f1,f2,f3⟩:=hfr
  have flen:0<fr.length:=List.length_pos_iff.2 f1
  have fin:∀c∈fr,Ret (u9 x rows (s:Int) c) (LRP (fun s'=>(∃s:Nat,s'.2=(s:Int)/\1<=s/\s<=n/\Tree (n:=n) (k:=k) (o:=o) s s'.1)/\10 - s'.2.toNat<10 - (s:Int).toNat) (Tree (n:=n) (k:=k) (o:=o) n)):=by
   intro c hc
   obtain⟨q,rfl,q1,q2⟩:=f3 c hc
   obtain⟨rows',e,g⟩:=zhY hk n1 k1 s1 hsn hS q1 q2
   rw [e,zg]
   exact⟨⟨s+1,rfl,by omega,by omega,g⟩,by simp only [Int.toNat_natCast];omega⟩
  unfold XW
  have e0:fr[0]?=some fr[0]:=List.getElem?_eq_getElem flen
  have w3:w64 ((s:Int) - 1)=((s - 1:Nat):Int):=by rw [zT (by omega) (by omega)];omega
  rw [bdT (show idx fr 0=some fr[0] from e0),w3,zF]
  refine⟨fun hc2=>?_,fun _=>fin _ (List.getElem_mem _)⟩
  have hc2:((s - 1:Nat):Int)<((x.Tree.length:Nat):Int):=of_decide_eq_true hc2
  have hx:x.Tree[s - 1]?=some x.Tree[s - 1]:=List.getElem?_eq_getElem (by omega)
  have hv:=h.t0 _ (List.getElem_mem (by omega:s - 1<x.Tree.length))
  rw [bdT (zN hx),gdT (by omega),zT (x:=x.Tree[s - 1]) (by omega) (by omega)]
  have m1:=Int.tmod_nonneg (fr.length:Int) hv.1
  have m2:=Int.tmod_lt_of_pos x.Tree[s - 1] (show(0:Int)<(fr.length:Int) by omega)
  have hy:fr[(Int.tmod x.Tree[s - 1] (fr.length:Int)).toNat]?=some fr[(Int.tmod x.Tree[s - 1] (fr.length:Int)).toNat]:=List.getElem?_eq_getElem (by omega)
  rw [zy,z9W]
  exact⟨m1,_,hy,fin _ (List.getElem_mem _)⟩
 ·have hsn:s=n:=by have:=of_decide_eq_false hc;omega
  subst hsn
  exact zg.2 hS
structure zmS (s i:Nat)(rows:List (List z8)):Prop where
 tm:TM n k o rows
 par:∀t,1<=t->t<n->∃r i,r<t/\i<k/\(ed rows r i).To=(t:Int)
 full:∀r j,r<n->j<k->r<s\/r=s/\j<i->0<=(ed rows r j).To
omit ho o1 in
theorem zag {rows:List (List z8)}  (sn:s<n)(hF:zmS (n:=n) (k:=k) (o:=o) s 0 rows):Ret (loop (fun st=>Ze x (s:Int) st.1 st.2) (rows,0)) (zmS (n:=n) (k:=k) (o:=o) (s+1) 0):=by
 have hsk:s*k<=5*3:=Nat.mul_le_mul (by omega) (by omega)
 refine zW (fun st=>∃i:Nat,st.2=(i:Int)/\i<=k/\zmS (n:=n) (k:=k) (o:=o) s i st.1) (fun st=>10 - st.2.toNat) ⟨0,rfl,by omega,hF⟩ (by show 10 - _<_;omega) ?_
 rintro⟨rows,_⟩ ⟨i,rfl,ik,hS⟩
 simp only at hS
 show Ret (Ze x (s:Int) rows (i:Int)) _
 unfold Ze
 have w1:w64 ((s:Int)*(k:Int))=((s*k:Nat):Int):=by rw [zT (by rw [<-Int.natCast_mul];omega) (by rw [<-Int.natCast_mul];omega)];exact(Int.natCast_mul s k).symm
 rw [hk,hn,w1,zF]
 refine⟨fun hc=>?_,fun hc=>?_⟩
 ·have hc:(i:Int)<(k:Int):=of_decide_eq_true hc
  have hik:i<k:=by omega
  obtain⟨r,r1,r2,r3⟩:=hS.tm.idx2 sn hik
  have w2:w64 ((i:Int)+1)=((i+1:Nat):Int):=by rw [zT (by omega) (by omega)];rfl
  rw [bdT (zN r1),bdT (zN r3),zF]
  unfold YX
  refine⟨fun ht=>?_,fun ht=>?_⟩
  ·have ht:(ed rows s i).To<0:=of_decide_eq_true ht
   rw [bdT (zN r1),zT (x:=((s*k:Nat):Int)+(i:Int)) (by omega) (by omega),zy]
   refine(z6O x.Edges h.e0 (q:=((s*k:Nat):Int)+(i:Int)) (by omega)).mono fun v hv=>?_
   have m1:=Int.tmod_nonneg (n:Int) hv.1
   have m2:=Int.tmod_lt_of_pos v (show(0:Int)<(n:Int) by omega)
   obtain⟨u1,u2⟩:=hS.tm.upd sn hik r1 (t:=Int.tmod v n) (by omega) m2
   rw [gdT (by omega),bdT (zN r3),zg,w2]
   refine⟨⟨i+1,rfl,by omega,u1,fun t t1 t2=>?_,fun r' j g1 g2 g3=>?_⟩,by simp only [Int.toNat_natCast];omega⟩
   ·obtain⟨r',j,g1,g2,g3⟩:=hS.par t t1 t2
    refine⟨r',j,g1,g2,?_⟩
    show(ed (rows.set s (r.set i ⟨Int.tmod v n,(ed rows s i).Out⟩)) r' j).To=_
    rw [u2,if_neg,g3]
    rintro⟨rfl,rfl⟩
    omega
   ·show 0<=(ed (rows.set s (r.set i ⟨Int.tmod v n,(ed rows s i).Out⟩)) r' j).To
    rw [u2]
    split
    ·exact m1
    ·rename_i e
     exact hS.full r' j g1 g2 (by rcases g3 with g3|⟨rfl,g3⟩;exact .inl g3;exact .inr ⟨rfl,by have:¬j=i:=fun q=>e ⟨rfl,q⟩;omega⟩)
  ·have ht:=of_decide_eq_false ht
   rw [zg,w2]
   refine⟨⟨i+1,rfl,by omega,hS.tm,hS.par,fun r' j g1 g2 g3=>?_⟩,by simp only [Int.toNat_natCast];omega⟩
   rcases g3 with g3|⟨rfl,g3⟩
   ·exact hS.full r' j g1 g2 (.inl g3)
   ·by_cases e:j=i
    ·subst e;show 0<=(ed rows r' j).To;omega
    ·exact hS.full r' j g1 g2 (.inr ⟨rfl,by omega⟩)
 ·have hik:i=k:=by have:=of_decide_eq_false hc;omega
  subst hik
  exact zg.2 ⟨hS.tm,hS.par,fun r' j g1 g2 g3=>hS.full r' j g1 g2 (by omega)⟩
omit ho o1 in
theorem zfP {rows:List (List z8)}(hT:Tree (n:=n) (k:=k) (o:=o) n rows):Ret (loop (fun st=>Zf x st.1 st.2) (rows,0)) (zmS (n:=n) (k:=k) (o:=o) n 0):=by
 refine zW (fun st=>∃s:Nat,st.2=(s:Int)/\s<=n/\zmS (n:=n) (k:=k) (o:=o) s 0 st.1) (fun st=>10 - st.2.toNat) ⟨0,rfl,by omega,hT.tm,hT.par,fun r j _ _ g=>by omega⟩ (by show 10 - _<_;omega) ?_
 rintro⟨rows,_⟩ ⟨s,rfl,sn,hS⟩
 simp only at hS
 show Ret (Zf x rows (s:Int)) _
 unfold Zf
 rw [hn,zF]
 refine⟨fun hc=>?_,fun hc=>?_⟩
 ·have hc:(s:Int)<(n:Int):=of_decide_eq_true hc
  rw [zy]
  refine(zag h hn hk n1 k1 (s:=s) (by omega) hS).mono fun r hr=>?_
  unfold WV
  rw [zg,zT (x:=(s:Int)+1) (by omega) (by omega)]
  exact⟨⟨s+1,rfl,by omega,hr⟩,by simp only;omega⟩
 ·have hsn:s=n:=by have:=of_decide_eq_false hc;omega
  subst hsn
  exact zg.2 hS
end
theorem zi1 {x:zC}(h:zn3 x):Ret (Qw x) fun m=>VM m/\m.Inputs<=3/\m.Rows.length<=6/\(∀s i,s<m.Rows.length->i<kk m->0<=(E m s i).To)/\∀t,t<m.Rows.length->Rch m t:=by
 have hn':=za2 h.s0 (k:=6) (by omega) (by omega)
 have hi':=za2 h.i0 (k:=3) (by omega) (by omega)
 have ho':=za2 h.o0 (k:=3) (by omega) (by omega)
 obtain⟨n,hn⟩:∃n:Nat,w64 (1+w64 (Int.tmod x.States 6))=(n:Int):=⟨(w64 (1+w64 (Int.tmod x.States 6))).toNat,by omega⟩
 obtain⟨k,hk⟩:∃n:Nat,w64 (1+w64 (Int.tmod x.Inputs 3))=(n:Int):=⟨(w64 (1+w64 (Int.tmod x.Inputs 3))).toNat,by omega⟩
 obtain⟨o,ho⟩:∃n:Nat,w64 (1+w64 (Int.tmod x.Outputs 3))=(n:Int):=⟨(w64 (1+w64 (Int.tmod x.Outputs 3))).toNat,by omega⟩
 rw [hn]at hn'
 rw [hk]at hi'
 rw [ho]at ho'
 have n1:1<=n/\n<=6:=by omega
 have k1:1<=k/\k<=3:=by omega
 have o1:1<=o/\o<=3:=by omega
 unfold Qw WY WX WW
 rw [gdT (by decide),gdT (by decide),gdT (by decide),zy]
 refine(zcD h hn hk ho n1 k1 o1).mono fun r0 h0=>?_
 rw [zy]
 refine(zei h hn hk n1 k1 h0.1 h0.2).mono fun r1 h1=>?_
 rw [zy]
 refine(zfP h hn hk n1 k1 h1).mono fun r hF=>?_
 rw [zg,hk,ho]
 have hlen:r.length=n:=hF.tm.len
 have hkk:kk (z6.mk (k:Int) (o:Int) r)=k:=by show(k:Int).toNat=k;omega
 have hfull:∀s i,s<n->i<k->0<=(ed r s i).To:=fun s i a b=>hF.full s i a b (.inl a)
 refine⟨⟨by show(1:Int)<=(k:Int);omega,by show(k:Int)<=16;omega,by show(1:Int)<=(o:Int);omega,by show(o:Int)<=16;omega,by show 1<=r.length;omega,by show r.length<=64;omega,fun row hr=>?_,fun row hr e he=>?_⟩,by show(k:Int)<=3;omega,by show r.length<=6;omega,fun s i hs hi=>?_,?_⟩
 ·obtain⟨s,hs⟩:=List.mem_iff_getElem?.1 hr
  have:=hF.tm.row s row hs
  show((row.length:Nat):Int)=(k:Int)
  omega
 ·obtain⟨s,hs⟩:=List.mem_iff_getElem?.1 hr
  have hrow:=hF.tm.row s row hs
  have hsl:s<n:=by have:=(List.getElem?_eq_some_iff.1 hs).1;rw [hlen]at this;exact this
  obtain⟨i,hi⟩:=List.mem_iff_getElem?.1 he
  have hil:i<k:=by have:=(List.getElem?_eq_some_iff.1 hi).1;omega
  have e1:ed r s i=e:=by unfold ed;rw [hs,Option.getD_some,hi,Option.getD_some]
  have q1:=hF.tm.edge s i hsl hil
  have q2:=hfull s i hsl hil
  rw [e1]at q1 q2
  exact .inr ⟨q2,by show e.To<((r.length:Nat):Int);rw [hlen];exact q1.2.1,q1.2.2.1,q1.2.2.2⟩
 ·exact hfull s i (by have hs:s<r.length:=hs;omega) (by rw [hkk]at hi;exact hi)
 ·have gen:∀b t,t<b->t<n->Rch (z6.mk (k:Int) (o:Int) r) t:=by
   intro b
   induction b with
   | zero=>intro t q;omega
   | succ b ih=>
    intro t q ht
    by_cases e:t=0
    ·subst e;exact⟨[],(fun i hi=>by cases hi),rfl⟩
    ·obtain⟨s,i,g1,g2,g3⟩:=hF.par t (by omega) ht
     have e3:(E (z6.mk (k:Int) (o:Int) r) s i).To=(t:Int):=g3
     have:=rch_step (m:=z6.mk (k:Int) (o:Int) r) (i:=i) (ih s (by omega) (by omega)) (by rw [hkk];exact g2) (by rw [e3];omega)
     rw [e3]at this
     exact this
  intro t ht
  exact gen (t+1) t (by omega) (by have ht:t<r.length:=ht;omega)
theorem z4t (x:yQ α)(i:Nat)(v:α):(yQ.setI x (i:Int) v).toL=x.toL.set i v:=by
 unfold yQ.setI
 rw [yQ.toL_ofL _ _ (by simp [yQ.toL]),Int.toNat_natCast]
theorem zgZ {x y:yQ α}(h:x.toL=y.toL):x=y:=by
 cases x;cases y
 simp only [yQ.toL,List.cons.injEq,and_true]at h
 simp only [yQ.mk.injEq]
 exact h
instance:LawfulBEq (yQ (wq Int)):={
 eq_of_beq:=by
  intro a b h
  cases a;cases b
  simp only [BEq.beq,Bool.and_eq_true,decide_eq_true_eq]at h
  simp only [yQ.mk.injEq]
  obtain⟨⟨⟨⟨⟨⟨⟨⟨⟨⟨⟨⟨⟨⟨⟨h0,h1⟩,h2⟩,h3⟩,h4⟩,h5⟩,h6⟩,h7⟩,h8⟩,h9⟩,h10⟩,h11⟩,h12⟩,h13⟩,h14⟩,h15⟩:=h
  have e:∀{p q:wq Int},(p.e0=q.e0/\p.e1=q.e1)->p=q:=by
   rintro⟨a0,a1⟩ ⟨b0,b1⟩ ⟨rfl,rfl⟩;rfl
  exact⟨e h0,e h1,e h2,e h3,e h4,e h5,e h6,e h7,e h8,e h9,e h10,e h11,e h12,e h13,e h14,e h15⟩
 rfl:=by
  intro a
  cases a
  simp [BEq.beq] }
instance:LawfulBEq zz:={
 eq_of_beq:=by
  intro a b h
  have h:(a.block_==b.block_&&a.signature_==b.signature_)=true:=h
  rw [Bool.and_eq_true,beq_iff_eq,beq_iff_eq]at h
  obtain⟨a0,a1⟩:=a
  obtain⟨b0,b1⟩:=b
  obtain⟨h0,h1⟩:=h
  have h0:a0=b0:=h0
  have h1:a1=b1:=h1
  rw [h0,h1]
 rfl:=by
  intro a
  show(a.block_==a.block_&&a.signature_==a.signature_)=true
  rw [beq_self_eq_true,beq_self_eq_true];rfl }
def sgN (m:z6)(p:List Int)(s j:Nat):wq Int:=if j<kk m then⟨(E m s j).Out,if(E m s j).To=-1 then -1 else(p[(E m s j).To.toNat]?).getD 0⟩ else⟨0,0⟩
theorem zcI (f g:Nat->α){n i:Nat}(v:α)(h:∀j,j<n->g j=if j=i then v else f j):((List.range n).map f).set i v=(List.range n).map g:=by
 apply List.ext_getElem?
 intro j
 by_cases hj:j<n
 ·have e1:((List.range n).map g)[j]?=some (g j):=by simp [hj]
  have e2:((List.range n).map f)[j]?=some (f j):=by simp [hj]
  rw [e1,h j hj]
  by_cases e:j=i
  ·subst e
   rw [List.getElem?_set_self (by simpa using hj),if_pos rfl]
  ·rw [List.getElem?_set_ne (fun q=>e q.symm),e2,if_neg e]
 ·rw [List.getElem?_eq_none (by simp;omega),List.getElem?_eq_none (by simp;omega)]
variable {p:List Int}
section
variable {m:z6}(h:VM m)
include h
theorem zeW (hp:p.length=m.Rows.length)  (hs:s<m.Rows.length):Ret (kB m p (s:Int)) fun a=>a.toL=(List.range 16).map (sgN m p s):=by
 obtain⟨r,r1,r2,r3⟩:=h.rowAt hs
 have hk:=h.kk_le
 unfold kB Yy
 rw [bdT (zN r1),zy]
 refine Ret.mono ?_ fun a ha=>zg.2 ha
 refine zW (fun st=>∃i:Nat,st.2=(i:Int)/\i<=kk m/\st.1.toL=(List.range 16).map fun j=>if j<i then sgN m p s j else⟨0,0⟩) (fun st=>20 - st.2.toNat) ⟨0,rfl,by omega,by simp [yQ.toL,List.range_succ]⟩ (by show 20 - _<_;omega) ?_
 rintro⟨a,_⟩ ⟨i,rfl,hi,ha⟩
 simp only at ha
 show Ret (k8 p r a (i:Int)) _
 unfold k8 kA
 rw [zF]
 refine⟨fun hc=>?_,fun hc=>?_⟩
 ·have hc:(i:Int)<((r.length:Nat):Int):=of_decide_eq_true hc
  have hik:i<kk m:=by omega
  have e1:a.toL[i]?=some ⟨0,0⟩:=by rw [ha];simp [show i<16 by omega]
  have w2:w64 ((i:Int)+1)=((i+1:Nat):Int):=by rw [zT (by omega) (by omega)];rfl
  have hed:=h.edgeAt hs hik
  have step:∀v:wq Int,sgN m p s i=v->∀b:yQ (wq Int),b.toL=((List.range 16).map fun j=>if j<i then sgN m p s j else⟨0,0⟩).set i v->b.toL=(List.range 16).map fun j=>if j<i+1 then sgN m p s j else⟨0,0⟩:=by
   intro v hv b hb
   rw [hb]
   refine zcI _ _ v fun j hj=>?_
   by_cases e:j=i
   ·subst e
    rw [if_pos (by omega),if_pos rfl,hv]
   ·rw [if_neg e]
    by_cases e2:j<i
    ·rw [if_pos e2,if_pos (by omega)]
    ·rw [if_neg e2,if_neg (by omega)]
  rw [bdT (zN (r3 i hik)),bdT (zN e1),Option.bind_some,zF]
  refine⟨fun ht=>?_,fun ht=>?_⟩
  ·have ht:(E m s i).To≠-1:=by simpa using ht
   obtain⟨t,htn⟩:∃t:Nat,(E m s i).To=t:=⟨(E m s i).To.toNat,by omega⟩
   have hpt:p[t]?=some p[t]:=List.getElem?_eq_getElem (by omega)
   have e2:(yQ.setI a (i:Int) ⟨(E m s i).Out,-1⟩).toL[i]?=some ⟨(E m s i).Out,-1⟩:=by
    rw [z4t,List.getElem?_set_self (by rw [ha];simp;omega)]
   rw [htn,bdT (zN hpt),bdT (zN e2),Option.bind_some,zg,w2]
   refine⟨⟨i+1,rfl,by omega,step _ ?_ _ (by rw [z4t,z4t,ha,List.set_set])⟩,by simp only [Int.toNat_natCast];omega⟩
   unfold sgN
   rw [if_pos hik,if_neg ht,htn,Int.toNat_natCast,hpt,Option.getD_some]
  ·have ht:(E m s i).To=-1:=by simpa using ht
   rw [zg,w2]
   refine⟨⟨i+1,rfl,by omega,step _ ?_ _ (by rw [z4t,ha])⟩,by simp only [Int.toNat_natCast];omega⟩
   unfold sgN
   rw [if_pos hik,if_pos ht]
 ·have hc:=of_decide_eq_false hc
  have:i=kk m:=by omega
  subst this
  refine zg.2 ?_
  show a.toL=_
  rw [ha]
  refine List.map_congr_left fun j hj=>?_
  unfold sgN
  by_cases e:j<kk m
  ·rw [if_pos e,if_pos e]
  ·rw [if_neg e,if_neg e]
end
def Rgf (l:List Int):Prop:=∀(s:Nat) (x:Int),l[s]?=some x->∃v:Nat,x=(v:Int)/\∀w:Nat,w<v->∃t,t<s/\l[t]?=some (w:Int)
theorem zaO {l r:List Int}(hl:Rgf l)(hr:Rgf r)(hlen:l.length=r.length)(h:∀s t:Nat,s<l.length->t<l.length->(l[s]?=l[t]?↔r[s]?=r[t]?)):l=r:=by
 have gen:∀n s,s<n->s<l.length->l[s]?=r[s]?:=by
  intro n
  induction n with
  | zero=>intro s q;omega
  | succ n ih=>
   intro s hs hsl
   have hx:l[s]?=some l[s]:=List.getElem?_eq_getElem hsl
   have hy:r[s]?=some r[s]:=List.getElem?_eq_getElem (by omega)
   by_cases old:∃t,t<s/\l[t]?=l[s]?
   ·obtain⟨t,t1,t2⟩:=old
    rw [<-t2,ih t (by omega) (by omega)]
    exact(h t s (by omega) hsl).1 t2
   ·obtain⟨v,v1,v2⟩:=hl s _ hx
    obtain⟨u,u1,u2⟩:=hr s _ hy
    rw [hx,hy,v1,u1]
    rcases Nat.lt_trichotomy v u with q|q|q
    ·exfalso
     obtain⟨t,t1,t2⟩:=u2 v q
     exact old ⟨t,t1,by rw [ih t (by omega) (by omega),t2,hx,v1]⟩
    ·rw [q]
    ·exfalso
     obtain⟨t,t1,t2⟩:=v2 u q
     have:r[t]?=r[s]?:=by rw [<-ih t (by omega) (by omega),t2,hy,u1]
     exact old ⟨t,t1,(h t s (by omega) hsl).2 this⟩
 apply List.ext_getElem?
 intro s
 by_cases hs:s<l.length
 ·exact gen (s+1) s (by omega) hs
 ·rw [List.getElem?_eq_none (by omega),List.getElem?_eq_none (by omega)]
theorem zb0 {K V:Type}[BEq K](x:K)(v:V):∀l:List (K×V),z3F l x=none->(zbG l x v).length=l.length+1
 | [],_=>rfl
 | p::l,hg=>by
  simp only [z3F]at hg
  split at hg
  ·cases hg
  ·rename_i q
   simp only [zbG,q]
   show((p::zbG l x v).length)=_
   rw [List.length_cons,zb0 x v l hg,List.length_cons]
section
variable {m:z6}(h:VM m)
include h
def zgm (m:z6)(p:List Int)(s t:Nat):Prop:=p[s]?=p[t]?/\∀j,j<kk m->sgN m p s j=sgN m p t j
theorem z9Y (hp:p.length=m.Rows.length):Ret (kC m p) fun q=>q.length=m.Rows.length/\Rgf q/\∀s t:Nat,s<m.Rows.length->t<m.Rows.length->(q[s]?=q[t]?↔zgm m p s t):=by
 have hN:=h.len64
 have hk:=h.kk_le
 have hkey:∀s,s<m.Rows.length->∃key:zz,key.block_=(p[s]?).getD 0/\key.signature_.toL=(List.range 16).map (sgN m p s)/\kB m p (s:Int)=some key.signature_:=by
  intro s hs
  obtain⟨a,a1,a2⟩:=zeW h hp hs
  exact⟨⟨(p[s]?).getD 0,a⟩,rfl,a2,a1⟩
 have:∃key:Nat->zz,∀s,s<m.Rows.length->(key s).block_=(p[s]?).getD 0/\(key s).signature_.toL=(List.range 16).map (sgN m p s)/\kB m p (s:Int)=some (key s).signature_:=by
  classical
  refine⟨fun s=>if q:s<m.Rows.length then(hkey s q).choose else⟨0,yQ.mk ⟨0,0⟩ ⟨0,0⟩ ⟨0,0⟩ ⟨0,0⟩ ⟨0,0⟩ ⟨0,0⟩ ⟨0,0⟩ ⟨0,0⟩ ⟨0,0⟩ ⟨0,0⟩ ⟨0,0⟩ ⟨0,0⟩ ⟨0,0⟩ ⟨0,0⟩ ⟨0,0⟩ ⟨0,0⟩⟩,fun s hs=>?_⟩
  simp only [hs,dif_pos]
  exact(hkey s hs).choose_spec
 obtain⟨key,hkey⟩:=this
 have alike:∀s t,s<m.Rows.length->t<m.Rows.length->(key s=key t↔zgm m p s t):=by
  intro s t hs ht
  obtain⟨a1,a2,_⟩:=hkey s hs
  obtain⟨b1,b2,_⟩:=hkey t ht
  have xs:p[s]?=some p[s]:=List.getElem?_eq_getElem (by omega)
  have xt:p[t]?=some p[t]:=List.getElem?_eq_getElem (by omega)
  rw [xs,Option.getD_some]at a1
  rw [xt,Option.getD_some]at b1
  constructor
  ·intro e
   refine⟨by rw [xs,xt,<-a1,<-b1,e],fun j hj=>?_⟩
   have e2:(List.range 16).map (sgN m p s)=(List.range 16).map (sgN m p t):=by rw [<-a2,<-b2,e]
   have:=congrArg (fun l=>l[j]?) e2
   simpa [show j<16 by omega] using this
  ·rintro⟨e1,e2⟩
   have e3:(key s).signature_=(key t).signature_:=zgZ (by
    rw [a2,b2]
    refine List.map_congr_left fun j hj=>?_
    by_cases q:j<kk m
    ·exact e2 j q
    ·unfold sgN
     rw [if_neg q,if_neg q])
   have e4:(key s).block_=(key t).block_:=by
    rw [a1,b1]
    rw [xs,xt]at e1
    exact Option.some.inj e1
   revert e3 e4
   generalize key s=u
   generalize key t=v
   intro e3 e4
   obtain⟨u0,u1⟩:=u
   obtain⟨v0,v1⟩:=v
   simp only at e3 e4
   rw [e3,e4]
 unfold kC jA
 rw [gdT (by omega),zy]
 refine Ret.mono ?_ fun q hq=>zg.2 hq
 refine zW (fun st=>∃i:Nat,st.2.2=(i:Int)/\i<=m.Rows.length/\st.2.1.length=m.Rows.length/\(∀s,s<i->∃v:Nat,st.2.1[s]?=some (v:Int)/\v<st.1.length/\z3F st.1 (key s)=some (v:Int)/\∀w:Nat,w<v->∃t,t<s/\st.2.1[t]?=some (w:Int))/\(∀w:Nat,w<st.1.length->∃t,t<i/\st.2.1[t]?=some (w:Int)) /\
   (∀k v,z3F st.1 k=some v->∃t,t<i/\key t=k)/\∀s t:Nat,s<i->t<i->st.2.1[s]?=st.2.1[t]?->key s=key t) (fun st=>100 - st.2.2.toNat) ⟨0,rfl,by omega,by simp [hp],fun s q=>by omega,fun w q=>by simp at q,fun k v q=>by simp [z3F]at q,fun s t q=>by omega⟩ (by show 100 - _<_;omega) ?_
 rintro⟨names,out,_⟩ ⟨i,rfl,hi,ho,h1,h2,h3,h4⟩
 simp only at ho h1 h2 h3 h4
 show Ret (vL m p names out (i:Int)) _
 unfold vL
 rw [zF]
 refine⟨fun hc=>?_,fun hc=>?_⟩
 ·have hc:(i:Int)<((p.length:Nat):Int):=of_decide_eq_true hc
  have hiN:i<m.Rows.length:=by omega
  obtain⟨a1,a2,a3⟩:=hkey i hiN
  have xi:p[i]?=some p[i]:=List.getElem?_eq_getElem (by omega)
  rw [xi,Option.getD_some]at a1
  have hmk:zz.mk p[i] (key i).signature_=key i:=by
   rw [<-a1]
  have w2:w64 ((i:Int)+1)=((i+1:Nat):Int):=by rw [zT (by omega) (by omega)];rfl
  have hoi:out[i]?=some out[i]:=List.getElem?_eq_getElem (by omega)
  rw [bdT (zN xi),bdT a3,Option.bind_some,hmk]
  cases hg:z3F names (key i) with
  | none=>
   rw [Option.isSome_none,Bool.not_false,cond_true]
   unfold wv
   have hfresh:∀t,t<i->key t≠key i:=fun t ht e=>by
    obtain⟨v,_,_,v3,_⟩:=h1 t ht
    rw [e,hg]at v3
    cases v3
   have hlen:=zb0 (key i) ((names.length:Nat):Int) names hg
   rw [hmk,z4x,if_pos (by simp),Option.getD_some,Option.bind_some,bdT (zN hoi),zg,w2,Int.toNat_natCast]
   have keep:∀t:Nat,t<i->(out.set i ((names.length:Nat):Int))[t]?=out[t]?:=fun t ht=>List.getElem?_set_ne (by omega)
   have new:(out.set i ((names.length:Nat):Int))[i]?=some ((names.length:Nat):Int):=List.getElem?_set_self (by omega)
   refine⟨⟨i+1,rfl,by omega,by simp [ho],fun s hs=>?_,fun w hw=>?_,fun k v q=>?_,fun s t hs ht q=>?_⟩,by simp only [Int.toNat_natCast];omega⟩
   ·simp only
    by_cases e:s=i
    ·subst e
     refine⟨names.length,new,by omega,by rw [z4x,if_pos (by simp)],fun w hw=>?_⟩
     obtain⟨t,t1,t2⟩:=h2 w hw
     exact⟨t,t1,by rw [keep t t1];exact t2⟩
    ·obtain⟨v,v1,v2,v3,v4⟩:=h1 s (by omega)
     refine⟨v,by rw [keep s (by omega)];exact v1,by omega,?_,fun w hw=>?_⟩
     ·rw [z4x,if_neg (by simpa using fun q=>hfresh s (by omega) q.symm)]
      exact v3
     ·obtain⟨t,t1,t2⟩:=v4 w hw
      exact⟨t,t1,by rw [keep t (by omega)];exact t2⟩
   ·simp only at hw ⊢
    by_cases e:w<names.length
    ·obtain⟨t,t1,t2⟩:=h2 w e
     exact⟨t,by omega,by rw [keep t t1];exact t2⟩
    ·have:w=names.length:=by omega
     subst this
     exact⟨i,by omega,new⟩
   ·simp only at q
    rw [z4x]at q
    by_cases e:key i=k
    ·exact⟨i,by omega,e⟩
    ·rw [if_neg (by simpa using e)]at q
     obtain⟨t,t1,t2⟩:=h3 k v q
     exact⟨t,by omega,t2⟩
   ·simp only at q
    have low:∀t,t<i->out[t]?≠some ((names.length:Nat):Int):=fun t ht g=>by
     obtain⟨v,v1,v2,_⟩:=h1 t ht
     rw [v1]at g
     have:=Option.some.inj g
     omega
    by_cases es:s=i
    ·by_cases et:t=i
     ·rw [es,et]
     ·exfalso
      rw [es,new,keep t (by omega)]at q
      exact low t (by omega) q.symm
    ·by_cases et:t=i
     ·exfalso
      rw [et,new,keep s (by omega)]at q
      exact low s (by omega) q
     ·rw [keep s (by omega),keep t (by omega)]at q
      exact h4 s t (by omega) (by omega) q
  | some v=>
   rw [Option.isSome_some,Bool.not_true,cond_false]
   unfold wv
   obtain⟨t0,t1,t2⟩:=h3 _ _ hg
   obtain⟨u,u1,u2,u3,u4⟩:=h1 t0 t1
   rw [t2,hg]at u3
   have hvu:v=(u:Int):=Option.some.inj u3
   rw [hmk,hg,Option.getD_some,Option.bind_some,bdT (zN hoi),zg,w2,Int.toNat_natCast]
   have keep:∀t:Nat,t<i->(out.set i v)[t]?=out[t]?:=fun t ht=>List.getElem?_set_ne (by omega)
   have new:(out.set i v)[i]?=some v:=List.getElem?_set_self (by omega)
   refine⟨⟨i+1,rfl,by omega,by simp [ho],fun s hs=>?_,fun w hw=>?_,fun k v q=>?_,fun s t hs ht q=>?_⟩,by simp only [Int.toNat_natCast];omega⟩
   ·simp only
    by_cases e:s=i
    ·subst e
     refine⟨u,by rw [new,hvu],u2,by rw [hg,hvu],fun w hw=>?_⟩
     obtain⟨t,g1,g2⟩:=u4 w hw
     exact⟨t,by omega,by rw [keep t (by omega)];exact g2⟩
    ·obtain⟨v',v1,v2,v3,v4⟩:=h1 s (by omega)
     refine⟨v',by rw [keep s (by omega)];exact v1,v2,v3,fun w hw=>?_⟩
     obtain⟨t,g1,g2⟩:=v4 w hw
     exact⟨t,g1,by rw [keep t (by omega)];exact g2⟩
   ·simp only at hw ⊢
    obtain⟨t,g1,g2⟩:=h2 w hw
    exact⟨t,by omega,by rw [keep t g1];exact g2⟩
   ·obtain⟨t,g1,g2⟩:=h3 k v q
    exact⟨t,by omega,g2⟩
   ·simp only at q
    have like:∀t,t<i->out[t]?=some v->key t=key i:=fun t ht g=>by
     rw [<-t2]
     exact h4 t t0 ht t1 (by rw [g,u1,hvu])
    by_cases es:s=i
    ·by_cases et:t=i
     ·rw [es,et]
     ·rw [es,new,keep t (by omega)]at q
      rw [es]
      exact(like t (by omega) q.symm).symm
    ·by_cases et:t=i
     ·rw [et,new,keep s (by omega)]at q
      rw [et]
      exact like s (by omega) q
     ·rw [keep s (by omega),keep t (by omega)]at q
      exact h4 s t (by omega) (by omega) q
 ·have hc:=of_decide_eq_false hc
  have:i=m.Rows.length:=by omega
  subst this
  refine zg.2 ⟨ho,fun s x hx=>?_,fun s t hs ht=>?_⟩
  ·have hs:s<m.Rows.length:=by have:=(List.getElem?_eq_some_iff.1 hx).1;omega
   obtain⟨v,v1,_,_,v4⟩:=h1 s hs
   rw [hx]at v1
   exact⟨v,Option.some.inj v1,v4⟩
  ·rw [<-alike s t hs ht]
   refine⟨h4 s t hs ht,fun e=>?_⟩
   obtain⟨v,v1,_,v3,_⟩:=h1 s hs
   obtain⟨u,u1,_,u3,_⟩:=h1 t ht
   rw [e,u3]at v3
   rw [v1,u1,<-Option.some.inj v3]
end
theorem z9n (a b:List Int)(ha:a.length<4611686018427387904):xK a b=some (decide (a=b)):=by
 unfold xK wP
 by_cases hl:a.length=b.length
 ·have e:(((a.length:Nat):Int) !=((b.length:Nat):Int))=false:=by simp [hl]
  rw [e,cond_false,uE a ha (step:=fun s=>yK a b s) (fun i x=>if b[i]?=some x then none else some false) ?_ ?_]
  ·by_cases q:a=b
   ·rw [XA fun i x hx=>by rw [Nat.zero_add,<-q,if_pos hx]]
    simp [oS,q]
   ·cases hf:xc (fun i x=>if b[i]?=some x then none else some false) a 0 with
    | none=>
     exfalso
     refine q (List.ext_getElem? fun i=>?_)
     by_cases hi:i<a.length
     ·have hx:a[i]?=some a[i]:=List.getElem?_eq_getElem hi
      have:=qm hf i _ hx
      rw [Nat.zero_add]at this
      split at this
      ·rename_i g;rw [hx,g]
      ·cases this
     ·rw [List.getElem?_eq_none (by omega),List.getElem?_eq_none (by omega)]
    | some r=>
     obtain⟨i,x,_,h2⟩:=qj hf
     split at h2
     ·cases h2
     ·cases h2
      simp [oS,q]
  ·intro i x hx
   have hi:=(List.getElem?_eq_some_iff.1 hx).1
   have hy:b[i]?=some b[i]:=List.getElem?_eq_getElem (by omega)
   unfold yK
   rw [decide_eq_true (by omega),cond_true,bdT (zN hx),bdT (zN hy),hy]
   by_cases e2:x=b[i]
   ·rw [e2,bne_self_eq_false,cond_false,if_pos rfl]
    rfl
   ·have e3:(x != b[i])=true:=by simpa using e2
    rw [e3,cond_true,if_neg fun g=>e2 (Option.some.inj g).symm]
    rfl
  ·unfold yK
   rw [decide_eq_false (by omega),cond_false]
 ·have e:(((a.length:Nat):Int) !=((b.length:Nat):Int))=true:=by simpa using fun g:(a.length:Int)=b.length=>hl (by omega)
  rw [e,cond_true,decide_eq_false fun q=>hl (by rw [q])]
section
variable {m:z6}(h:VM m)
include h
omit h in theorem seq_out {s t:Nat} (q:SEq m s t) {j:Nat} (hj:j<kk m):(E m s j).Out=(E m t j).Out/\∀w:List Nat,(∀i∈w,i<kk m)->rsp m (E m s j).To w=rsp m (E m t j).To w:=by
 have gen:∀w:List Nat,(∀i∈w,i<kk m)->(E m s j).Out=(E m t j).Out/\rsp m (E m s j).To w=rsp m (E m t j).To w:=by
  intro w hw
  have:=q (j::w) (fun i hi=>by rcases List.mem_cons.1 hi with rfl|g;exact hj;exact hw i g)
  simp only [rsp,YQ,List.cons.injEq]at this
  exact this
 exact⟨(gen [] (by simp)).1,fun w hw=>(gen w hw).2⟩
theorem zcn (hp:p.length=m.Rows.length)(hq:∀s t,s<m.Rows.length->t<m.Rows.length->SEq m s t->p[s]?=p[t]?){s t:Nat}(hs:s<m.Rows.length)(ht:t<m.Rows.length)(q:SEq m s t):zgm m p s t:=by
 refine⟨hq s t hs ht q,fun j hj=>?_⟩
 obtain⟨o1,o2⟩:=seq_out q hj
 have hes:=h.edgeAt hs hj
 have het:=h.edgeAt ht hj
 unfold sgN
 rw [if_pos hj,if_pos hj,o1]
 rcases hes with⟨a1,a2⟩|⟨a1,a2,a3,a4⟩
 ·rcases het with⟨b1,b2⟩|⟨b1,b2,b3,b4⟩
  ·rw [if_pos a1,if_pos b1]
  ·omega
 ·rcases het with⟨b1,b2⟩|⟨b1,b2,b3,b4⟩
  ·omega
  ·rw [if_neg (by omega),if_neg (by omega)]
   have e1:(((E m s j).To.toNat:Nat):Int)=(E m s j).To:=by omega
   have e2:(((E m t j).To.toNat:Nat):Int)=(E m t j).To:=by omega
   have:=hq _ _ (by omega) (by omega) (show SEq m (E m s j).To.toNat (E m t j).To.toNat from fun w hw=>by rw [e1,e2];exact o2 w hw)
   rw [this]
theorem zdt (hp:p.length=m.Rows.length)(hr:Rgf p)(hf:∀s t,s<m.Rows.length->t<m.Rows.length->p[s]?=p[t]?->zgm m p s t):∀(w:List Nat) (s t:Nat),s<m.Rows.length->t<m.Rows.length->p[s]?=p[t]?->(∀i∈w,i<kk m)->rsp m (s:Int) w=rsp m (t:Int) w
 | [],_,_,_,_,_,_=>rfl
 | j::w,s,t,hs,ht,e,hw=>by
  have hj:j<kk m:=hw j (by simp)
  have hw':∀i∈w,i<kk m:=fun i hi=>hw i (by simp [hi])
  have hal:=(hf s t hs ht e).2 j hj
  have hes:=h.edgeAt hs hj
  have het:=h.edgeAt ht hj
  have pos:∀u:Nat,u<m.Rows.length->0<=(p[u]?).getD 0:=fun u hu=>by
   have hx:p[u]?=some p[u]:=List.getElem?_eq_getElem (by omega)
   obtain⟨v,v1,_⟩:=hr u _ hx
   rw [hx,Option.getD_some,v1]
   omega
  unfold sgN at hal
  rw [if_pos hj,if_pos hj]at hal
  have a0:=congrArg wq.e0 hal
  have a1:=congrArg wq.e1 hal
  simp only at a0 a1
  simp only [rsp,YQ,a0,List.cons.injEq,true_and]
  rcases hes with⟨b1,b2⟩|⟨b1,b2,b3,b4⟩
  ·rcases het with⟨c1,c2⟩|⟨c1,c2,c3,c4⟩
   ·rw [b1,c1]
   ·rw [if_pos b1,if_neg (by omega)]at a1
    have:=pos (E m t j).To.toNat (by omega)
    omega
  ·rcases het with⟨c1,c2⟩|⟨c1,c2,c3,c4⟩
   ·rw [if_neg (by omega),if_pos c1]at a1
    have:=pos (E m s j).To.toNat (by omega)
    omega
   ·rw [if_neg (by omega),if_neg (by omega)]at a1
    have x1:p[(E m s j).To.toNat]?=some p[(E m s j).To.toNat]:=List.getElem?_eq_getElem (by omega)
    have x2:p[(E m t j).To.toNat]?=some p[(E m t j).To.toNat]:=List.getElem?_eq_getElem (by omega)
    have:=zdt hp hr hf w (E m s j).To.toNat (E m t j).To.toNat (by omega) (by omega) (by rw [x1,x2]at a1 ⊢;exact congrArg some a1) hw'
    have e1:(((E m s j).To.toNat:Nat):Int)=(E m s j).To:=by omega
    have e2:(((E m t j).To.toNat:Nat):Int)=(E m t j).To:=by omega
    rw [e1,e2]at this
    exact this
def KO (N:Nat)(p:List Int):Nat:=((List.range N).flatMap fun s=>(List.range N).map fun t=>(s,t)).countP fun x=>decide (p[x.1]?=p[x.2]?)
omit h in
theorem z8Z {N s t:Nat}:(s,t)∈((List.range N).flatMap fun s=>(List.range N).map fun t=>(s,t))↔s<N/\t<N:=by
 simp only [List.mem_flatMap,List.mem_map,List.mem_range,Prod.mk.injEq]
 constructor
 ·rintro⟨a,ha,b,hb,rfl,rfl⟩;exact⟨ha,hb⟩
 ·rintro⟨a,b⟩;exact⟨s,a,t,b,rfl,rfl⟩
theorem zbS:Ret (kD m) fun r=>r.2.2=0/\r.1.length=m.Rows.length/\Rgf r.1/\∀s t:Nat,s<m.Rows.length->t<m.Rows.length->(r.1[s]?=r.1[t]?↔SEq m s t):=by
 have hN:=h.len64
 have hN1:=h.len1
 unfold kD XK
 rw [z1Q,z9q h,Option.bind_some,bne_self_eq_false,cond_false,Option.bind_some]
 unfold qz
 rw [gdT (by omega),zy,zy]
 have e0:((m.Rows.length:Nat):Int).toNat=m.Rows.length:=by simp
 rw [e0]
 refine(zW (R:=fun y:LR (List Int×Int) Empty=>∃p n,y=.next (p,n)/\p.length=m.Rows.length/\Rgf p/\∀s t:Nat,s<m.Rows.length->t<m.Rows.length->(p[s]?=p[t]?↔SEq m s t))
  (fun st:LR (List Int×Int) Empty×List Int=>(∃x,st.1=.next x)/\st.2.length=m.Rows.length/\Rgf st.2/\∀s t:Nat,s<m.Rows.length->t<m.Rows.length->SEq m s t->st.2[s]?=st.2[t]?) (fun st=>KO m.Rows.length st.2) ⟨⟨_,rfl⟩,by simp,?_,?_⟩ ?_ ?_).mono ?_
 ·intro s x hx
  simp only [List.getElem?_replicate]at hx
  split at hx
  ·cases hx
   exact⟨0,rfl,fun w q=>by omega⟩
  ·cases hx
 ·intro s t hs ht _
  simp only [List.getElem?_replicate]
  rw [if_pos hs,if_pos ht]
 ·have:KO m.Rows.length (List.replicate m.Rows.length (0:Int))<=((List.range m.Rows.length).flatMap fun s=>(List.range m.Rows.length).map fun t=>(s,t)).length:=List.countP_le_length
  have e:((List.range m.Rows.length).flatMap fun s=>(List.range m.Rows.length).map fun t=>(s,t)).length=m.Rows.length*m.Rows.length:=by
   rw [List.length_flatMap]
   simp only [List.length_map,List.length_range,List.map_const',List.sum_replicate_nat]
  rw [e]at this
  have:=Nat.mul_le_mul hN hN
  show KO m.Rows.length (List.replicate m.Rows.length (0:Int))<18446744073709551616
  omega
 ·rintro⟨y,p⟩ ⟨⟨⟨x,n⟩,rfl⟩,hp,hr,hq⟩
  simp only at hp hr hq
  show Ret (vb m (yOf fun s x=>ww s.1 s.2 x) (.next (x,n)) p) _
  unfold vb
  simp only [yOf,ww,Option.bind_some,cond_true]
  rw [zy]
  refine(z9Y h hp).mono ?_
  rintro q ⟨q1,q2,q3⟩
  rw [z9n p q (by omega),Option.bind_some,zF]
  refine⟨fun hc=>?_,fun hc=>?_⟩
  ·have hc:p=q:=of_decide_eq_true hc
   rw [zg]
   refine⟨p,w64 (n+1),rfl,hp,hr,fun s t hs ht=>⟨fun e w hw=>?_,hq s t hs ht⟩⟩
   exact zdt h hp hr (fun s t hs ht e=>(q3 s t hs ht).1 (by rw [<-hc];exact e)) w s t hs ht e hw
  ·have hc:¬p=q:=of_decide_eq_false hc
   rw [zg]
   refine⟨⟨⟨_,rfl⟩,q1,q2,fun s t hs ht e=>(q3 s t hs ht).2 (zcn h hp hq hs ht e)⟩,?_⟩
   show KO m.Rows.length q<KO m.Rows.length p
   unfold KO
   refine z5B (fun z hz hd=>?_) ?_
   ·obtain⟨s,t⟩:=z
    obtain⟨hs,ht⟩:=z8Z.1 hz
    simp only [decide_eq_true_eq]at hd ⊢
    exact((q3 s t hs ht).1 hd).1
   ·refine Classical.byContradiction fun g=>hc (zaO hr q2 (by omega) fun s t hs ht=>⟨fun e=>?_,fun e=>((q3 s t (by omega) (by omega)).1 e).1⟩)
    refine Classical.byContradiction fun g2=>g ⟨(s,t),z8Z.2 ⟨by omega,by omega⟩,by simpa using e,by simpa using g2⟩
 ·rintro y ⟨p,n,rfl,g1,g2,g3⟩
  rw [zg]
  unfold jB
  simp only
  rw [zg]
  exact⟨rfl,g1,g2,g3⟩
end
theorem zgA:∀(N:Nat) (l:List Nat),l.Nodup->(∀t∈l,t<N)->l.length<=N
 | 0,l,_,h=>by
  cases l with
  | nil=>exact Nat.le_refl _
  | cons x l=>have:=h x (by simp);omega
 | N+1,l,hn,h=>by
  have ih:=zgA N (l.erase N) (hn.erase N) fun t ht=>by
   have h1:=h t (List.mem_of_mem_erase ht)
   have h2:t≠N:=fun e=>by subst e;exact absurd ht (hn.not_mem_erase)
   omega
  by_cases hm:N∈l
  ·rw [List.length_erase_of_mem hm]at ih;omega
  ·rw [List.erase_of_not_mem hm]at ih;omega
def Cpl (m:z6):Prop:=∀s i,s<m.Rows.length->i<kk m->0<=(E m s i).To
def zln (m:z6):Prop:=∀t,t<m.Rows.length->Rch m t
def zmT (m:z6):Prop:=∀s t,s<m.Rows.length->t<m.Rows.length->SEq m s t->s=t
def PE (m:z6)(e:Int):Prop:=(e=9/\¬Cpl m)\/(e=11/\Cpl m/\¬zln m)\/(e=12/\Cpl m/\zln m/\¬zmT m)\/(e=0/\Cpl m/\zln m/\zmT m)
theorem PE.uniq {e f:Int}(h:PE m e)(g:PE m f):e=f:=by
 rcases h with⟨rfl,a⟩|⟨rfl,a,b⟩|⟨rfl,a,b,c⟩|⟨rfl,a,b,c⟩ <;> rcases g with⟨rfl,x⟩|⟨rfl,x,y⟩|⟨rfl,x,y,z⟩|⟨rfl,x,y,z⟩ <;> first|rfl|exact absurd x a|exact absurd a x|exact absurd y b|exact absurd b y|exact absurd z c|exact absurd c z
section
variable {m:z6}(h:VM m)
include h
theorem zfU (hs:s<m.Rows.length)  (r2:r.length=kk m)(r3:∀i,i<kk m->r[i]?=some (E m s i)){out0:List (wq Int)}(hl:out0.length<=s*16) :
  Ret (loop (fun st=>xY (yOf fun s x=>yi s x.1 x.2) (s:Int) r st.1 st.2) ((.next out0:LR (List (wq Int)) Empty),0)) fun y=>∃out,y=.inl (.next out)/\out.length<=(s+1)*16/\(out=[]↔out0=[]/\∀i,i<kk m->0<=(E m s i).To):=by
 have hk:=h.kk_le
 have hN:=h.len64
 refine zW (fun st=>∃(i:Nat) (out:List (wq Int)),st.2=(i:Int)/\i<=kk m/\st.1=.next out/\out.length<=s*16+i/\(out=[]↔out0=[]/\∀j,j<i->0<=(E m s j).To)) (fun st=>20 - st.2.toNat) ⟨0,out0,rfl,by omega,rfl,by omega,by simp⟩ (by show 20 - _<_;omega) ?_
 rintro⟨_,_⟩ ⟨i,out,rfl,hi,rfl,ho,he⟩
 show Ret (xY (yOf fun s x=>yi s x.1 x.2) (s:Int) r (.next out) (i:Int)) _
 unfold xY
 rw [zF]
 refine⟨fun hc=>?_,fun hc=>?_⟩
 ·have hc:(i:Int)<((r.length:Nat):Int):=of_decide_eq_true hc
  have hik:i<kk m:=by omega
  have w2:w64 ((i:Int)+1)=((i+1:Nat):Int):=by rw [zT (by omega) (by omega)];rfl
  have hed:=h.edgeAt hs hik
  rw [bdT (zN (r3 i hik))]
  unfold yOf yi vQ
  simp only [Option.bind_some]
  by_cases ht:(E m s i).To=-1
  ·have ho1:(E m s i).Out=-1:=by omega
   rw [ht,ho1]
   simp only [beq_self_eq_true,Bool.and_self,cond_true]
   rw [gdT (by simp;omega)]
   simp only [Option.bind_some,Bool.not_true,cond_false]
   rw [zg,w2]
   refine⟨⟨i+1,_,rfl,by omega,rfl,by simp;omega,?_⟩,by simp only [Int.toNat_natCast];omega⟩
   constructor
   ·intro q;simp at q
   ·rintro⟨_,q⟩
    have:=q i (by omega)
    omega
  ·have e1:((E m s i).To == -1)=false:=by simpa using ht
   rw [e1,Bool.false_and,cond_false]
   simp only [Option.bind_some,Bool.not_true,cond_false]
   rw [zg,w2]
   refine⟨⟨i+1,out,rfl,by omega,rfl,by omega,he.trans ?_⟩,by simp only [Int.toNat_natCast];omega⟩
   constructor
   ·rintro⟨a,b⟩
    refine⟨a,fun j hj=>?_⟩
    by_cases e:j=i
    ·subst e;omega
    ·exact b j (by omega)
   ·rintro⟨a,b⟩;exact⟨a,fun j hj=>b j (by omega)⟩
 ·have hc:=of_decide_eq_false hc
  have:i=kk m:=by omega
  subst this
  exact zg.2 ⟨out,rfl,by omega,he⟩
theorem z9p:Ret (uD m) fun r=>r.2=0/\(r.1=true↔Cpl m):=by
 have hk:=h.kk_le
 have hN:=h.len64
 unfold uD jG XQ
 rw [z1Q,z9q h,Option.bind_some,bne_self_eq_false,cond_false,Option.bind_some]
 unfold qG
 rw [zy,zy,zy]
 refine(zW (R:=fun y:LR (List (wq Int)) Empty=>∃out,y=.next out/\out.length<=2000/\(out=[]↔Cpl m)) (fun st:LR (List (wq Int)) Empty×Int=>∃(s:Nat) (out:List (wq Int)),st.2=(s:Int)/\s<=m.Rows.length/\st.1=.next out/\out.length<=s*16/\(out=[]↔∀t j,t<s->j<kk m->0<=(E m t j).To)) (fun st=>100 - st.2.toNat) ⟨0,[],rfl,by omega,rfl,by simp,by simp⟩ (by show 100 - _<_;omega) ?_).mono ?_
 ·rintro⟨_,_⟩ ⟨s,out,rfl,hs,rfl,ho,he⟩
  show Ret (vj m (yOf fun s x=>yi s x.1 x.2) (.next out) (s:Int)) _
  unfold vj
  rw [zF]
  refine⟨fun hc=>?_,fun hc=>?_⟩
  ·have hc:(s:Int)<((m.Rows.length:Nat):Int):=of_decide_eq_true hc
   have hsN:s<m.Rows.length:=by omega
   obtain⟨r,r1,r2,r3⟩:=h.rowAt hsN
   rw [bdT (zN r1),zy]
   refine(zfU h hsN r2 r3 ho).mono ?_
   rintro y ⟨out',rfl,g1,g2⟩
   simp only
   unfold qb
   rw [zg,zT (x:=(s:Int)+1) (by omega) (by omega)]
   refine⟨⟨s+1,out',rfl,by omega,rfl,g1,g2.trans ?_⟩,by simp only;omega⟩
   rw [he]
   constructor
   ·rintro⟨a,b⟩ t j ht hj
    by_cases e:t=s
    ·subst e;exact b j hj
    ·exact a t j (by omega) hj
   ·intro a
    exact⟨fun t j ht hj=>a t j (by omega) hj,fun j hj=>a s j (by omega) hj⟩
  ·have hc:=of_decide_eq_false hc
   have:s=m.Rows.length:=by omega
   subst this
   exact zg.2 ⟨out,rfl,by omega,he⟩
 ·rintro y ⟨out,rfl,g1,g2⟩
  rw [zg]
  simp only
  unfold vP wQ
  rw [gdT (by omega),Option.bind_some,zg,zg]
  refine⟨rfl,?_⟩
  rw [<-g2]
  cases out with
  | nil=>simp
  | cons a l=>simp;omega
omit h in
theorem zi6 {l:List Int}(h0:0<l.length)(hl:l.length<=100000):Ret (vK l) fun x=>x∈l/\∀y∈l,y<=x:=by
 unfold vK vJ
 have e0:l[0]?=some l[0]:=List.getElem?_eq_getElem h0
 rw [decide_eq_false (by omega),cond_false,bdT (show idx l 0=some l[0] from e0),zy]
 refine Ret.mono ?_ fun x hx=>zg.2 hx
 refine zW (fun st=>∃i:Nat,st.2=(i:Int)/\1<=i/\i<=l.length/\st.1∈l/\∀j y,j<i->l[j]?=some y->y<=st.1) (fun st=>100000 - st.2.toNat) ⟨1,rfl,by omega,by omega,List.getElem_mem _,fun j y hj hy=>by
  have:j=0:=by omega
  subst this
  rw [e0]at hy
  cases hy
  exact Int.le_refl _⟩ (by show 100000 - _<_;omega) ?_
 rintro⟨x,_⟩ ⟨i,rfl,i1,i2,hx,hm⟩
 simp only at hx hm
 show Ret (wc l x (i:Int)) _
 unfold wc
 rw [zF]
 refine⟨fun hc=>?_,fun hc=>?_⟩
 ·have hc:(i:Int)<((l.length:Nat):Int):=of_decide_eq_true hc
  have hy:l[i]?=some l[i]:=List.getElem?_eq_getElem (by omega)
  rw [bdT (zN hy),zg,zT (x:=(i:Int)+1) (by omega) (by omega)]
  refine⟨⟨i+1,rfl,by omega,by omega,?_,fun j y hj hjy=>?_⟩,by simp only;omega⟩
  ·show mx x l[i]∈l
   unfold mx
   split
   ·exact List.getElem_mem _
   ·exact hx
  ·show y<=mx x l[i]
   unfold mx
   by_cases e:j=i
   ·subst e
    rw [hy]at hjy
    cases hjy
    split <;> omega
   ·have:=hm j y (by omega) hjy
    split <;> omega
 ·have hc:=of_decide_eq_false hc
  refine zg.2 ⟨hx,fun y hy=>?_⟩
  obtain⟨j,hj⟩:=List.mem_iff_getElem?.1 hy
  exact hm j y (by have:=(List.getElem?_eq_some_iff.1 hj).1;omega) hj
omit h in
theorem zhO (hr:Rgf p)(h0:0<p.length){x:Int}(hx:x∈p)(hm:∀y∈p,y<=x):x=(p.length:Int) - 1↔∀s t:Nat,s<p.length->t<p.length->p[s]?=p[t]?->s=t:=by
 constructor
 ·intro e
  obtain⟨s0,hs0⟩:=List.mem_iff_getElem?.1 hx
  obtain⟨v,v1,v2⟩:=hr s0 x hs0
  have hs0l:=(List.getElem?_eq_some_iff.1 hs0).1
  have place:∀w:Nat,w<p.length->∃s,s<p.length/\p[s]?=some (w:Int):=by
   intro w hw
   by_cases q:w=v
   ·subst q;exact⟨s0,hs0l,by rw [hs0,v1]⟩
   ·obtain⟨t,t1,t2⟩:=v2 w (by omega)
    exact⟨t,by omega,t2⟩
  intro s t hs ht hst
  refine Classical.byContradiction fun hne=>?_
  have:∃g:Nat->Nat,∀w,w<p.length->g w<p.length/\p[g w]?=some (w:Int):=by
   classical
   exact⟨fun w=>if q:w<p.length then(place w q).choose else 0,fun w hw=>by simp only [hw,dif_pos];exact(place w hw).choose_spec⟩
  obtain⟨g,hg⟩:=this
  have:∃u,u<p.length/\∀w,w<p.length->g w≠u:=by
   refine Classical.byContradiction fun q=>?_
   have q:∀u,u<p.length->∃w,w<p.length/\g w=u:=fun u hu=>Classical.byContradiction fun q2=>q ⟨u,hu,fun w hw e=>q2 ⟨w,hw,e⟩⟩
   obtain⟨a,a1,rfl⟩:=q s hs
   obtain⟨b,b1,rfl⟩:=q t ht
   rw [(hg a a1).2,(hg b b1).2]at hst
   have:a=b:=by have:=Option.some.inj hst;omega
   exact hne (by rw [this])
  obtain⟨u,hu,hgu⟩:=this
  have hnd:(u::(List.range p.length).map g).Nodup:=by
   rw [List.nodup_cons]
   refine⟨fun q=>?_,?_⟩
   ·obtain⟨w,hw,e⟩:=List.mem_map.1 q
    exact hgu w (List.mem_range.1 hw) e
   ·rw [List.Nodup,List.pairwise_map]
    refine List.Pairwise.imp_of_mem (fun {a b} ha hb hab=>?_) List.nodup_range
    intro e
    have ha:=hg a (List.mem_range.1 ha)
    have hb:=hg b (List.mem_range.1 hb)
    rw [e,hb.2]at ha
    have:=Option.some.inj ha.2
    omega
  have:=zgA p.length _ hnd (fun w hw=>by
   rcases List.mem_cons.1 hw with rfl|q
   ·exact hu
   ·obtain⟨z,hz,rfl⟩:=List.mem_map.1 q
    exact(hg z (List.mem_range.1 hz)).1)
  simp at this
  omega
 ·intro q
  have e:p=(List.range p.length).map Int.ofNat:=by
   refine zaO hr (fun s y hy=>?_) (by simp) fun s t hs ht=>?_
   ·have hs:s<p.length:=by have:=(List.getElem?_eq_some_iff.1 hy).1;simpa using this
    simp [hs]at hy
    refine⟨s,hy.symm,fun w hw=>⟨w,hw,by simp [show w<p.length by omega]⟩⟩
   ·constructor
    ·intro g;rw [q s t hs ht g]
    ·intro g
     simp [hs,ht]at g
     have:s=t:=by omega
     rw [this]
  have hin:((p.length - 1:Nat):Int)∈(List.range p.length).map Int.ofNat:=List.mem_map.2 ⟨p.length - 1,List.mem_range.2 (by omega),rfl⟩
  rw [<-e]at hin
  have h1:=hm _ hin
  rw [e]at hx
  obtain⟨w,hw,rfl⟩:=List.mem_map.1 hx
  have:=List.mem_range.1 hw
  have:Int.ofNat w=(w:Int):=rfl
  omega
theorem zbF:Ret (xM m) (PE m):=by
 have hN:=h.len64
 have hN1:=h.len1
 unfold xM YO Zc Zb Za uY
 rw [z1Q,z9q h,Option.bind_some,bne_self_eq_false,cond_false,Option.bind_some,zy,zy]
 refine(z9p h).mono ?_
 rintro⟨b1,_⟩ ⟨_,hb1⟩
 rw [zg]
 simp only at hb1 ⊢
 cases b1 with
 | false=>exact zg.2 (.inl ⟨rfl,fun q=>by have:=hb1.2 q;cases this⟩)
 | true=>
  have hc:=hb1.1 rfl
  simp only [Bool.not_true,cond_false]
  rw [zy,zy]
  refine(z7W h).mono ?_
  rintro⟨b2,_⟩ ⟨_,hb2⟩
  rw [zg]
  simp only at hb2 ⊢
  cases b2 with
  | false=>exact zg.2 (.inr (.inl ⟨rfl,hc,fun q=>by have:=hb2.2 q;cases this⟩))
  | true=>
   have hr:=hb2.1 rfl
   simp only [Bool.not_true,cond_false]
   rw [zy,zy]
   refine(zbS h).mono ?_
   rintro⟨p,n,e⟩ ⟨_,hp,hrg,hq⟩
   simp only at hp hrg hq ⊢
   rw [zy]
   refine(zi6 (l:=p) (by omega) (by omega)).mono ?_
   rintro x ⟨x1,x2⟩
   have hmax:=zhO hrg (by omega) x1 x2
   rw [zg,zT (x:=((p.length:Nat):Int) - 1) (by omega) (by omega)]
   have hd:zmT m↔∀s t:Nat,s<p.length->t<p.length->p[s]?=p[t]?->s=t:=by
    rw [hp]
    exact⟨fun d s t hs ht g=>d s t hs ht ((hq s t hs ht).1 g),fun d s t hs ht g=>d s t hs ht ((hq s t hs ht).2 g)⟩
   by_cases g:x=(p.length:Int) - 1
   ·rw [beq_iff_eq.2 g]
    simp only [Bool.not_true,cond_false]
    exact zg.2 (.inr (.inr (.inr ⟨rfl,hc,hr,hd.2 (hmax.1 g)⟩)))
   ·have:(x==(p.length:Int) - 1)=false:=by simpa using g
    rw [this]
    simp only [Bool.not_false,cond_true]
    exact zg.2 (.inr (.inr (.inl ⟨rfl,hc,hr,fun d=>g (hmax.2 (hd.1 d))⟩)))
end
theorem zi8 {l:List α}  {x:α}(h:l[i]?=some x):i<l.length:=(List.getElem?_eq_some_iff.1 h).1
section
variable {m p:z6}{F:List Nat}(h:VM m)(hc:Cpl m)(hF:Xg m F)(hp:zgj m F p)
include h hc hF hp
theorem zkp:VM p:=by
 have hz:=(z6U h hF).1
 have hl:=hF.len
 have l64:=h.len64
 have hkk:kk p=kk m:=by unfold kk;rw [hp.inp]
 have hke:=h.kk_eq
 refine⟨by rw [hp.inp];exact h.in1,by rw [hp.inp];exact h.in16,by rw [hp.out];exact h.out1,by rw [hp.out];exact h.out16,by rw [hp.len];omega,by rw [hp.len];omega,fun r hr=>?_,fun r hr x hx=>?_⟩
 ·obtain⟨k,hk⟩:=List.mem_iff_getElem?.1 hr
  have hkl:=zi8 hk
  rw [hp.len]at hkl
  obtain⟨row,q1,q2,_⟩:=hp.row k hkl
  rw [hk]at q1
  cases q1
  rw [hp.inp]
  omega
 ·obtain⟨k,hk⟩:=List.mem_iff_getElem?.1 hr
  have hkl:=zi8 hk
  rw [hp.len]at hkl
  obtain⟨row,q1,q2,q3⟩:=hp.row k hkl
  rw [hk]at q1
  cases q1
  obtain⟨i,hi⟩:=List.mem_iff_getElem?.1 hx
  have hil:=zi8 hi
  rw [q2]at hil
  obtain⟨e,e1,e2,e3⟩:=q3 i hil
  rw [hi]at e1
  cases e1
  obtain⟨_,f2,_⟩:=hF.at hkl
  have he:=h.edgeAt f2 hil
  have hcc:=hc _ i f2 hil
  rw [hp.len,hp.out]
  rcases e3 with⟨g0,n,g1,g2,_⟩|⟨g0,_⟩
  ·right
   omega
  ·omega
omit h in
theorem zi5:Cpl p:=by
 intro s i hs hi
 rw [hp.len]at hs
 have hkk:kk p=kk m:=by unfold kk;rw [hp.inp]
 rw [hkk]at hi
 obtain⟨_,f2,_⟩:=hF.at hs
 have hcc:=hc _ i f2 hi
 rcases(zoz hp hkk hs hi).2 with⟨_,n,g,_⟩|⟨g,_⟩
 ·rw [g];exact Int.natCast_nonneg n
 ·omega
omit h hc in
theorem zfn:zmT p:=by
 intro s t hs ht hst
 rw [hp.len]at hs ht
 have hkk:kk p=kk m:=by unfold kk;rw [hp.inp]
 refine hF.uniq hs ht fun w hw=>?_
 rw [<-z9V hF hp w s hs hw,<-z9V hF hp w t ht hw]
 exact hst w (by rw [hkk];exact hw)
omit h hF hp in
theorem zeX {s t i:Nat}(hs:s<m.Rows.length)(ht:t<m.Rows.length)(hi:i<kk m)(q:SEq m s t):SEq m (E m s i).To.toNat (E m t i).To.toNat:=by
 have a:=hc s i hs hi
 have b:=hc t i ht hi
 intro w hw
 have:=q (i::w) fun j hj=>by
  rcases List.mem_cons.1 hj with rfl|hj
  ·exact hi
  ·exact hw j hj
 simp only [rsp,YQ,List.cons.injEq]at this
 rw [Int.toNat_of_nonneg a,Int.toNat_of_nonneg b]
 exact this.2
theorem zd6:∀(v:List Nat) (k s:Nat),k<F.length->s<m.Rows.length->Wd (kk m) v->SEq m F[k]! s->∃n t:Nat,aft p (k:Int) v=(n:Int)/\n<F.length/\aft m (s:Int) v=(t:Int)/\t<m.Rows.length/\SEq m F[n]! t
 | [],k,s,hk,hs,_,q=>⟨k,s,rfl,hk,rfl,hs,q⟩
 | i::v,k,s,hk,hs,hv,q=>by
  have hkk:kk p=kk m:=by unfold kk;rw [hp.inp]
  have hi:=hv i (by simp)
  obtain⟨_,f2,_⟩:=hF.at hk
  have hcs:=hc s i hs hi
  have hes:=h.edgeAt hs hi
  rcases(zoz hp hkk hk hi).2 with⟨g0,n,g1,g2,g3⟩|⟨g,_⟩
  ·have hstep:=zeX hc f2 hs hi q
   obtain⟨n',t',r1,r2,r3,r4,r5⟩:=zd6 v n (E m s i).To.toNat g2 (by omega) (fun j hj=>hv j (by simp [hj])) (g3.trans hstep)
   refine⟨n',t',?_,r2,?_,r4,r5⟩
   ·simp only [aft,YQ,g1]
    exact r1
   ·simp only [aft,YQ]
    rw [<-Int.toNat_of_nonneg hcs]
    exact r3
  ·have:=hc _ i f2 hi
   omega
theorem zfm:zln p:=by
 intro t ht
 rw [hp.len]at ht
 have hkk:kk p=kk m:=by unfold kk;rw [hp.inp]
 have hz:=z6U h hF
 obtain⟨f1,f2,_⟩:=hF.at ht
 obtain⟨_,v,hv⟩:=hF.acc _ f1
 obtain⟨n,u,a,b,c,_,d⟩:=zd6 h hc hF hp v 0 0 hz.1 (by have:=h.len1;omega) hv.wd (by rw [hz.2];exact SEq.refl 0)
 have hu:u=F[t]!:=by
  have e:aft m 0 v=(u:Int):=c
  rw [hv.aft]at e
  omega
 subst hu
 have hn:=hF.uniq b ht d
 subst hn
 exact⟨v,by rw [hkk];exact hv.wd,a⟩
end
theorem zbK (n:Nat)(hN:n<=1000){σ:Type}(yy:σ->(Int×Int)->Option (σ×Bool))(I:Nat->Nat->σ->Prop)(Q:σ->Prop){sg:σ}(h0:I 0 1 sg)
  (hy:∀(s t:Nat) sg,s<t->t<n->I s t sg->Ret (yy sg ((s:Int),(t:Int))) fun r=>(r.2=true/\I s (t+1) r.1)\/(r.2=false/\Q r.1))
  (hr:∀(s t:Nat) sg,s<n->s<t->n<=t->I s t sg->I (s+1) (s+2) sg) (hq:∀(s t:Nat) sg,n<=s->I s t sg->Q sg):Ret (yG (n:Int) yy sg) Q:=by
 have hw:∀k:Nat,k<=1000->w64 ((k:Int)+1)=((k+1:Nat):Int):=fun k hk=>by rw [zT (by omega) (by omega)];rfl
 unfold yG
 rw [zy]
 refine Ret.mono (Q:=Q) ?_ fun o ho=>zg.2 ho
 refine zW (fun q=>∃s:Nat,q.2=(s:Int)/\s<=n/\I s (s+1) q.1) (fun q=>2000 - q.2.toNat) ⟨0,rfl,Nat.zero_le _,h0⟩ (by simp) ?_
 rintro⟨g,q⟩ ⟨s,e2,hs,hI⟩
 simp only at e2 hI
 subst e2
 unfold Zh
 rw [zF]
 refine⟨fun hc=>?_,fun hc=>?_⟩
 ·have hs':s<n:=by simpa using hc
  rw [zy,hw s (by omega)]
  have inner:Ret (loop (fun q=>uJ (n:Int) yy (s:Int) q.1 q.2) (g,((s+1:Nat):Int))) fun r=>match r with|.inl g'=>∃t:Nat,s<t/\n<=t/\I s t g'|.inr g'=>Q g':=by
   refine zW (fun q=>∃t:Nat,q.2=(t:Int)/\s<t/\t<=n/\I s t q.1) (fun q=>2000 - q.2.toNat) ⟨s+1,rfl,by omega,by omega,hI⟩ (by simp only;omega) ?_
   rintro⟨g',q⟩ ⟨t,e2,ht1,ht2,hI⟩
   simp only at e2 hI
   subst e2
   unfold uJ
   rw [zF]
   refine⟨fun hc=>?_,fun hc=>?_⟩
   ·have ht':t<n:=by simpa using hc
    rw [zy]
    refine(hy s t g' ht1 ht' hI).mono fun r hr=>?_
    rw [zF,hw t (by omega)]
    rcases hr with⟨e,h⟩|⟨e,h⟩
    ·exact⟨fun c=>by simp [e]at c,fun _=>zg.2 ⟨⟨t+1,rfl,by omega,by omega,h⟩,by simp only [Int.toNat_natCast];omega⟩⟩
    ·exact⟨fun _=>zg.2 h,fun c=>by simp [e]at c⟩
   ·have ht':¬t<n:=by simpa using hc
    exact zg.2 ⟨t,ht1,by omega,hI⟩
  refine inner.mono fun r hr'=>?_
  cases r with
  | inl p=>
   obtain⟨t,h1,h2,h3⟩:=hr'
   unfold Zi
   rw [hw s (by omega)]
   exact zg.2 ⟨⟨s+1,rfl,by omega,hr s t p hs' h1 h2 h3⟩,by simp only [Int.toNat_natCast];omega⟩
  | inr p=>exact zg.2 hr'
 ·have hs':¬s<n:=by simpa using hc
  exact zg.2 (hq s (s+1) g (by omega) hI)
structure KM (m:z6):Prop where
 vm:VM m
 cpl:Cpl m
 dist:zmT m
 rall:zln m
 inp:m.Inputs<=4
 len:m.Rows.length<=6
theorem KM.proper (h:KM m):xM m=some 0:=by
 obtain⟨e,e1,e2⟩:=zbF h.vm
 rw [e1,e2.uniq (.inr (.inr (.inr ⟨rfl,h.cpl,h.rall,h.dist⟩)))]
theorem zow {x:vT}(h:zn3 x.C):Ret (Qv x) KM:=by
 unfold Qv
 rw [gdT (by decide),zy]
 have h':zn3 (zC.mk (Int.tmod x.C.States 5) x.C.Inputs x.C.Outputs x.C.Tree x.C.Edges):=⟨Int.tmod_nonneg _ h.s0,h.i0,h.o0,h.t0,h.e0⟩
 refine(zi1 h').mono fun m hm=>?_
 obtain⟨h1,h2,h3,h4,h5⟩:=hm
 have k1:=h1.kk_pos
 have k2:=h1.kk_eq
 have hG:GG (kk m) m.Rows.length<=1000000000:=by
  have e:kk m=1\/kk m=2\/kk m=3:=by omega
  have hm:GG (kk m) m.Rows.length<=GG (kk m) 8:=z8d (by omega)
  rcases e with e|e|e <;> rw [e]at hm ⊢ <;> exact Nat.le_trans hm (by decide)
 rw [zy]
 refine(za7 h1 hG).mono fun p hp=>?_
 obtain⟨F,hF,hp⟩:=hp
 have hc:Cpl m:=h4
 have hl:=hF.len
 exact zg.2 ⟨zkp h1 hc hF hp,zi5 hc hF hp,zfn hF hp,zfm h1 hc hF hp,by rw [hp.inp];omega,by rw [hp.len];omega⟩
theorem z93:QZ=some true:=by kernel_rfl
def uI (w:List Int):List Nat:=w.map Int.toNat
theorem zjh (h:∀c∈w,0<=c):(uI w).map Int.ofNat=w:=by
 unfold uI
 rw [List.map_map]
 exact(List.map_congr_left (g:=id) fun c hc=>by have:=h c hc;show((c.toNat:Nat):Int)=c;omega).trans (List.map_id w)
structure VW (m:z6)(w:List Int):Prop where
 len:w.length<=256
 sym:∀c∈w,0<=c/\c<m.Inputs
theorem VW.wd (h:VW m w)(hk:((kk m:Nat):Int)=m.Inputs):Wd (kk m) (uI w):=by
 intro i hi
 obtain⟨c,hc,rfl⟩:=List.mem_map.1 hi
 have:=h.sym c hc
 omega
theorem VW.map (h:VW m w):(uI w).map Int.ofNat=w:=zjh fun c hc=>(h.sym c hc).1
def sgn (m:z6)(l:List (List Int))(s:Nat):List (List Int):=l.map fun w=>rsp m (s:Int) (uI w)
theorem zaD {s i:Nat}  (hx:l[i]?=some x):sgn m (l.take (i+1)) s=sgn m (l.take i) s++[rsp m (s:Int) (uI x)]:=by
 rw [List.take_add_one,hx]
 simp only [sgn,List.map_append,Option.toList_some,List.map_cons,List.map_nil]
section
variable {m:z6}(h:VM m)(hc:Cpl m)
include h hc
theorem zi2 (hs:s<m.Rows.length)(v:List Nat)(hv:Wd (kk m) v)(hl:v.length<=1000):Ret (W6 m (s:Int) (v.map Int.ofNat)) fun o=>o.1=rsp m (s:Int) v:=by
 have hN:=h.len64
 have hw:∀k:Nat,k<=1000->w64 ((k:Int)+1)=((k+1:Nat):Int):=fun k hk=>by rw [zT (by omega) (by omega)];rfl
 unfold W6
 rw [UJ]
 refine⟨by simp only [List.length_map];omega,?_⟩
 rw [zy]
 refine Ret.mono (Q:=fun o=>o.2=rsp m (s:Int) v) ?_ fun o ho=>?_
 ·refine zW (fun q=>∃(i t:Nat),q.2.2=(i:Int)/\i<=v.length/\q.1=(t:Int)/\t<m.Rows.length/\aft m (s:Int) (v.take i)=(t:Int)/\q.2.1=rsp m (s:Int) (v.take i)++List.replicate (v.length - i) 0) (fun q=>2000 - q.2.2.toNat) ⟨0,s,rfl,Nat.zero_le _,rfl,hs,rfl,by simp [rsp]⟩ (by simp) ?_
  rintro⟨st,out,q⟩ ⟨i,t,e2,hi,e1,ht,ha,e3⟩
  simp only at e1 e2 e3
  subst e1;subst e2;subst e3
  unfold YR vQ
  rw [zF]
  refine⟨fun c=>?_,fun c=>?_⟩
  ·have hi':i<v.length:=by simpa using c
   have hx:v[i]?=some v[i]:=List.getElem?_eq_getElem hi'
   have hxk:v[i]<kk m:=hv _ (List.getElem_mem hi')
   have hgx:(v.map Int.ofNat)[i]?=some ((v[i]:Nat):Int):=by rw [List.getElem?_map,hx];rfl
   have hne:((t:Int) !=(-1))=true:=by simp
   rw [y5,bdT hgx,Option.bind_some,hne,cond_true,h.edge_eq ht hxk]
   have hrl:(rsp m (s:Int) (v.take i)).length=i:=by rw [z7C,List.length_take];omega
   have hrep:List.replicate (v.length - i) (0:Int)=0::List.replicate (v.length - (i+1)) 0:=by rw [show v.length - i=(v.length - (i+1))+1 by omega];rfl
   have e0:(0:Int)<=(E m t v[i]).To:=hc t _ ht hxk
   have e1:=h.edgeAt ht hxk
   unfold kJ
   have hg:(rsp m (s:Int) (v.take i)++List.replicate (v.length - i) 0)[i]?=some (0:Int):=by
    rw [hrep,List.getElem?_append_right (by omega),hrl]
    simp
   rw [y5,bdT hg,hw i (by omega)]
   have htk:v.take (i+1)=v.take i++[v[i]]:=by rw [List.take_add_one,hx];rfl
   obtain⟨r1,r2⟩:=z1E m (v.take i) (s:Int) v[i]
   refine zg.2 ⟨⟨i+1,(E m t v[i]).To.toNat,rfl,hi',by simp only;omega,by omega,?_,?_⟩,by simp only [Int.toNat_natCast];omega⟩
   ·rw [htk,r2,ha,YQ]
    omega
   ·simp only [Int.toNat_natCast]
    rw [htk,r1,ha,YQ,hrep,List.set_append,if_neg (by omega),hrl,Nat.sub_self]
    simp
  ·have hi':i=v.length:=by
    have:¬i<v.length:=by simpa using c
    omega
   subst hi'
   refine zg.2 ?_
   show rsp m (s:Int) (v.take v.length)++List.replicate (v.length - v.length) 0=rsp m (s:Int) v
   simp
 ·unfold YS
  exact zg.2 ho
theorem zlm (hs:s<m.Rows.length)  (hw:VW m w):W7 m (s:Int) w=some (rsp m (s:Int) (uI w),0):=by
 have hN:=h.len64
 obtain⟨o,e,e1⟩:=zi2 h hc hs (uI w) (hw.wd h.kk_eq) (by have:=hw.len;unfold uI;simp;omega)
 rw [hw.map]at e
 have hst:ZD m (s:Int)=some 0:=by
  unfold ZD
  rw [bdT (z1Q m),z9q h,show((0:Int) != 0)=false from rfl,cond_false,decide_eq_false (by omega),cond_false,decide_eq_false (by omega),cond_false]
 have hck:jQ w m.Inputs=some 0:=by
  rw [z8v,if_neg (by have:=h.in16;omega),if_neg (by have:=hw.len;omega),if_neg (by have:=h.in1;omega)]
  have:wE m.Inputs w=0:=z9G.2 ⟨hw.len,hw.sym⟩
  rw [this]
 unfold W7
 rw [bdT hst,show((0:Int) != 0)=false from rfl,cond_false,bdT hck,show((0:Int) != 0)=false from rfl,cond_false,bdT e,e1]
theorem zcl (hs:s<m.Rows.length)  (hl:l.length<=100000)(hw:∀w∈l,VW m w):xv m l (s:Int)=some (sgn m l s):=by
 unfold xv qe xx
 have:=XR (step:=fun q=>yD m l (s:Int) q.1 q.2) (fun i=>(sgn m (l.take i) s,(i:Int))) l.length (t:=sgn m l s) (by omega) (fun i hi=>by
  have hx:l[i]?=some l[i]:=List.getElem?_eq_getElem hi
  show yD m l (s:Int) (sgn m (l.take i) s) (i:Int)=_
  unfold yD
  have hlen:(sgn m (l.take i) s).length<=100000:=by unfold sgn;simp;omega
  rw [decide_eq_true (by omega),cond_true,y5,bdT hx,bdT (zlm h hc hs (hw _ (List.getElem_mem hi))),gdT (by simp;omega),zT (by omega) (by omega),zaD hx]
  rfl) (by
  show yD m l (s:Int) _ _=_
  unfold yD
  rw [decide_eq_false (by omega),cond_false,List.take_length])
 have h0:((sgn m (l.take 0) s,((0:Nat):Int)))=(([]:List (List Int)),(0:Int)):=by simp [sgn]
 rw [h0]at this
 rw [bdT this]
 rfl
omit hc in
theorem z7D {s:Nat}(hs:s<m.Rows.length)  (hl:l.length<=100000)(hw:∀w∈l,VW m w):wn m l (s:Int)=some (sgn m l s):=by
 unfold wn jC
 have:=XR (step:=fun q=>yZ m l (s:Int) q.1 q.2) (fun i=>(sgn m (l.take i) s,(i:Int))) l.length (t:=sgn m l s) (by omega) (fun i hi=>by
  have hx:l[i]?=some l[i]:=List.getElem?_eq_getElem hi
  have hv:=hw _ (List.getElem_mem hi)
  have hr:=zka h (s:=(s:Int)) ⟨by omega,by omega⟩ (uI l[i]) (hv.wd h.kk_eq) (by have:=hv.len;unfold uI;simp;omega)
  rw [hv.map]at hr
  show yZ m l (s:Int) (sgn m (l.take i) s) (i:Int)=_
  unfold yZ
  have hlen:(sgn m (l.take i) s).length<=100000:=by unfold sgn;simp;omega
  rw [decide_eq_true (by omega),cond_true,y5,bdT hx,bdT hr,gdT (by simp;omega),zT (by omega) (by omega),zaD hx]
  rfl) (by
  show yZ m l (s:Int) _ _=_
  unfold yZ
  rw [decide_eq_false (by omega),cond_false,List.take_length])
 have h0:((sgn m (l.take 0) s,((0:Nat):Int)))=(([]:List (List Int)),(0:Int)):=by simp [sgn]
 rw [h0]at this
 rw [bdT this]
end
theorem zgN (a b:List (List Int))(ha:a.length<=1000000)(hw:∀x∈a,x.length<=1000000):wC a b=some (decide (a=b)):=by
 unfold wC yp
 by_cases e:a.length=b.length
 ·have e':(((a.length:Nat):Int) !=((b.length:Nat):Int))=false:=by simp;omega
  rw [e',cond_false,uE a (by omega) (step:=fun s=>zQ a b s) (fun i x=>if b[i]?=some x then none else some false) ?_ ?_]
  ·by_cases hab:a=b
   ·subst hab
    rw [XA (fun i x hx=>by rw [Nat.zero_add,if_pos hx]),decide_eq_true rfl]
    rfl
   ·rw [decide_eq_false hab]
    cases hf:xc (fun i x=>if b[i]?=some x then none else some false) a 0 with
    | none=>
     exfalso
     refine hab (List.ext_getElem? fun i=>?_)
     cases hx:a[i]? with
     | none=>
      have:a.length<=i:=List.getElem?_eq_none_iff.1 hx
      exact(List.getElem?_eq_none_iff.2 (by omega)).symm
     | some x=>
      have:=qm hf i x hx
      rw [Nat.zero_add]at this
      split at this
      ·rename_i hb;exact hb.symm
      ·cases this
    | some r=>
     obtain⟨i,x,_,hr⟩:=qj hf
     split at hr
     ·cases hr
     ·cases hr;rfl
  ·intro i x hx
   have hlt:=(List.getElem?_eq_some_iff.1 hx).1
   have hb:b[i]?=some (b[i]'(by omega)):=List.getElem?_eq_getElem (by omega)
   unfold zQ jI
   rw [decide_eq_true (by omega),cond_true,y5,bdT hx,y5,bdT hb,bdT (z9n x _ (by have:=hw x (List.mem_of_getElem? hx);omega)),Option.bind_some,hb]
   by_cases hxb:x=b[i]'(by omega)
   ·rw [decide_eq_true hxb,if_pos (by rw [hxb])]
    rfl
   ·rw [decide_eq_false hxb,if_neg (fun q=>hxb (Option.some.inj q).symm)]
    rfl
  ·unfold zQ
   rw [decide_eq_false (by omega),cond_false]
 ·have e':(((a.length:Nat):Int) !=((b.length:Nat):Int))=true:=by simp;omega
  rw [e',cond_true,decide_eq_false (fun q=>e (by rw [q]))]
  rfl
theorem zdI (h:chE m.Inputs l=0):l.length<=4096/\∀w∈l,VW m w:=by
 obtain⟨h1,h2,_,_,_,h3⟩:=zg0 h
 exact⟨h1,fun w hw=>⟨h2 w hw,fun c hc=>h3 w hw c hc⟩⟩
theorem z4V (m:z6)(l:List (List Int))(s:Nat):(sgn m l s).length=l.length:=by simp [sgn]
theorem z1C (hw:∀w∈l,VW m w)(hx:x∈sgn m l s):x.length<=256:=by
 obtain⟨w,h1,rfl⟩:=List.mem_map.1 hx
 rw [z7C]
 have:=(hw w h1).len
 unfold uI
 simpa using this
theorem zeh (m:z6)(l:List (List Int))(s:Nat)(hl:l.length<=100000)(r:List (List Int))(hr:r.map List.length=l.map List.length):zY l r ()=some true:=by
 have hlen:r.length=l.length:=by simpa using congrArg List.length hr
 unfold zY
 have e:(((l.length:Nat):Int) !=((r.length:Nat):Int))=false:=by simp;omega
 rw [e,cond_false,uE l (by omega) (step:=fun s=>zJ l r s) (fun _ _=>none) ?_ ?_,XA (fun _ _ _=>rfl)]
 ·rfl
 ·intro i x hx
  have hlt:=(List.getElem?_eq_some_iff.1 hx).1
  have hy:r[i]?=some (r[i]'(by omega)):=List.getElem?_eq_getElem (by omega)
  have hxy:(r[i]'(by omega)).length=x.length:=by
   have:=congrArg (fun q=>q[i]?) hr
   simpa [List.getElem?_map,hx,hy] using this
  unfold zJ Zj
  rw [decide_eq_true (by omega),cond_true,y5,bdT hx,y5,bdT hy,Option.bind_some,hxy]
  simp only [beq_self_eq_true,Bool.not_true,cond_false]
  rfl
 ·unfold zJ
  rw [decide_eq_false (by omega),cond_false]
section
variable {m:z6}(h:KM m){l:List (List Int)}
include h
theorem z7F (l:List (List Int)):kK m l=some (chE m.Inputs l):=by
 unfold kK
 rw [bdT h.proper,show((0:Int) != 0)=false from rfl,cond_false,bdT (zca l m.Inputs)]
variable (hl:chE m.Inputs l=0)
include hl
theorem zll (hs:s<m.Rows.length):vD m l (s:Int)=some (sgn m l s,0):=by
 obtain⟨h1,h2⟩:=zdI hl
 unfold vD
 rw [bdT (z7F h l),hl,show((0:Int) != 0)=false from rfl,cond_false,decide_eq_false (by omega),cond_false,decide_eq_false (by omega),cond_false,bdT (zcl h.vm h.cpl hs (by omega) h2)]
def idn (m:z6)(l:List (List Int))(r:List (List Int))(n:Nat):List Int:=((List.range n).filter fun s=>decide (sgn m l s=r)).map Int.ofNat
theorem zgR (r:List (List Int))(hr:r.map List.length=l.map List.length):xo m l r=some (idn m l r m.Rows.length,0):=by
 obtain⟨h1,h2⟩:=zdI hl
 have hN:=h.len
 have hil:∀n,(idn m l r n).length<=n:=fun n=>by
  unfold idn
  rw [List.length_map]
  exact Nat.le_trans (List.length_filter_le _ _) (by simp)
 have hlp:=XR (step:=fun q=>xa m l r q.1 q.2) (fun i=>(idn m l r i,(i:Int))) m.Rows.length (t:=idn m l r m.Rows.length) (by omega) (fun i hi=>by
  show xa m l r (idn m l r i) (i:Int)=_
  have hi2:=hil i
  unfold xa vS
  have hsr:idn m l r (i+1)=idn m l r i++(if sgn m l i=r then [(i:Int)] else []):=by
   unfold idn
   rw [List.range_succ,List.filter_append,List.map_append]
   by_cases e:sgn m l i=r
   ·simp [e]
   ·simp [e]
  rw [decide_eq_true (by omega),cond_true,bdT (zcl h.vm h.cpl hi (by omega) h2),bdT (zgN _ _ (by rw [z4V];omega) fun x hx=>by have:=z1C h2 hx;omega),zT (by omega) (by omega)]
  by_cases e:sgn m l i=r
  ·rw [decide_eq_true e,cond_true,gdT (by simp;omega),hsr,if_pos e]
   rfl
  ·rw [decide_eq_false e,cond_false,hsr,if_neg e,List.append_nil]
   rfl) (by
  show xa m l r _ _=_
  unfold xa
  rw [decide_eq_false (by omega),cond_false])
 have h0:(idn m l r 0,((0:Nat):Int))=(([]:List Int),(0:Int)):=rfl
 rw [h0]at hlp
 unfold xo
 rw [bdT (z7F h l),hl,show((0:Int) != 0)=false from rfl,cond_false,bdT (zeh m l 0 (by omega) r hr),show(!true)=false from rfl,cond_false,bdT hlp]
 unfold jJ xI
 rfl
theorem zgl:Ret (kM m l) fun o=>o.2=0/\(o.1=true↔∀a b,a<b->b<m.Rows.length->sgn m l a≠sgn m l b):=by
 obtain⟨h1,h2⟩:=zdI hl
 have hN:=h.len
 have hlp:=XR (step:=fun q=>wo m l q.1 q.2) (fun i=>((List.range i).map (sgn m l),(i:Int))) m.Rows.length (t:=(List.range m.Rows.length).map (sgn m l)) (by omega) (fun i hi=>by
  show wo m l ((List.range i).map (sgn m l)) (i:Int)=_
  unfold wo
  rw [decide_eq_true (by omega),cond_true,bdT (zcl h.vm h.cpl hi (by omega) h2),gdT (by simp;omega),zT (by omega) (by omega),List.range_succ,List.map_append]
  rfl) (by
  show wo m l _ _=_
  unfold wo
  rw [decide_eq_false (by omega),cond_false])
 have h0:((List.range 0).map (sgn m l),((0:Nat):Int))=(([]:List (List (List Int))),(0:Int)):=rfl
 rw [h0]at hlp
 unfold kM
 rw [bdT (z7F h l),hl,show((0:Int) != 0)=false from rfl,cond_false,bdT hlp]
 unfold X2 kL
 rw [Option.bind_some,zy]
 have hg:∀a,a<m.Rows.length->((List.range m.Rows.length).map (sgn m l))[a]?=some (sgn m l a):=fun a ha=>by
  rw [List.getElem?_map,List.getElem?_range ha]
  rfl
 refine Ret.mono (Q:=fun o=>(o=.next ()/\∀a b,a<b->b<m.Rows.length->sgn m l a≠sgn m l b)\/(o=.done ()/\∃a b,a<b/\b<m.Rows.length/\sgn m l a=sgn m l b)) ?_ fun o ho=>?_
 ·refine zbK m.Rows.length (by omega) _ (fun s t o=>o=.next ()/\∀a b,a<b->b<m.Rows.length->(a<s\/(a=s/\b<t))->sgn m l a≠sgn m l b) _ ⟨rfl,fun a b q1 q2 q3=>by omega⟩ ?_ ?_ ?_
  ·rintro s t o hst ht ⟨rfl,ho⟩
   have e:uK ((List.range m.Rows.length).map (sgn m l)) (s:Int) (t:Int)=some (if sgn m l s=sgn m l t then .done () else .next ()):=by
    unfold uK
    rw [y5,bdT (hg s (by omega)),y5,bdT (hg t ht),bdT (zgN _ _ (by rw [z4V];omega) fun x hx=>by have:=z1C h2 hx;omega)]
    by_cases e:sgn m l s=sgn m l t
    ·rw [decide_eq_true e,cond_true,if_pos e]
    ·rw [decide_eq_false e,cond_false,if_neg e]
   by_cases e2:sgn m l s=sgn m l t
   ·rw [if_pos e2]at e
    refine⟨(.done (),false),?_,.inr ⟨rfl,.inr ⟨rfl,s,t,hst,ht,e2⟩⟩⟩
    simp only [yOf]
    rw [e]
   ·rw [if_neg e2]at e
    refine⟨(.next (),true),?_,.inl ⟨rfl,rfl,fun a b q1 q2 q3=>?_⟩⟩
    ·simp only [yOf]
     rw [e]
    ·by_cases e3:a=s/\b=t
     ·rw [e3.1,e3.2];exact e2
     ·exact ho a b q1 q2 (by omega)
  ·rintro s t o hs hst ht ⟨rfl,ho⟩
   exact⟨rfl,fun a b q1 q2 q3=>ho a b q1 q2 (by omega)⟩
  ·rintro s t o hs ⟨rfl,ho⟩
   exact .inl ⟨rfl,fun a b q1 q2=>ho a b q1 q2 (by omega)⟩
 ·unfold X1
  rcases ho with⟨rfl,ho⟩|⟨rfl,a,b,q1,q2,q3⟩
  ·exact zg.2 ⟨rfl,Iff.intro (fun _=>ho) (fun _=>rfl)⟩
  ·exact zg.2 ⟨rfl,Iff.intro (fun q=>Bool.noConfusion q) (fun q=>(q a b q1 q2 q3).elim)⟩
end
theorem z9A {k:Int}(hk:1<=k)   (hw:l[i]?=some w)(h0:∀c∈w,0<=c)(hl:w.length<=100000) :
  Ret (loop (fun s=>uF l k (i:Int) s.1 s.2) (([]:List Int),0)) fun r=>r.length<=w.length/\∀c∈r,0<=c/\c<k:=by
 refine zW (fun q=>∃j:Nat,q.2=(j:Int)/\j<=w.length/\q.1.length=j/\∀c∈q.1,0<=c/\c<k) (fun q=>200000 - q.2.toNat) ⟨0,rfl,Nat.zero_le _,rfl,by simp⟩ (by show 200000 - _<_;omega) ?_
 rintro⟨q,_⟩ ⟨j,rfl,hj,hq,hc⟩
 simp only at hq hc
 show Ret (uF l k (i:Int) q (j:Int)) _
 unfold uF
 rw [zN hw,Option.bind_some,zF]
 refine⟨fun h1=>?_,fun h1=>zg.2 ⟨by omega,hc⟩⟩
 have hlt:j<w.length:=by simpa using h1
 have hx:w[j]?=some w[j]:=List.getElem?_eq_getElem hlt
 have hp:=h0 _ (List.getElem_mem hlt)
 rw [Option.bind_some,zN hx,Option.bind_some,gdT (by omega),gdT (by simp;omega),zg,z7q (by omega),Int.tmod_eq_emod_of_nonneg hp]
 refine⟨⟨j+1,rfl,hlt,by simp [hq],fun c hm=>?_⟩,by simp only;omega⟩
 rcases List.mem_append.1 hm with g|g
 ·exact hc c g
 ·rw [List.mem_singleton.1 g]
  exact⟨Int.emod_nonneg _ (by omega),Int.emod_lt_of_pos _ (by omega)⟩
theorem zbu {L K:Nat}  (h:Wq n L K l)(hL:L<=1000)(hK:K<=1000){k:Int}(hk:1<=k):Ret (W8 l k) (Wq k L K):=by
 have hlen:=h.2.1
 have loop_:Ret (loop (fun s=>uG l k s.1 s.2) (([]:List (List Int)),0)) fun r=>r.length<=L/\∀w∈r,w.length<=K/\∀c∈w,0<=c/\c<k:=by
  refine zW (fun q=>∃j:Nat,q.2=(j:Int)/\j<=l.length/\q.1.length=j/\∀w∈q.1,w.length<=K/\∀c∈w,0<=c/\c<k) (fun q=>2000 - q.2.toNat) ⟨0,rfl,Nat.zero_le _,rfl,by simp⟩ (by show 2000 - _<_;omega) ?_
  rintro⟨q,_⟩ ⟨j,rfl,hj,hq,hc⟩
  simp only at hq hc
  show Ret (uG l k q (j:Int)) _
  unfold uG
  rw [zF]
  refine⟨fun h1=>?_,fun h1=>zg.2 ⟨by omega,hc⟩⟩
  have hlt:j<l.length:=by simpa using h1
  have hx:l[j]?=some l[j]:=List.getElem?_eq_getElem hlt
  obtain⟨b1,b2⟩:=h.2.2 _ (List.getElem_mem hlt)
  rw [zy]
  refine(z9A hk hx (fun c hc=>(b2 c hc).1) (by omega)).mono fun r hr=>?_
  unfold YU YV
  rw [gdT (by simp;omega),zg,z7q (by omega)]
  refine⟨⟨j+1,rfl,hlt,by simp [hq],fun w hm=>?_⟩,by simp only;omega⟩
  rcases List.mem_append.1 hm with g|g
  ·exact hc w g
  ·rw [List.mem_singleton.1 g]
   exact⟨by have:=hr.1;omega,hr.2⟩
 unfold W8
 rw [zy]
 refine loop_.mono fun r hr=>?_
 unfold YW
 rw [zaU (by have:=hr.1;omega) (fun w hw=>by have:=(hr.2 w hw).1;omega),Option.bind_some,zg]
 exact⟨zcg r,Nat.le_trans (z9N r) hr.1,fun w hw=>hr.2 w (za8.1 hw)⟩
theorem zgK (a:List Int)(hl:a.length<=1000000):Yi a a=some true:=by
 unfold Yi
 rw [bdT (z4u [a] [a] (by simp) fun x q=>by rw [List.mem_singleton.1 q];omega),decide_eq_true rfl,cond_true,beq_self_eq_true]
theorem zhM (a:List (List Int))(hl:a.length<=1000000)(hw:∀x∈a,x.length<=1000000):uH a a=some true:=by
 unfold uH
 rw [bdT (z4u a a (by omega) fun x q=>by have:=hw x q;omega),decide_eq_true rfl,cond_true,beq_self_eq_true]
theorem zbE (h:KM m)  (hl:l.length<=100000)(hw:∀w∈l,VW m w):Ret (VF m l) fun o=>o=true↔∀a b,a<b->b<m.Rows.length->sgn m l a≠sgn m l b:=by
 have hN:=h.len
 have inner:∀a:Nat,a<m.Rows.length->Ret (loop (fun s=>Zz m l (a:Int) s) 0) fun t=>(t=.inl ()/\∀b,b<a->sgn m l a≠sgn m l b)\/(t=.inr false/\∃b,b<a/\sgn m l a=sgn m l b):=fun a ha=>by
  refine zW (fun q=>∃i:Nat,q=(i:Int)/\i<=a/\∀b,b<i->sgn m l a≠sgn m l b) (fun q=>1000 - q.toNat) ⟨0,rfl,Nat.zero_le _,fun b hb=>by omega⟩ (by simp) ?_
  rintro q ⟨i,rfl,hi,hb⟩
  unfold Zz
  rw [zF]
  refine⟨fun c=>?_,fun c=>?_⟩
  ·have hi':i<a:=by simpa using c
   rw [bdT (z7D h.vm ha hl hw),bdT (z7D h.vm (show i<m.Rows.length by omega) hl hw),bdT (z4u _ _ (by rw [z4V];omega) fun x hx=>by have:=z1C hw hx;omega)]
   by_cases e:sgn m l a=sgn m l i
   ·rw [decide_eq_true e,cond_true]
    exact zg.2 (.inr ⟨rfl,i,hi',e⟩)
   ·rw [decide_eq_false e,cond_false,zT (by omega) (by omega)]
    refine zg.2 ⟨⟨i+1,rfl,hi',fun b hb'=>?_⟩,by simp only [Int.toNat_natCast];omega⟩
    rcases Nat.lt_or_ge b i with g|g
    ·exact hb b g
    ·have:b=i:=by omega
     subst this
     exact e
  ·have hi':i=a:=by
    have:¬i<a:=by simpa using c
    omega
   subst hi'
   exact zg.2 (.inl ⟨rfl,hb⟩)
 unfold VF
 rw [zy]
 refine Ret.mono (Q:=fun t=>(t=.inl ()/\∀a b,b<a->a<m.Rows.length->sgn m l a≠sgn m l b)\/(t=.inr false/\∃a b,b<a/\a<m.Rows.length/\sgn m l a=sgn m l b)) ?_ fun t ht=>?_
 ·refine zW (fun q=>∃i:Nat,q=(i:Int)/\i<=m.Rows.length/\∀a b,b<a->a<i->sgn m l a≠sgn m l b) (fun q=>1000 - q.toNat) ⟨0,rfl,Nat.zero_le _,fun a b _ hb=>by omega⟩ (by simp) ?_
  rintro q ⟨i,rfl,hi,hb⟩
  unfold XL
  rw [zF]
  refine⟨fun c=>?_,fun c=>?_⟩
  ·have hi':i<m.Rows.length:=by simpa using c
   rw [zy]
   refine(inner i hi').mono fun t ht=>?_
   rcases ht with⟨rfl,ht⟩|⟨rfl,b,h1,h2⟩
   ·simp only
    unfold XM
    rw [zT (by omega) (by omega)]
    refine zg.2 ⟨⟨i+1,rfl,hi',fun a b h1 h2=>?_⟩,by simp only [Int.toNat_natCast];omega⟩
    rcases Nat.lt_or_ge a i with g|g
    ·exact hb a b h1 g
    ·have:a=i:=by omega
     subst this
     exact ht b h1
   ·exact zg.2 (.inr ⟨rfl,i,b,h1,hi',h2⟩)
  ·have hi':i=m.Rows.length:=by
    have:¬i<m.Rows.length:=by simpa using c
    omega
   subst hi'
   exact zg.2 (.inl ⟨rfl,hb⟩)
 ·rcases ht with⟨rfl,ht⟩|⟨rfl,a,b,h1,h2,h3⟩
  ·exact zg.2 ⟨fun _ a b q1 q2=>(ht b a q1 q2).symm,fun _=>rfl⟩
  ·exact zg.2 ⟨fun q=>Bool.noConfusion q,fun q=>(q b a h1 h2 h3.symm).elim⟩
theorem zcJ (h:KM m)  (hl:chE m.Inputs l=0)(r:List (List Int)):qK m l r=some (idn m l r m.Rows.length):=by
 obtain⟨h1,h2⟩:=zdI hl
 have hN:=h.len
 have hil:∀n,(idn m l r n).length<=n:=fun n=>by
  unfold idn
  rw [List.length_map]
  exact Nat.le_trans (List.length_filter_le _ _) (by simp)
 have hlp:=XR (step:=fun q=>xy m l r q.1 q.2) (fun i=>(idn m l r i,(i:Int))) m.Rows.length (t:=idn m l r m.Rows.length) (by omega) (fun i hi=>by
  show xy m l r (idn m l r i) (i:Int)=_
  have hi2:=hil i
  unfold xy ut
  have hsr:idn m l r (i+1)=idn m l r i++(if sgn m l i=r then [(i:Int)] else []):=by
   unfold idn
   rw [List.range_succ,List.filter_append,List.map_append]
   by_cases e:sgn m l i=r
   ·simp [e]
   ·simp [e]
  rw [decide_eq_true (by omega),cond_true,bdT (z7D h.vm hi (by omega) h2),bdT (z4u _ _ (by rw [z4V];omega) fun x hx=>by have:=z1C h2 hx;omega),zT (by omega) (by omega)]
  by_cases e:sgn m l i=r
  ·rw [decide_eq_true e,cond_true,gdT (by simp;omega),hsr,if_pos e]
   rfl
  ·rw [decide_eq_false e,cond_false,hsr,if_neg e,List.append_nil]
   rfl) (by
  show xy m l r _ _=_
  unfold xy
  rw [decide_eq_false (by omega),cond_false])
 have h0:(idn m l r 0,((0:Nat):Int))=(([]:List Int),(0:Int)):=rfl
 rw [h0]at hlp
 unfold qK
 rw [bdT hlp]
 rfl
def Ok5 (a:Int):Prop:=(0)<=a/\a<=255
def zn1 (l:List Int):Prop:=∀a∈l,Ok5 a
def ziN (a:Int):Prop:=(0)<=a/\a<=65535
def zpB (l:List Int):Prop:=∀a∈l,ziN a
def zpA (a:zC):Prop:=Ok5 a.States/\Ok5 a.Inputs/\Ok5 a.Outputs/\zn1 a.Tree/\zpB a.Edges
def zpz (a:vT):Prop:=zpA a.C
def zpy (l:List (List Int)):Prop:=∀a∈l,zn1 a
def zpx (a:yU):Prop:=Ok5 a.Inputs/\zpy a.Words
def zpw (a:zj2 Int):Prop:=Ok5 a.e0/\Ok5 a.e1/\Ok5 a.e2
theorem zdk (m:z6)(l r:List (List Int))(n:Nat):(idn m l r n).length<=n:=by
 unfold idn
 rw [List.length_map]
 exact Nat.le_trans (List.length_filter_le _ _) (by simp)
theorem zig (h:KM m)  (hch:chE m.Inputs l=0)(r:List (List Int))(hln:r.map List.length=l.map List.length):yj m l r=some true:=by
 have hl:=h.len
 unfold yj
 rw [z93,bdT (zgR h hch r hln)]
 simp only
 rw [show((0:Int)==0)=true from rfl,cond_true,bdT (zcJ h hch r),bdT (zgK _ (by have:=zdk m l r m.Rows.length;omega)),cond_true]
 rfl
theorem za5 {c:Int}{n:Nat}(h1:0<=c)(h2:c<=255)(h3:0<n):∃s:Nat,Int.tmod (w64 c) ((n:Nat):Int)=(s:Int)/\s<n:=by
 have a:=Int.emod_nonneg c (show(n:Int)≠0 by omega)
 have b:=Int.emod_lt_of_pos c (show(0:Int)<n by omega)
 refine⟨(c % (n:Int)).toNat,?_,by omega⟩
 rw [zT (by omega) (by omega),Int.tmod_eq_emod_of_nonneg h1]
 omega
theorem zfF {x:vT}{y:yU}{z:zj2 Int}(hx:zpz x)(hy:zpx y)(hz:zpw z):uf x y z=some true:=by
 obtain⟨m,e0,h⟩:=zow (x:=x) ⟨hx.1.1,hx.2.1.1,hx.2.2.1.1,hx.2.2.2.1,hx.2.2.2.2⟩
 have hl:=h.len
 have hl1:=h.vm.len1
 obtain⟨n,hn,n1,n2⟩:=zgf hy.1
 obtain⟨l0,hl0,wl0⟩:=zi9 hn ⟨n1,n2⟩ hy.2
 obtain⟨l,hl2,wl⟩:=zbu wl0 (by omega) (by omega) (k:=m.Inputs) h.vm.in1
 have hch:chE m.Inputs l=0:=wl.ch ⟨h.vm.in1,h.vm.in16⟩ (by omega) (by omega) (by omega)
 obtain⟨hll,hvw⟩:=zdI hch
 obtain⟨s,e1,hs⟩:=za5 hz.1.1 hz.1.2 hl1
 obtain⟨o,f1,g1,g2⟩:=zgl h hch
 obtain⟨o2,f2,g3⟩:=zbE h (by omega) hvw
 have ho:o.1=o2:=Bool.eq_iff_iff.2 (g2.trans g3.symm)
 have hln:(sgn m l s).map List.length=l.map List.length:=by
  unfold sgn
  rw [List.map_map]
  refine List.map_congr_left fun w hw=>?_
  show(rsp m (s:Int) (uI w)).length=w.length
  rw [z7C]
  unfold uI
  simp
 have ex:vT.mk x.C=x:=rfl
 have n0:((0:Int) != 0)=false:=rfl
 have nt:(!true)=false:=rfl
 refine Ret.eq ?_
 unfold uf
 rw [ex,bdT e0,bdT hl0,bdT hl2,gdT (by omega),e1,bdT (zll h hch hs),bdT f1]
 simp only
 rw [n0,cond_false,g1,n0,cond_false,bdT (z7D h.vm hs (by omega) hvw),bdT (zhM _ (by rw [z4V];omega) fun w hw=>by have:=z1C hvw hw;omega),nt,cond_false,bdT f2,ho,beq_self_eq_true,nt,cond_false,bdT (zgR h hch _ hln)]
 simp only
 rw [n0,cond_false,bdT (zcJ h hch _),bdT (zgK _ (by have:=zdk m l (sgn m l s) m.Rows.length;omega)),nt,cond_false,zF]
 refine⟨fun c=>?_,fun _=>?_⟩
 ·have h0:0<(sgn m l s).length:=by
   have:=of_decide_eq_true c
   omega
  obtain⟨k,e2,hk⟩:=za5 hz.2.1.1 hz.2.1.2 h0
  have hu:(sgn m l s)[k]?=some ((sgn m l s)[k]'hk):=List.getElem?_eq_getElem hk
  rw [gdT (by omega),e2,y5,bdT hu,zF]
  refine⟨fun c2=>?_,fun _=>?_⟩
  ·have h3:0<((sgn m l s)[k]'hk).length:=by
    have:=of_decide_eq_true c2
    omega
   obtain⟨j,e3,hj⟩:=za5 hz.2.2.1 hz.2.2.2 h3
   rw [bdT hu,bdT hu,gdT (by omega),e3,y5,bdT (List.getElem?_eq_getElem hj),bdT (List.getElem?_eq_getElem hj),zig h hch _ ?_]
   ·exact zg.2 rfl
   ·rw [<-hln,List.map_set,List.length_set]
    refine List.ext_getElem? fun i=>?_
    rw [List.getElem?_set]
    split
    ·rename_i hki
     subst hki
     simp only [Int.toNat_natCast,List.length_map,hk,if_true,List.getElem?_map,hu,Option.map_some]
    ·rfl
  ·rw [zig h hch _ hln]
   exact zg.2 rfl
 ·rw [zig h hch _ hln]
  exact zg.2 rfl
def z3O (w:World):zi:=fun b o=>y8 w.heap b o
variable {v:Value}
theorem zan {w:World}{a:Addr}  (h:w.cell? a=some v):a.spot=none/\y8 w.heap a.block a.off=some v:=by
 unfold World.cell? at h
 unfold y8
 split at h
 ·rename_i c ty fr he
  rw [he]
  split at h
  ·cases h
  ·rename_i hs
   exact⟨by simpa using hs,h⟩
 ·cases h
variable {cs:List Value}{S:zi}
section
variable {H:Type}{enc:TypeId×Value->H}{P:Program}{w:World}{base:Nat}{spare:Nat->Bool}{held:Bool}
theorem zdJ {a:Addr}{n:Nat}  (h:w.cells? base a n=some cs)(hn:0<n):a.spot=none/\cs.length=n/\z6A (z3O w) a.block a.off cs:=by
 obtain⟨_,h2,h3⟩:=World.cells?_some h
 have h0:a.spot=none:=by
  have h4:=h3 0 hn
  cases hc:cs[0]? with
  | none=>rw [List.getElem?_eq_none_iff]at hc;omega
  | some v=>
   rw [hc]at h4
   have:=(zan h4).1
   simpa [Addr.add] using this
 refine⟨h0,h2,fun j v hj=>?_⟩
 have hlt:=(List.getElem?_eq_some_iff.1 hj).1
 have h4:=h3 j (by omega)
 rw [hj]at h4
 have q:=(zan h4).2
 unfold Addr.add at q
 split at q
 ·rename_i e;subst e;exact q
 ·exact q
theorem z8L:∀{bs:List A} {cs:List Value} {a:A} {c:List Value},yg S bs cs->Rep S a c->yg S (bs++[a]) (cs++c)
 | [],cs,a,c,h1,h2=>by
  simp only [yg]at h1
  subst h1
  simp only [List.nil_append,yg]
  exact⟨c,[],by simp,h2,rfl⟩
 | x::bs,cs,a,c,h1,h2=>by
  simp only [yg]at h1
  obtain⟨c1,c2,rfl,r1,r2⟩:=h1
  simp only [List.cons_append,yg]
  exact⟨c1,c2++c,by simp,r1,z8L r2 h2⟩
theorem zfy {b o:Nat}{c1 c2:List Value}(h1:z6A S b o c1)(h2:z6A S b (o+c1.length) c2):z6A S b o (c1++c2):=by
 intro j v hj
 rcases Nat.lt_or_ge j c1.length with q|q
 ·rw [List.getElem?_append_left q]at hj
  exact h1 j v hj
 ·rw [List.getElem?_append_right q]at hj
  have:=h2 _ _ hj
  rwa [show o+c1.length+(j - c1.length)=o+j by omega]at this
theorem z4S {t e sz:Nat}(f:α->A)(ok:α->Prop)(ht:P.underlying t=some (.slice e))(hsz:P.cellsOf e=sz)(h0:0<sz)(hf:∀a,(f a).size=sz)
    (hel:∀n cs x,DataW.trod enc P w base spare held n e cs=some x->∃a,ok a/\Rep (z3O w) (f a) cs)
    {fuel:Nat} {cs:List Value} {x:DataW H×List MemPlace} (h:DataW.trod enc P w base spare held fuel t cs=some x):∃l:List α,(∀a∈l,ok a)/\Rep (z3O w) (.sl sz false (l.map f)) cs:=by
  rcases DataW.trod_slice ht h with⟨rfl,_⟩|⟨a,len,cap,elems,rest,n,_,rfl,_,_,hlc,_,hlen,hall,_,_⟩
  · refine⟨[],by simp,?_⟩
    simp only [Rep,List.map_nil,List.length_nil]
    exact⟨none,0,rfl,by simp,Nat.le_refl _,by simp,.inl trivial⟩
  · have key:∀k,k<=len->∃(l:List α) (cells:List Value),l.length=k/\(∀a∈l,ok a)/\yg (z3O w) (l.map f) cells/\cells.length=k*sz/\(0<k->a.spot=none)/\z6A (z3O w) a.block a.off cells:=by
      intro k
      induction k with
      | zero=>intro _;exact⟨[],[],rfl,by simp,by simp [yg],by simp,by simp,fun j v h=>by simp at h⟩
      | succ k ih=>
        intro hk
        obtain⟨l,cells,q1,q2,q3,q4,q5,q6⟩:=ih (by omega)
        have hk':=hall k (by omega)
        have hsome:elems[k]?=some elems[k]:=List.getElem?_eq_getElem (by omega)
        rw [hsome,Option.bind_eq_some_iff,hsz]at hk'
        obtain⟨c,hc,htr⟩:=hk'
        obtain⟨y,hy,hr⟩:=hel _ _ _ htr
        obtain⟨g1,g2,g3⟩:=zdJ hc h0
        refine⟨l++[y],cells++c,by simp [q1],?_,?_,?_,?_,?_⟩
        · intro z hz
          rcases List.mem_append.1 hz with q|q
          · exact q2 z q
          · simp only [List.mem_cons,List.not_mem_nil,or_false]at q;subst q;exact hy
        · rw [List.map_append];exact z8L q3 hr
        · rw [List.length_append,q4,g2,Nat.succ_mul]
        · intro _
          rcases Nat.eq_zero_or_pos k with rfl|hk0
          · simpa [Addr.add] using g1
          · exact q5 hk0
        · refine zfy q6 ?_
          rw [q4]
          unfold Addr.add at g3
          split at g3
          · rename_i e0
            rw [e0,Nat.add_zero]
            exact g3
          · exact g3
    obtain⟨l,cells,q1,q2,q3,q4,q5,q6⟩:=key len (Nat.le_refl _)
    refine⟨l,q2,?_⟩
    simp only [Rep,List.length_map]
    refine⟨some a,cap,by rw [q1],by simp,by omega,?_,?_⟩
    · intro y hy
      obtain⟨z,_,rfl⟩:=List.mem_map.1 hy
      exact hf z
    · rcases Nat.eq_zero_or_pos len with rfl|hl
      · left;rw [List.length_eq_zero_iff.1 q1];rfl
      · right
        refine⟨a.block,a.off,cells,?_,q3,q6⟩
        have:=q5 hl
        obtain⟨b,o,s⟩:=a
        simp only at this
        subst this
        rfl
theorem zdi {t:Nat}{k:IntKind}{lo hi:Int}(ht:P.underlying t=some (.int k))(hlo:k.min=lo)(hhi:k.max=hi){fuel:Nat}  {x:DataW H×List MemPlace}(h:DataW.trod enc P w base spare held fuel t cs=some x) :
  ∃n:Int,(lo<=n/\n<=hi)/\cs=[.int k n]/\Rep (z3O w) (.atom (.int k n)) cs:=by
 obtain⟨n,rfl,_,hw⟩:=DataW.trod_int ht h
 simp only [Lit.wf,Bool.and_eq_true,decide_eq_true_eq,hlo,hhi]at hw
 exact⟨n,hw,rfl,by simp only [Rep];exact⟨trivial,rfl⟩⟩
theorem QL {t:Nat}{fs:List Field}(ht:P.underlying t=some (.struct ⟨fs⟩)){fuel:Nat}  {x:DataW H×List MemPlace}(h:DataW.trod enc P w base spare held fuel t cs=some x) :
  cs.length=P.cellsOf t/\∀(i:Nat) (f:Field),fs[i]?=some f->∃n y,DataW.trod enc P w base spare held n f.type ((cs.drop f.offset).take (P.cellsOf f.type))=some y:=by
 obtain⟨xs,n,_,_,hl,hxl,hall⟩:=DataW.trod_struct ht h
 refine⟨hl,fun i f hf=>?_⟩
 have hlt:=(List.getElem?_eq_some_iff.1 hf).1
 have:=hall i f (by simpa using hf)
 rw [List.getElem?_eq_getElem (by rw [hxl];simpa using hlt)]at this
 exact⟨n,_,this⟩
end
theorem k7 {a:A}{bs:List A}  {n:Nat}(h1:Rep S a (cs.take n))(h2:yg S bs (cs.drop n)):yg S (a::bs) cs:=by
 simp only [yg]
 exact⟨cs.take n,cs.drop n,(List.take_append_drop n cs).symm,h1,h2⟩
open Go.RowKit Go.ChangeShapes
theorem z8N (k:IntKind):∀l:List Int,yg S (l.map fun n=>A.atom (.int k n)) (l.map fun n=>Value.int k n)
 | []=>by simp [yg]
 | n::l=>by
  simp only [List.map_cons,yg,Rep]
  exact⟨[.int k n],_,rfl,⟨rfl,rfl⟩,z8N k l⟩
theorem zeN {P:Program}{W:World}{n:String}{l:List Int}{r:List (String×DataW Unit)}{g:Nat}{t e:TypeId}{k:IntKind}{N:Nat}(h:laidMet P ((n,.agg (l.map fun x=>.lit (.int k x)))::r) W)
  (hg:P.globalNamed n=some g) (ht:(P.globals[g]?).map (·.type)=some t) (hu:P.underlying t=some (.array N e)) (he:P.underlying e=some (.int k)) (hc:P.cellsOf e=1) :
  ∀(j:Nat) (x:Int),l[j]?=some x->z3O W g j=some (.int k x):=by
 obtain⟨ps,⟨g0,t0,cs0,f0,p0,q0,hg0,ht0,hv0,hd0,_,_⟩,_,_⟩:=h
 obtain rfl:=Option.some.inj (hg.symm.trans hg0)
 obtain rfl:=Option.some.inj (ht.symm.trans ht0)
 obtain⟨xs,m,_,hxs,hlen,hxl,hall⟩:=DataW.trod_array hu hd0
 have hx1:l.map (fun x=>(DataW.lit (.int k x):DataW Unit))=xs.map (·.1):=by
  have:=(Prod.mk.inj hxs).1
  injection this
 intro j x hj
 have hjl:j<l.length:=(List.getElem?_eq_some_iff.1 hj).1
 have hll:l.length=xs.length:=by simpa using congrArg List.length hx1
 have hjx:j<xs.length:=by omega
 have hy:xs[j]?=some xs[j]:=List.getElem?_eq_getElem hjx
 have h1:=hall j (by omega)
 rw [hy,hc,Nat.mul_one]at h1
 obtain⟨v,e1,e2,_⟩:=DataW.trod_int he h1
 have e3:(xs.map (·.1))[j]?=some (.lit (.int k x)):=by rw [<-hx1,List.getElem?_map,hj];rfl
 rw [List.getElem?_map,hy,e2]at e3
 have e4:v=x:=by
  simp only [Option.map_some,Option.some.injEq]at e3
  injection e3 with e3
  injection e3
 subst e4
 have h2:cs0.toList[j]?=some (.int k v):=by
  have:=congrArg (fun q=>q[0]?) e1
  simpa [List.getElem?_take,List.getElem?_drop] using this
 have h3:=World.var?_cell hg hv0 j
 rw [show cs0[j]?=some (.int k v) by simpa using h2]at h3
 exact(zan h3).2
section
open Go Go.ChangeShapes Go.WideShapes Go.ChangeAt Go.RowKit
theorem zcP {P:Program}{H:Type}{enc:TypeId×Value->H}{f:Func}{s:ChangeSpec}{apart fresh handsOn again:Bool}{W W':World}{args:Array Value}{v:Value}{ds:List (DataW H)}{pa:List MemPlace}
  (hvar:s.vars=[]) (hvars2:(s.fn H (ds++[])).vars=[]) (hW:DataW.Whole enc P f.params.toList s.vars apart W args.toList ds [] (pa++[])) (hb:Below W.heap.size W W')
  (hres:∀(b:Nat) (sp:Nat->Bool) (hd:Bool),DataW.TrodAll enc P W' b sp hd f.resultTypes.toList (v.resultList f.resultTypes.size) (s.fn H (ds++[])).results [])
  (hargs:∀sp:Nat->Bool,(∀p∈pa++[],sp p.block=true)->DataW.TrodAll enc P W' 0 sp true f.params.toList args.toList (s.fn H (ds++[])).args pa)
  (hok:∀(j:Nat) (t:TypeId) (r:Value),f.resultTypes[j]?=some t->(v.resultList f.resultTypes.size)[j]?=some r->Value.okWide P W' .any 0 t r) :
  s.post enc P f apart fresh handsOn again W args v W':=by
 have hlt:∀p∈pa++[],p.block<W.heap.size:=fun p hp=>by simpa using hW.lt p hp
 have hvr:∀sp:Nat->Bool,DataW.TrodVars enc P W' sp s.vars (s.fn H (ds++[])).vars []:=fun sp=>by rw [hvar,hvars2];rfl
 refine⟨ds,[],pa++[],[],pa,[],hW,hres _ _ _,hargs _ (fun p hp=>by simpa using hlt p hp),hvr _,World.keptBut_mono (fun _ q=>q.elim) (hb.frame fun _=>False),fun _=>?_⟩
 obtain⟨_,_,_,_,_,hz,hn⟩:=hW
 refine⟨hok,_,_,([]++pa)++[],⟨[]++pa,[],trodAll_append (hargs _ (fun _ _=>rfl)) (hres _ _ _),hvr _,rfl,?_,?_⟩,?_⟩
 ·intro b off hp
  have hp':MemPlace.cell b off∈pa++[]:=by simpa using hp
  rw [hb.frozen (p:=⟨b,off,none⟩) (hlt _ hp')]
  exact hz b off hp'
 ·intro ha
  simpa using hn ha
 ·intro p hp _
  simpa using hp
end
theorem zeT {P:Program}  {α ρ:Type}{enc:α->List A}{encR:ρ->A}{F:α->Option ρ}{gives:List Bool}{inj:∀x y,enc x=enc y->x=y}(h:(spF k enc encR F gives inj).Ok P){x:α}{r:ρ}(hr:F x=some r):UV P k (enc x) (encR r):=by
 have:=h x ⟨r,hr⟩
 simpa only [spF,hr] using this
variable {fs:Array Field}{e:TypeId}
section
variable {P:Program}{w:World}{r:Reach}{base t:Nat}{v:Value}
theorem zbv (hu:P.underlying t=some (.struct fs))(h:Value.okWide P w r base t v):v=.agg v.cells.toList.toArray:=by
 unfold Value.okWide at h
 rw [hu]at h
 obtain⟨cs,rfl,_⟩:=h
 rfl
theorem zc5 {n:Nat}(hu:P.underlying t=some (.array n e))(h:Value.okWide P w r base t v):v=.agg v.cells.toList.toArray:=by
 unfold Value.okWide at h
 rw [hu]at h
 obtain⟨cs,rfl,_⟩:=h
 rfl
theorem z59 {a:A}(hu:P.underlying t=some (.struct fs))(hr:Rep S a v.cells.toList)(h:Value.okWide P w r base t v)(ha:a.isAgg=true):vA S a v:=⟨_,hr,by cases a <;> first|exact zbv hu h|cases ha⟩
theorem zbD {n:Nat}  {a:A}(hu:P.underlying t=some (.array n e))(hr:Rep S a v.cells.toList)(h:Value.okWide P w r base t v)(ha:a.isAgg=true):vA S a v:=⟨_,hr,by cases a <;> first|exact zc5 hu h|cases ha⟩
theorem zfK {h:Array Obj}   (q:Has S h (.atom (.bool true)) v F):v=.bool true:=by
 rcases q with⟨q,_⟩|⟨cs,q,_,rfl⟩
 ·rw [(zr.1 q).1]
 ·simp only [zG,Rep]at q
  obtain⟨⟨rfl,_⟩,_⟩:=q
  rfl
end
end Go.Own
