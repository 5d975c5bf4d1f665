/- -/
import Derived.Test.YtcodjgfoodacaaaGreatDoorPartG
import Derived.Test.YtcodjgfoodacaaaGreatDoorPartE
set_option linter.unusedVariables false
set_option linter.unusedSimpArgs false
namespace Go.Own
variable {m:z6}
theorem zaX (h:VM m):∀(w:List Nat) (n:Nat) (s:Int),z7C m s->(∀i∈w,i<kk m)->w.length<n->YL n m s (w.map Int.ofNat)=some (aft m s w)
 | w,0,_,_,_,hn=>by omega
 | [],n+1,s,hs,_,_=>by
  show Zc (YL n) m s []=_
  rfl
 | i::w,n+1,s,hs,hw,hn=>by
  show Zc (YL n) m s ((i:Int)::w.map Int.ofNat)=_
  have hi:=hw i (by simp)
  have hx:=zcD h hs hi;unfold Zc;have hz:(((((i:Int)::w.map Int.ofNat).length:Nat):Int)==0)=false:=by
   rw [beq_eq_false_iff_ne];simp only [List.length_cons];omega
  rw [hz,cond_false];have e0:idx ((i:Int)::w.map Int.ofNat) 0=some (i:Int):=rfl;rw [bdT e0,bdT hx.1,gdT (by simp;omega)]
  have e1:((i:Int)::w.map Int.ofNat).drop (1:Int).toNat=w.map Int.ofNat:=rfl;rw [e1,bdT (zaX h w n _ hx.2 (fun j hj=>hw j (by simp [hj])) (by simp at hn;omega))]
  rfl
theorem zg1 (h:VM m){s:Int}(hs:z7C m s)(w:List Nat)(hw:∀i∈w,i<kk m):Qv m s (w.map Int.ofNat)=some (aft m s w):=by
 unfold Qv;exact zaX h w _ s hs hw (by simp)
def z8G (k:Nat):List Nat->Option (List Nat)
 | []=>none
 | d::r=>if d+1<k then some ((d+1)::r) else(z8G k r).map (0 :: ·)
def Jr (k:Nat):List Nat->Nat
 | []=>0
 | d::r=>d+k*Jr k r
variable {k:Nat}
theorem z95 {k:Nat}:∀{r:List Nat},(∀d∈r,d<k)->Jr k r<k ^ r.length
 | [],_=>by simp [Jr]
 | d::r,h=>by
  have ih:=z95 (k:=k) (r:=r) fun x hx=>h x (by simp [hx])
  have hd:=h d (by simp)
  simp only [Jr,List.length_cons,Nat.pow_succ];have:k*(Jr k r+1)<=k*k ^ r.length:=Nat.mul_le_mul_left k ih;rw [Nat.mul_add,Nat.mul_one]at this;rw [Nat.mul_comm (k ^ r.length) k];omega
theorem z9S:∀{r s:List Nat},r.length=s.length->(∀d∈r,d<k)->(∀d∈s,d<k)->Jr k r=Jr k s->r=s
 | [],[],_,_,_,_=>rfl
 | [],_::_,h,_,_,_=>by simp at h
 | _::_,[],h,_,_,_=>by simp at h
 | d::r,e::s,h,h1,h2,hv=>by
  have hd:=h1 d (by simp)
  have he:=h2 e (by simp)
  simp only [Jr]at hv;have a1:(d+k*Jr k r) % k=d:=by rw [Nat.add_mul_mod_self_left,Nat.mod_eq_of_lt hd]
  have a2:(e+k*Jr k s) % k=e:=by rw [Nat.add_mul_mod_self_left,Nat.mod_eq_of_lt he]
  have hde:d=e:=by rw [<-a1,<-a2,hv]
  subst hde;have hk:0<k:=by omega
  have:k*Jr k r=k*Jr k s:=by omega
  have:=Nat.eq_of_mul_eq_mul_left hk this;rw [z9S (by simpa using h) (fun x hx=>h1 x (by simp [hx])) (fun x hx=>h2 x (by simp [hx])) this]
theorem z8E:∀{r s:List Nat},(∀d∈r,d<k)->z8G k r=some s->s.length=r.length/\(∀d∈s,d<k)/\Jr k s=Jr k r+1
 | [],s,_,h=>by cases h
 | d::r,s,hr,h=>by
  have hd:=hr d (by simp)
  unfold z8G at h;split at h
  ·rename_i hc
   cases h;exact⟨rfl,fun x hx=>by rcases List.mem_cons.1 hx with rfl|hx;exact hc;exact hr x (by simp [hx]),by simp only [Jr];omega⟩
  ·rename_i hc
   obtain⟨s',h1,rfl⟩:=Option.map_eq_some_iff.1 h;obtain⟨g1,g2,g3⟩:=z8E (fun x hx=>hr x (by simp [hx])) h1
   refine⟨by simp [g1],fun x hx=>by rcases List.mem_cons.1 hx with rfl|hx;omega;exact g2 x hx,?_⟩
   simp only [Jr,g3,Nat.mul_add,Nat.mul_one];omega
theorem z8F (hk:0<k):∀{r:List Nat},(∀d∈r,d<k)->z8G k r=none->Jr k r+1=k ^ r.length
 | [],_,_=>by simp [Jr]
 | d::r,hr,h=>by
  have hd:=hr d (by simp)
  unfold z8G at h;split at h
  ·cases h
  ·rename_i hc
   have h1:z8G k r=none:=by cases e:z8G k r with|none=>rfl|some x=>rw [e]at h;cases h
   have:=z8F hk (fun x hx=>hr x (by simp [hx])) h1
   simp only [Jr,List.length_cons,Nat.pow_succ,<-this,Nat.add_mul,Nat.one_mul,Nat.mul_comm k];omega
def z9w (k:Nat)(w:List Nat):List Nat:=match z8G k w.reverse with|some r=>r.reverse|none=>List.replicate (w.length+1) 0
variable {w:List Nat}
theorem zcC (hk:1<=k)(hk2:k<=1000)  (hw:∀i∈w,i<k)(hl:w.length<=100000):WS (w.map Int.ofNat) (k:Int)=some ((z9w k w).map Int.ofNat):=by
 have hloop:Ret (loop (fun s=>YH (k:Int) s.1 s.2) (w.map Int.ofNat,w64 ((((w.map Int.ofNat).length:Nat):Int) - 1))) fun r=>match r with
   | .inl o=>z8G k w.reverse=none/\o=List.replicate w.length (0:Int)
   | .inr o=>∃r,z8G k w.reverse=some r/\o=r.reverse.map Int.ofNat:=by
  refine y4 (fun q=>∃(p:List Nat) (z:Nat),q.1=(p++List.replicate z 0).map Int.ofNat/\q.2=(p.length:Int) - 1/\(∀i∈p,i<k)/\p.length+z=w.length/\z8G k w.reverse=(z8G k p.reverse).map (fun r=>List.replicate z 0++r)) (fun q=>(q.2+1).toNat) ⟨w,0,by simp,by rw [zS (by simp;omega) (by simp;omega)];simp,hw,by simp,by cases z8G k w.reverse <;> simp⟩ (by simp only;rw [zS (by simp;omega) (by simp;omega)];simp;omega) ?_
  rintro⟨out,j⟩ ⟨p,z,h1,h2,h3,h4,h5⟩;simp only at h1 h2;subst h1;subst h2;unfold YH;rw [zB];refine⟨fun hc=>?_,fun hc=>?_⟩
  ·have hp:1<=p.length:=by simp at hc;omega
   obtain⟨p',d,rfl⟩:∃p' d,p=p' ++ [d]:=by
    rcases List.eq_nil_or_concat p with e|⟨p',d,e⟩
    ·subst e;simp at hp
    ·exact⟨p',d,by simpa using e⟩
   have hd:=h3 d (by simp)
   have hj:(((p' ++ [d]).length:Nat):Int) - 1=((p'.length:Nat):Int):=by simp
   have hx:((p' ++ [d]++List.replicate z 0).map Int.ofNat)[p'.length]?=some (d:Int):=by
    simp
   have hset:∀e:Nat,((p' ++ [d]++List.replicate z 0).map Int.ofNat).set p'.length (e:Int)=(p' ++ e::List.replicate z 0).map Int.ofNat:=by
    intro e;rw [List.append_assoc,List.map_append,List.set_append,if_neg (by simp)]
    simp
   have hr:(p' ++ [d]).reverse=d::p'.reverse:=by simp
   rw [hr]at h5;have hin:z8G k (d::p'.reverse)=if d+1<k then some ((d+1)::p'.reverse) else(z8G k p'.reverse).map (0 :: ·):=rfl
   have hw1:w64 ((d:Int)+1)=((d+1:Nat):Int):=by rw [zS (by omega) (by omega)];rfl
   rw [hj,zH,bdT hx,hw1,zB];refine⟨fun hc=>?_,fun hc=>?_⟩
   ·have hdk:d+1<k:=by simp at hc;omega
    rw [bdT hx,bdT hx,hw1,Int.toNat_natCast,hset];refine zg.2 ?_;rw [hin,if_pos hdk]at h5;exact⟨_,h5,by simp⟩
   ·have hdk:¬d+1<k:=by simp at hc;omega
    rw [bdT hx,Int.toNat_natCast,zS (by omega) (by omega)]
    have h0:=hset 0;simp only [Int.natCast_zero]at h0;refine zg.2 ⟨⟨p',z+1,?_,rfl,fun i hi=>h3 i (by simp [hi]),by simp at h4;omega,?_⟩,?_⟩
    ·rw [List.replicate_succ];exact h0
    ·rw [hin,if_neg hdk]at h5
     rw [h5];cases z8G k p'.reverse with
     | none=>rfl
     | some r=>simp [List.replicate_succ']
    ·simp only
     omega
  ·have hp:p=[]:=List.eq_nil_of_length_eq_zero (by simp at hc;omega)
   subst hp;refine zg.2 ⟨?_,?_⟩
   ·rw [h5];rfl
   ·simp at h4;simp [h4]
 unfold WS;rw [gdT (by simp;omega)]
 obtain⟨r,e,hr⟩:=hloop;rw [bdT e];unfold z9w;cases r with
 | inl o=>
  obtain⟨g1,rfl⟩:=hr
  show YI _=_
  unfold YI;rw [gdT (by simp;omega),g1]
  simp [List.replicate_succ']
 | inr o=>
  obtain⟨r,g1,rfl⟩:=hr
  show some _=_
  rw [g1]
def GG (k:Nat):Nat->Nat
 | 0=>0
 | n+1=>GG k n+k ^ n
theorem z7y {k n m:Nat}(h:n<=m):GG k n<=GG k m:=by
 induction h with
 | refl=>exact Nat.le_refl _
 | step _ ih=>exact Nat.le_trans ih (Nat.le_add_right _ _)
def rk (k:Nat)(w:List Nat):Nat:=GG k w.length+Jr k w.reverse
def Wd (k:Nat)(w:List Nat):Prop:=∀i∈w,i<k
theorem Wd.rev (h:Wd k w):∀d∈w.reverse,d<k:=fun d hd=>h d (by simpa using hd)
theorem zhv (h:Wd k w):rk k w<GG k (w.length+1):=by
 have:=z95 h.rev;rw [List.length_reverse]at this
 show GG k w.length+Jr k w.reverse<GG k w.length+k ^ w.length
 omega
theorem zag {k:Nat}{w u:List Nat}(hw:Wd k w)(h:w.length<u.length):rk k w<rk k u:=by
 have h1:=zhv hw;have h2:=z7y (k:=k) (show w.length+1<=u.length from h);unfold rk at *;omega
theorem zah {w u:List Nat}(hw:Wd k w)(hu:Wd k u)(h:rk k w=rk k u):w=u:=by
 have hl:w.length=u.length:=by
  rcases Nat.lt_trichotomy w.length u.length with q|q|q
  ·have:=zag hw q;omega
  ·exact q
  ·have:=zag hu q;omega
 have hv:Jr k w.reverse=Jr k u.reverse:=by unfold rk at h;rw [hl]at h;omega
 have:=z9S (by simpa using hl) hw.rev hu.rev hv
 simpa using congrArg List.reverse this
theorem z7S (k:Nat):∀n,Jr k (List.replicate n 0)=0
 | 0=>rfl
 | n+1=>by simp [List.replicate_succ,Jr,z7S k n]
theorem zeX (hk:1<=k)  (hw:Wd k w):Wd k (z9w k w)/\rk k (z9w k w)=rk k w+1/\(z9w k w).length<=w.length+1:=by
 unfold z9w;cases e:z8G k w.reverse with
 | some r=>
  obtain⟨h1,h2,h3⟩:=z8E hw.rev e;rw [List.length_reverse]at h1;refine⟨fun i hi=>h2 i (by simpa using hi),?_,by simp [h1]⟩
  simp only [rk,List.length_reverse,List.reverse_reverse,h1,h3];omega
 | none=>
  have h:=z8F (by omega) hw.rev e
  rw [List.length_reverse]at h;refine⟨fun i hi=>by have:=(List.mem_replicate.1 hi).2;omega,?_,by simp⟩
  simp only [rk,List.length_replicate,List.reverse_replicate,z7S,GG,<-h];omega
section
variable {m:z6}
def z5i (m:z6)(from_:Int)(l:List (List Int))(is:List Bool)(r t:Nat):Prop :=
 (is[t]?=some true/\∃v:List Nat,l[t]?=some (v.map Int.ofNat)/\rk (kk m) v<r/\Wd (kk m) v/\v.length<m.Rows.length/\aft m from_ v=(t:Int)/\∀u,Wd (kk m) u->aft m from_ u=(t:Int)->rk (kk m) v<=rk (kk m) u) \/
 (is[t]?=some false/\l[t]?=some []/\∀u,Wd (kk m) u->rk (kk m) u<r->aft m from_ u≠(t:Int))
theorem z8V (h:VM m):∀(w:List Nat) (s:Int),z7C m s->Wd (kk m) w->z7C m (aft m s w)
 | [],s,hs,_=>hs
 | i::w,s,hs,hw=>z8V h w _ (zng h hs (hw i (by simp))) fun j hj=>hw j (by simp [hj])
theorem zcq (h:VM m)(hG:GG (kk m) m.Rows.length<=1000000000){from_:Int}(hf:z7C m from_) :
  Ret (Vk m from_) fun r=>r.1.length=m.Rows.length/\r.2.length=m.Rows.length/\∀t,t<m.Rows.length->z5i m from_ r.1 r.2 (GG (kk m) m.Rows.length) t:=by
 have l64:=h.len64;have l1:=h.len1;have hk:=h.kk_pos;have hk2:=h.kk_le;have hke:=h.kk_eq;unfold Vk XB;rw [Ws,Ws];refine⟨by omega,by omega,?_⟩
 rw [zw];refine Ret.mono ?_ fun r hr=>zg.2 hr;refine y4 (fun q=>∃w:List Nat,q.2.2=w.map Int.ofNat/\Wd (kk m) w/\w.length<=m.Rows.length/\rk (kk m) w<=GG (kk m) m.Rows.length/\q.1.length=m.Rows.length/\q.2.1.length=m.Rows.length/\∀t,t<m.Rows.length->z5i m from_ q.1 q.2.1 (rk (kk m) w) t)
  (fun q=>GG (kk m) m.Rows.length - rk (kk m) (q.2.2.map Int.toNat)) ⟨[],rfl,fun i hi=>by simp at hi,by simp,by simp [rk,GG,Jr],by simp,by simp,fun t ht=>.inr ⟨by simp [ht],by simp [ht],fun u _ hu=>by simp [rk,GG,Jr]at hu⟩⟩ (by simp only;omega) ?_
 rintro⟨l,is,wi⟩ ⟨w,h1,hw,hwl,hwr,h2,h3,h4⟩;simp only at h1 h2 h3 h4;subst h1;have hback:∀w:List Nat,(w.map Int.ofNat).map Int.toNat=w:=fun w=>by induction w with|nil=>rfl|cons a w ih=>simp only [List.map_cons,ih];rfl
 simp only [hback];unfold XA;rw [zB];refine⟨fun hc=>?_,fun hc=>?_⟩
 ·have hlt:w.length<m.Rows.length:=by simpa using hc
  have hrk:rk (kk m) w<GG (kk m) m.Rows.length:=Nat.lt_of_lt_of_le (zhv hw) (z7y hlt);obtain⟨n1,n2,n3⟩:=zeX hk hw;have hnx:WS (w.map Int.ofNat) m.Inputs=some ((z9w (kk m) w).map Int.ofNat):=by rw [<-hke];exact zcC hk (by omega) hw (by omega)
  have fin:∀(l2:List (List Int)) (is2:List Bool),l2.length=m.Rows.length->is2.length=m.Rows.length->(∀t,t<m.Rows.length->z5i m from_ l2 is2 (rk (kk m) w+1) t) ->
    Ret (ui m (w.map Int.ofNat) l2 is2) (LRP (fun s'=>(∃w:List Nat,s'.2.2=w.map Int.ofNat/\Wd (kk m) w/\w.length<=m.Rows.length/\rk (kk m) w<=GG (kk m) m.Rows.length/\s'.1.length=m.Rows.length/\s'.2.1.length=m.Rows.length/\∀t,t<m.Rows.length->z5i m from_ s'.1 s'.2.1 (rk (kk m) w) t)/\GG (kk m) m.Rows.length - rk (kk m) (s'.2.2.map Int.toNat)<GG (kk m) m.Rows.length - rk (kk m) w)
     fun r=>r.1.length=m.Rows.length/\r.2.length=m.Rows.length/\∀t,t<m.Rows.length->z5i m from_ r.1 r.2 (GG (kk m) m.Rows.length) t):=by
   intro l2 is2 a1 a2 a3;unfold ui;rw [bdT hnx];refine zg.2 ⟨⟨_,rfl,n1,by omega,by omega,a1,a2,fun t ht=>by rw [n2];exact a3 t ht⟩,?_⟩
   rw [hback,n2];omega
  have hin:=z8V h w from_ hf hw;rw [bdT (zg1 h hf w hw),zB];have stay:∀t,t<m.Rows.length->(aft m from_ w=(t:Int)->is[t]?=some true)->z5i m from_ l is (rk (kk m) w+1) t:=by
   intro t ht hn;rcases h4 t ht with⟨g1,v,g2,g3,g4⟩|⟨g1,g2,g3⟩
   ·exact .inl ⟨g1,v,g2,by omega,g4⟩
   ·refine .inr ⟨g1,g2,fun u hu hr e=>?_⟩
    rcases Nat.lt_or_ge (rk (kk m) u) (rk (kk m) w) with q|q
    ·exact g3 u hu q e
    ·have:=zah hu hw (by omega)
     subst this;rw [hn e]at g1;cases g1
  refine⟨fun hc=>?_,fun hc=>?_⟩
  ·have hs0:0<=aft m from_ w:=by simpa using hc
   obtain⟨s,hs⟩:=Int.eq_ofNat_of_zero_le hs0;have hsN:s<m.Rows.length:=by have:=hin.2;omega
   rw [hs];rcases h4 s hsN with⟨g1,v,g2,g3⟩|⟨g1,g2,g3⟩
   ·rw [zH,bdT g1]
    simp only [Bool.not_true,cond_false];refine fin l is h2 h3 fun t ht=>stay t ht fun e=>?_;have:t=s:=by omega
    subst this;exact g1
   ·rw [zH,bdT g1]
    simp only [Bool.not_false,cond_true];rw [bdT g1,zH,bdT g2,Int.toNat_natCast];refine fin _ _ (by simpa using h2) (by simpa using h3) fun t ht=>?_
    by_cases e:t=s
    ·subst e
     refine .inl ⟨by simp [h3,ht],w,by simp [h2,ht],by omega,hw,hlt,hs,fun u hu he=>?_⟩
     rcases Nat.lt_or_ge (rk (kk m) u) (rk (kk m) w) with q|q
     ·exact(g3 u hu q he).elim
     ·exact q
    ·have:=stay t ht fun e2=>by omega
     unfold z5i at this ⊢;rw [List.getElem?_set_ne (by omega),List.getElem?_set_ne (by omega)]
     exact this
  ·have hs0:¬0<=aft m from_ w:=by simpa using hc
   exact fin l is h2 h3 fun t ht=>stay t ht fun e=>by omega
 ·have hlt:¬w.length<m.Rows.length:=by simpa using hc
  have hle:w.length=m.Rows.length:=by omega
  have hrk:rk (kk m) w=GG (kk m) m.Rows.length:=by
   have:GG (kk m) m.Rows.length<=rk (kk m) w:=by rw [<-hle];unfold rk;omega
   omega
  refine zg.2 ⟨h2,h3,fun t ht=>?_⟩;rw [<-hrk];exact h4 t ht
end
theorem Jv (k:Nat):∀(r:List Nat) (d:Nat),Jr k (r++[d])=Jr k r+d*k ^ r.length
 | [],d=>by simp [Jr]
 | e::r,d=>by
  simp only [List.cons_append,Jr,Jv k r d,List.length_cons,Nat.pow_succ,Nat.mul_add];rw [Nat.mul_left_comm k d,Nat.mul_comm k (k ^ r.length)];omega
theorem zbB {k:Nat}:∀(i:Nat) (a b:List Nat),a.length=b.length->Wd k a->Wd k b->∀x y,a.take i=b.take i->a[i]?=some x->b[i]?=some y->x<y->Jr k a.reverse<Jr k b.reverse
 | 0,a,b,hl,ha,hb,x,y,_,h1,h2,h=>by
  cases a with
  | nil=>simp at h1
  | cons d a=>
   cases b with
   | nil=>simp at h2
   | cons e b=>
    simp at h1 h2 hl;subst h1;subst h2;rw [List.reverse_cons,List.reverse_cons,Jv,Jv,List.length_reverse,List.length_reverse,<-hl];have:=z95 (k:=k) (r:=a.reverse) (fun z hz=>ha z (by simp at hz;simp [hz]))
    rw [List.length_reverse]at this;have h3:(d+1)*k ^ a.length<=e*k ^ a.length:=Nat.mul_le_mul_right _ h;rw [Nat.add_mul,Nat.one_mul]at h3;omega
 | i+1,a,b,hl,ha,hb,x,y,ht,h1,h2,h=>by
  cases a with
  | nil=>simp at h1
  | cons d a=>
   cases b with
   | nil=>simp at h2
   | cons e b=>
    simp only [List.take_succ_cons,List.cons.injEq]at ht;simp at h1 h2 hl;have ih:=zbB i a b hl (fun z hz=>ha z (by simp [hz])) (fun z hz=>hb z (by simp [hz])) x y ht.2 h1 h2 h
    rw [List.reverse_cons,List.reverse_cons,Jv,Jv,List.length_reverse,List.length_reverse,<-hl,ht.1];omega
theorem zhW {a b:List Nat}(ha:Wd k a)(hb:Wd k b)(hl:a.length<=100000)(hl2:b.length<=100000):Q1 (a.map Int.ofNat) (b.map Int.ofNat)=some (if rk k a<rk k b then 1 else 0):=by
 refine Ret.eq ?_;unfold Q1;rw [zB];refine⟨fun hc=>?_,fun hc=>?_⟩
 ·have hne:a.length≠b.length:=by intro e;simp [e]at hc
  rw [zB];refine⟨fun hc=>?_,fun hc=>?_⟩
  ·have:a.length<b.length:=by simpa using hc
   exact zg.2 (by rw [if_pos (zag ha this)])
  ·have:¬a.length<b.length:=by simpa using hc
   have:=zag hb (u:=a) (w:=b) (by omega)
   exact zg.2 (by rw [if_neg (by omega)])
 ·have he:a.length=b.length:=by
   have:((a.length:Nat):Int)=((b.length:Nat):Int):=by simpa using hc
   omega
  rw [zw];have hloop:Ret (loop (fun s=>YJ (a.map Int.ofNat) (b.map Int.ofNat) s) 0) fun r=>match r with
    | .inl _=>a=b
    | .inr r=>r=if rk k a<rk k b then 1 else 0:=by
   refine y4 (fun q=>∃i:Nat,q=(i:Int)/\i<=a.length/\a.take i=b.take i) (fun q=>100000 - q.toNat) ⟨0,rfl,Nat.zero_le _,rfl⟩ (by simp) ?_
   rintro q ⟨i,rfl,hi,ht⟩;unfold YJ;rw [zB];refine⟨fun hc=>?_,fun hc=>?_⟩
   ·have hia:i<a.length:=by simpa using hc
    have hib:i<b.length:=by omega
    have ea:(a.map Int.ofNat)[i]?=some ((a[i]:Nat):Int):=by simp [hia]
    have eb:(b.map Int.ofNat)[i]?=some ((b[i]:Nat):Int):=by simp [hib]
    have ea':a[i]?=some a[i]:=List.getElem?_eq_getElem hia;have eb':b[i]?=some b[i]:=List.getElem?_eq_getElem hib;rw [zH,bdT ea,zH,bdT eb,zB];refine⟨fun hc=>?_,fun hc=>?_⟩
    ·rw [bdT ea,bdT eb,zB]
     refine⟨fun hc=>?_,fun hc2=>?_⟩
     ·have hlt:a[i]<b[i]:=by simpa using hc
      have:=zbB i a b he ha hb _ _ ht ea' eb' hlt;refine zg.2 ?_
      show(1:Int)=_
      rw [if_pos (by unfold rk;rw [he];omega)]
     ·have h1:¬a[i]<b[i]:=by simpa using hc2
      have h2:a[i]≠b[i]:=by intro e;simp [e]at hc
      have:=zbB i b a he.symm hb ha _ _ ht.symm eb' ea' (by omega)
      refine zg.2 ?_
      show(0:Int)=_
      rw [if_neg (by unfold rk;rw [he];omega)]
    ·have h2:a[i]=b[i]:=by
      have:((a[i]:Nat):Int)=((b[i]:Nat):Int):=by simpa using hc
      omega
     rw [zS (by omega) (by omega)]
     refine zg.2 ⟨⟨i+1,rfl,hia,?_⟩,by simp only [Int.toNat_natCast];omega⟩
     rw [List.take_add_one,List.take_add_one,ht,ea',eb',h2]
   ·have:i=a.length:=by
     have:¬i<a.length:=by simpa using hc
     omega
    subst this;refine zg.2 ?_
    show a=b
    rw [List.take_length]at ht;rw [ht,he,List.take_length]
  refine hloop.mono fun r hr=>?_;cases r with
  | inl u=>
   have hr:a=b:=hr;subst hr;exact zg.2 (by rw [if_neg (Nat.lt_irrefl _)])
  | inr r=>exact zg.2 hr
theorem z7w (m:z6):∀(u w:List Nat) (s:Int),aft m s (u++w)=aft m (aft m s u) w
 | [],_,_=>rfl
 | i::u,w,s=>by simp only [List.cons_append,aft,z7w m u w]
theorem zdI (m:z6):∀(w:List Nat) (s:Int),s<0->aft m s w<0
 | [],s,h=>h
 | i::w,s,h=>by
  simp only [aft,nxE,if_pos h];exact zdI m w (-1) (by omega)
section
variable {m:z6}(h:VM m)
include h
theorem z07:∀(n:Nat) (u:List Nat),u.length<=n->Wd (kk m) u->0<=aft m 0 u->∃w,Wd (kk m) w/\w.length<m.Rows.length/\w.length<=u.length/\aft m 0 w=aft m 0 u
 | n,u,hn,hu,h0=>by
  have l1:=h.len1;rcases Nat.lt_or_ge u.length m.Rows.length with q|q
  ·exact⟨u,hu,q,Nat.le_refl _,rfl⟩
  ·cases n with
   | zero=>omega
   | succ n=>
    have hin0:z7C m 0:=⟨by omega,by omega⟩
    have hpre:∀i,0<=aft m 0 (u.take i)/\aft m 0 (u.take i)<(m.Rows.length:Int):=by
     intro i;have e:=z7w m (u.take i) (u.drop i) 0;rw [List.take_append_drop]at e;have h1:=z8V h (u.take i) 0 hin0 fun j hj=>hu j (List.mem_of_mem_take hj);refine⟨?_,h1.2⟩;rcases Int.lt_or_le (aft m 0 (u.take i)) 0 with g|g
     ·have:=zdI m (u.drop i) _ g
      omega
     ·exact g
    have hex:∃i j,i<j/\j<=m.Rows.length/\aft m 0 (u.take i)=aft m 0 (u.take j):=by
     refine Classical.byContradiction fun hno=>?_;have hnd:((List.range (m.Rows.length+1)).map fun i=>(aft m 0 (u.take i)).toNat).Nodup:=by
      unfold List.Nodup;rw [List.pairwise_map];refine List.Pairwise.imp_of_mem ?_ (List.pairwise_lt_range (n:=m.Rows.length+1));intro a b ha hb hab e;have h1:=(hpre a).1;have h2:=(hpre b).1;exact hno ⟨a,b,hab,by have:=List.mem_range.1 hb;omega,by omega⟩
     have:=Vo m.Rows.length _ hnd fun x hx=>by
      obtain⟨i,_,rfl⟩:=List.mem_map.1 hx;have:=hpre i;omega
     simp at this;omega
    obtain⟨i,j,hij,hj,e⟩:=hex;have e1:aft m 0 (u.take i++u.drop j)=aft m 0 u:=by
     rw [z7w,e,<-z7w,List.take_append_drop]
    have hlen:(u.take i++u.drop j).length<=n:=by simp;omega
    obtain⟨w,w1,w2,w3,w4⟩:=z07 n (u.take i++u.drop j) hlen (fun x hx=>by
     rcases List.mem_append.1 hx with q|q
     ·exact hu x (List.mem_of_mem_take q)
     ·exact hu x (List.mem_of_mem_drop q)) (by rw [e1];exact h0)
    exact⟨w,w1,w2,by simp at w3;omega,w4.trans e1⟩
end
structure Acc (m:z6)(t:Nat)(v:List Nat):Prop where
 wd:Wd (kk m) v
 len:v.length<m.Rows.length
 aft:aft m 0 v=(t:Int)
 least:∀u,Wd (kk m) u->Go.Own.aft m 0 u=(t:Int)->rk (kk m) v<=rk (kk m) u
section
variable {m:z6}(h:VM m)(hG:GG (kk m) m.Rows.length<=1000000000)
include h hG
def zog (m:z6)(r:List (List Int)×List Bool):Prop :=
 r.1.length=m.Rows.length/\r.2.length=m.Rows.length/\∀t,t<m.Rows.length ->
  (r.2[t]?=some true/\∃v:List Nat,r.1[t]?=some (v.map Int.ofNat)/\Acc m t v)\/(r.2[t]?=some false/\∀u,Wd (kk m) u->aft m 0 u≠(t:Int))
theorem z6j:Ret (XP m) (zog m):=by
 have l1:=h.len1;unfold XP;rw [zw];refine(zcq h hG (from_:=0) ⟨by omega,by omega⟩).mono fun r hr=>zg.2 ⟨hr.1,hr.2.1,fun t ht=>?_⟩
 rcases hr.2.2 t ht with⟨g1,v,g2,g3,g4,g5,g6,g7⟩|⟨g1,g2,g3⟩
 ·exact .inl ⟨g1,v,g2,⟨g4,g5,g6,g7⟩⟩
 ·refine .inr ⟨g1,fun u hu e=>?_⟩
  obtain⟨w,w1,w2,w3,w4⟩:=z07 h u.length u (Nat.le_refl _) hu (by omega)
  exact g3 w w1 (Nat.lt_of_lt_of_le (zhv w1) (z7y w2)) (w4.trans e)
end
variable {s t:Nat}
theorem ziv {v w:List Nat}(hv:Acc m s v)(hw:Acc m t w)(h:rk (kk m) v=rk (kk m) w):s=t:=by
 have:=zah hv.wd hw.wd h;subst this;have h1:=hv.aft;have h2:=hw.aft;omega
def zaY (m:z6)(L:List Nat):Prop:=L.Pairwise fun s t=>∀v w,Acc m s v->Acc m t w->rk (kk m) v<rk (kk m) w
theorem QL {s:Nat}{v w:List Nat}(hv:Acc m s v)(hw:Acc m s w):v=w :=
 zah hv.wd hw.wd (Nat.le_antisymm (hv.least w hw.wd hw.aft) (hw.least v hv.wd hv.aft))
section
variable {m:z6}(h:VM m)(hG:GG (kk m) m.Rows.length<=1000000000)
include h hG
theorem zct:Ret (Vl m) fun o=>∃L:List Nat,o=L.map Int.ofNat/\zaY m L/\(∀t∈L,t<m.Rows.length/\∃v,Acc m t v)/\∀t,t<m.Rows.length->t∉L->∀u,Wd (kk m) u->aft m 0 u≠(t:Int):=by
 have l64:=h.len64;unfold Vl;rw [zw];refine(z6j h hG).mono ?_;rintro r ⟨r1,r2,r3⟩;rw [zw]
 let I:List Nat->Nat->Prop:=fun L s=>s<=m.Rows.length/\L.length<=s/\zaY m L/\(∀t∈L,t<s/\∃v,Acc m t v)/\∀t,t<s->t∉L->∀u,Wd (kk m) u->aft m 0 u≠(t:Int);have hI:∀L s,I L s=(s<=m.Rows.length/\L.length<=s/\zaY m L/\(∀t∈L,t<s/\∃v,Acc m t v)/\∀t,t<s->t∉L->∀u,Wd (kk m) u->aft m 0 u≠(t:Int)):=fun _ _=>rfl
 suffices hloop:Ret (loop (fun s=>ZA r s.1 s.2) (([]:List Int),0)) fun o=>∃L:List Nat,o=L.map Int.ofNat/\I L m.Rows.length from by
  refine hloop.mono ?_;rintro o ⟨L,rfl,q1,q2,q3,q4,q5⟩;exact zg.2 ⟨L,rfl,q3,q4,q5⟩
 refine y4 (fun q=>∃(L:List Nat) (s:Nat),q.1=L.map Int.ofNat/\q.2=(s:Int)/\I L s) (fun q=>1000 - q.2.toNat) ⟨[],0,rfl,rfl,Nat.zero_le _,Nat.le_refl _,List.Pairwise.nil,fun t ht=>by simp at ht,fun t ht=>by omega⟩ (by simp) ?_
 rintro⟨out,q⟩ ⟨L,s,e1,e2,i1,i2,i3,i4,i5⟩;simp only at e1 e2;subst e1;subst e2;unfold ZA;rw [zB];refine⟨fun hc=>?_,fun hc=>?_⟩
 ·have hs:s<m.Rows.length:=by rw [r1]at hc;simpa using hc
  have hw:w64 ((s:Int)+1)=((s+1:Nat):Int):=by rw [zS (by omega) (by omega)];rfl
  have fin:∀L':List Nat,I L' (s+1)->Ret (qW (s:Int) (L'.map Int.ofNat)) (LRP (fun s'=>(∃(L:List Nat) (s:Nat),s'.1=L.map Int.ofNat/\s'.2=(s:Int)/\I L s)/\1000 - s'.2.toNat<1000 - (s:Int).toNat) fun o=>∃L:List Nat,o=L.map Int.ofNat/\I L m.Rows.length):=by
   intro L' hL;unfold qW;rw [hw];exact zg.2 ⟨⟨L',s+1,rfl,rfl,hL⟩,by simp only [Int.toNat_natCast];omega⟩
  rcases r3 s hs with⟨g1,v,g2,g3⟩|⟨g1,g2⟩
  ·rw [zH,bdT g1]
   simp only [Bool.not_true,cond_false];rw [zw];have inner:Ret (loop (fun k=>Zz r (L.map Int.ofNat) (s:Int) k) 0) fun k=>∃n:Nat,k=(n:Int)/\n<=L.length/\(∀t∈L.take n,∀w,Acc m t w->rk (kk m) w<rk (kk m) v)/\∀t,L[n]?=some t->∀w,Acc m t w->rk (kk m) v<rk (kk m) w:=by
    refine y4 (fun k=>∃n:Nat,k=(n:Int)/\n<=L.length/\∀t∈L.take n,∀w,Acc m t w->rk (kk m) w<rk (kk m) v) (fun k=>1000 - k.toNat) ⟨0,rfl,Nat.zero_le _,fun t ht=>by simp at ht⟩ (by simp) ?_
    rintro k ⟨n,rfl,n1,n2⟩;unfold Zz;rw [zB];refine⟨fun hc=>?_,fun hc=>?_⟩
    ·have hn:n<L.length:=by simpa using hc
     have hx:(L.map Int.ofNat)[n]?=some ((L[n]:Nat):Int):=by simp [hn]
     have hx':L[n]?=some L[n]:=List.getElem?_eq_getElem hn;obtain⟨ht,w,hw2⟩:=i4 L[n] (List.getElem_mem hn);have hacc:r.1[L[n]]?=some (w.map Int.ofNat):=by
      rcases r3 L[n] (by omega) with⟨_,w',k2,k3⟩|⟨_,k2⟩
      ·rw [k2,QL k3 hw2]
      ·exact(k2 w hw2.wd hw2.aft).elim
     have hle:=hw2.len;have hlv:=g3.len;rw [zH,bdT hx,zH,bdT hacc,zH,bdT g2,bdT (zhW hw2.wd g3.wd (by omega) (by omega)),zB]
     by_cases hlt:rk (kk m) w<rk (kk m) v
     ·rw [if_pos hlt]
      refine⟨fun _=>?_,fun e=>by simp at e⟩
      rw [zS (by omega) (by omega)]
      refine zg.2 ⟨⟨n+1,rfl,hn,fun t ht=>?_⟩,by simp only [Int.toNat_natCast];omega⟩
      rw [List.take_add_one,hx',List.mem_append]at ht;rcases ht with ht|ht
      ·exact n2 t ht
      ·have:t=L[n]:=by simpa using ht
       subst this;intro w' hw';rw [QL hw' hw2];exact hlt
     ·rw [if_neg hlt]
      refine⟨fun e=>by simp at e,fun _=>zg.2 ⟨n,rfl,n1,n2,fun t ht w' hw'=>?_⟩⟩
      rw [hx']at ht;cases ht;rw [QL hw' hw2];rcases Nat.lt_or_ge (rk (kk m) v) (rk (kk m) w) with q|q
      ·exact q
      ·have:=ziv hw2 g3 (by omega)
       omega
    ·have hn:¬n<L.length:=by simpa using hc
     refine zg.2 ⟨n,rfl,n1,n2,fun t ht=>?_⟩;have:n<L.length:=(List.getElem?_eq_some_iff.1 ht).1;omega
   refine inner.mono ?_;rintro k ⟨n,rfl,n1,n2,n3⟩;unfold XC;have e1:(((L.map Int.ofNat).drop 0).take ((n:Int).toNat - 0))=(L.take n).map Int.ofNat:=by simp [List.map_take]
   have e2:(L.map Int.ofNat).drop (n:Int).toNat=(L.drop n).map Int.ofNat:=by simp [List.map_drop]
   rw [e1,e2,Ws,Ws,Ws,Ws,Ws];refine⟨by simp;omega,by simp;omega,by simp;omega,by simp;omega,by simp;omega,?_⟩
   have e3:((L.take n).map Int.ofNat++([(s:Int)]:List Int))++(L.drop n).map Int.ofNat=(L.take n++s::L.drop n).map Int.ofNat:=by simp
   rw [e3];have hperm:∀t,t∈L.take n++s::L.drop n↔t=s\/t∈L:=by
    intro t;have:t∈L↔t∈L.take n\/t∈L.drop n:=by rw [<-List.mem_append,List.take_append_drop]
    rw [this,List.mem_append,List.mem_cons];constructor
    ·rintro(q|q|q)
     ·exact .inr (.inl q)
     ·exact .inl q
     ·exact .inr (.inr q)
    ·rintro(q|q|q)
     ·exact .inr (.inl q)
     ·exact .inl q
     ·exact .inr (.inr q)
   have hdrop:∀t∈L.drop n,∀w,Acc m t w->rk (kk m) v<rk (kk m) w:=by
    intro t ht w hw';rcases Nat.lt_or_ge n L.length with q|q
    ·rw [List.drop_eq_getElem_cons q]at ht
     have hx':L[n]?=some L[n]:=List.getElem?_eq_getElem q;obtain⟨_,w0,hw0⟩:=i4 L[n] (List.getElem_mem q);have h0:=n3 L[n] hx' w0 hw0;rcases List.mem_cons.1 ht with rfl|ht
     ·rw [QL hw' hw0];exact h0
     ·have hd:(L.drop n).Pairwise fun s t=>∀v w,Acc m s v->Acc m t w->rk (kk m) v<rk (kk m) w:=List.Pairwise.sublist (List.drop_sublist n L) i3
      rw [List.drop_eq_getElem_cons q]at hd;exact Nat.lt_trans h0 ((List.pairwise_cons.1 hd).1 t ht w0 w hw0 hw')
    ·rw [List.drop_eq_nil_of_le q]at ht
     cases ht
   refine fin _ ⟨hs,by simp;omega,?_,fun t ht=>?_,fun t ht hn u hu=>?_⟩
   ·show List.Pairwise _ _
    rw [List.pairwise_append];refine⟨List.Pairwise.sublist (List.take_sublist n L) i3,List.pairwise_cons.2 ⟨fun t ht v' w hv' hw'=>?_,List.Pairwise.sublist (List.drop_sublist n L) i3⟩,?_⟩
    ·rw [QL hv' g3]
     exact hdrop t ht w hw'
    ·intro a ha b hb v' w hv' hw'
     have hav:=n2 a ha v' hv';rcases List.mem_cons.1 hb with rfl|hb
     ·rw [QL hw' g3];exact hav
     ·exact Nat.lt_trans hav (hdrop b hb w hw')
   ·rcases(hperm t).1 ht with rfl|ht
    ·exact⟨by omega,v,g3⟩
    ·have:=i4 t ht
     exact⟨by omega,this.2⟩
   ·have hne:t≠s:=fun e=>hn ((hperm t).2 (.inl e))
    exact i5 t (by omega) (fun q=>hn ((hperm t).2 (.inr q))) u hu
  ·rw [zH,bdT g1]
   simp only [Bool.not_false,cond_true];refine fin L ⟨hs,by omega,i3,fun t ht=>⟨by have:=(i4 t ht).1;omega,(i4 t ht).2⟩,fun t ht hn u hu=>?_⟩
   rcases Nat.lt_or_ge t s with q|q
   ·exact i5 t q hn u hu
   ·have:t=s:=by omega
    subst this;exact g2 u hu
 ·have hs:¬s<m.Rows.length:=by rw [r1]at hc;simpa using hc
  have:s=m.Rows.length:=by omega
  subst this;exact zg.2 ⟨L,rfl,i1,i2,i3,i4,i5⟩
end
theorem SEq.refl (s:Nat):SEq m s s:=fun _ _=>rfl
theorem SEq.symm (h:SEq m s t):SEq m t s:=fun w hw=>(h w hw).symm
theorem SEq.trans {s t u:Nat}(h:SEq m s t)(k:SEq m t u):SEq m s u:=fun w hw=>(h w hw).trans (k w hw)
structure Xb (m:z6)(F:List Nat):Prop where
 sorted:zaY m F
 acc:∀t∈F,t<m.Rows.length/\∃v,Acc m t v
 dist:F.Pairwise fun s t=>¬SEq m s t
 all:∀t v,t<m.Rows.length->Acc m t v->∃s∈F,SEq m s t/\∃w,Acc m s w/\rk (kk m) w<=rk (kk m) v
section
variable {m:z6}(h:VM m)(hG:GG (kk m) m.Rows.length<=1000000000)
include h hG
theorem zbj:Ret (kO m) fun o=>∃F:List Nat,o=F.map Int.ofNat/\Xb m F:=by
 have l64:=h.len64;unfold kO YA;rw [zw];refine(z4K h.wm).mono ?_;rintro p ⟨p1,p2⟩;rw [zw];refine(zct h hG).mono ?_;rintro o ⟨L,rfl,s1,s2,s3⟩;have hLn:L.length<=m.Rows.length:=by
  refine Vo _ L ?_ fun x hx=>(s2 x hx).1;refine List.Pairwise.imp_of_mem ?_ s1;intro a b ha hb q e;subst e;obtain⟨v,hv⟩:=(s2 a ha).2;exact Nat.lt_irrefl _ (q v v hv hv)
 rw [zw];refine Ret.mono (Q:=fun o=>∃F:List Nat,o=F.map Int.ofNat/\Xb m F) ?_ fun o ho=>zg.2 ho
 let J:List Nat->Nat->Prop:=fun F k=>k<=L.length/\F.length<=k/\F.Sublist (L.take k)/\(F.Pairwise fun s t=>¬SEq m s t)/\∀t∈L.take k,∃s∈F,SEq m s t/\∀v w,Acc m s w->Acc m t v->rk (kk m) w<=rk (kk m) v;refine y4 (fun q=>∃(F:List Nat) (k:Nat),q.1=F.map Int.ofNat/\q.2=(k:Int)/\J F k) (fun q=>1000 - q.2.toNat) ⟨[],0,rfl,rfl,Nat.zero_le _,Nat.le_refl _,List.nil_sublist _,List.Pairwise.nil,fun t ht=>by simp at ht⟩ (by simp) ?_
 rintro⟨out,q⟩ ⟨F,k,e1,e2,j1,j2,j3,j4,j5⟩;simp only at e1 e2;subst e1;subst e2;have cl:∀n,n<L.length->∃x,p[L[n]!]?=some x:=by
  intro n hn;have hm:L[n]!∈L:=by rw [getElem!_pos L n hn];exact List.getElem_mem hn
  have:=(s2 _ hm).1;exact⟨_,List.getElem?_eq_getElem (by omega)⟩
 have gx:∀n,n<L.length->(L.map Int.ofNat)[n]?=some ((L[n]!:Nat):Int):=by
  intro n hn;rw [getElem!_pos L n hn];simp [hn]
 have gl:∀n,n<L.length->L[n]!∈L/\L[n]! < m.Rows.length:=by
  intro n hn;have hm:L[n]!∈L:=by rw [getElem!_pos L n hn];exact List.getElem_mem hn
  exact⟨hm,(s2 _ hm).1⟩
 unfold Yy;rw [zB];refine⟨fun hc=>?_,fun hc=>?_⟩
 ·have hk:k<L.length:=by simpa using hc
  have hw:∀k:Nat,k<1000->w64 ((k:Int)+1)=((k+1:Nat):Int):=fun k hk=>by rw [zS (by omega) (by omega)];rfl
  rw [zw];have inner:Ret (loop (fun s=>kM p (L.map Int.ofNat) (k:Int) s.1 s.2) (0,0)) fun c=>(c=0/\∀n,n<k->¬SEq m L[n]! L[k]!)\/(c=1/\∃n,n<k/\SEq m L[n]! L[k]!):=by
   refine y4 (fun q=>∃n:Nat,q.2=(n:Int)/\n<=k/\((q.1=0/\∀i,i<n->¬SEq m L[i]! L[k]!)\/(q.1=1/\∃i,i<k/\SEq m L[i]! L[k]!))) (fun q=>1000 - q.2.toNat) ⟨0,rfl,Nat.zero_le _,.inl ⟨rfl,fun i hi=>by omega⟩⟩ (by simp) ?_
   rintro⟨c,q⟩ ⟨n,e2,n1,n2⟩;simp only at e2 n2;subst e2;unfold kM kN;rw [zB];refine⟨fun hc=>?_,fun hc=>?_⟩
   ·have hn:n<k:=by simpa using hc
    obtain⟨x,hx⟩:=cl n (by omega)
    obtain⟨y,hy⟩:=cl k hk;rw [zH,bdT (gx n (by omega)),zH,bdT hx,zH,bdT (gx k hk),zH,bdT hy,hw n (by omega),zB]
    have hs:=p2 _ _ (gl n (by omega)).2 (gl k hk).2
    rw [hx,hy,Option.some.injEq]at hs;refine⟨fun e=>?_,fun e=>?_⟩
    ·have:SEq m L[n]! L[k]!:=hs.1 (by simpa using e)
     exact zg.2 ⟨⟨n+1,rfl,hn,.inr ⟨rfl,n,hn,this⟩⟩,by simp only [Int.toNat_natCast];omega⟩
    ·have hno:¬SEq m L[n]! L[k]!:=fun g=>by have:=hs.2 g;simp [this]at e
     refine zg.2 ⟨⟨n+1,rfl,hn,?_⟩,by simp only [Int.toNat_natCast];omega⟩
     rcases n2 with⟨c0,n2⟩|n2
     ·refine .inl ⟨c0,fun i hi=>?_⟩
      rcases Nat.lt_or_ge i n with q|q
      ·exact n2 i q
      ·have:i=n:=by omega
       subst this;exact hno
     ·exact .inr n2
   ·have:n=k:=by
     have:¬n<k:=by simpa using hc
     omega
    subst this;exact zg.2 n2
  refine inner.mono fun c hc=>?_;have hx':L[k]?=some L[k]!:=by rw [getElem!_pos L k hk];exact List.getElem?_eq_getElem hk
  have htk:L.take (k+1)=L.take k++[L[k]!]:=by rw [List.take_add_one,hx'];rfl
  have hmt:∀n,n<k->L[n]!∈L.take k:=by
   intro n hn;rw [getElem!_pos L n (by omega)]
   have:(L.take k)[n]'(by simp;omega)=L[n]:=by simp
   rw [<-this];exact List.getElem_mem _
  unfold Yz;rw [zB];have fin:∀F':List Nat,J F' (k+1)->Ret (uF (k:Int) (F'.map Int.ofNat)) (LRP (fun s'=>(∃(F:List Nat) (k:Nat),s'.1=F.map Int.ofNat/\s'.2=(k:Int)/\J F k)/\1000 - s'.2.toNat<1000 - (k:Int).toNat) fun o=>∃F:List Nat,o=F.map Int.ofNat/\Xb m F):=by
   intro F' hF;unfold uF;rw [hw k (by omega)]
   exact zg.2 ⟨⟨F',k+1,rfl,rfl,hF⟩,by simp only [Int.toNat_natCast];omega⟩
  rcases hc with⟨rfl,hc⟩|⟨rfl,n,hn,hc⟩
  ·refine⟨fun _=>?_,fun e=>by simp at e⟩
   rw [zH,bdT (gx k hk),Ws];refine⟨by simp;omega,?_⟩
   have e3:F.map Int.ofNat++([((L[k]!:Nat):Int)]:List Int)=(F++[L[k]!]).map Int.ofNat:=by simp
   rw [e3];refine fin _ ⟨hk,by simp;omega,by rw [htk];exact List.Sublist.append j3 (List.Sublist.refl _),?_,fun t ht=>?_⟩
   ·rw [List.pairwise_append]
    refine⟨j4,List.pairwise_singleton _ _,fun a ha b hb e=>?_⟩;have hb:b=L[k]!:=by simpa using hb
    subst hb;have ha':a∈L.take k:=j3.subset ha;obtain⟨i,hi,e4⟩:=List.getElem_of_mem ha';have hi':i<k/\i<L.length:=by rw [List.length_take]at hi;omega
    have:L[i]! = a:=by rw [getElem!_pos L i (by omega),<-e4];simp
    exact hc i hi'.1 (by rw [this];exact e)
   ·rw [htk,List.mem_append]at ht
    rcases ht with ht|ht
    ·obtain⟨s,q1,q2,q3⟩:=j5 t ht
     exact⟨s,List.mem_append.2 (.inl q1),q2,q3⟩
    ·have:t=L[k]!:=by simpa using ht
     subst this;exact⟨_,List.mem_append.2 (.inr (by simp)),SEq.refl _,fun v w hv hv'=>by rw [QL hv hv'];exact Nat.le_refl _⟩
  ·refine⟨fun e=>by simp at e,fun _=>fin F ⟨hk,by omega,by rw [htk];exact j3.trans (List.sublist_append_left _ _),j4,fun t ht=>?_⟩⟩
   rw [htk,List.mem_append]at ht;rcases ht with ht|ht
   ·exact j5 t ht
   ·have:t=L[k]!:=by simpa using ht
    subst this;obtain⟨s,q1,q2,q3⟩:=j5 _ (hmt n hn);refine⟨s,q1,q2.trans hc,fun v w hw' hv'=>?_⟩;obtain⟨u,hu⟩:=(s2 _ (gl n (by omega)).1).2
    refine Nat.le_trans (q3 u w hw' hu) (Nat.le_of_lt ?_);have:=List.pairwise_iff_getElem.1 s1 n k (by omega) hk hn
    rw [<-getElem!_pos L n (by omega),<-getElem!_pos L k hk]at this
    exact this u v hu hv'
 ·have hk:¬k<L.length:=by simpa using hc
  have:k=L.length:=by omega
  subst this;rw [List.take_length]at j3 j5;refine zg.2 ⟨F,rfl,List.Pairwise.sublist j3 s1,fun t ht=>s2 t (j3.subset ht),j4,fun t v ht hv=>?_⟩;have hmem:t∈L:=Classical.byContradiction fun g=>s3 t ht g v hv.wd hv.aft;obtain⟨s,q1,q2,q3⟩:=j5 t hmem;obtain⟨w,hw⟩:=(s2 s (j3.subset q1)).2;exact⟨s,q1,q2,w,hw,q3 v w hw hv⟩
end
def Rch (m:z6)(t:Nat):Prop:=∃u,Wd (kk m) u/\aft m 0 u=(t:Int)
theorem z2Q {out:List Bool}{j t:Nat}(hj:j<out.length):(out.set j true)[t]?=some true↔t=j\/out[t]?=some true:=by
 by_cases e:t=j
 ·subst e;simp [hj]
 ·rw [List.getElem?_set_ne (Ne.symm e)]
  exact⟨.inr,fun q=>q.resolve_left e⟩
section
variable {m:z6}(h:VM m)
include h
omit h in theorem rch_step {s i:Nat} (hs:Rch m s) (hi:i<kk m) (h0:0<=(E m s i).To):Rch m (E m s i).To.toNat:=by
 obtain⟨u,hu,e⟩:=hs;refine⟨u++[i],fun j hj=>?_,?_⟩
 ·rcases List.mem_append.1 hj with q|q
  ·exact hu j q
  ·have:j=i:=by simpa using q
   omega
 ·have:=(z16 m u 0 i).2
  rw [e,jC]at this;rw [this];omega
theorem z9p:Ret (YK m 0) fun is=>is.length=m.Rows.length/\∀t,t<m.Rows.length->(is[t]?=some true↔Rch m t):=by
 have l64:=h.len64;have l1:=h.len1;have hk2:=h.kk_le;have hke:=h.kk_eq;have w1:∀n:Nat,n<1000->w64 ((n:Int)+1)=((n+1:Nat):Int):=fun n hn=>by rw [zS (by omega) (by omega)];rfl
 unfold YK ZR;rw [Ws];refine⟨by omega,?_⟩
 have e0:idx (List.replicate ((m.Rows.length:Nat):Int).toNat false) 0=some false:=by
  show(List.replicate ((m.Rows.length:Nat):Int).toNat false)[0]?=some false
  rw [List.getElem?_replicate,if_pos (by rw [Int.toNat_natCast];omega)]
 rw [bdT e0,zw]
 let S:List Bool->Prop:=fun out=>out.length=m.Rows.length/\∀t:Nat,out[t]?=some true->Rch m t;refine Ret.mono (Q:=fun is=>is.length=m.Rows.length/\∀t,t<m.Rows.length->(is[t]?=some true↔Rch m t)) ?_ fun o ho=>zg.2 ho;refine y4 (fun q=>∃r:Nat,q.2=(r:Int)/\r<=m.Rows.length/\S q.1/\∀(u:List Nat) (t:Nat),Wd (kk m) u->u.length<=r->aft m 0 u=((t:Nat):Int)->q.1[t]?=some true) (fun q=>1000 - q.2.toNat) ⟨0,rfl,Nat.zero_le _,⟨by simp,fun t ht=>?_⟩,fun u t hu hl e=>?_⟩ (by simp) ?_
 ·rw [show(0:Int).toNat=0 from rfl,z2Q (by rw [List.length_replicate,Int.toNat_natCast];omega)]at ht
  rcases ht with rfl|ht
  ·exact⟨[],fun i hi=>by simp at hi,rfl⟩
  ·rw [List.getElem?_replicate]at ht
   split at ht <;> simp at ht
 ·have:u=[]:=List.eq_nil_of_length_eq_zero (by omega)
  subst this;have:t=0:=by simp [aft]at e;omega
  subst this;rw [show(0:Int).toNat=0 from rfl,z2Q (by rw [List.length_replicate,Int.toNat_natCast];omega)]
  exact .inl rfl
 rintro⟨out1,q⟩ ⟨r,e1,r1,r2,r3⟩;simp only at e1 r2 r3;subst e1;unfold ZO ZQ;rw [zB];refine⟨fun hc=>?_,fun hc=>?_⟩
 ·have hr:r<m.Rows.length:=by simpa using hc
  rw [zw]
  let C:List Bool->Nat->Nat->Prop:=fun out s i=>S out/\(∀t:Nat,out1[t]?=some true->out[t]?=some true)/\∀s' i':Nat,(s' < s\/s'=s/\i' < i)->i' < kk m->s' < m.Rows.length->out1[s']?=some true->0<=(E m s' i').To->out[(E m s' i').To.toNat]?=some true;have round:Ret (loop (fun s=>qN m s.1 s.2) (out1,0)) fun out=>C out m.Rows.length 0:=by
   refine y4 (fun q=>∃s:Nat,q.2=(s:Int)/\s<=m.Rows.length/\C q.1 s 0) (fun q=>1000 - q.2.toNat) ⟨0,rfl,Nat.zero_le _,r2,fun t ht=>ht,fun s' i' hh=>by omega⟩ (by simp) ?_
   rintro⟨out3,q⟩ ⟨s,e1,s1,s2⟩;simp only at e1 s2;subst e1;unfold qN ZP;rw [zB];refine⟨fun hc=>?_,fun hc=>?_⟩
   ·have hs:s<m.Rows.length:=by simpa using hc
    rw [zw];have row:Ret (loop (fun q=>qM m (s:Int) q.1 q.2) (out3,0)) fun out=>C out s (kk m):=by
     refine y4 (fun q=>∃i:Nat,q.2=(i:Int)/\i<=kk m/\C q.1 s i) (fun q=>1000 - q.2.toNat) ⟨0,rfl,Nat.zero_le _,s2⟩ (by simp) ?_
     rintro⟨out5,q⟩ ⟨i,e1,i1,c1,c2,c3⟩;simp only at e1 c1 c2 c3;subst e1;unfold qM vK;rw [zB];refine⟨fun hc=>?_,fun hc=>?_⟩
     ·have hi:i<kk m:=by rw [<-hke]at hc;simpa using hc
      have he:=h.edgeAt hs hi;have hl:s<out5.length:=by rw [c1.1];exact hs
      rw [h.edge_eq hs hi,zH,bdT (List.getElem?_eq_getElem hl),zB,w1 i (by omega)]
      have fin:∀out:List Bool,C out s (i+1)->Ret (some (LR.next (out,((i+1:Nat):Int)):LR (List Bool×Int) (List Bool))) (LRP (fun s'=>(∃i:Nat,s'.2=(i:Int)/\i<=kk m/\C s'.1 s i)/\1000 - s'.2.toNat<1000 - (i:Int).toNat) fun out=>C out s (kk m)):=by
       intro out hC;exact zg.2 ⟨⟨i+1,rfl,hi,hC⟩,by simp only [Int.toNat_natCast];omega⟩
      have keep:(out1[s]?=some true->0<=(E m s i).To->out5[(E m s i).To.toNat]?=some true)->C out5 s (i+1):=by
       intro hh;refine⟨c1,c2,fun s' i' g1 g2 g3 g4 g5=>?_⟩;by_cases e:s'=s/\i'=i
       ·obtain⟨rfl,rfl⟩:=e
        exact hh g4 g5
       ·exact c3 s' i' (by omega) g2 g3 g4 g5
      refine⟨fun hb=>?_,fun hb=>?_⟩
      ·have hb':out5[s]?=some true:=by rw [List.getElem?_eq_getElem hl,hb]
       rw [zB];refine⟨fun hc=>?_,fun hc=>?_⟩
       ·have h0:0<=(E m s i).To:=by simpa using hc
        have ht:(E m s i).To.toNat<out5.length:=by rw [c1.1];omega
        obtain⟨n,hn⟩:=Int.eq_ofNat_of_zero_le h0;obtain⟨y,hx⟩:∃y,idx out5 (E m s i).To=some y:=by
         rw [hn]at ht ⊢;exact⟨_,List.getElem?_eq_getElem ht⟩
        rw [bdT hx];refine fin _ ⟨⟨by simpa using c1.1,fun t hh=>?_⟩,fun t hh=>(z2Q ht).2 (.inr (c2 t hh)),fun s' i' g1 g2 g3 g4 g5=>(z2Q ht).2 ?_⟩
        ·rcases(z2Q ht).1 hh with rfl|hh
         ·exact rch_step (c1.2 s hb') hi h0
         ·exact c1.2 t hh
        ·by_cases e:s'=s/\i'=i
         ·obtain⟨rfl,rfl⟩:=e
          exact .inl rfl
         ·exact .inr (c3 s' i' (by omega) g2 g3 g4 g5)
       ·have h0:¬0<=(E m s i).To:=by simpa using hc
        exact fin _ (keep fun _ g=>(h0 g).elim)
      ·have hb':out5[s]?=some false:=by rw [List.getElem?_eq_getElem hl,hb]
       refine fin _ (keep fun g _=>?_);have:=c2 s g;rw [hb']at this;cases this
     ·have:i=kk m:=by
       have:¬i<kk m:=by rw [<-hke]at hc;simpa using hc
       omega
      subst this;exact zg.2 ⟨c1,c2,c3⟩
    refine row.mono ?_;rintro out ⟨c1,c2,c3⟩;rw [w1 s (by omega)]
    exact zg.2 ⟨⟨s+1,rfl,hs,c1,c2,fun s' i' g1 g2 g3=>c3 s' i' (by omega) g2 g3⟩,by simp only [Int.toNat_natCast];omega⟩
   ·have:s=m.Rows.length:=by
     have:¬s<m.Rows.length:=by simpa using hc
     omega
    subst this;exact zg.2 s2
  refine round.mono ?_;rintro out ⟨c1,c2,c3⟩;rw [w1 r (by omega)]
  refine zg.2 ⟨⟨r+1,rfl,hr,c1,fun u t hu hl e=>?_⟩,by simp only [Int.toNat_natCast];omega⟩
  rcases Nat.lt_or_ge r u.length with q|q
  ·obtain⟨u',i,rfl⟩:∃u' i,u=u' ++ [i]:=by
    rcases List.eq_nil_or_concat u with e|⟨u',i,e⟩
    ·subst e;simp at q
    ·exact⟨u',i,by simpa using e⟩
   have hu':Wd (kk m) u':=fun j hj=>hu j (by simp [hj])
   have hi:=hu i (by simp)
   rw [(z16 m u' 0 i).2]at e;have h1:=z8V h u' 0 ⟨by omega,by omega⟩ hu'
   have h0:0<=aft m 0 u':=by
    rcases Int.lt_or_le (aft m 0 u') 0 with g|g
    ·unfold nxE at e
     rw [if_pos g]at e;simp only at e;omega
    ·exact g
   obtain⟨s,hs⟩:=Int.eq_ofNat_of_zero_le h0;have hsN:s<m.Rows.length:=by have:=h1.2;omega
   rw [hs,jC]at e;have:=c3 s i (.inl hsN) hi hsN (r3 u' s hu' (by simp at hl;omega) hs) (by omega)
   rw [e]at this;simpa using this
  ·exact c2 t (r3 u t hu (by omega) e)
 ·have:r=m.Rows.length:=by
   have:¬r<m.Rows.length:=by simpa using hc
   omega
  subst this;refine zg.2 ⟨r2.1,fun t ht=>⟨r2.2 t,?_⟩⟩;rintro⟨u,hu,e⟩;obtain⟨w,x1,x2,x3,x4⟩:=z07 h u.length u (Nat.le_refl _) hu (by omega)
  exact r3 w t x1 (by omega) (x4.trans e)
end
structure zfX (m:z6)(F:List Nat)(p:z6):Prop where
 inp:p.Inputs=m.Inputs
 out:p.Outputs=m.Outputs
 len:p.Rows.length=F.length
 row:∀k:Nat,k<F.length->∃row,p.Rows[k]?=some row/\row.length=kk m/\∀i:Nat,i<kk m->∃e,row[i]?=some e/\e.Out=(E m F[k]! i).Out /\
  ((0<=(E m F[k]! i).To/\∃n:Nat,e.To=(n:Int)/\n<F.length/\SEq m F[n]! (E m F[k]! i).To.toNat)\/((E m F[k]! i).To=-1/\e.To=-1))
variable {F:List Nat}
theorem Xb.at (hF:Xb m F)  (hk:k<F.length):F[k]!∈F/\F[k]! < m.Rows.length/\F[k]?=some F[k]!:=by
 have hm:F[k]!∈F:=by rw [getElem!_pos F k hk];exact List.getElem_mem hk
 exact⟨hm,(hF.acc _ hm).1,by rw [getElem!_pos F k hk];exact List.getElem?_eq_getElem hk⟩
theorem Xb.uniq (hF:Xb m F){i j:Nat}(hi:i<F.length)(hj:j<F.length)(h:SEq m F[i]! F[j]!):i=j:=by
 rw [getElem!_pos F i hi,getElem!_pos F j hj]at h;have:=List.pairwise_iff_getElem.1 hF.dist;rcases Nat.lt_trichotomy i j with q|q|q
 ·exact(this i j hi hj q h).elim
 ·exact q
 ·exact(this j i hj hi q h.symm).elim
theorem Xb.len (hF:Xb m F):F.length<=m.Rows.length:=by
 refine Vo _ F ?_ fun x hx=>(hF.acc x hx).1;refine List.Pairwise.imp ?_ hF.dist;intro a b q e;subst e;exact q (SEq.refl _)
section
variable {m:z6}(h:VM m)(hG:GG (kk m) m.Rows.length<=1000000000){F:List Nat}(hF:Xb m F)
include h hG hF
theorem zfq {s:Nat}(hs:s<m.Rows.length)(hr:Rch m s):∃i,i<F.length/\SEq m F[i]! s:=by
 obtain⟨r,_,_,_,r3⟩:=z6j h hG;rcases r3 s hs with⟨_,v,_,hv⟩|⟨_,hno⟩
 ·obtain⟨t,ht,q,_⟩:=hF.all s v hs hv
  obtain⟨i,hi,e⟩:=List.getElem_of_mem ht;exact⟨i,hi,by rw [getElem!_pos F i hi,e];exact q⟩
 ·obtain⟨u,hu,e⟩:=hr
  exact(hno u hu e).elim
theorem zhS (hf:kO m=some (F.map Int.ofNat)):Ret (JG m) fun o=>o.length=m.Rows.length/\∀s,s<m.Rows.length->Rch m s->∃n:Nat,o[s]?=some (n:Int)/\n<F.length/\SEq m F[n]! s:=by
 have l64:=h.len64;have hFl:=hF.len;unfold JG Ut;rw [zw];refine(z4K h.wm).mono ?_;rintro p ⟨p1,p2⟩;rw [bdT hf,zw];refine(z9p h).mono ?_;rintro is ⟨q1,q2⟩;rw [zw];have w1:∀n:Nat,n<1000->w64 ((n:Int)+1)=((n+1:Nat):Int):=fun n hn=>by rw [zS (by omega) (by omega)];rfl
 refine Ret.mono (Q:=fun o=>o.length=m.Rows.length/\∀s,s<m.Rows.length->Rch m s->∃n:Nat,o[s]?=some (n:Int)/\n<F.length/\SEq m F[n]! s) ?_ fun o ho=>zg.2 ho;refine y4 (fun q=>∃s:Nat,q.2=(s:Int)/\s<=m.Rows.length/\q.1.length=s/\∀t:Nat,t<s->Rch m t->∃n:Nat,q.1[t]?=some (n:Int)/\n<F.length/\SEq m F[n]! t) (fun q=>1000 - q.2.toNat) ⟨0,rfl,Nat.zero_le _,rfl,fun t ht=>by omega⟩ (by simp) ?_
 rintro⟨out,q⟩ ⟨s,e1,s1,s2,s3⟩;simp only at e1 s2 s3;subst e1;unfold Uq;rw [zB];refine⟨fun hc=>?_,fun hc=>?_⟩
 ·have hs:s<m.Rows.length:=by rw [p1]at hc;simpa using hc
  rw [zw];have hl:s<is.length:=by omega
  obtain⟨y,hy⟩:∃y,p[s]?=some y:=⟨_,List.getElem?_eq_getElem (by omega)⟩
  have inner:Ret (loop (fun q=>XN p (F.map Int.ofNat) is (s:Int) q.1 q.2) ((-1),0)) fun k=>Rch m s->∃n:Nat,k=(n:Int)/\n<F.length/\SEq m F[n]! s:=by
   refine y4 (fun q=>∃n:Nat,q.2=(n:Int)/\n<=F.length/\(Rch m s->(∀i,i<n->¬SEq m F[i]! s)\/∃i:Nat,q.1=(i:Int)/\i<F.length/\SEq m F[i]! s)) (fun q=>1000 - q.2.toNat) ⟨0,rfl,Nat.zero_le _,fun _=>.inl fun i hi=>by omega⟩ (by simp) ?_
   rintro⟨k,q⟩ ⟨n,e1,n1,n2⟩;simp only at e1 n2;subst e1;unfold XN Ya;rw [zB];refine⟨fun hc=>?_,fun hc=>?_⟩
   ·have hn:n<F.length:=by simpa using hc
    obtain⟨f1,f2,f3⟩:=hF.at hn;have hx:(F.map Int.ofNat)[n]?=some ((F[n]!:Nat):Int):=by rw [List.getElem?_map,f3];rfl
    obtain⟨x,hx2⟩:∃x,p[F[n]!]?=some x:=⟨_,List.getElem?_eq_getElem (by omega)⟩
    have hcl:=p2 _ _ f2 hs;rw [hx2,hy,Option.some.injEq]at hcl;rw [zH,bdT (List.getElem?_eq_getElem hl),zB,w1 n (by omega)]
    have step:∀k',(Rch m s->(∀i,i<n+1->¬SEq m F[i]! s)\/∃i:Nat,k'=(i:Int)/\i<F.length/\SEq m F[i]! s)->Ret (some (LR.next (k',((n+1:Nat):Int)):LR (Int×Int) Int)) (LRP (fun s'=>(∃n:Nat,s'.2=(n:Int)/\n<=F.length/\(Rch m s->(∀i,i<n->¬SEq m F[i]! s)\/∃i:Nat,s'.1=(i:Int)/\i<F.length/\SEq m F[i]! s))/\1000 - s'.2.toNat<1000 - (n:Int).toNat) fun k=>Rch m s->∃n:Nat,k=(n:Int)/\n<F.length/\SEq m F[n]! s):=by
     intro k' hk';exact zg.2 ⟨⟨n+1,rfl,hn,hk'⟩,by simp only [Int.toNat_natCast];omega⟩
    have grow:¬SEq m F[n]! s->Rch m s->(∀i,i<n+1->¬SEq m F[i]! s)\/∃i:Nat,k=(i:Int)/\i<F.length/\SEq m F[i]! s:=by
     intro hno hr;rcases n2 hr with g|g
     ·refine .inl fun i hi=>?_
      rcases Nat.lt_or_ge i n with q|q
      ·exact g i q
      ·have:i=n:=by omega
       subst this;exact hno
     ·exact .inr g
    refine⟨fun hb=>?_,fun hb=>step k fun hr=>?_⟩
    ·rw [zH,bdT hx,zH,bdT hx2,zH,bdT hy,zB]
     refine⟨fun e=>step _ fun _=>.inr ⟨n,rfl,hn,hcl.1 (by simpa using e)⟩,fun e=>step _ (grow fun g=>?_)⟩
     have:=hcl.2 g;simp [this]at e
    ·have:=(q2 s hs).2 hr
     rw [List.getElem?_eq_getElem hl,hb]at this;cases this
   ·have:n=F.length:=by
     have:¬n<F.length:=by simpa using hc
     omega
    subst this;refine zg.2 fun hr=>?_;rcases n2 hr with g|g
    ·obtain⟨i,hi,q⟩:=zfq h hG hF hs hr
     exact(g i hi q).elim
    ·exact g
  refine inner.mono fun k hk=>?_;unfold Ur Us;rw [Ws,w1 s (by omega)]
  refine⟨by simp;omega,zg.2 ⟨⟨s+1,rfl,hs,by simp [s2],fun t ht hr=>?_⟩,by simp only [Int.toNat_natCast];omega⟩⟩
  rcases Nat.lt_or_ge t s with q|q
  ·rw [List.getElem?_append_left (show t<out.length from by rw [s2];exact q)]
   exact s3 t q hr
  ·have:t=s:=by omega
   subst this;obtain⟨n,rfl,g⟩:=hk hr;exact⟨n,by rw [<-s2,List.getElem?_append_right (Nat.le_refl _)];simp,g⟩
 ·have:s=m.Rows.length:=by
   have:¬s<m.Rows.length:=by rw [p1]at hc;simpa using hc
   omega
  subst this;exact zg.2 ⟨s2,s3⟩
end
section
variable {m:z6}(h:VM m)(hG:GG (kk m) m.Rows.length<=1000000000)
include h hG
theorem z9z:Ret (Yx m) fun p=>∃F,Xb m F/\zfX m F p:=by
 have l64:=h.len64;have hk2:=h.kk_le;have hke:=h.kk_eq;obtain⟨o,hf,F,rfl,hF⟩:=zbj h hG;have hFl:=hF.len;obtain⟨mp,hm,m1,m2⟩:=zhS h hG hF hf;have w1:∀n:Nat,n<1000->w64 ((n:Int)+1)=((n+1:Nat):Int):=fun n hn=>by rw [zS (by omega) (by omega)];rfl
 unfold Yx ZN;rw [bdT hf,bdT hm,zw]
 let RowI:Nat->List z8->Nat->Prop:=fun k row n=>row.length=n/\∀i:Nat,i<n->∃e,row[i]?=some e/\e.Out=(E m F[k]! i).Out /\
  ((0<=(E m F[k]! i).To/\∃n:Nat,e.To=(n:Int)/\n<F.length/\SEq m F[n]! (E m F[k]! i).To.toNat)\/((E m F[k]! i).To=-1/\e.To=-1))
 have hrow:∀k:Nat,k<F.length->Ret (loop (fun s=>qK m (F.map Int.ofNat) mp (k:Int) s.1 s.2) (([]:List z8),0)) fun row=>RowI k row (kk m):=by
  intro k hk;obtain⟨f1,f2,f3⟩:=hF.at hk;have hx:(F.map Int.ofNat)[k]?=some ((F[k]!:Nat):Int):=by rw [List.getElem?_map,f3];rfl
  have hrch:Rch m F[k]!:=by obtain⟨_,v,hv⟩:=hF.acc _ f1;exact⟨v,hv.wd,hv.aft⟩
  refine y4 (fun q=>∃i:Nat,q.2=(i:Int)/\i<=kk m/\RowI k q.1 i) (fun q=>1000 - q.2.toNat) ⟨0,rfl,Nat.zero_le _,rfl,fun i hi=>by omega⟩ (by simp) ?_
  rintro⟨row,q⟩ ⟨i,e1,i1,i2,i3⟩;simp only at e1 i2 i3;subst e1;unfold qK;rw [zB];refine⟨fun hc=>?_,fun hc=>?_⟩
  ·have hi:i<kk m:=by rw [<-hke]at hc;simpa using hc
   have he:=h.edgeAt f2 hi;rw [zH,bdT hx,h.edge_eq f2 hi,zB];have fin:∀to:Int,((0<=(E m F[k]! i).To/\∃n:Nat,to=(n:Int)/\n<F.length/\SEq m F[n]! (E m F[k]! i).To.toNat)\/((E m F[k]! i).To=-1/\to=-1)) ->
     Ret (vJ row (i:Int) (E m F[k]! i) to) (LRP (fun s'=>(∃i:Nat,s'.2=(i:Int)/\i<=kk m/\RowI k s'.1 i)/\1000 - s'.2.toNat<1000 - (i:Int).toNat) fun row=>RowI k row (kk m)):=by
    intro to hto;unfold vJ;rw [Ws,w1 i (by omega)]
    refine⟨by simp;omega,zg.2 ⟨⟨i+1,rfl,hi,by simp [i2],fun j hj=>?_⟩,by simp only [Int.toNat_natCast];omega⟩⟩
    rcases Nat.lt_or_ge j i with q|q
    ·rw [List.getElem?_append_left (show j<row.length from by rw [i2];exact q)]
     exact i3 j q
    ·have:j=i:=by omega
     subst this;refine⟨⟨to,(E m F[k]! j).Out⟩,?_,rfl,hto⟩
     conv=>lhs;arg 2;rw [<-i2]
     rw [List.getElem?_append_right (Nat.le_refl _)];simp
   refine⟨fun hc=>?_,fun hc=>?_⟩
   ·have h0:0<=(E m F[k]! i).To:=by simpa using hc
    obtain⟨t,ht⟩:=Int.eq_ofNat_of_zero_le h0;have htN:t<m.Rows.length:=by omega
    have hr:Rch m t:=by have:=rch_step hrch hi h0;rw [ht]at this;simpa using this
    obtain⟨n,n1,n2,n3⟩:=m2 t htN hr;rw [ht,zH,bdT n1];exact fin _ (.inl ⟨h0,n,rfl,n2,by rw [ht];simpa using n3⟩)
   ·have h0:¬0<=(E m F[k]! i).To:=by simpa using hc
    have:(E m F[k]! i).To=-1:=by omega
    exact fin _ (.inr ⟨this,this⟩)
  ·have:i=kk m:=by
    have:¬i<kk m:=by rw [<-hke]at hc;simpa using hc
    omega
   subst this;exact zg.2 ⟨i2,i3⟩
 have hloop:Ret (loop (fun s=>qL m (F.map Int.ofNat) mp s.1 s.2) (([]:List (List z8)),0)) fun rows=>rows.length=F.length/\∀k:Nat,k<F.length->∃row,rows[k]?=some row/\RowI k row (kk m):=by
  refine y4 (fun q=>∃k:Nat,q.2=(k:Int)/\k<=F.length/\q.1.length=k/\∀j:Nat,j<k->∃row,q.1[j]?=some row/\RowI j row (kk m)) (fun q=>1000 - q.2.toNat) ⟨0,rfl,Nat.zero_le _,rfl,fun i hi=>by omega⟩ (by simp) ?_
  rintro⟨rows,q⟩ ⟨k,e1,k1,k2,k3⟩;simp only at e1 k2 k3;subst e1;unfold qL;rw [zB];refine⟨fun hc=>?_,fun hc=>?_⟩
  ·have hk:k<F.length:=by simpa using hc
   rw [zw];refine(hrow k hk).mono fun row hr=>?_;unfold ZL ZM;rw [Ws,w1 k (by omega)]
   refine⟨by simp;omega,zg.2 ⟨⟨k+1,rfl,hk,by simp [k2],fun j hj=>?_⟩,by simp only [Int.toNat_natCast];omega⟩⟩
   rcases Nat.lt_or_ge j k with q|q
   ·rw [List.getElem?_append_left (show j<rows.length from by rw [k2];exact q)]
    exact k3 j q
   ·have:j=k:=by omega
    subst this;refine⟨row,?_,hr⟩
    conv=>lhs;arg 2;rw [<-k2]
    rw [List.getElem?_append_right (Nat.le_refl _)];simp
  ·have:k=F.length:=by
    have:¬k<F.length:=by simpa using hc
    omega
   subst this;exact zg.2 ⟨k2,k3⟩
 refine hloop.mono ?_;rintro rows ⟨r1,r2⟩;refine zg.2 ⟨F,hF,rfl,rfl,r1,fun k hk=>?_⟩;obtain⟨row,e,q1,q2⟩:=r2 k hk;exact⟨row,e,q1,q2⟩
end
section
variable {m:z6}(h:VM m)
include h
omit h in
theorem zof {p:z6}(hp:zfX m F p)(hk:kk p=kk m){k i:Nat}(h1:k<F.length)(hi:i<kk m):(E p k i).Out=(E m F[k]! i).Out/\((0<=(E m F[k]! i).To/\∃n:Nat,(E p k i).To=(n:Int)/\n<F.length/\SEq m F[n]! (E m F[k]! i).To.toNat)\/((E m F[k]! i).To=-1/\(E p k i).To=-1)):=by
 obtain⟨row,q1,q2,q3⟩:=hp.row k h1;obtain⟨e,e1,e2⟩:=q3 i hi;have:E p k i=e:=by unfold E;rw [q1,Option.getD_some,e1];rfl
 rw [this];exact e2
omit h in
theorem z9k (hF:Xb m F){p:z6}(hp:zfX m F p):∀(w:List Nat) (k:Nat),k<F.length->Wd (kk m) w->rsp p (k:Int) w=rsp m ((F[k]!:Nat):Int) w
 | [],_,_,_=>rfl
 | i::w,k,hk,hw=>by
  have hkk:kk p=kk m:=by unfold kk;rw [hp.inp]
  have hi:=hw i (by simp)
  have hw':Wd (kk m) w:=fun j hj=>hw j (by simp [hj])
  obtain⟨e1,e2⟩:=zof hp hkk hk hi;simp only [rsp,jC,e1,List.cons.injEq,true_and];rcases e2 with⟨h0,n,g1,g2,g3⟩|⟨g1,g2⟩
  ·rw [g1,z9k hF hp w n g2 hw',g3 w hw']
   congr 1
   omega
  ·rw [g1,g2,z9j _ _ _ (by omega),z9j _ _ _ (by omega)]
theorem z68 (hF:Xb m F):0<F.length/\F[0]! = 0:=by
 have l1:=h.len1;have hacc:Acc m 0 []:=⟨fun i hi=>by simp at hi,by show 0<m.Rows.length;omega,rfl,fun u _ _=>by simp [rk,GG,Jr]⟩
 obtain⟨s,hs,_,w,hw,hle⟩:=hF.all 0 [] (by omega) hacc
 have hw0:w=[]:=zah hw.wd hacc.wd (by
  have:rk (kk m) ([]:List Nat)=0:=by simp [rk,GG,Jr]
  omega)
 subst hw0;have hs0:s=0:=by have:=hw.aft;simp [aft]at this;omega
 subst hs0;obtain⟨j,hj,ej⟩:=List.getElem_of_mem hs;refine⟨by omega,?_⟩
 rcases Nat.eq_zero_or_pos j with rfl|q
 ·rw [getElem!_pos F 0 (by omega)];exact ej
 ·have h0:0<F.length:=by omega
  have:=List.pairwise_iff_getElem.1 hF.sorted 0 j h0 hj q;obtain⟨_,v,hv⟩:=hF.acc F[0] (List.getElem_mem h0);have:=this v [] hv (by rw [ej];exact hacc)
  simp [rk,GG,Jr]at this
end
def v8:List Int->List Int->Int
 | [],[]=>0
 | [],_::_=>-1
 | _::_,[]=>1
 | x::a,y::b=>if x<y then -1 else if y<x then 1 else v8 a b
def Wt (a b:List Int):Int:=if a.length<b.length then -1 else if b.length<a.length then 1 else v8 a b
theorem zcM:∀{a b:List Int},v8 a b=0->a=b
 | [],[],_=>rfl
 | [],_::_,h=>by simp [v8]at h
 | _::_,[],h=>by simp [v8]at h
 | x::a,y::b,h=>by
  simp only [v8]at h;split at h
  ·simp at h
  ·split at h
   ·simp at h
   ·rw [show x=y by omega,zcM h]
theorem z8v:∀a:List Int,v8 a a=0
 | []=>rfl
 | x::a=>by simp [v8,z8v a]
theorem zay:∀a b:List Int,v8 b a=- v8 a b
 | [],[]=>rfl
 | [],_::_=>rfl
 | _::_,[]=>rfl
 | x::a,y::b=>by
  simp only [v8];split
  ·rw [if_neg (by omega)]
  ·split
   ·rfl
   ·exact zay a b
theorem z64:∀{a b c:List Int},v8 a b<0->v8 b c<0->v8 a c<0
 | [],[],_,h,_=>by simp [v8]at h
 | [],_::_,[],_,h=>by simp [v8]at h
 | [],_::_,_::_,_,_=>by simp [v8]
 | _::_,[],_,h,_=>by simp [v8]at h
 | _::_,_::_,[],_,h=>by simp [v8]at h
 | x::a,y::b,z::c,h1,h2=>by
  simp only [v8]at h1 h2 ⊢;by_cases e1:x<y
  ·by_cases e2:y<z
   ·rw [if_pos (by omega)];omega
   ·rw [if_neg e2]at h2
    by_cases e3:z<y
    ·rw [if_pos e3]at h2;omega
    ·rw [if_pos (by omega)];omega
  ·rw [if_neg e1]at h1
   by_cases e3:y<x
   ·rw [if_pos e3]at h1;omega
   ·rw [if_neg e3]at h1
    have:x=y:=by omega
    subst this;by_cases e2:x<z
    ·rw [if_pos e2];omega
    ·rw [if_neg e2]at h2 ⊢
     by_cases e4:z<x
     ·rw [if_pos e4]at h2;omega
     ·rw [if_neg e4]at h2 ⊢
      exact z64 h1 h2
variable {a b:List Int}
theorem z7h (h:Wt a b=0):a=b:=by
 unfold Wt at h;split at h
 ·simp at h
 ·split at h
  ·simp at h
  ·exact zcM h
theorem z1f (a:List Int):Wt a a=0:=by simp [Wt,z8v]
theorem zaS:Wt a b=0↔a=b:=⟨z7h,fun h=>h ▸ z1f a⟩
theorem zaR (a b:List Int):Wt b a=- Wt a b:=by
 unfold Wt;by_cases h1:a.length<b.length
 ·rw [if_pos h1,if_neg (by omega),if_pos h1];rfl
 ·by_cases h2:b.length<a.length
  ·rw [if_pos h2,if_neg h1,if_pos h2]
  ·rw [if_neg h1,if_neg h2,if_neg h2,if_neg h1,zay]
theorem Qa {a b c:List Int}(h1:Wt a b<0)(h2:Wt b c<0):Wt a c<0:=by
 unfold Wt at *;by_cases e1:a.length<b.length
 ·by_cases e2:b.length<c.length
  ·rw [if_pos (by omega)];omega
  ·rw [if_neg e2]at h2
   by_cases e3:c.length<b.length
   ·rw [if_pos e3]at h2;omega
   ·rw [if_pos (by omega)];omega
 ·rw [if_neg e1]at h1
  by_cases e3:b.length<a.length
  ·rw [if_pos e3]at h1;omega
  ·rw [if_neg e3]at h1
   have e:a.length=b.length:=by omega
   rw [e];by_cases e2:b.length<c.length
   ·rw [if_pos e2];omega
   ·rw [if_neg e2]at h2 ⊢
    by_cases e4:c.length<b.length
    ·rw [if_pos e4]at h2;omega
    ·rw [if_neg e4]at h2 ⊢
     exact z64 h1 h2
theorem z7g (a:List Int):¬Wt a a<0:=by rw [z1f];omega
theorem zdi (h:Wt a b<0):¬Wt b a<0:=by rw [zaR a b];omega
theorem z9M:¬Wt a b<0↔Wt b a<0\/a=b:=by
 rw [<-zaS,zaR a b];omega
def SW (l:List (List Int)):Prop:=l.Pairwise fun a b=>Wt a b<0
theorem SW.nil:SW []:=List.Pairwise.nil
variable {l:List (List Int)}{x:List Int}
theorem SW.tail (h:SW (x::l)):SW l:=(List.pairwise_cons.1 h).2
theorem SW.head (h:SW (x::l)):∀y∈l,Wt x y<0:=(List.pairwise_cons.1 h).1
theorem SW.unique:∀{l m:List (List Int)},SW l->SW m->(∀x,x∈l↔x∈m)->l=m
 | [],[],_,_,_=>rfl
 | [],y::m,_,_,h=>by have:=(h y).2 (by simp);simp at this
 | x::l,[],_,_,h=>by have:=(h x).1 (by simp);simp at this
 | x::l,y::m,h1,h2,h=>by
  have hxy:x=y:=by
   rcases List.mem_cons.1 ((h x).1 (by simp)) with e|e
   ·exact e
   ·rcases List.mem_cons.1 ((h y).2 (by simp)) with e'|e'
    ·exact e'.symm
    ·exact absurd (h2.head x e) (zdi (h1.head y e'))
  subst hxy;rw [SW.unique h1.tail h2.tail fun z=>?_];constructor
  ·intro hz
   rcases List.mem_cons.1 ((h z).1 (by simp [hz])) with e|e
   ·subst e;exact absurd (h1.head _ hz) (z7g _)
   ·exact e
  ·intro hz
   rcases List.mem_cons.1 ((h z).2 (by simp [hz])) with e|e
   ·subst e;exact absurd (h2.head _ hz) (z7g _)
   ·exact e
def z8Y (w:List Int):List (List Int)->List (List Int)
 | []=>[w]
 | x::l=>if Wt x w<0 then x::z8Y w l else if Wt x w=0 then x::l else w::x::l
theorem z72 {w x:List Int}:∀{l:List (List Int)},x∈z8Y w l↔x=w\/x∈l
 | []=>by simp [z8Y]
 | y::l=>by
  simp only [z8Y];split
  ·simp only [List.mem_cons,z72]
   constructor
   ·rintro(h|h|h) <;> simp [h]
   ·rintro(h|h|h) <;> simp [h]
  ·split
   ·rename_i h1 h2
    have:=z7h h2;subst this;simp
   ·simp
theorem SW.put {w:List Int}:∀{l:List (List Int)},SW l->SW (z8Y w l)
 | [],_=>by simp [z8Y,SW]
 | y::l,h=>by
  simp only [z8Y];split
  ·rename_i h1
   refine List.pairwise_cons.2 ⟨fun z hz=>?_,SW.put h.tail⟩;rcases z72.1 hz with rfl|hz
   ·exact h1
   ·exact h.head z hz
  ·split
   ·exact h
   ·rename_i h1 h2
    have hw:Wt w y<0:=by
     rcases z9M.1 h1 with q|q
     ·exact q
     ·exact absurd (zaS.2 q) h2
    refine List.pairwise_cons.2 ⟨fun z hz=>?_,h⟩;rcases List.mem_cons.1 hz with rfl|hz
    ·exact hw
    ·exact Qa hw (h.head z hz)
theorem zap (w:List Int):∀l,(z8Y w l).length<=l.length+1
 | []=>by simp [z8Y]
 | y::l=>by
  simp only [z8Y];split
  ·have:=zap w l;simp;omega
  ·split <;> simp
def srt (l:List (List Int)):List (List Int):=l.foldl (fun m w=>z8Y w m) []
theorem z9c:∀(l m:List (List Int)),SW m->SW (l.foldl (fun m w=>z8Y w m) m)/\∀x,x∈l.foldl (fun m w=>z8Y w m) m↔x∈m\/x∈l
 | [],m,h=>⟨h,by simp⟩
 | w::l,m,h=>by
  obtain⟨h1,h2⟩:=z9c l (z8Y w m) h.put;refine⟨h1,fun x=>?_⟩;rw [List.foldl_cons,h2,z72];simp only [List.mem_cons];constructor
  ·rintro((h|h)|h) <;> simp [h]
  ·rintro(h|h|h) <;> simp [h]
theorem zbO (l:List (List Int)):SW (srt l):=(z9c l [] .nil).1
theorem z2b:x∈srt l↔x∈l:=by rw [srt,(z9c l [] .nil).2];simp
theorem zbP {l m:List (List Int)}(h:SW m)(hm:∀x,x∈m↔x∈l):m=srt l:=h.unique (zbO l) fun x=>by rw [hm,z2b]
theorem z44 (h:SW l):srt l=l:=(zbP h fun _=>.rfl).symm
theorem zbQ {l m:List (List Int)}(h:∀x,x∈l↔x∈m):srt l=srt m:=zbP (zbO l) fun x=>by rw [z2b,h]
theorem z9b (l:List (List Int)):(srt l).length<=l.length:=by
 have:∀(l m:List (List Int)),(l.foldl (fun m w=>z8Y w m) m).length<=m.length+l.length:=by
  intro l
  induction l with
  | nil=>intro m;simp
  | cons w l ih=>intro m;have:=ih (z8Y w m);have:=zap w m;simp only [List.foldl_cons,List.length_cons];omega
 have q:=this l [];simp only [List.length_nil,Nat.zero_add]at q;exact q
variable {α:Type}{i:Nat}
theorem zX {l:List α}  {x:α}(h:l[i]?=some x):idx l (i:Int)=some x:=h
theorem zd1 (b:List Int)(g:Nat->Int->Option Int)(hg:∀i x y,b[i]?=some y->g i x=if x<y then some (-1) else if y<x then some 1 else none) :
  ∀(a:List Int) (k:Nat),k+a.length=b.length->(xv g a k).getD 0=v8 a (b.drop k)
 | [],k,h=>by
  have:b.drop k=[]:=List.drop_eq_nil_of_le (by simp at h;omega)
  rw [this];rfl
 | x::a,k,h=>by
  simp only [List.length_cons]at h;have hk:k<b.length:=by omega
  rw [List.drop_eq_getElem_cons hk];simp only [xv,v8,hg k x b[k] (List.getElem?_eq_getElem hk)];by_cases h1:x<b[k]
  ·simp [h1]
  ·by_cases h2:b[k]<x
   ·simp [h1,h2]
   ·simp only [h1,h2,if_false]
    exact zd1 b g hg a (k+1) (by omega)
theorem zdg (a b:List Int)(h:a.length=b.length->a.length<4611686018427387904):Yw a b=some (Wt a b):=by
 unfold Yw;by_cases hl:a.length=b.length
 ·have h':=h hl
  simp only [hl,bne_self_eq_false,cond_false];rw [bdT (vz a h' (fun i x=>match b[i]? with|some y=>if x<y then some (-1:Int) else if y<x then some 1 else none|none=>none) ?_ ?_)]
  ·have q:=zd1 b (fun i x=>match b[i]? with|some y=>if x<y then some (-1:Int) else if y<x then some 1 else none|none=>none) (fun i x y hy=>by simp only [hy]) a 0 (by omega)
   rw [List.drop_zero]at q;have hc:Wt a b=v8 a b:=by unfold Wt;rw [if_neg (by omega),if_neg (by omega)]
   rw [hc,<-q];cases xv (fun i x=>match b[i]? with|some y=>if x<y then some (-1:Int) else if y<x then some 1 else none|none=>none) a 0 <;> rfl
  ·intro i x hx
   have hi:i<a.length:=(List.getElem?_eq_some_iff.1 hx).1;have hy:b[i]?=some b[i]:=List.getElem?_eq_getElem (by omega)
   unfold qJ;have hc:decide ((i:Int)<(a.length:Int))=true:=by simpa using hi
   simp only [hc,cond_true,zX hx,zX hy,hy,Option.bind_some];by_cases h1:x<b[i]
   ·simp [h1,nS]
   ·by_cases h2:b[i]<x
    ·simp [h1,h2,nS]
    ·simp [h1,h2,nS]
  ·unfold qJ
   simp
 ·have h1:(((a.length:Nat):Int) !=((b.length:Nat):Int))=true:=by simp;omega
  simp only [h1,cond_true];unfold Wt;by_cases h2:a.length<b.length
  ·simp [h2]
  ·have h3:b.length<a.length:=by omega
   simp [h2,h3]
def cI (x y:Int):Int:=if x<y then -1 else if y<x then 1 else 0
theorem zdh (x y:Int):uT x y=some (cI x y):=by
 unfold uT YX cI;simp only [bne_self_eq_false,Option.bind_some,cond_false];by_cases h1:x<y
 ·simp [h1]
 ·by_cases h2:y<x
  ·simp [h1,h2]
  ·simp [h1,h2]
theorem zhs (a b:List Int)(h:a.length<4611686018427387904):∃c,w9 a b=some c/\(a.length=b.length->c=v8 a b):=by
 unfold w9;have hloop:=vz a h (step:=fun s=>yD a b s) (fun i x=>match b[i]? with|some y=>if x<y then some (-1:Int) else if y<x then some 1 else none|none=>some 1) (by
  intro i x hx;have hi:i<a.length:=(List.getElem?_eq_some_iff.1 hx).1;unfold yD;have hc:decide ((i:Int)<(a.length:Int))=true:=by simpa using hi
  simp only [hc,cond_true,zX hx,Option.bind_some];by_cases hb:i<b.length
  ·have hy:b[i]?=some b[i]:=List.getElem?_eq_getElem hb
   have hd:decide ((i:Int)>=(b.length:Int))=false:=by simp;omega
   simp only [hd,cond_false,zX hy,hy,Option.bind_some,zdh];unfold cI;by_cases h1:x<b[i]
   ·simp [h1,nS]
   ·by_cases h2:b[i]<x
    ·simp [h1,h2,nS]
    ·simp [h1,h2,nS]
  ·have hy:b[i]?=none:=List.getElem?_eq_none (by omega)
   have hd:decide ((i:Int)>=(b.length:Int))=true:=by simp;omega
   simp only [hd,cond_true,hy,nS]) (by unfold yD;simp)
 rw [bdT hloop];have q:=fun hl=>zd1 b (fun i x=>match b[i]? with|some y=>if x<y then some (-1:Int) else if y<x then some 1 else none|none=>some 1) (fun i x y hy=>by simp only [hy]) a 0 hl
 cases hf:xv (fun i x=>match b[i]? with|some y=>if x<y then some (-1:Int) else if y<x then some 1 else none|none=>some 1) a 0 with
 | some r=>
  refine⟨r,rfl,fun hl=>?_⟩;have:=q (by omega)
  rw [hf]at this;simpa using this
 | none=>
  unfold wn;by_cases hl:a.length<b.length
  ·refine⟨-1,by simp [oS,hl],fun hl2=>by omega⟩
  ·refine⟨0,by simp [oS,hl],fun hl2=>?_⟩
   have:=q (by omega)
   rw [hf]at this;simpa using this
theorem zpR (x y:Int):Q9 [x,y]=some (if x=0 then y else x):=by
 unfold Q9;rw [bdT (vz [x,y] (by simp) (step:=fun s=>Zo [x,y] s) (fun i v=>if v≠0 then some v else none) ?_ ?_)]
 ·by_cases h1:x=0
  ·by_cases h2:y=0
   ·simp [xv,h1,h2,oS,WG]
   ·simp [xv,h1,h2,oS]
  ·simp [xv,h1,oS]
 ·intro i v hv
  have hi:i<[x,y].length:=(List.getElem?_eq_some_iff.1 hv).1;unfold Zo;have hc:decide ((i:Int)<(([x,y]:List Int).length:Int))=true:=by simp only [decide_eq_true_eq];omega
  simp only [hc,cond_true,zX hv,Option.bind_some];by_cases h:v=0
  ·simp [h,nS]
  ·have hb:(v != 0)=true:=by simpa using h
   simp [h,hb,nS]
 ·unfold Zo;simp
theorem z2O (a b:List Int)(h:a.length<4611686018427387904):xF a b=some (Wt a b):=by
 unfold xF;obtain⟨c,hc,hl⟩:=zhs a b h;rw [zdh,hc];simp only [Option.bind_some,zpR];unfold cI Wt;by_cases h1:a.length<b.length
 ·simp [h1]
 ·by_cases h2:b.length<a.length
  ·simp [h1,h2]
  ·simp [h1,h2,hl (by omega)]
def wE (n:Int)(w:List Int):Int:=if 256<w.length then 3 else if w.any (fun c=>decide (c<0) || decide (n<=c)) then 1 else 0
variable {n:Int}
theorem z94 {w:List Int}:wE n w=0↔w.length<=256/\∀c∈w,0<=c/\c<n:=by
 unfold wE;by_cases h:256<w.length
 ·rw [if_pos h]
  exact⟨fun q=>by simp at q,fun q=>by omega⟩
 ·rw [if_neg h]
  by_cases h2:w.any (fun c=>decide (c<0) || decide (n<=c))=true
  ·rw [if_pos h2]
   simp only [List.any_eq_true,Bool.or_eq_true,decide_eq_true_eq]at h2;obtain⟨c,h3,h4⟩:=h2;refine⟨fun q=>by simp at q,fun q=>?_⟩
   have:=q.2 c h3;omega
  ·rw [if_neg h2]
   simp only [List.any_eq_true,Bool.or_eq_true,decide_eq_true_eq,not_exists,not_and,not_or]at h2;refine⟨fun _=>⟨by omega,fun c hc=>?_⟩,fun _=>rfl⟩
   have:=h2 c hc;omega
variable {ρ:Type}
theorem zgr (p:Int->Bool)(g:Nat->Int->Option ρ)(hg:∀i x,(g i x).isSome=p x):∀(w:List Int) (k:Nat),(xv g w k).isSome=w.any p
 | [],k=>rfl
 | x::w,k=>by
  simp only [xv,List.any_cons];have:=hg k x;cases hx:g k x with
  | some r=>rw [hx]at this;simp at this;simp [<-this]
  | none=>rw [hx]at this;simp at this;rw [this,Bool.false_or];exact zgr p g hg w (k+1)
theorem z7R (n:Int)(w:List Int):jZ w n=some (if 16<n then 3 else if 256<w.length then 3 else if n<1 then 1 else wE n w):=by
 unfold jZ;by_cases h0:16<n
 ·simp [h0]
 by_cases h:256<w.length
 ·have h':(256:Int)<(w.length:Int):=by omega
  simp [h0,h,h']
 by_cases h1:n<1
 ·have h':¬(256:Int)<(w.length:Int):=by omega
  simp [h0,h,h',h1]
 ·have hd:decide (((w.length:Nat):Int) > 256)=false:=by simp;omega
  have hd0:decide (n > 16)=false:=by simp;omega
  have hd1:decide (n<1)=false:=by simp;omega
  simp only [hd,hd0,hd1,cond_false,if_neg h,if_neg h0,if_neg h1];unfold xR wC wE;have hl:=vz w (by omega) (step:=fun s=>yl w n s) (fun i c=>if c<0\/n<=c then some (i:Int) else none) (by
   intro i c hc;have hi:i<w.length:=(List.getElem?_eq_some_iff.1 hc).1;unfold yl Wv;have hq:decide ((i:Int)<(w.length:Int))=true:=by simpa using hi
   simp only [hq,cond_true,zX hc,Option.bind_some];by_cases h1:c<0
   ·simp [h1,nS]
   ·by_cases h2:n<=c
    ·simp [h1,h2,nS]
    ·simp [h1,h2,nS]) (by unfold yl;simp)
  rw [bdT hl,if_neg h];have q:=zgr (fun c=>decide (c<0) || decide (n<=c)) (fun i c=>if c<0\/n<=c then some (i:Int) else none) (fun i c=>by by_cases h:c<0\/n<=c <;> simp [h] <;> simpa using h) w 0
  cases hf:xv (fun i c=>if c<0\/n<=c then some (i:Int) else none) w 0 with
  | none=>rw [hf]at q;rw [<-q];rfl
  | some r=>
   rw [hf]at q;obtain⟨i,x,h1,h2⟩:=qr hf;rw [<-q];split at h2
   ·cases h2
    simp [oS]
   ·cases h2
def eS (e:Int):Option Int:=if e=0 then none else some e
def loE (n:Int)(l:List (List Int)):Int:=if 16<n then 3 else if 4096<l.length then 3 else if n<1 then 1 else(xv (fun _ w=>eS (wE n w)) l 0).getD 0
theorem zaK:∀{l:List (List Int)} {k:Nat},(xv (fun _ w=>eS (wE n w)) l k).getD 0=0↔∀w∈l,wE n w=0
 | [],_=>by simp [xv]
 | w::l,k=>by
  by_cases h:wE n w=0
  ·have:eS (wE n w)=none:=by simp [eS,h]
   simp only [xv,this];rw [zaK];simp [h]
  ·have:eS (wE n w)=some (wE n w):=by simp [eS,h]
   simp [xv,this,h]
theorem z1a:loE n l=0↔(1<=n/\n<=16)/\l.length<=4096/\∀w∈l,w.length<=256/\∀c∈w,0<=c/\c<n:=by
 unfold loE;by_cases h0:16<n
 ·rw [if_pos h0];exact⟨fun q=>by simp at q,fun q=>by omega⟩
 by_cases h1:4096<l.length
 ·rw [if_neg h0,if_pos h1];exact⟨fun q=>by simp at q,fun q=>by omega⟩
 by_cases h2:n<1
 ·rw [if_neg h0,if_neg h1,if_pos h2];exact⟨fun q=>by simp at q,fun q=>by omega⟩
 rw [if_neg h0,if_neg h1,if_neg h2,zaK];constructor
 ·intro q;exact⟨by omega,by omega,fun w hw=>z94.1 (q w hw)⟩
 ·intro q w hw;exact z94.2 (q.2.2 w hw)
theorem zaw (l:List (List Int))(n:Int):Xg l n=some (loE n l):=by
 unfold Xg loE;by_cases h0:16<n
 ·simp [h0]
 by_cases h1:4096<l.length
 ·have h':(4096:Int)<(l.length:Int):=by omega
  simp [h0,h1,h']
 by_cases h2:n<1
 ·have h':¬(4096:Int)<(l.length:Int):=by omega
  simp [h0,h1,h2,h']
 have d0:decide (n > 16)=false:=by simp;omega
 have d1:decide (((l.length:Nat):Int) > 4096)=false:=by simp;omega
 have d2:decide (n<1)=false:=by simp;omega
 simp only [d0,d1,d2,cond_false,if_neg h0,if_neg h1,if_neg h2];rw [bdT (vz l (by omega) (step:=fun s=>qR l n s) (fun _ w=>eS (wE n w)) ?_ ?_)]
 ·cases xv (fun _ w=>eS (wE n w)) l 0 <;> rfl
 ·intro i w hw
  have hi:i<l.length:=(List.getElem?_eq_some_iff.1 hw).1;have hq:decide ((i:Int)<(l.length:Int))=true:=by simpa using hi
  have he:jZ w n=some (wE n w):=by
   rw [z7R,if_neg h0,if_neg h2];by_cases h:256<w.length
   ·rw [if_pos h];unfold wE;rw [if_pos h]
   ·rw [if_neg h]
  unfold qR;simp only [hq,cond_true,zX hw,Option.bind_some,he];by_cases hz:wE n w=0
  ·simp [hz,eS,nS]
  ·have hb:(wE n w != 0)=true:=by simpa using hz
   simp [hz,hb,eS,nS]
 ·unfold qR;simp
theorem zf5 (l:List (List Int))(hl:l.length<4611686018427387904){step:Int×Int->Option (LR (Int×Int) Int)}
  (h:∀(n:Int) (i:Nat) (x:List Int),l[i]?=some x->step (n,(i:Int))=some (.next (w64 (n+((x.length:Nat):Int)),w64 ((i:Int)+1)))) (h2:∀n,step (n,(l.length:Int))=some (.done n)) :
  loop step (0,0)=some (l.foldl (fun n x=>w64 (n+((x.length:Nat):Int))) 0):=by
 have gen:∀(m k:Nat) (n:Int),k<=l.length->l.length - k<m->KC step m (n,(k:Int))=some ((l.drop k).foldl (fun n x=>w64 (n+((x.length:Nat):Int))) n):=by
  intro m
  induction m with
  | zero=>intro k n _ h;omega
  | succ m ih=>
   intro k n hk hn;rw [WU];rcases Nat.lt_or_ge k l.length with hlt|hge
   ·have hx:l[k]?=some l[k]:=List.getElem?_eq_getElem hlt
    rw [h n k _ hx,List.drop_eq_getElem_cons hlt];simp only [List.foldl_cons];rw [zS (x:=(k:Int)+1) (by omega) (by omega)]
    exact ih (k+1) _ hlt (by omega)
   ·have:k=l.length:=by omega
    subst this;rw [h2,List.drop_length];rfl
 exact gen fuel 0 0 (Nat.zero_le _) (by show l.length - 0<18446744073709551616;omega)
def stW (l:List (List Int)):Int:=l.foldl (fun n x=>w64 (n+((x.length:Nat):Int))) 0
theorem z9Y (l:List (List Int))(hl:l.length<4611686018427387904):Xf l=some (stW l):=by
 unfold Xf;rw [bdT (zf5 l hl (step:=fun s=>qP l s.1 s.2) ?_ ?_)]
 ·rfl
 ·intro n i x hx
  have hi:i<l.length:=(List.getElem?_eq_some_iff.1 hx).1;have hq:decide ((i:Int)<(l.length:Int))=true:=by simpa using hi
  unfold qP;simp only [hq,cond_true,zX hx,Option.bind_some]
 ·intro n;unfold qP;simp
def QQ (l:List (List Int)):Nat:=(l.map List.length).sum
theorem zg3 (h:QQ l<4611686018427387904):stW l=(QQ l:Int):=by
 have gen:∀(l:List (List Int)) (n:Nat),n+QQ l<4611686018427387904->l.foldl (fun n x=>w64 (n+((x.length:Nat):Int))) (n:Int)=((n+QQ l:Nat):Int):=by
  intro l
  induction l with
  | nil=>intro n _;simp [QQ]
  | cons x l ih=>
   intro n hn;have hs:QQ (x::l)=x.length+QQ l:=by simp [QQ]
   rw [hs]at hn ⊢;rw [List.foldl_cons,zS (by omega) (by omega),<-Int.natCast_add,ih (n+x.length) (by omega)]
   congr 1;omega
 have:=gen l 0 (by omega)
 simpa [stW] using this
theorem z43 {m:Nat}(h:∀w∈l,w.length<=m):QQ l<=l.length*m:=by
 induction l with
 | nil=>simp [QQ]
 | cons x l ih=>
  have hs:QQ (x::l)=x.length+QQ l:=by simp [QQ]
  have h1:=h x (by simp)
  have h2:=ih fun w hw=>h w (by simp [hw])
  rw [hs,List.length_cons,Nat.add_mul];omega
theorem z9X:∀{l:List (List Int)},SW l↔∀i x y,l[i]?=some x->l[i+1]?=some y->Wt x y<0
 | []=>by simp [SW]
 | [x]=>⟨fun _ i a b _ h2=>by simp at h2,fun _=>by simp [SW]⟩
 | x::y::l=>by
  constructor
  ·intro h i a b h1 h2
   cases i with
   | zero=>
    simp at h1 h2;subst h1;subst h2;exact h.head y (by simp)
   | succ i=>exact z9X.1 h.tail i a b (by simpa using h1) (by simpa using h2)
  ·intro h
   have ht:SW (y::l):=z9X.2 fun i a b h1 h2=>h (i+1) a b (by simpa using h1) (by simpa using h2)
   have h0:=h 0 x y rfl rfl;refine List.pairwise_cons.2 ⟨fun z hz=>?_,ht⟩;rcases List.mem_cons.1 hz with rfl|hz
   ·exact h0
   ·exact Qa h0 (ht.head z hz)
theorem zbf {α ρ:Type}(l:List α)(hl:l.length<4611686018427387904){step:Int->Option (LR Int (Unit⊕ρ))}(f:Nat->α->Option ρ)
  (h:∀(i:Nat) (x:α),1<=i->l[i]?=some x->step (i:Int)=some (nS i (f i x))) (h2:∀k:Nat,l.length<=k->step (k:Int)=some (.done (.inl ()))) :
  loop step 1=some (oS (xv f (l.drop 1) 1)):=by
 have gen:∀(n:Nat) (k:Nat),1<=k->l.length - k<n->KC step n (k:Int)=some (oS (xv f (l.drop k) k)):=by
  intro n
  induction n with
  | zero=>intro k _ h;omega
  | succ n ih=>
   intro k hk hn;rw [WU];rcases Nat.lt_or_ge k l.length with hlt|hge
   ·have hx:l[k]?=some l[k]:=List.getElem?_eq_getElem hlt
    rw [h k _ hk hx,List.drop_eq_getElem_cons hlt];simp only [xv];cases hf:f k l[k] with
    | some r=>rfl
    | none=>
     simp only [nS];rw [zS (by omega) (by omega)]
     exact ih (k+1) (by omega) (by omega)
   ·rw [h2 k hge,List.drop_eq_nil_of_le hge]
    rfl
 exact gen fuel 1 (Nat.le_refl _) (by show l.length - 1<18446744073709551616;omega)
instance (l:List (List Int)):Decidable (SW l):=by unfold SW;infer_instance
theorem zfo (l:List (List Int))(r:ρ):xv (fun i x=>match l[i - 1]? with|some y=>if 0<=Wt y x then some r else none|none=>none) (l.drop 1) 1=if SW l then none else some r:=by
 by_cases hs:SW l
 ·rw [if_pos hs]
  refine Y4 fun i x hx=>?_;rw [List.getElem?_drop]at hx;have hi:1+i<l.length:=(List.getElem?_eq_some_iff.1 hx).1;have hy:l[1+i - 1]?=some l[i]:=by rw [show 1+i - 1=i by omega];exact List.getElem?_eq_getElem (by omega)
  rw [hy];have:=z9X.1 hs i l[i] x (List.getElem?_eq_getElem (by omega)) (by rw [Nat.add_comm];exact hx)
  simp only;rw [if_neg (by omega)]
 ·rw [if_neg hs]
  cases hf:xv (fun i x=>match l[i - 1]? with|some y=>if 0<=Wt y x then some r else none|none=>none) (l.drop 1) 1 with
  | some r'=>
   obtain⟨i,x,h1,h2⟩:=qr hf;split at h2
   ·split at h2
    ·exact h2.symm
    ·cases h2
   ·cases h2
  | none=>
   exfalso;refine hs (z9X.2 fun i x y hx hy=>?_);have:=qt hf i y (by rw [List.getElem?_drop,Nat.add_comm];exact hy)
   rw [show 1+i - 1=i by omega,hx]at this
   simp only at this;split at this
   ·cases this
   ·omega
theorem zfV (l:List (List Int))(h:l.length<=4096)(hw:∀w∈l,w.length<4611686018427387904):WZ l=some (decide (SW l)):=by
 unfold WZ;rw [bdT (zbf l (by omega) (step:=fun s=>qS l s) (fun i x=>match l[i - 1]? with|some y=>if 0<=Wt y x then some false else none|none=>none) ?_ ?_),zfo]
 ·by_cases hs:SW l
  ·simp [hs,oS,Xu]
  ·simp [hs,oS]
 ·intro i x hi hx
  have hil:i<l.length:=(List.getElem?_eq_some_iff.1 hx).1;have hy:l[i - 1]?=some l[i - 1]:=List.getElem?_eq_getElem (by omega)
  have hq:decide ((i:Int)<(l.length:Int))=true:=by simpa using hil
  unfold qS;rw [zS (x:=(i:Int) - 1) (by omega) (by omega),show((i:Int) - 1)=((i - 1:Nat):Int) by omega]
  have hE:=z2O l[i - 1] x (hw _ (List.getElem_mem (by omega)))
  simp only [hq,cond_true,zX hx,zX hy,Option.bind_some,hy,hE];by_cases hc:0<=Wt l[i - 1] x
  ·simp [hc,nS]
  ·simp [hc,nS]
 ·intro k hk;unfold qS;have:decide ((k:Int)<(l.length:Int))=false:=by simp;omega
  simp only [this,cond_false]
def chE (n:Int)(l:List (List Int)):Int:=if loE n l≠0 then loE n l else if SW l then(if 65536<QQ l then 3 else 0) else 1
theorem z7i:chE n l=0↔loE n l=0/\SW l/\QQ l<=65536:=by
 unfold chE;by_cases h:loE n l=0
 ·rw [if_neg (by simp [h])]
  by_cases h2:SW l
  ·rw [if_pos h2]
   by_cases h3:65536<QQ l
   ·rw [if_pos h3];exact⟨fun q=>by simp at q,fun q=>by omega⟩
   ·rw [if_neg h3];exact⟨fun _=>⟨h,h2,by omega⟩,fun _=>rfl⟩
  ·rw [if_neg h2];exact⟨fun q=>by simp at q,fun q=>absurd q.2.1 h2⟩
 ·rw [if_pos h];exact⟨fun q=>absurd q h,fun q=>absurd q.1 h⟩
theorem z8s (h:loE n l=0):l.length<=4096/\(∀w∈l,w.length<=256)/\QQ l<=1048576:=by
 obtain⟨_,h1,h2⟩:=z1a.1 h;refine⟨h1,fun w hw=>(h2 w hw).1,?_⟩;have:=z43 (m:=256) fun w hw=>(h2 w hw).1;omega
theorem zbH (l:List (List Int))(n:Int):V1 l n=some (chE n l):=by
 unfold V1 chE;rw [zaw];simp only [Option.bind_some];by_cases h:loE n l=0
 ·obtain⟨h1,h2,h3⟩:=z8s h
  rw [zfV l h1 fun w hw=>by have:=h2 w hw;omega,z9Y l (by omega),zg3 (by omega)]
  simp only [h,bne_self_eq_false,cond_false,Option.bind_some,ne_eq,not_true,if_false];by_cases hs:SW l
  ·by_cases hq:65536<QQ l
   ·have:(65536:Int)<(QQ l:Int):=by omega
    simp [hs,hq,this]
   ·have:¬(65536:Int)<(QQ l:Int):=by omega
    simp [hs,hq,this]
  ·simp [hs]
 ·have hb:(loE n l != 0)=true:=by simpa using h
  simp [h,hb]
theorem zdj (w:List Int):yf w=some w:=by
 unfold yf;rw [gdT (by omega)]
 simp
theorem zfC (w:List Int)(h:w.length<=4294967296):yG w=some w:=by
 unfold yG;rw [gdT (by simpa using h)]
theorem zac (a b:List Int)(h:a.length<4611686018427387904):qQ a b=some (decide (a=b)):=by
 unfold qQ;rw [z2O a b h];simp only [Option.bind_some];by_cases e:a=b
 ·subst e;simp [z1f]
 ·have:Wt a b≠0:=fun q=>e (z7h q)
  simp [e,this]
def QW (l:List (List Int)):Prop:=l.Pairwise fun a b=>¬Wt b a<0
theorem Ux {l:List α}{n:Nat}{x:α}:x∈l.take n↔∃i,i<n/\l[i]?=some x:=by
 rw [List.mem_iff_getElem?];constructor
 ·rintro⟨i,h⟩
  rw [List.getElem?_take]at h;split at h
  ·exact⟨i,by omega,h⟩
  ·cases h
 ·rintro⟨i,h1,h2⟩
  exact⟨i,by rw [List.getElem?_take,if_pos h1];exact h2⟩
theorem zbI (h:SW l)(hx:∀y∈l,Wt y x<0):SW (l++[x]):=by
 unfold SW;rw [List.pairwise_append];exact⟨h,by simp,fun a ha b hb=>by simp at hb;subst hb;exact hx a ha⟩
section
variable {s:List (List Int)}(hq:QW s)(hl:s.length<=4294967296)(hw:∀w∈s,w.length<4611686018427387904)
include hq hl hw
omit hl hw in
theorem zeS {i j:Nat}{x y:List Int}(hi:s[i]?=some x)(hj:s[j]?=some y)(h:i<=j):Wt x y<0\/x=y:=by
 rcases Nat.lt_or_ge i j with h|h
 ·have:=(List.pairwise_iff_getElem.1 hq) i j (List.getElem?_eq_some_iff.1 hi).1 (List.getElem?_eq_some_iff.1 hj).1 h
  rw [(List.getElem?_eq_some_iff.1 hi).2,(List.getElem?_eq_some_iff.1 hj).2]at this;rcases z9M.1 this with q|q
  ·exact .inl q
  ·exact .inr q.symm
 ·have:i=j:=by omega
  subst this;rw [hi]at hj;exact .inr (by simpa using hj)
theorem z8R (h1:1<=k)(hk:k<s.length)(hd:s[k - 1]?=s[k]?)(hs:SW (s.take k)) :
  Ret (Option.bind (loop (fun q=>y9 (k:Int) q.1 q.2.1 q.2.2) (s,(k:Int),1)) fun t=>yb t.1 t.2) fun r=>r=.done (.inr (srt s)):=by
 rw [zw];refine Ret.mono (y4 (fun q=>∃kk k2:Nat,q.2.1=(kk:Int)/\q.2.2=(k2:Int)/\1<=k2/\k+k2<=s.length/\kk<k+k2/\q.1.length=s.length/\(∀i,kk<=i->q.1[i]?=s[i]?)/\SW (q.1.take kk)/\∀x,x∈q.1.take kk↔x∈s.take (k+k2)) (fun q=>s.length - q.2.2.toNat) (R:=fun t=>∃kk:Nat,t.2=(kk:Int)/\kk<=s.length/\t.1.length=s.length/\t.1.take kk=srt s) ?_ ?_ ?_) ?_
 ·refine⟨k,1,rfl,rfl,Nat.le_refl _,hk,by omega,rfl,fun _ _=>rfl,hs,fun x=>?_⟩
  rw [Ux,Ux];constructor
  ·rintro⟨i,h2,h3⟩;exact⟨i,by omega,h3⟩
  ·rintro⟨i,h2,h3⟩
   rcases Nat.lt_or_ge i k with h|h
   ·exact⟨i,h,h3⟩
   ·have:i=k:=by omega
    subst this;exact⟨i - 1,by omega,by rw [hd];exact h3⟩
 ·show s.length - _<_
  omega
 ·rintro⟨S,a,b⟩ ⟨kk,k2,rfl,rfl,g1,g2,g3,g4,g5,g6,g7⟩
  simp only at g4 g5 g6 g7
  show Ret (y9 (k:Int) S (kk:Int) (k2:Int)) _
  unfold y9;rw [zB];refine⟨fun hc=>?_,fun hc=>?_⟩
  ·have hlt:k2<s.length - k:=by rw [g4]at hc;simpa using hc
   have e1:s[k+k2]?=some s[k+k2]:=List.getElem?_eq_getElem (by omega)
   have e2:s[k+k2 - 1]?=some s[k+k2 - 1]:=List.getElem?_eq_getElem (by omega)
   have f1:idx S ((k:Int)+(k2:Int))=some s[k+k2]:=by
    rw [<-Int.natCast_add,zH,g5 _ (by omega),e1]
   have f2:idx S ((k:Int)+w64 ((k2:Int) - 1))=some s[k+k2 - 1]:=by
    rw [zS (by omega) (by omega),show(k:Int)+((k2:Int) - 1)=((k+k2 - 1:Nat):Int) by omega,zH,g5 _ (by omega),e2]
   rw [gdT (by omega),f1]
   simp only [Option.bind_some];rw [gdT (by rw [zS (by omega) (by omega)];omega),f2]
   simp only [Option.bind_some];rw [zac _ _ (hw _ (List.getElem_mem (by omega)))]
   simp only [Option.bind_some];have hk2:w64 ((k2:Int)+1)=((k2+1:Nat):Int):=by rw [zS (by omega) (by omega)];omega
   by_cases he:s[k+k2]=s[k+k2 - 1]
   ·simp only [he,decide_true,Bool.not_true,cond_false]
    unfold ya;rw [hk2,zg];refine⟨⟨kk,k2+1,rfl,rfl,by omega,by omega,by omega,g4,g5,g6,fun x=>?_⟩,by simp only [Int.toNat_natCast];omega⟩
    rw [g7,Ux,Ux];constructor
    ·rintro⟨i,h2,h3⟩;exact⟨i,by omega,h3⟩
    ·rintro⟨i,h2,h3⟩
     rcases Nat.lt_or_ge i (k+k2) with h|h
     ·exact⟨i,h,h3⟩
     ·have:i=k+k2:=by omega
      subst this;exact⟨k+k2 - 1,by omega,by rw [e2,<-he,<-e1];exact h3⟩
   ·simp only [he,decide_false,Bool.not_false,cond_true]
    rw [gdT (by omega)]
    have e3:idx S (kk:Int)=some s[kk]:=by rw [zH,g5 _ (Nat.le_refl _),List.getElem?_eq_getElem (by omega)]
    rw [e3];simp only [Option.bind_some];unfold ya;rw [hk2,zS (x:=(kk:Int)+1) (by omega) (by omega),zg]
    have hset:(S.set ((kk:Int).toNat) s[k+k2]).take (kk+1)=S.take kk++[s[k+k2]]:=by
     rw [Int.toNat_natCast,List.take_add_one,List.take_set_of_le (Nat.le_refl _),List.getElem?_set_self (by omega)]
     rfl
    refine⟨⟨kk+1,k2+1,rfl,rfl,by omega,by omega,by omega,by simp [g4],fun i hi=>?_,?_,fun x=>?_⟩,by simp only [Int.toNat_natCast];omega⟩
    ·simp only
     rw [List.getElem?_set_ne (by omega),g5 _ (by omega)]
    ·simp only
     rw [hset];refine zbI g6 fun y hy=>?_;obtain⟨i,h2,h3⟩:=Ux.1 ((g7 y).1 hy);have hlast:Wt s[k+k2 - 1] s[k+k2]<0:=by
      rcases zeS hq e2 e1 (by omega) with q|q
      ·exact q
      ·exact absurd q.symm he
     rcases zeS hq h3 e2 (by omega) with q|q
     ·exact Qa q hlast
     ·rw [q];exact hlast
    ·simp only
     rw [hset,List.mem_append,g7,Ux,Ux];constructor
     ·rintro(⟨i,h2,h3⟩|h)
      ·exact⟨i,by omega,h3⟩
      ·simp at h;subst h;exact⟨k+k2,by omega,e1⟩
     ·rintro⟨i,h2,h3⟩
      rcases Nat.lt_or_ge i (k+k2) with h|h
      ·exact .inl ⟨i,h,h3⟩
      ·have:i=k+k2:=by omega
       subst this;rw [e1]at h3;exact .inr (by simpa using h3.symm)
  ·have hge:s.length - k<=k2:=by rw [g4]at hc;simpa using hc
   have hkk:k+k2=s.length:=by omega
   rw [zg];refine⟨kk,rfl,by omega,g4,zbP g6 fun x=>?_⟩
   rw [g7,hkk,List.take_length]
 ·rintro⟨S,a⟩ ⟨kk,rfl,h1,h2,h3⟩
  simp only at h2 h3
  show Ret (yb S (kk:Int)) _
  unfold yb;have hlen:(S.take (kk:Int).toNat++List.replicate (S.length - (kk:Int).toNat) ([]:List Int)).length=S.length:=by simp [List.length_take];omega
  rw [gdT (by omega),gdT (by omega),gdT (by rw [hlen];omega),zg]
  simp only [Int.toNat_natCast];rw [List.take_left' (by rw [List.length_take];omega),h3]
theorem zbo:yS s ()=some (srt s):=by
 unfold yS;by_cases h2:s.length<2
 ·have hd:decide (((s.length:Nat):Int)<2)=true:=by simp;omega
  simp only [hd,cond_true];rw [z44]
  match s,h2 with
  | [],_=>exact SW.nil
  | [x],_=>simp [SW]
 ·have hd:decide (((s.length:Nat):Int)<2)=false:=by simp;omega
  simp only [hd,cond_false];apply Ret.eq
  rw [zw];refine Ret.mono (y4 (fun q:Int=>∃j:Nat,q=(j:Int)/\1<=j/\j<=s.length/\SW (s.take j)) (fun q=>s.length - q.toNat) (R:=fun t:Unit⊕List (List Int)=>match t with|.inl _=>srt s=s|.inr p=>p=srt s) ?_ ?_ ?_) ?_
  ·refine⟨1,rfl,Nat.le_refl _,by omega,?_⟩
   match s,h2 with
   | [],h2=>simp at h2
   | x::l,_=>simp [SW]
  ·show s.length - _<_
   omega
  ·rintro _ ⟨j,rfl,g1,g2,g3⟩
   show Ret (yn s (j:Int)) _
   unfold yn;rw [zB];refine⟨fun hc=>?_,fun hc=>?_⟩
   ·have hj:j<s.length:=by simpa using hc
    have e1:s[j]?=some s[j]:=List.getElem?_eq_getElem hj;have e2:s[j - 1]?=some s[j - 1]:=List.getElem?_eq_getElem (by omega)
    rw [zS (x:=(j:Int) - 1) (by omega) (by omega),show(j:Int) - 1=((j - 1:Nat):Int) by omega,zX e1,zX e2]
    simp only [Option.bind_some];rw [zac _ _ (hw _ (List.getElem_mem hj))];simp only [Option.bind_some];by_cases he:s[j]=s[j - 1]
    ·simp only [he,decide_true,cond_true]
     rw [gdT (by omega)]
     refine(z8R hq hl hw g1 hj (by rw [e1,e2,he]) g3).mono ?_
     rintro _ rfl;rfl
    ·simp only [he,decide_false,cond_false]
     unfold xp;rw [zS (by omega) (by omega),zg]
     refine⟨⟨j+1,rfl,by omega,hj,?_⟩,by simp only [Int.toNat_natCast];omega⟩
     have:s.take (j+1)=s.take j++[s[j]]:=by rw [List.take_add_one,e1];rfl
     rw [this];refine zbI g3 fun y hy=>?_;obtain⟨i,h3,h4⟩:=Ux.1 hy;have hlast:Wt s[j - 1] s[j]<0:=by
      rcases zeS hq e2 e1 (by omega) with q|q
      ·exact q
      ·exact absurd q.symm he
     rcases zeS hq h4 e2 (by omega) with q|q
     ·exact Qa q hlast
     ·rw [q];exact hlast
   ·have hj:j=s.length:=by
     have:¬j<s.length:=by simpa using hc
     omega
    rw [zg]
    show srt s=s
    rw [hj,List.take_length]at g3;exact z44 g3
  ·rintro(u|p) h
   ·show Ret (some s) _
    rw [zg];exact h.symm
   ·show Ret (some p) _
    rw [zg];exact h
end
theorem z7Z (l:List (List Int)):SOk Wt l :=
 ⟨fun x _=>z7g x,fun x _ y _ z _ h1 h2=>Qa h1 h2,fun x _ y _ h1 h2=>by
  rcases z9M.1 h1 with q|q
  ·exact absurd q h2
  ·exact q⟩
theorem zev {l m:List (List Int)}(h:l.Perm m):srt l=srt m:=zbQ fun x=>h.mem_iff
theorem z4A {c d:List Int->List Int->Int}:∀{l:List (List Int)},(∀x∈l,∀y∈l,c x y=d x y)->z0d c l=z0d d l
 | [],_=>rfl
 | x::l,h=>by
  have ih:=z4A (c:=c) (d:=d) (l:=l) fun a ha b hb=>h a (by simp [ha]) b (by simp [hb])
  show zbw c x (z0d c l)=zbw d x (z0d d l)
  rw [ih];have gen:∀m:List (List Int),(∀y∈m,y∈l)->zbw c x m=zbw d x m:=by
   intro m
   induction m with
   | nil=>intro _;rfl
   | cons y m ih2=>
    intro hm;simp only [zbw];rw [h y (by simp [hm y (by simp)]) x (by simp),ih2 fun z hz=>hm z (by simp [hz])]
  exact gen _ fun y hy=>(Xq d l).mem_iff.1 hy
def soR (l:List (List Int)):List (List Int)×Int:=if 4096<(srt l).length\/65536<QQ (srt l) then([],3) else(srt l,0)
theorem za3 (hl:l.length<=100000)(hw:∀w∈l,w.length<=4294967296):wr l=some (soR l):=by
 unfold wr vV;rw [gdT (by simp;omega)]
 simp only [Option.bind_some];have hc:∀x∈l,∀y,xF x y=some (Wt x y):=fun x hx y=>z2O x y (by have:=hw x hx;omega)
 have hso:zbU (fun x y=>xF x y) l=some (z0d Wt l):=by
  unfold zbU;rw [gdT ⟨by omega,fun x hx y hy=>by simp only [hc x hx y];rfl⟩]
  have hcc:∀x∈l,∀y∈l,(xF x y).getD 0=Wt x y:=fun x hx y _=>by rw [hc x hx y];rfl
  rw [gdT,z4A (c:=fun x y=>(xF x y).getD 0) (d:=Wt) hcc];have q:=z7Z l;refine⟨fun x hx=>by show ¬(xF x x).getD 0<0;rw [hcc x hx x hx];exact q.1 x hx,fun x hx y hy z hz h1 h2=>?_,fun x hx y hy h1 h2=>?_⟩
  ·simp only [hcc x hx y hy,hcc y hy z hz,hcc x hx z hz]at h1 h2 ⊢
   exact q.2.1 x hx y hy z hz h1 h2
  ·simp only [hcc x hx y hy,hcc y hy x hx]at h1 h2
   exact q.2.2 x hx y hy h1 h2
 rw [hso];simp only [Option.bind_some];have hp:=Xq Wt l;have hq:QW (z0d Wt l):=JN (z7Z l) (fun y hy=>hy);rw [zbo hq (by rw [hp.length_eq];omega) (fun w h=>by have:=hw w (hp.mem_iff.1 h);omega)]
 simp only [Option.bind_some];unfold xT;simp only [Option.bind_some];rw [zev hp];have hlen:(srt l).length<=100000:=Nat.le_trans (z9b l) hl;have hws:∀w∈srt l,w.length<=4294967296:=fun w h=>hw w (z2b.1 h);unfold soR;generalize srt l=r at hlen hws;have hsy:QQ r<=100000*4294967296:=Nat.le_trans (z43 hws) (Nat.mul_le_mul_right _ hlen);by_cases h1:4096<r.length
 ·have:(4096:Int)<(r.length:Int):=by omega
  simp [h1,this]
 ·have d1:decide (((r.length:Nat):Int) > 4096)=false:=by simp;omega
  simp only [d1,cond_false];rw [z9Y r (by omega),zg3 (by omega)]
  simp only [Option.bind_some];by_cases h2:65536<QQ r
  ·have:(65536:Int)<(QQ r:Int):=by omega
   simp [h2,this]
  ·have d2:decide (((QQ r:Nat):Int) > 65536)=false:=by simp;omega
   simp only [d2,cond_false];rw [if_neg (by omega)]
   have hloop:=Zg (step:=fun s=>wq r s.1 s.2) (fun i=>((r.take i).map (fun q=>(q,true))++(r.drop i).map (fun q=>(q,false)),(i:Int))) r.length (t:=r.map fun q=>(q,true)) (by omega) (by
    intro i hi;have hA:((r.take i).map (fun q:List Int=>(q,true))).length=i:=by rw [List.length_map,List.length_take];omega
    have hd:r.drop i=r[i]::r.drop (i+1):=List.drop_eq_getElem_cons hi;have hx:((r.take i).map (fun q=>(q,true))++(r.drop i).map (fun q=>(q,false)))[i]?=some (r[i],false):=by
     rw [List.getElem?_append_right (by omega),hA,hd];simp
    show wq r _ (i:Int)=_
    unfold wq;have hq:decide ((i:Int)<((r.length - (0:Int).toNat:Nat):Int))=true:=by simpa using hi
    simp only [hq,cond_true];rw [gdT (by omega),Int.zero_add,zX hx]
    simp only [Option.bind_some];rw [zfC _ (hws _ (List.getElem_mem hi))];simp only [Option.bind_some,zdj,Int.toNat_natCast];rw [zS (by omega) (by omega)]
    congr 3
    rw [List.set_append_right _ _ (by omega),hA,hd,List.take_add_one,List.getElem?_eq_getElem hi]
    simp only [Nat.sub_self,List.map_cons,List.set_cons_zero,List.map_append,Option.toList_some,List.map_nil,List.append_assoc,List.cons_append,List.nil_append]) (by
    show wq r _ (r.length:Int)=_
    unfold wq;simp)
   have h0:((r.take 0).map (fun q=>(q,true))++(r.drop 0).map (fun q=>(q,false)),((0:Nat):Int))=(r.map (fun q=>(q,false)),(0:Int)):=by simp
   rw [h0]at hloop;rw [hloop];simp only [Option.bind_some];unfold Yj;rw [gdT (by intro q hq;obtain⟨_,_,rfl⟩:=List.mem_map.1 hq;rfl)]
   simp [List.map_map,Function.comp_def]
def z7c (a:Nat)(w:List Int):List (List Int):=(List.range a).map fun s:Nat=>w++[(s:Int)]
def exW (a:Nat):Nat->List (List Int)
 | 0=>[[]]
 | k+1=>(exW a k).flatMap (z7c a)
theorem zfv (a:Nat)(w:List Int):(z7c a w).length=a:=by simp [z7c]
theorem zaL (a:Nat)(l:List (List Int)):(l.flatMap (z7c a)).length=l.length*a:=by
 induction l with
 | nil=>simp
 | cons w l ih=>rw [List.flatMap_cons,List.length_append,ih,zfv,List.length_cons,Nat.succ_mul];omega
theorem JR (a:Nat):∀k,(exW a k).length=a ^ k
 | 0=>rfl
 | k+1=>by rw [exW,zaL,JR,Nat.pow_succ]
theorem Uz (a:Nat):∀k,∀w∈exW a k,w.length=k
 | 0,w,h=>by simp [exW]at h;subst h;rfl
 | k+1,w,h=>by
  rw [exW,List.mem_flatMap]at h;obtain⟨v,h1,h2⟩:=h;simp only [z7c,List.mem_map]at h2;obtain⟨s,_,rfl⟩:=h2;simp [Uz a k v h1]
theorem zkn {a:Nat}(ha:a<=16){w:List Int}(hw:w.length<=1000){nx:List (List Int)}(hn:nx.length<=10000000) :
  loop (fun s=>vQ (a:Int) w s.1 s.2) (nx,0)=some (nx++z7c a w):=by
 have h:=Zg (step:=fun s=>vQ (a:Int) w s.1 s.2) (fun i=>(nx++(List.range i).map (fun s:Nat=>w++[(s:Int)]),(i:Int))) a (t:=nx++z7c a w) (by omega) (by
  intro i hi
  show vQ (a:Int) w _ (i:Int)=_
  unfold vQ;have hq:decide ((i:Int)<(a:Int))=true:=by simpa using hi
  simp only [hq,cond_true,zdj,Option.bind_some];rw [gdT (by simp;omega),gdT (by simp;omega),zS (by omega) (by omega),List.range_succ,List.map_append,List.append_assoc]
  rfl) (by
  show vQ (a:Int) w _ (a:Int)=_
  unfold vQ;simp [z7c])
 have h0:((nx++(List.range 0).map (fun s:Nat=>w++[(s:Int)])),((0:Nat):Int))=(nx,(0:Int)):=by simp
 rw [h0]at h;exact h
theorem zk3 {a:Nat}(ha:a<=16)  (hw:∀w∈l,w.length<=1000)(hl:l.length<=100000) :
  loop (fun s=>vR (a:Int) l s.1 s.2) (([]:List (List Int)),0)=some (l.flatMap (z7c a)):=by
 have h:=Zg (step:=fun s=>vR (a:Int) l s.1 s.2) (fun i=>((l.take i).flatMap (z7c a),(i:Int))) l.length (t:=l.flatMap (z7c a)) (by omega) (by
  intro i hi
  show vR (a:Int) l _ (i:Int)=_
  unfold vR;have hq:decide ((i:Int)<(l.length:Int))=true:=by simpa using hi
  have hx:l[i]?=some l[i]:=List.getElem?_eq_getElem hi;have hlen:((l.take i).flatMap (z7c a)).length<=10000000:=by
   rw [zaL,List.length_take];have:min i l.length*a<=100000*16:=Nat.mul_le_mul (by omega) ha
   omega
  simp only [hq,cond_true,zX hx,Option.bind_some];rw [bdT (zkn ha (hw _ (List.getElem_mem hi)) hlen)];unfold Ul;rw [zS (by omega) (by omega),List.take_add_one,hx,List.flatMap_append]
  simp) (by
  show vR (a:Int) l _ (l.length:Int)=_
  unfold vR;simp)
 simpa using h
def Qg (a f:Nat):Nat->List (List Int)
 | 0=>[]
 | k+1=>if f<=k then Qg a f k++exW a k else Qg a f k
def syW (a f:Nat):Nat->Nat
 | 0=>0
 | k+1=>if f<=k then syW a f k+k*a ^ k else syW a f k
def VT (a f t k:Nat):Prop:=4096<(Qg a f (k+1)).length\/65536<syW a f (k+1)\/k<t/\4096<a ^ k*a
instance (a f t k:Nat):Decidable (VT a f t k):=by unfold VT;infer_instance
theorem zdG {a f t k:Nat}(ha:1<=a/\a<=16)(hf:f<=256)(ht:t<=256)(hk:k<=t)(ho:(Qg a f k).length<=4096)(hs:syW a f k<=65536)(hl:a ^ k<=4096) :
  uX (a:Int) (f:Int) (t:Int) (Qg a f k) (exW a k) (syW a f k:Int) (k:Int)=if VT a f t k then some (.done ([],3)) else if k=t then Option.bind (wr (Qg a f (k+1))) (fun r=>some (.done (r.1,r.2))) else some (.next (Qg a f (k+1),exW a (k+1),(syW a f (k+1):Int),((k+1:Nat):Int))):=by
 have hmul:k*a ^ k<=256*4096:=Nat.mul_le_mul (by omega) hl
 have hma:a ^ k*a<=4096*16:=Nat.mul_le_mul hl ha.2;have e:uX (a:Int) (f:Int) (t:Int) (Qg a f k) (exW a k) (syW a f k:Int) (k:Int)=Y8 (a:Int) (t:Int) (exW a k) (k:Int) (Qg a f (k+1)) (syW a f (k+1):Int):=by
  unfold uX;by_cases h:f<=k
  ·have hd:decide ((k:Int)>=(f:Int))=true:=by simpa using h
   simp only [hd,cond_true];have hm:w64 ((k:Int)*((exW a k).length:Int))=((k*a ^ k:Nat):Int):=by
    rw [JR,<-Int.natCast_mul,zS (by omega) (by omega)]
   rw [gdT (by rw [JR];omega),hm,zS (by omega) (by omega)]
   simp only [Qg,syW,if_pos h]
   congr 1
  ·have hd:decide ((k:Int)>=(f:Int))=false:=by simp;omega
   simp only [hd,cond_false,Qg,syW,if_neg h]
 rw [e];unfold Y8;by_cases h1:4096<(Qg a f (k+1)).length
 ·have:decide (((Qg a f (k+1)).length:Int) > 4096)=true:=by simp only [decide_eq_true_eq];omega
  simp only [this,cond_true];rw [if_pos (show VT a f t k from .inl h1)]
 have d1:decide (((Qg a f (k+1)).length:Int) > 4096)=false:=by simp;omega
 simp only [d1,cond_false];by_cases h2:65536<syW a f (k+1)
 ·have:decide ((syW a f (k+1):Int) > 65536)=true:=by simp only [decide_eq_true_eq];omega
  simp only [this,cond_true];rw [if_pos (show VT a f t k from .inr (.inl h2))]
 have d2:decide ((syW a f (k+1):Int) > 65536)=false:=by simp;omega
 simp only [d2,cond_false];have hm:w64 (((exW a k).length:Int)*(a:Int))=((a ^ k*a:Nat):Int):=by
  rw [JR,<-Int.natCast_mul,zS (by omega) (by omega)]
 rw [hm];have J4:∀(hns:¬(k<t/\4096<a ^ k*a)) (b:Bool),Y7 (a:Int) (t:Int) (exW a k) (k:Int) (Qg a f (k+1)) (syW a f (k+1):Int) b=if k=t then Option.bind (wr (Qg a f (k+1))) (fun r=>some (.done (r.1,r.2))) else some (.next (Qg a f (k+1),exW a (k+1),(syW a f (k+1):Int),((k+1:Nat):Int))):=by
  intro hns b;unfold Y7;by_cases hkt:k=t
  ·subst hkt
   simp
  ·have hd:((k:Int)==(t:Int))=false:=by simp;omega
   simp only [hd,cond_false,if_neg hkt];rw [bdT (zk3 ha.2 (fun w hw=>by rw [Uz a k w hw];omega) (by rw [JR];omega))]
   unfold Um Un;rw [zS (by omega) (by omega)]
   rfl
 by_cases hkt:k<t
 ·have hd:decide ((k:Int)<(t:Int))=true:=by simpa using hkt
  simp only [hd,cond_true];by_cases h3:4096<a ^ k*a
  ·have:decide (((a ^ k*a:Nat):Int) > 4096)=true:=by simp only [decide_eq_true_eq];omega
   simp only [this,cond_true];rw [if_pos (show VT a f t k from .inr (.inr ⟨hkt,h3⟩))]
  ·have:decide (((a ^ k*a:Nat):Int) > 4096)=false:=by simp only [decide_eq_false_iff_not];omega
   simp only [this,cond_false];rw [J4 (by omega),if_neg (show ¬VT a f t k by unfold VT;omega)]
 ·have hd:decide ((k:Int)<(t:Int))=false:=by simp;omega
  simp only [hd,cond_false];rw [J4 (by omega),if_neg (show ¬VT a f t k by unfold VT;omega)]
theorem z6Y {a f t k:Nat}(ha:1<=a)(hs:¬VT a f t k)(hk:k<t):(Qg a f (k+1)).length<=4096/\syW a f (k+1)<=65536/\a ^ (k+1)<=4096:=by
 unfold VT at hs;rw [Nat.pow_succ];omega
variable {r:Option (List (List Int)×Int)}
theorem zdH {a f t:Nat}(ha:1<=a/\a<=16)(hf:f<=256)(ht:t<=256){r:Option (List (List Int)×Int)}
  (hr:(∃j,j<=t/\VT a f t j)->r=some ([],3)) (hr2:(∀j,j<=t->¬VT a f t j)->r=Option.bind (wr (Qg a f (t+1))) fun r=>some (r.1,r.2)) :
  ∀(m k:Nat),k<=t->t - k<m->(∀j,j<k->¬VT a f t j)->(Qg a f k).length<=4096->syW a f k<=65536->a ^ k<=4096->KC (fun s=>uX (a:Int) (f:Int) (t:Int) s.1 s.2.1 s.2.2.1 s.2.2.2) m (Qg a f k,exW a k,(syW a f k:Int),(k:Int))=r
 | 0,k,_,h,_,_,_,_=>by omega
 | m+1,k,hk,hm,hns,h1,h2,h3=>by
  rw [WU]
  dsimp only
  rw [zdG ha hf ht hk h1 h2 h3];by_cases hst:VT a f t k
  ·rw [if_pos hst,hr ⟨k,hk,hst⟩]
  ·rw [if_neg hst]
   by_cases hkt:k=t
   ·subst hkt
    rw [if_pos rfl,hr2 fun j hj=>by
     rcases Nat.lt_or_ge j k with q|q
     ·exact hns j q
     ·rw [show j=k by omega];exact hst]
    cases wr (Qg a f (k+1)) <;> rfl
   ·rw [if_neg hkt]
    obtain⟨q1,q2,q3⟩:=z6Y ha.1 hst (by omega)
    exact zdH ha hf ht hr hr2 m (k+1) (by omega) (by omega) (fun j hj=>by
     rcases Nat.lt_or_ge j k with q|q
     ·exact hns j q
     ·rw [show j=k by omega];exact hst) q1 q2 q3
theorem zkB {a f t:Nat}(ha:1<=a/\a<=16)(hf:f<=256)(ht:t<=256){r:Option (List (List Int)×Int)}
  (hr:(∃j,j<=t/\VT a f t j)->r=some ([],3)) (hr2:(∀j,j<=t->¬VT a f t j)->r=Option.bind (wr (Qg a f (t+1))) fun r=>some (r.1,r.2)) :
  UZ (a:Int) (f:Int) (t:Int)=r:=by
 unfold UZ;have d1:decide ((a:Int) > 16)=false:=by simp;omega
 have d2:decide ((a:Int)<1)=false:=by simp;omega
 have d3:decide ((t:Int)<0)=false:=by simp
 have d4:decide ((t:Int) > 256)=false:=by simp;omega
 simp only [d1,d2,d3,d4,cond_false];have h:=zdH ha hf ht hr hr2 fuel 0 (Nat.zero_le _) (by show t - 0<18446744073709551616;omega) (fun j hj=>by omega) (by simp [Qg]) (by simp [syW]) (by simp)
 have h':loop (fun s=>uX (a:Int) (f:Int) (t:Int) s.1 s.2.1 s.2.2.1 s.2.2.2) (([]:List (List Int)),([[]]:List (List Int)),0,0)=r:=h;rw [h'];cases r <;> rfl
theorem zao (a b:List (List Int))(hl:a.length<4611686018427387904)(hw:∀x∈a,x.length<4611686018427387904):WR a b=some (decide (a=b)):=by
 unfold WR;by_cases he:a.length=b.length
 ·have hb:(((a.length:Nat):Int) !=((b.length:Nat):Int))=false:=by simp;omega
  simp only [hb,cond_false];rw [bdT (vz a hl (step:=fun s=>Za a b s) (fun i x=>if b[i]?=some x then none else some false) ?_ ?_)]
  ·cases hf:xv (fun i x=>if b[i]?=some x then none else some false) a 0 with
   | some r=>
    obtain⟨i,x,h1,h2⟩:=qr hf;rw [Nat.zero_add]at h2;split at h2
    ·cases h2
    ·rename_i h3
     have:a≠b:=fun e=>h3 (by rw [<-e];exact h1)
     cases h2;simp [oS,this]
   | none=>
    have hab:a=b:=by
     refine List.ext_getElem? fun i=>?_;rcases Nat.lt_or_ge i a.length with q|q
     ·have hx:a[i]?=some a[i]:=List.getElem?_eq_getElem q
      have:=qt hf i _ hx;rw [Nat.zero_add]at this;split at this
      ·rename_i h3;rw [h3,hx]
      ·cases this
     ·rw [List.getElem?_eq_none q,List.getElem?_eq_none (by omega)]
    simp [oS,WA,hab]
  ·intro i x hx
   have hi:i<a.length:=(List.getElem?_eq_some_iff.1 hx).1;have hq:decide ((i:Int)<(a.length:Int))=true:=by simpa using hi
   have hy:b[i]?=some b[i]:=List.getElem?_eq_getElem (by omega)
   have hxm:x∈a:=(List.getElem?_eq_some_iff.1 hx).2 ▸ List.getElem_mem hi;unfold Za;simp only [hq,cond_true,zX hx,zX hy,Option.bind_some,zdg x b[i] (fun _=>hw x hxm),hy];by_cases h:b[i]=x
   ·rw [if_pos (by rw [h]),h,z1f];rfl
   ·have:(Wt x b[i] != 0)=true:=by simp;exact fun q=>h (z7h q).symm
    rw [this,if_neg (by simpa using h)]
    rfl
  ·unfold Za;simp
 ·have hb:(((a.length:Nat):Int) !=((b.length:Nat):Int))=true:=by simp;omega
  have:a≠b:=fun e=>he (by rw [e])
  simp [hb,this]
theorem zfF (h:chE n l=0):l.length<=4096/\(∀w∈l,w.length<=256)/\QQ l<=65536/\SW l/\(1<=n/\n<=16)/\∀w∈l,∀c∈w,0<=c/\c<n:=by
 obtain⟨h1,h2,h3⟩:=z7i.1 h;obtain⟨q1,q2,_⟩:=z8s h1;obtain⟨r1,_,r3⟩:=z1a.1 h1;exact⟨q1,q2,h3,h2,r1,fun w hw=>(r3 w hw).2⟩
theorem zdS (h:i<9223372036854775807):w64 ((i:Int)+1)=((i+1:Nat):Int):=by rw [zS (by omega) (by omega)];rfl
def un (x:List Bool):Nat:=x.countP fun b=>!b
theorem ziU {x:List Bool}{s:Nat}(h:x[s]?=some false):un (x.set s true)<un x:=by
 induction x generalizing s with
 | nil=>simp at h
 | cons b x ih=>
  cases s with
  | zero=>simp at h;subst h;simp [un]
  | succ s=>
   have:=ih (s:=s) (by simpa using h)
   unfold un at *;rw [List.set_cons_succ,List.countP_cons,List.countP_cons];omega
theorem ziV:∀{x y:List Bool},y.length=x.length->(∀t:Nat,x[t]?=some true->y[t]?=some true)->un y<=un x
 | [],[],_,_=>Nat.le_refl _
 | a::x,b::y,hl,h=>by
  have ih:=ziV (x:=x) (y:=y) (by simpa using hl) fun t ht=>by simpa using h (t+1) (by simpa using ht)
  have h0:=h 0;unfold un at *;rw [List.countP_cons,List.countP_cons];cases a <;> cases b <;> simp at h0 ⊢ <;> omega
 | [],_::_,hl,_=>by simp at hl
 | _::_,[],hl,_=>by simp at hl
structure Dfs (m:z6)(P:Nat->Prop)(x y:List Bool):Prop where
 len:y.length=x.length
 mono:∀t:Nat,x[t]?=some true->y[t]?=some true
 new:∀t:Nat,y[t]?=some true->x[t]?=some true\/P t/\∀i,i<kk m->0<=(E m t i).To->y[(E m t i).To.toNat]?=some true
theorem Dfs.refl {P:Nat->Prop}(x:List Bool):Dfs m P x x:=⟨rfl,fun _ h=>h,fun _ h=>.inl h⟩
theorem Dfs.trans {P:Nat->Prop}{x y z:List Bool}(h:Dfs m P x y)(k:Dfs m P y z):Dfs m P x z:={
 len:=k.len.trans h.len
 mono:=fun t q=>k.mono t (h.mono t q)
 new:=fun t q=>by
  rcases k.new t q with g|g
  ·rcases h.new t g with r|⟨r1,r2⟩
   ·exact .inl r
   ·exact .inr ⟨r1,fun i hi h0=>k.mono _ (r2 i hi h0)⟩
  ·exact .inr g }
section
variable {m:z6}(h:VM m)
include h
theorem zde {P:Nat->Prop}(hP:∀t i,P t->t<m.Rows.length->i<kk m->0<=(E m t i).To->P (E m t i).To.toNat):∀(fu:Nat) (x:List Bool),x.length=m.Rows.length->un x<fu->∀s:Int,z7C m s->(0<=s->P s.toNat) ->
  ∃y,yj fu s x m=some (y,m)/\Dfs m P x y/\(0<=s->y[s.toNat]?=some true)
 | 0,x,_,hu,_,_,_=>by omega
 | fu+1,x,hx,hu,s,hs,hPs=>by
  have hk:=h.kk_le
  show ∃y,wa (yj fu) s x m=some (y,m)/\_
  unfold wa;by_cases h1:s=-1
  ·have:(s == -1)=true:=by simpa using h1
   rw [this,cond_true];exact⟨x,rfl,Dfs.refl x,fun q=>by omega⟩
  ·have e1:(s == -1)=false:=by simpa using h1
   obtain⟨n,rfl⟩:∃n:Nat,s=n:=⟨s.toNat,by have:=hs.1;omega⟩
   have hn:n<m.Rows.length:=by have:=hs.2;omega
   have hxn:x[n]?=some x[n]:=List.getElem?_eq_getElem (by omega)
   rw [e1,cond_false,zX hxn,Option.bind_some];by_cases hb:x[n]=true
   ·rw [hb,cond_true]
    exact⟨x,rfl,Dfs.refl x,fun _=>by simp only [Int.toNat_natCast];rw [hxn,hb]⟩
   ·have hb:x[n]=false:=by simpa using hb
    obtain⟨r,hr,hrl,hre⟩:=h.rowAt hn;rw [hb,cond_false,Option.bind_some,zX hr,Option.bind_some];simp only [Int.toNat_natCast];rw [hb]at hxn;have hu1:=ziU hxn;have hxl:(x.set n true).length=m.Rows.length:=by simpa using hx
    have run:Ret (loop (fun s=>yZ (yj fu) r s.1 s.2.1 s.2.2.1 s.2.2.2.1 s.2.2.2.2) (x.set n true,m.Inputs,m.Outputs,m.Rows,0)) fun q=>q.2=m/\Dfs m P (x.set n true) q.1/\∀j,j<kk m->0<=(E m n j).To->q.1[(E m n j).To.toNat]?=some true:=by
     refine y4 (fun q=>∃i:Nat,q.2=(m.Inputs,m.Outputs,m.Rows,(i:Int))/\i<=kk m/\Dfs m P (x.set n true) q.1/\∀j,j<i->0<=(E m n j).To->q.1[(E m n j).To.toNat]?=some true) (fun q=>100 - q.2.2.2.2.toNat) ⟨0,rfl,Nat.zero_le _,Dfs.refl _,fun j hj=>by omega⟩ (by show 100 - _<_;omega) ?_
     rintro⟨q,_⟩ ⟨i,rfl,hi,hd,hall⟩;simp only at hd hall
     show Ret (yZ (yj fu) r q m.Inputs m.Outputs m.Rows (i:Int)) _
     unfold yZ;rw [zB];refine⟨fun hc=>?_,fun hc=>?_⟩
     ·have hlt:i<kk m:=by simp at hc;omega
      rw [zX (hre i hlt),Option.bind_some];have hst:z7C m (E m n i).To:=by
       rcases h.edgeAt hn hlt with⟨g,_⟩|⟨g1,g2,_⟩
       ·exact⟨by omega,by have:=h.len1;omega⟩
       ·exact⟨by omega,g2⟩
      have hPn:P n:=by simpa using hPs (by omega)
      obtain⟨y,y1,y2,y3⟩:=zde hP fu q (by rw [hd.len];exact hxl) (by have:=ziV hd.len hd.mono;omega) (E m n i).To hst (fun h0=>hP n i hPn hn hlt h0)
      have y1':yj fu (E m n i).To q (z6.mk m.Inputs m.Outputs m.Rows)=some (y,m):=y1;rw [y1',Option.bind_some,zg,zdS (by omega)]
      refine⟨⟨i+1,rfl,hlt,hd.trans y2,fun j hj h0=>?_⟩,by simp only;omega⟩
      by_cases e:j=i
      ·subst e;exact y3 h0
      ·exact y2.mono _ (hall j (by omega) h0)
     ·have:i=kk m:=by simp at hc;omega
      subst this;rw [zg];exact⟨rfl,hd,hall⟩
    obtain⟨⟨y,m'⟩,e,hm,hd,hall⟩:=run;simp only at hm hd hall;subst hm;rw [e];refine⟨y,rfl,?_,fun _=>hd.mono _ ((z2Q (by omega)).2 (.inl rfl))⟩
    refine⟨by rw [hd.len];simp,fun t ht=>hd.mono t ((z2Q (by omega)).2 (.inr ht)),fun t ht=>?_⟩
    rcases hd.new t ht with g|g
    ·rcases(z2Q (by omega)).1 g with rfl|g
     ·exact .inr ⟨by simpa using hPs (by omega),hall⟩
     ·exact .inl g
    ·exact .inr g
omit h in
theorem z5G (l:List Bool)(hl:l.length<4611686018427387904):xA l false=some (!(l.all id)):=by
 unfold xA vD;have hfs:∀(l:List Bool) (k:Nat),(xv (fun i x=>if x=true then none else some ((i:Nat):Int)) l k=none/\l.all id=true)\/∃i:Nat,xv (fun i x=>if x=true then none else some ((i:Nat):Int)) l k=some (i:Int)/\l.all id=false:=by
  intro l
  induction l with
  | nil=>intro k;exact .inl ⟨rfl,rfl⟩
  | cons x l ih=>
   intro k;simp only [xv,List.all_cons];cases x with
   | true=>simpa using ih (k+1)
   | false=>exact .inr ⟨k,by simp,by simp⟩
 rw [bdT (vz l hl (step:=fun s=>yC l false s) (fun i x=>if x=true then none else some ((i:Nat):Int)) ?_ ?_)]
 ·rcases hfs l 0 with⟨h1,h2⟩|⟨i,h1,h2⟩
  ·rw [h1,h2];rfl
  ·rw [h1,h2];simp [oS]
 ·intro i x hx
  have hi:=(List.getElem?_eq_some_iff.1 hx).1;unfold yC;rw [decide_eq_true (by omega),cond_true,zX hx,Option.bind_some]
  cases x <;> rfl
 ·unfold yC
  rw [decide_eq_false (by omega),cond_false]
theorem z7e:Ret (u7 m) fun r=>r.2=0/\(r.1=true↔∀t,t<m.Rows.length->Rch m t):=by
 have l1:=h.len1;have l64:=h.len64;unfold u7;rw [Kq,z6e h,Option.bind_some,bne_self_eq_false,cond_false,gdT (by omega)]
 have e0:((m.Rows.length:Nat):Int).toNat=m.Rows.length:=by simp
 rw [e0];have hun:un (List.replicate m.Rows.length false)<fuel:=by
  have:un (List.replicate m.Rows.length false)<=(List.replicate m.Rows.length false).length:=List.countP_le_length;rw [List.length_replicate]at this
  show _<18446744073709551616
  omega
 have hP:∀t i,Rch m t->t<m.Rows.length->i<kk m->0<=(E m t i).To->Rch m (E m t i).To.toNat:=fun t i ht _ hi h0=>rch_step ht hi h0;obtain⟨y,y1,y2,y3⟩:=zde h hP fuel (List.replicate m.Rows.length false) (by simp) hun 0 ⟨by omega,by omega⟩ (fun _=>⟨[],by simp [Wd],rfl⟩)
 have hyl:y.length=m.Rows.length:=by rw [y2.len];simp
 have no:∀t:Nat,(List.replicate m.Rows.length false)[t]?≠some true:=fun t q=>by
  rw [List.getElem?_replicate]at q;split at q <;> cases q
 rw [y1,Option.bind_some,z5G y (by omega),Option.bind_some,zg]
 refine⟨rfl,?_⟩;rw [Bool.not_not,List.all_eq_true];have clo:∀(u:List Nat) (t:Nat),Wd (kk m) u->aft m 0 u=(t:Int)->y[t]?=some true:=by
  intro u;generalize hlen:u.length=n
  induction n generalizing u with
  | zero=>
   intro t _ e;rw [List.length_eq_zero_iff.1 hlen]at e;have:t=0:=by have:(0:Int)=t:=e;omega
   subst this;exact y3 (by omega)
  | succ n ih=>
   intro t hu e;have hne:u≠[]:=by intro q;rw [q]at hlen;simp at hlen
   have hsplit:=List.dropLast_concat_getLast hne;have hu':Wd (kk m) u.dropLast:=fun i hi=>hu i (List.dropLast_subset _ hi);have hi:u.getLast hne<kk m:=hu _ (List.getLast_mem hne);have h2:=(z16 m u.dropLast 0 (u.getLast hne)).2;rw [hsplit,e]at h2;have hin:=z8V h u.dropLast 0 ⟨by omega,by omega⟩ hu'
   by_cases hneg:aft m 0 u.dropLast<0
   ·exfalso
    unfold nxE at h2;rw [if_pos hneg]at h2;simp at h2
   ·obtain⟨s,hs⟩:∃s:Nat,aft m 0 u.dropLast=s:=⟨(aft m 0 u.dropLast).toNat,by omega⟩
    have hy:=ih u.dropLast (by simp [hlen]) s hu' hs
    rw [hs,jC]at h2;rcases y2.new s hy with g|⟨_,g⟩
    ·exact absurd g (no s)
    ·have:=g _ hi (by omega)
     rw [<-h2]at this;simpa using this
 constructor
 ·intro q t ht
  have hx:y[t]?=some y[t]:=List.getElem?_eq_getElem (by omega)
  have:=q _ (List.mem_of_getElem? hx);rw [show y[t]=true from this]at hx;rcases y2.new t hx with g|⟨g,_⟩
  ·exact absurd g (no t)
  ·exact g
 ·intro q b hb
  obtain⟨t,ht⟩:=List.mem_iff_getElem?.1 hb;have htl:=(List.getElem?_eq_some_iff.1 ht).1;obtain⟨u,hu,e⟩:=q t (by omega)
  have:=clo u t hu e;rw [ht]at this;cases this;rfl
end
def ed (rows:List (List z8))(s i:Nat):z8:=((rows[s]?.getD [])[i]?).getD ⟨-1,-1⟩
structure TM (n k o:Nat)(rows:List (List z8)):Prop where
 len:rows.length=n
 row:∀(s:Nat) (r:List z8),rows[s]?=some r->r.length=k
 edge:∀s i,s<n->i<k->-1<=(ed rows s i).To/\(ed rows s i).To<(n:Int)/\0<=(ed rows s i).Out/\(ed rows s i).Out<(o:Int)
section
variable {n k o:Nat}{rows:List (List z8)}
theorem TM.rowAt (h:TM n k o rows){s:Nat}(hs:s<n):∃r,rows[s]?=some r/\r.length=k/\∀i,i<k->r[i]?=some (ed rows s i):=by
 have hsl:s<rows.length:=by rw [h.len];exact hs
 have hr:rows[s]?=some rows[s]:=List.getElem?_eq_getElem hsl;have hl:=h.row s _ hr;refine⟨_,hr,hl,fun i hi=>?_⟩;unfold ed;rw [hr,Option.getD_some,List.getElem?_eq_getElem (by omega),Option.getD_some]
theorem TM.upd (h:TM n k o rows){s i:Nat}(hs:s<n)(hi:i<k){r:List z8}(hr:rows[s]?=some r){t:Int}(t0:-1<=t)(t1:t<(n:Int)) :
  TM n k o (rows.set s (r.set i ⟨t,(ed rows s i).Out⟩))/\∀s' i',ed (rows.set s (r.set i ⟨t,(ed rows s i).Out⟩)) s' i'=if s'=s/\i'=i then⟨t,(ed rows s i).Out⟩ else ed rows s' i':=by
 have hsl:s<rows.length:=by rw [h.len];exact hs
 have hrl:=h.row s r hr;have q2:=h.edge s i hs hi;generalize (ed rows s i).Out=oo at q2 ⊢;have key:∀s' i',ed (rows.set s (r.set i ⟨t,oo⟩)) s' i'=if s'=s/\i'=i then⟨t,oo⟩ else ed rows s' i':=by
  intro s' i';by_cases e:s'=s
  ·subst e
   conv=>lhs;unfold ed
   rw [List.getElem?_set_self hsl,Option.getD_some];by_cases e2:i'=i
   ·subst e2
    rw [List.getElem?_set_self (by omega),if_pos ⟨rfl,rfl⟩,Option.getD_some]
   ·rw [List.getElem?_set_ne (fun q=>e2 q.symm),if_neg (fun q=>e2 q.2)]
    unfold ed;rw [hr,Option.getD_some]
  ·conv=>lhs;unfold ed
   rw [List.getElem?_set_ne (fun q=>e q.symm),if_neg (fun q=>e q.1)];rfl
 refine⟨⟨by rw [List.length_set];exact h.len,fun s' r' hr'=>?_,fun s' i' hs' hi'=>?_⟩,key⟩
 ·rw [List.getElem?_set]at hr'
  split at hr'
  ·cases hr';rw [List.length_set];exact hrl
  ·exact h.row s' r' hr'
 ·rw [key]
  have q:=h.edge s' i' hs' hi';split
  ·rename_i e
   exact⟨t0,t1,q2.2.2.1,q2.2.2.2⟩
  ·exact q
theorem TM.idx2 (h:TM n k o rows){s i:Nat}(hs:s<n)(hi:i<k):∃r,rows[s]?=some r/\r.length=k/\r[i]?=some (ed rows s i):=by
 obtain⟨r,h1,h2,h3⟩:=h.rowAt hs;exact⟨r,h1,h2,h3 i hi⟩
end
theorem z5Z (l:List Int)(hl:∀v∈l,0<=v/\v<=65535){q:Int}(hq:0<=q):Ret (Yb l q) fun v=>0<=v/\v<=65535:=by
 unfold Yb;rw [zB];refine⟨fun hc=>?_,fun _=>zg.2 (by omega)⟩
 have hc:q<((l.length:Nat):Int):=of_decide_eq_true hc;have hx:l[q.toNat]?=some l[q.toNat]:=List.getElem?_eq_getElem (by omega)
 rw [zw,z9l];have:=hl _ (List.mem_of_getElem? hx);exact⟨hq,_,hx,zg.2 (by rw [zS (by omega) (by omega)];exact this)⟩
structure zmP (x:zD):Prop where
 s0:0<=x.States
 i0:0<=x.Inputs
 o0:0<=x.Outputs
 t0:∀v∈x.Tree,0<=v/\v<=255
 e0:∀v∈x.Edges,0<=v/\v<=65535
variable {rows:List (List z8)}
section
variable {x:zD}(h:zmP x){n k o:Nat}(hn:w64 (1+w64 (Int.tmod x.States 6))=(n:Int))(hk:w64 (1+w64 (Int.tmod x.Inputs 3))=(k:Int))(ho:w64 (1+w64 (Int.tmod x.Outputs 3))=(o:Int))
 (n1:1<=n/\n<=6) (k1:1<=k/\k<=3) (o1:1<=o/\o<=3)
include h hn hk ho n1 k1 o1
theorem zeK {s:Nat}(hs:s<n):Ret (loop (fun st=>qX x (s:Int) st.1 st.2) (([]:List z8),0)) fun r=>r.length=k/\∀e∈r,e.To=-1/\0<=e.Out/\e.Out<(o:Int):=by
 refine y4 (fun st=>∃i:Nat,st.2=(i:Int)/\i<=k/\st.1.length=i/\∀e∈st.1,e.To=-1/\0<=e.Out/\e.Out<(o:Int)) (fun st=>10 - st.2.toNat) ⟨0,rfl,by omega,rfl,by simp⟩ (by show 10 - _<_;omega) ?_
 rintro⟨row,_⟩ ⟨i,rfl,h1,h2,h3⟩;simp only at h2 h3
 show Ret (qX x (s:Int) row (i:Int)) _
 unfold qX;rw [hk,hn,ho,zB];have hsk:s*k<=5*3:=Nat.mul_le_mul (by omega) (by omega)
 have w1:w64 ((s:Int)*(k:Int))=((s*k:Nat):Int):=by rw [zS (by rw [<-Int.natCast_mul];omega) (by rw [<-Int.natCast_mul];omega)];exact(Int.natCast_mul s k).symm
 refine⟨fun hc=>?_,fun hc=>zg.2 ⟨by have:=of_decide_eq_false hc;omega,h3⟩⟩
 have hc:(i:Int)<(k:Int):=of_decide_eq_true hc;rw [w1,zS (x:=((s*k:Nat):Int)+(i:Int)) (by omega) (by omega),zw]
 refine(z5Z x.Edges h.e0 (q:=((s*k:Nat):Int)+(i:Int)) (by omega)).mono fun v hv=>?_
 have d0:0<=Int.tdiv v n/\Int.tdiv v n<=v:=by
  rw [Int.tdiv_eq_ediv_of_nonneg hv.1];exact⟨Int.ediv_nonneg hv.1 (by omega),Int.ediv_le_self _ hv.1⟩
 rw [gdT (by omega),gdT (by omega),gdT (by simp;omega),zg,zS (x:=Int.tdiv v n) (by omega) (by omega),zS (x:=(i:Int)+1) (by omega) (by omega)]
 refine⟨⟨i+1,rfl,by omega,by simp [h2],fun e he=>?_⟩,by simp only;omega⟩
 rcases List.mem_append.1 he with q|q
 ·exact h3 e q
 ·simp only [List.mem_cons,List.not_mem_nil,or_false]at q
  subst q;exact⟨rfl,Int.tmod_nonneg _ d0.1,Int.tmod_lt_of_pos _ (by omega)⟩
theorem zcd:Ret (loop (fun st=>qY x st.1 st.2) (([]:List (List z8)),0)) fun rows=>TM n k o rows/\∀s i,s<n->i<k->(ed rows s i).To=-1:=by
 refine y4 (fun st=>∃s:Nat,st.2=(s:Int)/\s<=n/\st.1.length=s/\∀r∈st.1,r.length=k/\∀e∈r,e.To=-1/\0<=e.Out/\e.Out<(o:Int)) (fun st=>10 - st.2.toNat) ⟨0,rfl,by omega,rfl,by simp⟩ (by show 10 - _<_;omega) ?_
 rintro⟨rows,_⟩ ⟨s,rfl,h1,h2,h3⟩;simp only at h2 h3
 show Ret (qY x rows (s:Int)) _
 unfold qY;rw [hn,zB];refine⟨fun hc=>?_,fun hc=>?_⟩
 ·have hc:(s:Int)<(n:Int):=of_decide_eq_true hc
  rw [zw];refine(zeK h hn hk ho n1 k1 o1 (s:=s) (by omega)).mono fun r hr=>?_
  unfold XE XF;rw [gdT (by simp;omega),zg,zS (x:=(s:Int)+1) (by omega) (by omega)]
  refine⟨⟨s+1,rfl,by omega,by simp [h2],fun r' hr'=>?_⟩,by simp only;omega⟩
  rcases List.mem_append.1 hr' with q|q
  ·exact h3 r' q
  ·simp only [List.mem_cons,List.not_mem_nil,or_false]at q
   subst q;exact hr
 ·have hsn:s=n:=by have:=of_decide_eq_false hc;omega
  have all:∀s i,s<n->i<k->(ed rows s i).To=-1/\0<=(ed rows s i).Out/\(ed rows s i).Out<(o:Int):=by
   intro t i ht hi;have hr:rows[t]?=some rows[t]:=List.getElem?_eq_getElem (by omega)
   obtain⟨g1,g2⟩:=h3 _ (List.getElem_mem (by omega:t<rows.length))
   have hx:(rows[t])[i]?=some (rows[t])[i]:=List.getElem?_eq_getElem (by omega)
   unfold ed;rw [hr,Option.getD_some,hx,Option.getD_some];exact g2 _ (List.getElem_mem _)
  refine zg.2 ⟨⟨by omega,fun t r hr=>(h3 r (List.mem_of_getElem? hr)).1,fun t i ht hi=>?_⟩,fun t i ht hi=>(all t i ht hi).1⟩
  obtain⟨a,b,c⟩:=all t i ht hi;omega
omit h hn hk ho n1 k1 o1 in
theorem zbV:∀a:Nat,a<=100->w64 (a:Int)=(a:Int):=fun a ha=>zS (by omega) (by omega)
omit h hn hk ho n1 o1 in
theorem zgu {c s:Nat}(hc:c<s*k):c / k<s/\c % k<k/\Int.tdiv (c:Int) (k:Int)=((c / k:Nat):Int)/\Int.tmod (c:Int) (k:Int)=((c % k:Nat):Int) :=
 ⟨Nat.div_lt_of_lt_mul (by rw [Nat.mul_comm];exact hc),Nat.mod_lt _ (by omega),by rw [Int.tdiv_eq_ediv_of_nonneg (by omega)];rfl,by rw [Int.tmod_eq_emod_of_nonneg (by omega)];rfl⟩
omit h hn ho o1 in
theorem zfp (hT:TM n k o rows){s:Nat}(s1:1<=s)(sn:s<n)(hfree:∀i,i<k->(ed rows (s - 1) i).To=-1) :
  Ret (loop (fun st=>qZ x rows (s:Int) st.1 st.2) (([]:List Int),0)) fun fr=>fr≠[]/\fr.length<=100/\∀c∈fr,∃q:Nat,c=(q:Int)/\q<s*k/\(ed rows (q / k) (q % k)).To<0:=by
 have hsk:s*k<=5*3:=Nat.mul_le_mul (by omega) (by omega)
 refine y4 (fun st=>∃q:Nat,st.2=(q:Int)/\q<=s*k/\st.1.length<=q/\((s - 1)*k<q->st.1≠[])/\∀c∈st.1,∃q:Nat,c=(q:Int)/\q<s*k/\(ed rows (q / k) (q % k)).To<0) (fun st=>20 - st.2.toNat) ⟨0,rfl,by omega,by simp,by omega,by simp⟩ (by show 20 - _<_;omega) ?_
 rintro⟨fr,_⟩ ⟨q,rfl,h1,h2,h3,h4⟩;simp only at h2 h3 h4
 show Ret (qZ x rows (s:Int) fr (q:Int)) _
 unfold qZ;have w1:w64 ((s:Int)*(k:Int))=((s*k:Nat):Int):=by rw [zS (by rw [<-Int.natCast_mul];omega) (by rw [<-Int.natCast_mul];omega)];exact(Int.natCast_mul s k).symm
 rw [hk,w1,zB];refine⟨fun hc=>?_,fun hc=>?_⟩
 ·have hc:((q:Nat):Int)<((s*k:Nat):Int):=of_decide_eq_true hc
  have hqs:q<s*k:=by omega
  obtain⟨d1,d2,d3,d4⟩:=zgu k1 hqs;obtain⟨r,r1,r2,r3⟩:=hT.idx2 (s:=q / k) (i:=q % k) (by omega) d2
  rw [gdT (by omega),d3,zbV (q / k) (by omega),bdT (zX r1),gdT (by omega),d4,bdT (zX r3),zB]
  have w2:w64 ((q:Int)+1)=((q+1:Nat):Int):=by rw [zS (by omega) (by omega)];rfl
  unfold ZD;refine⟨fun ht=>?_,fun ht=>?_⟩
  ·have ht:(ed rows (q / k) (q % k)).To<0:=of_decide_eq_true ht
   rw [gdT (by simp;omega),zg,w2]
   refine⟨⟨q+1,rfl,by omega,by simp;omega,fun _=>by simp,fun c hc=>?_⟩,by simp only [Int.toNat_natCast];omega⟩
   rcases List.mem_append.1 hc with g|g
   ·exact h4 c g
   ·simp only [List.mem_cons,List.not_mem_nil,or_false]at g
    exact⟨q,g,hqs,ht⟩
  ·have ht:=of_decide_eq_false ht
   rw [zg,w2];refine⟨⟨q+1,rfl,by omega,by simp only;omega,fun hlt=>?_,h4⟩,by simp only [Int.toNat_natCast];omega⟩
   by_cases e:(s - 1)*k<q
   ·exact h3 e
   ·exfalso
    have e2:q=(s - 1)*k:=by omega
    have:q / k=s - 1:=by rw [e2];exact Nat.mul_div_cancel _ (by omega)
    have q2:=hfree (q % k) d2;rw [this,q2]at ht;omega
 ·have hc:=of_decide_eq_false hc
  have e:(s - 1)*k<s*k:=Nat.mul_lt_mul_of_pos_right (by omega) (by omega)
  exact zg.2 ⟨h3 (by omega),by omega,h4⟩
structure Tree (s:Nat)(rows:List (List z8)):Prop where
 tm:TM n k o rows
 par:∀t,1<=t->t<s->∃r i,r<t/\i<k/\(ed rows r i).To=(t:Int)
 free:∀r i,s<=r+1->r<n->i<k->(ed rows r i).To=-1
omit h hn ho o1 in
theorem zhG {rows:List (List z8)}{s:Nat}(s1:1<=s)(sn:s<n)(hT:Tree (n:=n) (k:=k) (o:=o) s rows){q:Nat}(hq:q<s*k)(hf:(ed rows (q / k) (q % k)).To<0) :
  ∃rows',uk x rows (s:Int) (q:Int)=some (.next (rows',((s+1:Nat):Int)))/\Tree (n:=n) (k:=k) (o:=o) (s+1) rows':=by
 have hsk:s*k<=5*3:=Nat.mul_le_mul (by omega) (by omega)
 obtain⟨d1,d2,d3,d4⟩:=zgu k1 hq;obtain⟨r,r1,r2,r3⟩:=hT.tm.idx2 (s:=q / k) (i:=q % k) (by omega) d2
 obtain⟨u1,u2⟩:=hT.tm.upd (s:=q / k) (i:=q % k) (by omega) d2 r1 (t:=(s:Int)) (by omega) (by omega)
 refine⟨_,?_,u1,fun t t1 t2=>?_,fun r' i g1 g2 g3=>?_⟩
 ·unfold uk WB
  have w2:w64 ((s:Int)+1)=((s+1:Nat):Int):=by rw [zS (by omega) (by omega)];rfl
  rw [hk,gdT (by omega),d3,zbV (q / k) (by omega),bdT (zX r1),gdT (by omega),d4,bdT (zX r3),w2]
  rfl
 ·by_cases e:t=s
  ·subst e
   exact⟨q / k,q % k,d1,d2,by rw [u2,if_pos ⟨rfl,rfl⟩]⟩
  ·obtain⟨r',i,g1,g2,g3⟩:=hT.par t t1 (by omega)
   refine⟨r',i,g1,g2,?_⟩;rw [u2,if_neg,g3];rintro⟨rfl,rfl⟩;omega
 ·rw [u2,if_neg (by rintro⟨e,_⟩;omega)]
  exact hT.free r' i (by omega) g2 g3
omit ho o1 in
theorem zdU (hT:TM n k o rows)(hfree:∀s i,s<n->i<k->(ed rows s i).To=-1):Ret (loop (fun st=>Zh x st.1 st.2) (rows,1)) (Tree (n:=n) (k:=k) (o:=o) n):=by
 refine y4 (fun st=>∃s:Nat,st.2=(s:Int)/\1<=s/\s<=n/\Tree (n:=n) (k:=k) (o:=o) s st.1) (fun st=>10 - st.2.toNat) ⟨1,rfl,by omega,by omega,hT,fun t _ _=>by omega,fun r i _=>hfree r i⟩ (by show 10 - _<_;omega) ?_
 rintro⟨rows,_⟩ ⟨s,rfl,s1,sn,hS⟩;simp only at hS
 show Ret (Zh x rows (s:Int)) _
 unfold Zh;rw [hn,zB];refine⟨fun hc=>?_,fun hc=>?_⟩
 ·have hc:(s:Int)<(n:Int):=of_decide_eq_true hc
  have hsn:s<n:=by omega
  rw [zw];refine(zfp hk n1 k1 hS.tm s1 hsn fun i hi=>hS.free (s - 1) i (by omega) (by omega) hi).mono fun fr hfr=>?_
  obtain⟨f1,f2,f3⟩:=hfr;have flen:0<fr.length:=List.length_pos_iff.2 f1;have fin:∀c∈fr,Ret (uk x rows (s:Int) c) (LRP (fun s'=>(∃s:Nat,s'.2=(s:Int)/\1<=s/\s<=n/\Tree (n:=n) (k:=k) (o:=o) s s'.1)/\10 - s'.2.toNat<10 - (s:Int).toNat) (Tree (n:=n) (k:=k) (o:=o) n)):=by
   intro c hc;obtain⟨q,rfl,q1,q2⟩:=f3 c hc;obtain⟨rows',e,g⟩:=zhG hk n1 k1 s1 hsn hS q1 q2;rw [e,zg];exact⟨⟨s+1,rfl,by omega,by omega,g⟩,by simp only [Int.toNat_natCast];omega⟩
  unfold XG;have e0:fr[0]?=some fr[0]:=List.getElem?_eq_getElem flen;have w3:w64 ((s:Int) - 1)=((s - 1:Nat):Int):=by rw [zS (by omega) (by omega)];omega
  rw [bdT (show idx fr 0=some fr[0] from e0),w3,zB];refine⟨fun hc2=>?_,fun _=>fin _ (List.getElem_mem _)⟩;have hc2:((s - 1:Nat):Int)<((x.Tree.length:Nat):Int):=of_decide_eq_true hc2;have hx:x.Tree[s - 1]?=some x.Tree[s - 1]:=List.getElem?_eq_getElem (by omega)
  have hv:=h.t0 _ (List.getElem_mem (by omega:s - 1<x.Tree.length))
  rw [bdT (zX hx),gdT (by omega),zS (x:=x.Tree[s - 1]) (by omega) (by omega)]
  have m1:=Int.tmod_nonneg (fr.length:Int) hv.1;have m2:=Int.tmod_lt_of_pos x.Tree[s - 1] (show(0:Int)<(fr.length:Int) by omega)
  have hy:fr[(Int.tmod x.Tree[s - 1] (fr.length:Int)).toNat]?=some fr[(Int.tmod x.Tree[s - 1] (fr.length:Int)).toNat]:=List.getElem?_eq_getElem (by omega)
  rw [zw,z9l];exact⟨m1,_,hy,fin _ (List.getElem_mem _)⟩
 ·have hsn:s=n:=by have:=of_decide_eq_false hc;omega
  subst hsn;exact zg.2 hS
structure zmG (s i:Nat)(rows:List (List z8)):Prop where
 tm:TM n k o rows
 par:∀t,1<=t->t<n->∃r i,r<t/\i<k/\(ed rows r i).To=(t:Int)
 full:∀r j,r<n->j<k->r<s\/r=s/\j<i->0<=(ed rows r j).To
omit ho o1 in
theorem z9G {rows:List (List z8)}{s:Nat}(sn:s<n)(hF:zmG (n:=n) (k:=k) (o:=o) s 0 rows):Ret (loop (fun st=>Zi x (s:Int) st.1 st.2) (rows,0)) (zmG (n:=n) (k:=k) (o:=o) (s+1) 0):=by
 have hsk:s*k<=5*3:=Nat.mul_le_mul (by omega) (by omega)
 refine y4 (fun st=>∃i:Nat,st.2=(i:Int)/\i<=k/\zmG (n:=n) (k:=k) (o:=o) s i st.1) (fun st=>10 - st.2.toNat) ⟨0,rfl,by omega,hF⟩ (by show 10 - _<_;omega) ?_
 rintro⟨rows,_⟩ ⟨i,rfl,ik,hS⟩;simp only at hS
 show Ret (Zi x (s:Int) rows (i:Int)) _
 unfold Zi;have w1:w64 ((s:Int)*(k:Int))=((s*k:Nat):Int):=by rw [zS (by rw [<-Int.natCast_mul];omega) (by rw [<-Int.natCast_mul];omega)];exact(Int.natCast_mul s k).symm
 rw [hk,hn,w1,zB];refine⟨fun hc=>?_,fun hc=>?_⟩
 ·have hc:(i:Int)<(k:Int):=of_decide_eq_true hc
  have hik:i<k:=by omega
  obtain⟨r,r1,r2,r3⟩:=hS.tm.idx2 sn hik;have w2:w64 ((i:Int)+1)=((i+1:Nat):Int):=by rw [zS (by omega) (by omega)];rfl
  rw [bdT (zX r1),bdT (zX r3),zB];unfold YS;refine⟨fun ht=>?_,fun ht=>?_⟩
  ·have ht:(ed rows s i).To<0:=of_decide_eq_true ht
   rw [bdT (zX r1),zS (x:=((s*k:Nat):Int)+(i:Int)) (by omega) (by omega),zw]
   refine(z5Z x.Edges h.e0 (q:=((s*k:Nat):Int)+(i:Int)) (by omega)).mono fun v hv=>?_
   have m1:=Int.tmod_nonneg (n:Int) hv.1;have m2:=Int.tmod_lt_of_pos v (show(0:Int)<(n:Int) by omega)
   obtain⟨u1,u2⟩:=hS.tm.upd sn hik r1 (t:=Int.tmod v n) (by omega) m2
   rw [gdT (by omega),bdT (zX r3),zg,w2]
   refine⟨⟨i+1,rfl,by omega,u1,fun t t1 t2=>?_,fun r' j g1 g2 g3=>?_⟩,by simp only [Int.toNat_natCast];omega⟩
   ·obtain⟨r',j,g1,g2,g3⟩:=hS.par t t1 t2
    refine⟨r',j,g1,g2,?_⟩
    show(ed (rows.set s (r.set i ⟨Int.tmod v n,(ed rows s i).Out⟩)) r' j).To=_
    rw [u2,if_neg,g3];rintro⟨rfl,rfl⟩;omega
   ·show 0<=(ed (rows.set s (r.set i ⟨Int.tmod v n,(ed rows s i).Out⟩)) r' j).To
    rw [u2];split
    ·exact m1
    ·rename_i e
     exact hS.full r' j g1 g2 (by rcases g3 with g3|⟨rfl,g3⟩;exact .inl g3;exact .inr ⟨rfl,by have:¬j=i:=fun q=>e ⟨rfl,q⟩;omega⟩)
  ·have ht:=of_decide_eq_false ht
   rw [zg,w2];refine⟨⟨i+1,rfl,by omega,hS.tm,hS.par,fun r' j g1 g2 g3=>?_⟩,by simp only [Int.toNat_natCast];omega⟩
   rcases g3 with g3|⟨rfl,g3⟩
   ·exact hS.full r' j g1 g2 (.inl g3)
   ·by_cases e:j=i
    ·subst e;show 0<=(ed rows r' j).To;omega
    ·exact hS.full r' j g1 g2 (.inr ⟨rfl,by omega⟩)
 ·have hik:i=k:=by have:=of_decide_eq_false hc;omega
  subst hik;exact zg.2 ⟨hS.tm,hS.par,fun r' j g1 g2 g3=>hS.full r' j g1 g2 (by omega)⟩
omit ho o1 in
theorem zfr {rows:List (List z8)}(hT:Tree (n:=n) (k:=k) (o:=o) n rows):Ret (loop (fun st=>Zj x st.1 st.2) (rows,0)) (zmG (n:=n) (k:=k) (o:=o) n 0):=by
 refine y4 (fun st=>∃s:Nat,st.2=(s:Int)/\s<=n/\zmG (n:=n) (k:=k) (o:=o) s 0 st.1) (fun st=>10 - st.2.toNat) ⟨0,rfl,by omega,hT.tm,hT.par,fun r j _ _ g=>by omega⟩ (by show 10 - _<_;omega) ?_
 rintro⟨rows,_⟩ ⟨s,rfl,sn,hS⟩;simp only at hS
 show Ret (Zj x rows (s:Int)) _
 unfold Zj;rw [hn,zB];refine⟨fun hc=>?_,fun hc=>?_⟩
 ·have hc:(s:Int)<(n:Int):=of_decide_eq_true hc
  rw [zw];refine(z9G h hn hk n1 k1 (s:=s) (by omega) hS).mono fun r hr=>?_
  unfold WC;rw [zg,zS (x:=(s:Int)+1) (by omega) (by omega)]
  exact⟨⟨s+1,rfl,by omega,hr⟩,by simp only;omega⟩
 ·have hsn:s=n:=by have:=of_decide_eq_false hc;omega
  subst hsn;exact zg.2 hS
end
theorem zhJ {x:zD}(h:zmP x):Ret (Q6 x) fun m=>VM m/\m.Inputs<=3/\m.Rows.length<=6/\(∀s i,s<m.Rows.length->i<kk m->0<=(E m s i).To)/\∀t,t<m.Rows.length->Rch m t:=by
 have hn':=z9u h.s0 (k:=6) (by omega) (by omega)
 have hi':=z9u h.i0 (k:=3) (by omega) (by omega)
 have ho':=z9u h.o0 (k:=3) (by omega) (by omega)
 obtain⟨n,hn⟩:∃n:Nat,w64 (1+w64 (Int.tmod x.States 6))=(n:Int):=⟨(w64 (1+w64 (Int.tmod x.States 6))).toNat,by omega⟩
 obtain⟨k,hk⟩:∃n:Nat,w64 (1+w64 (Int.tmod x.Inputs 3))=(n:Int):=⟨(w64 (1+w64 (Int.tmod x.Inputs 3))).toNat,by omega⟩
 obtain⟨o,ho⟩:∃n:Nat,w64 (1+w64 (Int.tmod x.Outputs 3))=(n:Int):=⟨(w64 (1+w64 (Int.tmod x.Outputs 3))).toNat,by omega⟩
 rw [hn]at hn';rw [hk]at hi';rw [ho]at ho';have n1:1<=n/\n<=6:=by omega
 have k1:1<=k/\k<=3:=by omega
 have o1:1<=o/\o<=3:=by omega
 unfold Q6 WF WE WD;rw [gdT (by decide),gdT (by decide),gdT (by decide),zw]
 refine(zcd h hn hk ho n1 k1 o1).mono fun r0 h0=>?_;rw [zw];refine(zdU h hn hk n1 k1 h0.1 h0.2).mono fun r1 h1=>?_;rw [zw];refine(zfr h hn hk n1 k1 h1).mono fun r hF=>?_;rw [zg,hk,ho];have hlen:r.length=n:=hF.tm.len;have hkk:kk (z6.mk (k:Int) (o:Int) r)=k:=by show(k:Int).toNat=k;omega
 have hfull:∀s i,s<n->i<k->0<=(ed r s i).To:=fun s i a b=>hF.full s i a b (.inl a);refine⟨⟨by show(1:Int)<=(k:Int);omega,by show(k:Int)<=16;omega,by show(1:Int)<=(o:Int);omega,by show(o:Int)<=16;omega,by show 1<=r.length;omega,by show r.length<=64;omega,fun row hr=>?_,fun row hr e he=>?_⟩,by show(k:Int)<=3;omega,by show r.length<=6;omega,fun s i hs hi=>?_,?_⟩
 ·obtain⟨s,hs⟩:=List.mem_iff_getElem?.1 hr
  have:=hF.tm.row s row hs
  show((row.length:Nat):Int)=(k:Int)
  omega
 ·obtain⟨s,hs⟩:=List.mem_iff_getElem?.1 hr
  have hrow:=hF.tm.row s row hs;have hsl:s<n:=by have:=(List.getElem?_eq_some_iff.1 hs).1;rw [hlen]at this;exact this
  obtain⟨i,hi⟩:=List.mem_iff_getElem?.1 he;have hil:i<k:=by have:=(List.getElem?_eq_some_iff.1 hi).1;omega
  have e1:ed r s i=e:=by unfold ed;rw [hs,Option.getD_some,hi,Option.getD_some]
  have q1:=hF.tm.edge s i hsl hil;have q2:=hfull s i hsl hil;rw [e1]at q1 q2;exact .inr ⟨q2,by show e.To<((r.length:Nat):Int);rw [hlen];exact q1.2.1,q1.2.2.1,q1.2.2.2⟩
 ·exact hfull s i (by have hs:s<r.length:=hs;omega) (by rw [hkk]at hi;exact hi)
 ·have gen:∀b t,t<b->t<n->Rch (z6.mk (k:Int) (o:Int) r) t:=by
   intro b
   induction b with
   | zero=>intro t q;omega
   | succ b ih=>
    intro t q ht;by_cases e:t=0
    ·subst e;exact⟨[],(fun i hi=>by cases hi),rfl⟩
    ·obtain⟨s,i,g1,g2,g3⟩:=hF.par t (by omega) ht
     have e3:(E (z6.mk (k:Int) (o:Int) r) s i).To=(t:Int):=g3;have:=rch_step (m:=z6.mk (k:Int) (o:Int) r) (i:=i) (ih s (by omega) (by omega)) (by rw [hkk];exact g2) (by rw [e3];omega)
     rw [e3]at this;exact this
  intro t ht;exact gen (t+1) t (by omega) (by have ht:t<r.length:=ht;omega)
theorem z3B (x:xe α)(i:Nat)(v:α):(xe.setI x (i:Int) v).toL=x.toL.set i v:=by
 unfold xe.setI;rw [xe.toL_ofL _ _ (by simp [xe.toL]),Int.toNat_natCast]
theorem zgI {x y:xe α}(h:x.toL=y.toL):x=y:=by
 cases x;cases y
 simp only [xe.toL,List.cons.injEq,and_true]at h;simp only [xe.mk.injEq];exact h
instance:LawfulBEq (xe (wz Int)):={
 eq_of_beq:=by
  intro a b h;cases a;cases b
  simp only [BEq.beq,Bool.and_eq_true,decide_eq_true_eq]at h;simp only [xe.mk.injEq];obtain⟨⟨⟨⟨⟨⟨⟨⟨⟨⟨⟨⟨⟨⟨⟨h0,h1⟩,h2⟩,h3⟩,h4⟩,h5⟩,h6⟩,h7⟩,h8⟩,h9⟩,h10⟩,h11⟩,h12⟩,h13⟩,h14⟩,h15⟩:=h;have e:∀{p q:wz Int},(p.e0=q.e0/\p.e1=q.e1)->p=q:=by
   rintro⟨a0,a1⟩ ⟨b0,b1⟩ ⟨rfl,rfl⟩;rfl
  exact⟨e h0,e h1,e h2,e h3,e h4,e h5,e h6,e h7,e h8,e h9,e h10,e h11,e h12,e h13,e h14,e h15⟩
 rfl:=by
  intro a;cases a;simp [BEq.beq] }
instance:LawfulBEq zz:={
 eq_of_beq:=by
  intro a b h;have h:(a.block_==b.block_&&a.signature_==b.signature_)=true:=h;rw [Bool.and_eq_true,beq_iff_eq,beq_iff_eq]at h;obtain⟨a0,a1⟩:=a;obtain⟨b0,b1⟩:=b;obtain⟨h0,h1⟩:=h;have h0:a0=b0:=h0;have h1:a1=b1:=h1;rw [h0,h1]
 rfl:=by
  intro a
  show(a.block_==a.block_&&a.signature_==a.signature_)=true
  rw [beq_self_eq_true,beq_self_eq_true];rfl }
def sgN (m:z6)(p:List Int)(s j:Nat):wz Int:=if j<kk m then⟨(E m s j).Out,if(E m s j).To=-1 then -1 else(p[(E m s j).To.toNat]?).getD 0⟩ else⟨0,0⟩
theorem zcj (f g:Nat->α){n i:Nat}(v:α)(h:∀j,j<n->g j=if j=i then v else f j):((List.range n).map f).set i v=(List.range n).map g:=by
 apply List.ext_getElem?
 intro j;by_cases hj:j<n
 ·have e1:((List.range n).map g)[j]?=some (g j):=by simp [hj]
  have e2:((List.range n).map f)[j]?=some (f j):=by simp [hj]
  rw [e1,h j hj];by_cases e:j=i
  ·subst e
   rw [List.getElem?_set_self (by simpa using hj),if_pos rfl]
  ·rw [List.getElem?_set_ne (fun q=>e q.symm),e2,if_neg e]
 ·rw [List.getElem?_eq_none (by simp;omega),List.getElem?_eq_none (by simp;omega)]
variable {p:List Int}
section
variable {m:z6}(h:VM m)
include h
theorem zez (hp:p.length=m.Rows.length){s:Nat}(hs:s<m.Rows.length):Ret (kI m p (s:Int)) fun a=>a.toL=(List.range 16).map (sgN m p s):=by
 obtain⟨r,r1,r2,r3⟩:=h.rowAt hs;have hk:=h.kk_le;unfold kI Yv;rw [bdT (zX r1),zw];refine Ret.mono ?_ fun a ha=>zg.2 ha;refine y4 (fun st=>∃i:Nat,st.2=(i:Int)/\i<=kk m/\st.1.toL=(List.range 16).map fun j=>if j<i then sgN m p s j else⟨0,0⟩) (fun st=>20 - st.2.toNat) ⟨0,rfl,by omega,by simp [xe.toL,List.range_succ]⟩ (by show 20 - _<_;omega) ?_
 rintro⟨a,_⟩ ⟨i,rfl,hi,ha⟩;simp only at ha
 show Ret (kG p r a (i:Int)) _
 unfold kG kH;rw [zB];refine⟨fun hc=>?_,fun hc=>?_⟩
 ·have hc:(i:Int)<((r.length:Nat):Int):=of_decide_eq_true hc
  have hik:i<kk m:=by omega
  have e1:a.toL[i]?=some ⟨0,0⟩:=by rw [ha];simp [show i<16 by omega]
  have w2:w64 ((i:Int)+1)=((i+1:Nat):Int):=by rw [zS (by omega) (by omega)];rfl
  have hed:=h.edgeAt hs hik;have step:∀v:wz Int,sgN m p s i=v->∀b:xe (wz Int),b.toL=((List.range 16).map fun j=>if j<i then sgN m p s j else⟨0,0⟩).set i v->b.toL=(List.range 16).map fun j=>if j<i+1 then sgN m p s j else⟨0,0⟩:=by
   intro v hv b hb;rw [hb];refine zcj _ _ v fun j hj=>?_;by_cases e:j=i
   ·subst e
    rw [if_pos (by omega),if_pos rfl,hv]
   ·rw [if_neg e]
    by_cases e2:j<i
    ·rw [if_pos e2,if_pos (by omega)]
    ·rw [if_neg e2,if_neg (by omega)]
  rw [bdT (zX (r3 i hik)),bdT (zX e1),Option.bind_some,zB];refine⟨fun ht=>?_,fun ht=>?_⟩
  ·have ht:(E m s i).To≠-1:=by simpa using ht
   obtain⟨t,htn⟩:∃t:Nat,(E m s i).To=t:=⟨(E m s i).To.toNat,by omega⟩
   have hpt:p[t]?=some p[t]:=List.getElem?_eq_getElem (by omega)
   have e2:(xe.setI a (i:Int) ⟨(E m s i).Out,-1⟩).toL[i]?=some ⟨(E m s i).Out,-1⟩:=by
    rw [z3B,List.getElem?_set_self (by rw [ha];simp;omega)]
   rw [htn,bdT (zX hpt),bdT (zX e2),Option.bind_some,zg,w2];refine⟨⟨i+1,rfl,by omega,step _ ?_ _ (by rw [z3B,z3B,ha,List.set_set])⟩,by simp only [Int.toNat_natCast];omega⟩
   unfold sgN;rw [if_pos hik,if_neg ht,htn,Int.toNat_natCast,hpt,Option.getD_some]
  ·have ht:(E m s i).To=-1:=by simpa using ht
   rw [zg,w2];refine⟨⟨i+1,rfl,by omega,step _ ?_ _ (by rw [z3B,ha])⟩,by simp only [Int.toNat_natCast];omega⟩
   unfold sgN;rw [if_pos hik,if_pos ht]
 ·have hc:=of_decide_eq_false hc
  have:i=kk m:=by omega
  subst this;refine zg.2 ?_
  show a.toL=_
  rw [ha];refine List.map_congr_left fun j hj=>?_;unfold sgN;by_cases e:j<kk m
  ·rw [if_pos e,if_pos e]
  ·rw [if_neg e,if_neg e]
end
def Rgf (l:List Int):Prop:=∀(s:Nat) (x:Int),l[s]?=some x->∃v:Nat,x=(v:Int)/\∀w:Nat,w<v->∃t,t<s/\l[t]?=some (w:Int)
theorem zai {l r:List Int}(hl:Rgf l)(hr:Rgf r)(hlen:l.length=r.length)(h:∀s t:Nat,s<l.length->t<l.length->(l[s]?=l[t]?↔r[s]?=r[t]?)):l=r:=by
 have gen:∀n s,s<n->s<l.length->l[s]?=r[s]?:=by
  intro n
  induction n with
  | zero=>intro s q;omega
  | succ n ih=>
   intro s hs hsl;have hx:l[s]?=some l[s]:=List.getElem?_eq_getElem hsl;have hy:r[s]?=some r[s]:=List.getElem?_eq_getElem (by omega)
   by_cases old:∃t,t<s/\l[t]?=l[s]?
   ·obtain⟨t,t1,t2⟩:=old
    rw [<-t2,ih t (by omega) (by omega)]
    exact(h t s (by omega) hsl).1 t2
   ·obtain⟨v,v1,v2⟩:=hl s _ hx
    obtain⟨u,u1,u2⟩:=hr s _ hy;rw [hx,hy,v1,u1];rcases Nat.lt_trichotomy v u with q|q|q
    ·exfalso
     obtain⟨t,t1,t2⟩:=u2 v q;exact old ⟨t,t1,by rw [ih t (by omega) (by omega),t2,hx,v1]⟩
    ·rw [q]
    ·exfalso
     obtain⟨t,t1,t2⟩:=v2 u q;have:r[t]?=r[s]?:=by rw [<-ih t (by omega) (by omega),t2,hy,u1]
     exact old ⟨t,t1,(h t s (by omega) hsl).2 this⟩
 apply List.ext_getElem?
 intro s;by_cases hs:s<l.length
 ·exact gen (s+1) s (by omega) hs
 ·rw [List.getElem?_eq_none (by omega),List.getElem?_eq_none (by omega)]
theorem zav {K V:Type}[BEq K](x:K)(v:V):∀l:List (K×V),z2U l x=none->(zbe l x v).length=l.length+1
 | [],_=>rfl
 | p::l,hg=>by
  simp only [z2U]at hg;split at hg
  ·cases hg
  ·rename_i q
   simp only [zbe,q]
   show((p::zbe l x v).length)=_
   rw [List.length_cons,zav x v l hg,List.length_cons]
section
variable {m:z6}(h:VM m)
include h
def zg0 (m:z6)(p:List Int)(s t:Nat):Prop:=p[s]?=p[t]?/\∀j,j<kk m->sgN m p s j=sgN m p t j
theorem z9o (hp:p.length=m.Rows.length):Ret (kJ m p) fun q=>q.length=m.Rows.length/\Rgf q/\∀s t:Nat,s<m.Rows.length->t<m.Rows.length->(q[s]?=q[t]?↔zg0 m p s t):=by
 have hN:=h.len64;have hk:=h.kk_le;have hkey:∀s,s<m.Rows.length->∃key:zz,key.block_=(p[s]?).getD 0/\key.signature_.toL=(List.range 16).map (sgN m p s)/\kI m p (s:Int)=some key.signature_:=by
  intro s hs;obtain⟨a,a1,a2⟩:=zez h hp hs;exact⟨⟨(p[s]?).getD 0,a⟩,rfl,a2,a1⟩
 have:∃key:Nat->zz,∀s,s<m.Rows.length->(key s).block_=(p[s]?).getD 0/\(key s).signature_.toL=(List.range 16).map (sgN m p s)/\kI m p (s:Int)=some (key s).signature_:=by
  classical
  refine⟨fun s=>if q:s<m.Rows.length then(hkey s q).choose else⟨0,xe.mk ⟨0,0⟩ ⟨0,0⟩ ⟨0,0⟩ ⟨0,0⟩ ⟨0,0⟩ ⟨0,0⟩ ⟨0,0⟩ ⟨0,0⟩ ⟨0,0⟩ ⟨0,0⟩ ⟨0,0⟩ ⟨0,0⟩ ⟨0,0⟩ ⟨0,0⟩ ⟨0,0⟩ ⟨0,0⟩⟩,fun s hs=>?_⟩;simp only [hs,dif_pos];exact(hkey s hs).choose_spec
 obtain⟨key,hkey⟩:=this;have alike:∀s t,s<m.Rows.length->t<m.Rows.length->(key s=key t↔zg0 m p s t):=by
  intro s t hs ht;obtain⟨a1,a2,_⟩:=hkey s hs;obtain⟨b1,b2,_⟩:=hkey t ht;have xs:p[s]?=some p[s]:=List.getElem?_eq_getElem (by omega)
  have xt:p[t]?=some p[t]:=List.getElem?_eq_getElem (by omega)
  rw [xs,Option.getD_some]at a1;rw [xt,Option.getD_some]at b1;constructor
  ·intro e
   refine⟨by rw [xs,xt,<-a1,<-b1,e],fun j hj=>?_⟩
   have e2:(List.range 16).map (sgN m p s)=(List.range 16).map (sgN m p t):=by rw [<-a2,<-b2,e]
   have:=congrArg (fun l=>l[j]?) e2;simpa [show j<16 by omega] using this
  ·rintro⟨e1,e2⟩
   have e3:(key s).signature_=(key t).signature_:=zgI (by
    rw [a2,b2];refine List.map_congr_left fun j hj=>?_;by_cases q:j<kk m
    ·exact e2 j q
    ·unfold sgN
     rw [if_neg q,if_neg q])
   have e4:(key s).block_=(key t).block_:=by
    rw [a1,b1];rw [xs,xt]at e1;exact Option.some.inj e1
   revert e3 e4
   generalize key s=u;generalize key t=v;intro e3 e4;obtain⟨u0,u1⟩:=u;obtain⟨v0,v1⟩:=v;simp only at e3 e4;rw [e3,e4]
 unfold kJ jH;rw [gdT (by omega),zw]
 refine Ret.mono ?_ fun q hq=>zg.2 hq;refine y4 (fun st=>∃i:Nat,st.2.2=(i:Int)/\i<=m.Rows.length/\st.2.1.length=m.Rows.length/\(∀s,s<i->∃v:Nat,st.2.1[s]?=some (v:Int)/\v<st.1.length/\z2U st.1 (key s)=some (v:Int)/\∀w:Nat,w<v->∃t,t<s/\st.2.1[t]?=some (w:Int))/\(∀w:Nat,w<st.1.length->∃t,t<i/\st.2.1[t]?=some (w:Int)) /\
   (∀k v,z2U st.1 k=some v->∃t,t<i/\key t=k)/\∀s t:Nat,s<i->t<i->st.2.1[s]?=st.2.1[t]?->key s=key t) (fun st=>100 - st.2.2.toNat) ⟨0,rfl,by omega,by simp [hp],fun s q=>by omega,fun w q=>by simp at q,fun k v q=>by simp [z2U]at q,fun s t q=>by omega⟩ (by show 100 - _<_;omega) ?_
 rintro⟨names,out,_⟩ ⟨i,rfl,hi,ho,h1,h2,h3,h4⟩;simp only at ho h1 h2 h3 h4
 show Ret (vW m p names out (i:Int)) _
 unfold vW;rw [zB];refine⟨fun hc=>?_,fun hc=>?_⟩
 ·have hc:(i:Int)<((p.length:Nat):Int):=of_decide_eq_true hc
  have hiN:i<m.Rows.length:=by omega
  obtain⟨a1,a2,a3⟩:=hkey i hiN;have xi:p[i]?=some p[i]:=List.getElem?_eq_getElem (by omega)
  rw [xi,Option.getD_some]at a1;have hmk:zz.mk p[i] (key i).signature_=key i:=by
   rw [<-a1]
  have w2:w64 ((i:Int)+1)=((i+1:Nat):Int):=by rw [zS (by omega) (by omega)];rfl
  have hoi:out[i]?=some out[i]:=List.getElem?_eq_getElem (by omega)
  rw [bdT (zX xi),bdT a3,Option.bind_some,hmk];cases hg:z2U names (key i) with
  | none=>
   rw [Option.isSome_none,Bool.not_false,cond_true];unfold wI;have hfresh:∀t,t<i->key t≠key i:=fun t ht e=>by
    obtain⟨v,_,_,v3,_⟩:=h1 t ht;rw [e,hg]at v3;cases v3
   have hlen:=zav (key i) ((names.length:Nat):Int) names hg;rw [hmk,z3F,if_pos (by simp),Option.getD_some,Option.bind_some,bdT (zX hoi),zg,w2,Int.toNat_natCast]
   have keep:∀t:Nat,t<i->(out.set i ((names.length:Nat):Int))[t]?=out[t]?:=fun t ht=>List.getElem?_set_ne (by omega)
   have new:(out.set i ((names.length:Nat):Int))[i]?=some ((names.length:Nat):Int):=List.getElem?_set_self (by omega)
   refine⟨⟨i+1,rfl,by omega,by simp [ho],fun s hs=>?_,fun w hw=>?_,fun k v q=>?_,fun s t hs ht q=>?_⟩,by simp only [Int.toNat_natCast];omega⟩
   ·simp only
    by_cases e:s=i
    ·subst e
     refine⟨names.length,new,by omega,by rw [z3F,if_pos (by simp)],fun w hw=>?_⟩
     obtain⟨t,t1,t2⟩:=h2 w hw;exact⟨t,t1,by rw [keep t t1];exact t2⟩
    ·obtain⟨v,v1,v2,v3,v4⟩:=h1 s (by omega)
     refine⟨v,by rw [keep s (by omega)];exact v1,by omega,?_,fun w hw=>?_⟩
     ·rw [z3F,if_neg (by simpa using fun q=>hfresh s (by omega) q.symm)]
      exact v3
     ·obtain⟨t,t1,t2⟩:=v4 w hw
      exact⟨t,t1,by rw [keep t (by omega)];exact t2⟩
   ·simp only at hw ⊢
    by_cases e:w<names.length
    ·obtain⟨t,t1,t2⟩:=h2 w e
     exact⟨t,by omega,by rw [keep t t1];exact t2⟩
    ·have:w=names.length:=by omega
     subst this;exact⟨i,by omega,new⟩
   ·simp only at q
    rw [z3F]at q;by_cases e:key i=k
    ·exact⟨i,by omega,e⟩
    ·rw [if_neg (by simpa using e)]at q
     obtain⟨t,t1,t2⟩:=h3 k v q;exact⟨t,by omega,t2⟩
   ·simp only at q
    have low:∀t,t<i->out[t]?≠some ((names.length:Nat):Int):=fun t ht g=>by
     obtain⟨v,v1,v2,_⟩:=h1 t ht;rw [v1]at g;have:=Option.some.inj g;omega
    by_cases es:s=i
    ·by_cases et:t=i
     ·rw [es,et]
     ·exfalso
      rw [es,new,keep t (by omega)]at q
      exact low t (by omega) q.symm
    ·by_cases et:t=i
     ·exfalso
      rw [et,new,keep s (by omega)]at q
      exact low s (by omega) q
     ·rw [keep s (by omega),keep t (by omega)]at q
      exact h4 s t (by omega) (by omega) q
  | some v=>
   rw [Option.isSome_some,Bool.not_true,cond_false];unfold wI;obtain⟨t0,t1,t2⟩:=h3 _ _ hg;obtain⟨u,u1,u2,u3,u4⟩:=h1 t0 t1;rw [t2,hg]at u3;have hvu:v=(u:Int):=Option.some.inj u3;rw [hmk,hg,Option.getD_some,Option.bind_some,bdT (zX hoi),zg,w2,Int.toNat_natCast];have keep:∀t:Nat,t<i->(out.set i v)[t]?=out[t]?:=fun t ht=>List.getElem?_set_ne (by omega)
   have new:(out.set i v)[i]?=some v:=List.getElem?_set_self (by omega)
   refine⟨⟨i+1,rfl,by omega,by simp [ho],fun s hs=>?_,fun w hw=>?_,fun k v q=>?_,fun s t hs ht q=>?_⟩,by simp only [Int.toNat_natCast];omega⟩
   ·simp only
    by_cases e:s=i
    ·subst e
     refine⟨u,by rw [new,hvu],u2,by rw [hg,hvu],fun w hw=>?_⟩
     obtain⟨t,g1,g2⟩:=u4 w hw;exact⟨t,by omega,by rw [keep t (by omega)];exact g2⟩
    ·obtain⟨v',v1,v2,v3,v4⟩:=h1 s (by omega)
     refine⟨v',by rw [keep s (by omega)];exact v1,v2,v3,fun w hw=>?_⟩
     obtain⟨t,g1,g2⟩:=v4 w hw;exact⟨t,g1,by rw [keep t (by omega)];exact g2⟩
   ·simp only at hw ⊢
    obtain⟨t,g1,g2⟩:=h2 w hw;exact⟨t,by omega,by rw [keep t g1];exact g2⟩
   ·obtain⟨t,g1,g2⟩:=h3 k v q
    exact⟨t,by omega,g2⟩
   ·simp only at q
    have like:∀t,t<i->out[t]?=some v->key t=key i:=fun t ht g=>by
     rw [<-t2];exact h4 t t0 ht t1 (by rw [g,u1,hvu])
    by_cases es:s=i
    ·by_cases et:t=i
     ·rw [es,et]
     ·rw [es,new,keep t (by omega)]at q
      rw [es];exact(like t (by omega) q.symm).symm
    ·by_cases et:t=i
     ·rw [et,new,keep s (by omega)]at q
      rw [et];exact like s (by omega) q
     ·rw [keep s (by omega),keep t (by omega)]at q
      exact h4 s t (by omega) (by omega) q
 ·have hc:=of_decide_eq_false hc
  have:i=m.Rows.length:=by omega
  subst this;refine zg.2 ⟨ho,fun s x hx=>?_,fun s t hs ht=>?_⟩
  ·have hs:s<m.Rows.length:=by have:=(List.getElem?_eq_some_iff.1 hx).1;omega
   obtain⟨v,v1,_,_,v4⟩:=h1 s hs;rw [hx]at v1;exact⟨v,Option.some.inj v1,v4⟩
  ·rw [<-alike s t hs ht]
   refine⟨h4 s t hs ht,fun e=>?_⟩;obtain⟨v,v1,_,v3,_⟩:=h1 s hs;obtain⟨u,u1,_,u3,_⟩:=h1 t ht;rw [e,u3]at v3;rw [v1,u1,<-Option.some.inj v3]
end
theorem z8O (a b:List Int)(ha:a.length<4611686018427387904):xX a b=some (decide (a=b)):=by
 unfold xX wX;by_cases hl:a.length=b.length
 ·have e:(((a.length:Nat):Int) !=((b.length:Nat):Int))=false:=by simp [hl]
  rw [e,cond_false,vz a ha (step:=fun s=>yX a b s) (fun i x=>if b[i]?=some x then none else some false) ?_ ?_]
  ·by_cases q:a=b
   ·rw [Y4 fun i x hx=>by rw [Nat.zero_add,<-q,if_pos hx]]
    simp [oS,q]
   ·cases hf:xv (fun i x=>if b[i]?=some x then none else some false) a 0 with
    | none=>
     exfalso;refine q (List.ext_getElem? fun i=>?_);by_cases hi:i<a.length
     ·have hx:a[i]?=some a[i]:=List.getElem?_eq_getElem hi
      have:=qt hf i _ hx;rw [Nat.zero_add]at this;split at this
      ·rename_i g;rw [hx,g]
      ·cases this
     ·rw [List.getElem?_eq_none (by omega),List.getElem?_eq_none (by omega)]
    | some r=>
     obtain⟨i,x,_,h2⟩:=qr hf;split at h2
     ·cases h2
     ·cases h2
      simp [oS,q]
  ·intro i x hx
   have hi:=(List.getElem?_eq_some_iff.1 hx).1;have hy:b[i]?=some b[i]:=List.getElem?_eq_getElem (by omega)
   unfold yX;rw [decide_eq_true (by omega),cond_true,bdT (zX hx),bdT (zX hy),hy]
   by_cases e2:x=b[i]
   ·rw [e2,bne_self_eq_false,cond_false,if_pos rfl]
    rfl
   ·have e3:(x != b[i])=true:=by simpa using e2
    rw [e3,cond_true,if_neg fun g=>e2 (Option.some.inj g).symm];rfl
  ·unfold yX
   rw [decide_eq_false (by omega),cond_false]
 ·have e:(((a.length:Nat):Int) !=((b.length:Nat):Int))=true:=by simpa using fun g:(a.length:Int)=b.length=>hl (by omega)
  rw [e,cond_true,decide_eq_false fun q=>hl (by rw [q])]
section
variable {m:z6}(h:VM m)
include h
omit h in theorem seq_out {s t:Nat} (q:SEq m s t) {j:Nat} (hj:j<kk m):(E m s j).Out=(E m t j).Out/\∀w:List Nat,(∀i∈w,i<kk m)->rsp m (E m s j).To w=rsp m (E m t j).To w:=by
 have gen:∀w:List Nat,(∀i∈w,i<kk m)->(E m s j).Out=(E m t j).Out/\rsp m (E m s j).To w=rsp m (E m t j).To w:=by
  intro w hw;have:=q (j::w) (fun i hi=>by rcases List.mem_cons.1 hi with rfl|g;exact hj;exact hw i g)
  simp only [rsp,jC,List.cons.injEq]at this;exact this
 exact⟨(gen [] (by simp)).1,fun w hw=>(gen w hw).2⟩
theorem zbY (hp:p.length=m.Rows.length)(hq:∀s t,s<m.Rows.length->t<m.Rows.length->SEq m s t->p[s]?=p[t]?)  (hs:s<m.Rows.length)(ht:t<m.Rows.length)(q:SEq m s t):zg0 m p s t:=by
 refine⟨hq s t hs ht q,fun j hj=>?_⟩;obtain⟨o1,o2⟩:=seq_out q hj;have hes:=h.edgeAt hs hj;have het:=h.edgeAt ht hj;unfold sgN;rw [if_pos hj,if_pos hj,o1];rcases hes with⟨a1,a2⟩|⟨a1,a2,a3,a4⟩
 ·rcases het with⟨b1,b2⟩|⟨b1,b2,b3,b4⟩
  ·rw [if_pos a1,if_pos b1]
  ·omega
 ·rcases het with⟨b1,b2⟩|⟨b1,b2,b3,b4⟩
  ·omega
  ·rw [if_neg (by omega),if_neg (by omega)]
   have e1:(((E m s j).To.toNat:Nat):Int)=(E m s j).To:=by omega
   have e2:(((E m t j).To.toNat:Nat):Int)=(E m t j).To:=by omega
   have:=hq _ _ (by omega) (by omega) (show SEq m (E m s j).To.toNat (E m t j).To.toNat from fun w hw=>by rw [e1,e2];exact o2 w hw)
   rw [this]
theorem zd4 (hp:p.length=m.Rows.length)(hr:Rgf p)(hf:∀s t,s<m.Rows.length->t<m.Rows.length->p[s]?=p[t]?->zg0 m p s t):∀(w:List Nat) (s t:Nat),s<m.Rows.length->t<m.Rows.length->p[s]?=p[t]?->(∀i∈w,i<kk m)->rsp m (s:Int) w=rsp m (t:Int) w
 | [],_,_,_,_,_,_=>rfl
 | j::w,s,t,hs,ht,e,hw=>by
  have hj:j<kk m:=hw j (by simp)
  have hw':∀i∈w,i<kk m:=fun i hi=>hw i (by simp [hi])
  have hal:=(hf s t hs ht e).2 j hj;have hes:=h.edgeAt hs hj;have het:=h.edgeAt ht hj;have pos:∀u:Nat,u<m.Rows.length->0<=(p[u]?).getD 0:=fun u hu=>by
   have hx:p[u]?=some p[u]:=List.getElem?_eq_getElem (by omega)
   obtain⟨v,v1,_⟩:=hr u _ hx;rw [hx,Option.getD_some,v1];omega
  unfold sgN at hal;rw [if_pos hj,if_pos hj]at hal;have a0:=congrArg wz.e0 hal;have a1:=congrArg wz.e1 hal;simp only at a0 a1;simp only [rsp,jC,a0,List.cons.injEq,true_and];rcases hes with⟨b1,b2⟩|⟨b1,b2,b3,b4⟩
  ·rcases het with⟨c1,c2⟩|⟨c1,c2,c3,c4⟩
   ·rw [b1,c1]
   ·rw [if_pos b1,if_neg (by omega)]at a1
    have:=pos (E m t j).To.toNat (by omega)
    omega
  ·rcases het with⟨c1,c2⟩|⟨c1,c2,c3,c4⟩
   ·rw [if_neg (by omega),if_pos c1]at a1
    have:=pos (E m s j).To.toNat (by omega)
    omega
   ·rw [if_neg (by omega),if_neg (by omega)]at a1
    have x1:p[(E m s j).To.toNat]?=some p[(E m s j).To.toNat]:=List.getElem?_eq_getElem (by omega)
    have x2:p[(E m t j).To.toNat]?=some p[(E m t j).To.toNat]:=List.getElem?_eq_getElem (by omega)
    have:=zd4 hp hr hf w (E m s j).To.toNat (E m t j).To.toNat (by omega) (by omega) (by rw [x1,x2]at a1 ⊢;exact congrArg some a1) hw'
    have e1:(((E m s j).To.toNat:Nat):Int)=(E m s j).To:=by omega
    have e2:(((E m t j).To.toNat:Nat):Int)=(E m t j).To:=by omega
    rw [e1,e2]at this;exact this
def Ki (N:Nat)(p:List Int):Nat:=((List.range N).flatMap fun s=>(List.range N).map fun t=>(s,t)).countP fun x=>decide (p[x.1]?=p[x.2]?)
omit h in
theorem z8p {N s t:Nat}:(s,t)∈((List.range N).flatMap fun s=>(List.range N).map fun t=>(s,t))↔s<N/\t<N:=by
 simp only [List.mem_flatMap,List.mem_map,List.mem_range,Prod.mk.injEq];constructor
 ·rintro⟨a,ha,b,hb,rfl,rfl⟩;exact⟨ha,hb⟩
 ·rintro⟨a,b⟩;exact⟨s,a,t,b,rfl,rfl⟩
theorem zbp:Ret (kK m) fun r=>r.2.2=0/\r.1.length=m.Rows.length/\Rgf r.1/\∀s t:Nat,s<m.Rows.length->t<m.Rows.length->(r.1[s]?=r.1[t]?↔SEq m s t):=by
 have hN:=h.len64;have hN1:=h.len1;unfold kK Xz;rw [Kq,z6e h,Option.bind_some,bne_self_eq_false,cond_false,Option.bind_some];unfold qI;rw [gdT (by omega),zw,zw]
 have e0:((m.Rows.length:Nat):Int).toNat=m.Rows.length:=by simp
 rw [e0];refine(y4 (R:=fun y:LR (List Int×Int) Empty=>∃p n,y=.next (p,n)/\p.length=m.Rows.length/\Rgf p/\∀s t:Nat,s<m.Rows.length->t<m.Rows.length->(p[s]?=p[t]?↔SEq m s t))
  (fun st:LR (List Int×Int) Empty×List Int=>(∃x,st.1=.next x)/\st.2.length=m.Rows.length/\Rgf st.2/\∀s t:Nat,s<m.Rows.length->t<m.Rows.length->SEq m s t->st.2[s]?=st.2[t]?) (fun st=>Ki m.Rows.length st.2) ⟨⟨_,rfl⟩,by simp,?_,?_⟩ ?_ ?_).mono ?_
 ·intro s x hx
  simp only [List.getElem?_replicate]at hx;split at hx
  ·cases hx
   exact⟨0,rfl,fun w q=>by omega⟩
  ·cases hx
 ·intro s t hs ht _
  simp only [List.getElem?_replicate];rw [if_pos hs,if_pos ht]
 ·have:Ki m.Rows.length (List.replicate m.Rows.length (0:Int))<=((List.range m.Rows.length).flatMap fun s=>(List.range m.Rows.length).map fun t=>(s,t)).length:=List.countP_le_length
  have e:((List.range m.Rows.length).flatMap fun s=>(List.range m.Rows.length).map fun t=>(s,t)).length=m.Rows.length*m.Rows.length:=by
   rw [List.length_flatMap];simp only [List.length_map,List.length_range,List.map_const',List.sum_replicate_nat]
  rw [e]at this;have:=Nat.mul_le_mul hN hN
  show Ki m.Rows.length (List.replicate m.Rows.length (0:Int))<18446744073709551616
  omega
 ·rintro⟨y,p⟩ ⟨⟨⟨x,n⟩,rfl⟩,hp,hr,hq⟩
  simp only at hp hr hq
  show Ret (vo m (yOf fun s x=>wJ s.1 s.2 x) (.next (x,n)) p) _
  unfold vo;simp only [yOf,wJ,Option.bind_some,cond_true];rw [zw];refine(z9o h hp).mono ?_;rintro q ⟨q1,q2,q3⟩;rw [z8O p q (by omega),Option.bind_some,zB]
  refine⟨fun hc=>?_,fun hc=>?_⟩
  ·have hc:p=q:=of_decide_eq_true hc
   rw [zg];refine⟨p,w64 (n+1),rfl,hp,hr,fun s t hs ht=>⟨fun e w hw=>?_,hq s t hs ht⟩⟩;exact zd4 h hp hr (fun s t hs ht e=>(q3 s t hs ht).1 (by rw [<-hc];exact e)) w s t hs ht e hw
  ·have hc:¬p=q:=of_decide_eq_false hc
   rw [zg];refine⟨⟨⟨_,rfl⟩,q1,q2,fun s t hs ht e=>(q3 s t hs ht).2 (zbY h hp hq hs ht e)⟩,?_⟩
   show Ki m.Rows.length q<Ki m.Rows.length p
   unfold Ki;refine z4J (fun z hz hd=>?_) ?_
   ·obtain⟨s,t⟩:=z
    obtain⟨hs,ht⟩:=z8p.1 hz;simp only [decide_eq_true_eq]at hd ⊢;exact((q3 s t hs ht).1 hd).1
   ·refine Classical.byContradiction fun g=>hc (zai hr q2 (by omega) fun s t hs ht=>⟨fun e=>?_,fun e=>((q3 s t (by omega) (by omega)).1 e).1⟩)
    refine Classical.byContradiction fun g2=>g ⟨(s,t),z8p.2 ⟨by omega,by omega⟩,by simpa using e,by simpa using g2⟩
 ·rintro y ⟨p,n,rfl,g1,g2,g3⟩
  rw [zg];unfold jI;simp only;rw [zg];exact⟨rfl,g1,g2,g3⟩
end
theorem zgf:∀(N:Nat) (l:List Nat),l.Nodup->(∀t∈l,t<N)->l.length<=N
 | 0,l,_,h=>by
  cases l with
  | nil=>exact Nat.le_refl _
  | cons x l=>have:=h x (by simp);omega
 | N+1,l,hn,h=>by
  have ih:=zgf N (l.erase N) (hn.erase N) fun t ht=>by
   have h1:=h t (List.mem_of_mem_erase ht);have h2:t≠N:=fun e=>by subst e;exact absurd ht (hn.not_mem_erase)
   omega
  by_cases hm:N∈l
  ·rw [List.length_erase_of_mem hm]at ih;omega
  ·rw [List.erase_of_not_mem hm]at ih;omega
def Cpl (m:z6):Prop:=∀s i,s<m.Rows.length->i<kk m->0<=(E m s i).To
def zla (m:z6):Prop:=∀t,t<m.Rows.length->Rch m t
def ziQ (m:z6):Prop:=∀s t,s<m.Rows.length->t<m.Rows.length->SEq m s t->s=t
def PE (m:z6)(e:Int):Prop:=(e=9/\¬Cpl m)\/(e=11/\Cpl m/\¬zla m)\/(e=12/\Cpl m/\zla m/\¬ziQ m)\/(e=0/\Cpl m/\zla m/\ziQ m)
theorem PE.uniq {e f:Int}(h:PE m e)(g:PE m f):e=f:=by
 rcases h with⟨rfl,a⟩|⟨rfl,a,b⟩|⟨rfl,a,b,c⟩|⟨rfl,a,b,c⟩ <;> rcases g with⟨rfl,x⟩|⟨rfl,x,y⟩|⟨rfl,x,y,z⟩|⟨rfl,x,y,z⟩ <;> first|rfl|exact absurd x a|exact absurd a x|exact absurd y b|exact absurd b y|exact absurd z c|exact absurd c z
section
variable {m:z6}(h:VM m)
include h
theorem zfx {s:Nat}(hs:s<m.Rows.length){r:List z8}(r2:r.length=kk m)(r3:∀i,i<kk m->r[i]?=some (E m s i)){out0:List (wz Int)}(hl:out0.length<=s*16) :
  Ret (loop (fun st=>wg (yOf fun s x=>yq s x.1 x.2) (s:Int) r st.1 st.2) ((.next out0:LR (List (wz Int)) Empty),0)) fun y=>∃out,y=.inl (.next out)/\out.length<=(s+1)*16/\(out=[]↔out0=[]/\∀i,i<kk m->0<=(E m s i).To):=by
 have hk:=h.kk_le;have hN:=h.len64;refine y4 (fun st=>∃(i:Nat) (out:List (wz Int)),st.2=(i:Int)/\i<=kk m/\st.1=.next out/\out.length<=s*16+i/\(out=[]↔out0=[]/\∀j,j<i->0<=(E m s j).To)) (fun st=>20 - st.2.toNat) ⟨0,out0,rfl,by omega,rfl,by omega,by simp⟩ (by show 20 - _<_;omega) ?_
 rintro⟨_,_⟩ ⟨i,out,rfl,hi,rfl,ho,he⟩
 show Ret (wg (yOf fun s x=>yq s x.1 x.2) (s:Int) r (.next out) (i:Int)) _
 unfold wg;rw [zB];refine⟨fun hc=>?_,fun hc=>?_⟩
 ·have hc:(i:Int)<((r.length:Nat):Int):=of_decide_eq_true hc
  have hik:i<kk m:=by omega
  have w2:w64 ((i:Int)+1)=((i+1:Nat):Int):=by rw [zS (by omega) (by omega)];rfl
  have hed:=h.edgeAt hs hik;rw [bdT (zX (r3 i hik))];unfold yOf yq u6;simp only [Option.bind_some];by_cases ht:(E m s i).To=-1
  ·have ho1:(E m s i).Out=-1:=by omega
   rw [ht,ho1];simp only [beq_self_eq_true,Bool.and_self,cond_true];rw [gdT (by simp;omega)]
   simp only [Option.bind_some,Bool.not_true,cond_false];rw [zg,w2];refine⟨⟨i+1,_,rfl,by omega,rfl,by simp;omega,?_⟩,by simp only [Int.toNat_natCast];omega⟩
   constructor
   ·intro q;simp at q
   ·rintro⟨_,q⟩
    have:=q i (by omega)
    omega
  ·have e1:((E m s i).To == -1)=false:=by simpa using ht
   rw [e1,Bool.false_and,cond_false];simp only [Option.bind_some,Bool.not_true,cond_false];rw [zg,w2];refine⟨⟨i+1,out,rfl,by omega,rfl,by omega,he.trans ?_⟩,by simp only [Int.toNat_natCast];omega⟩
   constructor
   ·rintro⟨a,b⟩
    refine⟨a,fun j hj=>?_⟩;by_cases e:j=i
    ·subst e;omega
    ·exact b j (by omega)
   ·rintro⟨a,b⟩;exact⟨a,fun j hj=>b j (by omega)⟩
 ·have hc:=of_decide_eq_false hc
  have:i=kk m:=by omega
  subst this;exact zg.2 ⟨out,rfl,by omega,he⟩
theorem z8Q:Ret (uN m) fun r=>r.2=0/\(r.1=true↔Cpl m):=by
 have hk:=h.kk_le;have hN:=h.len64;unfold uN jO XD;rw [Kq,z6e h,Option.bind_some,bne_self_eq_false,cond_false,Option.bind_some];unfold qO;rw [zw,zw,zw];refine(y4 (R:=fun y:LR (List (wz Int)) Empty=>∃out,y=.next out/\out.length<=2000/\(out=[]↔Cpl m)) (fun st:LR (List (wz Int)) Empty×Int=>∃(s:Nat) (out:List (wz Int)),st.2=(s:Int)/\s<=m.Rows.length/\st.1=.next out/\out.length<=s*16/\(out=[]↔∀t j,t<s->j<kk m->0<=(E m t j).To)) (fun st=>100 - st.2.toNat) ⟨0,[],rfl,by omega,rfl,by simp,by simp⟩ (by show 100 - _<_;omega) ?_).mono ?_
 ·rintro⟨_,_⟩ ⟨s,out,rfl,hs,rfl,ho,he⟩
  show Ret (vw m (yOf fun s x=>yq s x.1 x.2) (.next out) (s:Int)) _
  unfold vw;rw [zB];refine⟨fun hc=>?_,fun hc=>?_⟩
  ·have hc:(s:Int)<((m.Rows.length:Nat):Int):=of_decide_eq_true hc
   have hsN:s<m.Rows.length:=by omega
   obtain⟨r,r1,r2,r3⟩:=h.rowAt hsN;rw [bdT (zX r1),zw];refine(zfx h hsN r2 r3 ho).mono ?_;rintro y ⟨out',rfl,g1,g2⟩;simp only;unfold qm;rw [zg,zS (x:=(s:Int)+1) (by omega) (by omega)]
   refine⟨⟨s+1,out',rfl,by omega,rfl,g1,g2.trans ?_⟩,by simp only;omega⟩
   rw [he];constructor
   ·rintro⟨a,b⟩ t j ht hj
    by_cases e:t=s
    ·subst e;exact b j hj
    ·exact a t j (by omega) hj
   ·intro a
    exact⟨fun t j ht hj=>a t j (by omega) hj,fun j hj=>a s j (by omega) hj⟩
  ·have hc:=of_decide_eq_false hc
   have:s=m.Rows.length:=by omega
   subst this;exact zg.2 ⟨out,rfl,by omega,he⟩
 ·rintro y ⟨out,rfl,g1,g2⟩
  rw [zg];simp only;unfold vZ wY;rw [gdT (by omega),Option.bind_some,zg,zg]
  refine⟨rfl,?_⟩;rw [<-g2];cases out with
  | nil=>simp
  | cons a l=>simp;omega
omit h in
theorem zhR {l:List Int}(h0:0<l.length)(hl:l.length<=100000):Ret (vU l) fun x=>x∈l/\∀y∈l,y<=x:=by
 unfold vU vT;have e0:l[0]?=some l[0]:=List.getElem?_eq_getElem h0;rw [decide_eq_false (by omega),cond_false,bdT (show idx l 0=some l[0] from e0),zw]
 refine Ret.mono ?_ fun x hx=>zg.2 hx;refine y4 (fun st=>∃i:Nat,st.2=(i:Int)/\1<=i/\i<=l.length/\st.1∈l/\∀j y,j<i->l[j]?=some y->y<=st.1) (fun st=>100000 - st.2.toNat) ⟨1,rfl,by omega,by omega,List.getElem_mem _,fun j y hj hy=>by
  have:j=0:=by omega
  subst this;rw [e0]at hy;cases hy;exact Int.le_refl _⟩ (by show 100000 - _<_;omega) ?_
 rintro⟨x,_⟩ ⟨i,rfl,i1,i2,hx,hm⟩;simp only at hx hm
 show Ret (wu l x (i:Int)) _
 unfold wu;rw [zB];refine⟨fun hc=>?_,fun hc=>?_⟩
 ·have hc:(i:Int)<((l.length:Nat):Int):=of_decide_eq_true hc
  have hy:l[i]?=some l[i]:=List.getElem?_eq_getElem (by omega)
  rw [bdT (zX hy),zg,zS (x:=(i:Int)+1) (by omega) (by omega)]
  refine⟨⟨i+1,rfl,by omega,by omega,?_,fun j y hj hjy=>?_⟩,by simp only;omega⟩
  ·show mx x l[i]∈l
   unfold mx;split
   ·exact List.getElem_mem _
   ·exact hx
  ·show y<=mx x l[i]
   unfold mx;by_cases e:j=i
   ·subst e
    rw [hy]at hjy;cases hjy;split <;> omega
   ·have:=hm j y (by omega) hjy
    split <;> omega
 ·have hc:=of_decide_eq_false hc
  refine zg.2 ⟨hx,fun y hy=>?_⟩;obtain⟨j,hj⟩:=List.mem_iff_getElem?.1 hy;exact hm j y (by have:=(List.getElem?_eq_some_iff.1 hj).1;omega) hj
omit h in
theorem zhw (hr:Rgf p)(h0:0<p.length){x:Int}(hx:x∈p)(hm:∀y∈p,y<=x):x=(p.length:Int) - 1↔∀s t:Nat,s<p.length->t<p.length->p[s]?=p[t]?->s=t:=by
 constructor
 ·intro e
  obtain⟨s0,hs0⟩:=List.mem_iff_getElem?.1 hx;obtain⟨v,v1,v2⟩:=hr s0 x hs0;have hs0l:=(List.getElem?_eq_some_iff.1 hs0).1;have place:∀w:Nat,w<p.length->∃s,s<p.length/\p[s]?=some (w:Int):=by
   intro w hw;by_cases q:w=v
   ·subst q;exact⟨s0,hs0l,by rw [hs0,v1]⟩
   ·obtain⟨t,t1,t2⟩:=v2 w (by omega)
    exact⟨t,by omega,t2⟩
  intro s t hs ht hst;refine Classical.byContradiction fun hne=>?_;have:∃g:Nat->Nat,∀w,w<p.length->g w<p.length/\p[g w]?=some (w:Int):=by
   classical
   exact⟨fun w=>if q:w<p.length then(place w q).choose else 0,fun w hw=>by simp only [hw,dif_pos];exact(place w hw).choose_spec⟩
  obtain⟨g,hg⟩:=this;have:∃u,u<p.length/\∀w,w<p.length->g w≠u:=by
   refine Classical.byContradiction fun q=>?_;have q:∀u,u<p.length->∃w,w<p.length/\g w=u:=fun u hu=>Classical.byContradiction fun q2=>q ⟨u,hu,fun w hw e=>q2 ⟨w,hw,e⟩⟩;obtain⟨a,a1,rfl⟩:=q s hs;obtain⟨b,b1,rfl⟩:=q t ht;rw [(hg a a1).2,(hg b b1).2]at hst;have:a=b:=by have:=Option.some.inj hst;omega
   exact hne (by rw [this])
  obtain⟨u,hu,hgu⟩:=this;have hnd:(u::(List.range p.length).map g).Nodup:=by
   rw [List.nodup_cons];refine⟨fun q=>?_,?_⟩
   ·obtain⟨w,hw,e⟩:=List.mem_map.1 q
    exact hgu w (List.mem_range.1 hw) e
   ·rw [List.Nodup,List.pairwise_map]
    refine List.Pairwise.imp_of_mem (fun {a b} ha hb hab=>?_) List.nodup_range;intro e;have ha:=hg a (List.mem_range.1 ha);have hb:=hg b (List.mem_range.1 hb);rw [e,hb.2]at ha;have:=Option.some.inj ha.2;omega
  have:=zgf p.length _ hnd (fun w hw=>by
   rcases List.mem_cons.1 hw with rfl|q
   ·exact hu
   ·obtain⟨z,hz,rfl⟩:=List.mem_map.1 q
    exact(hg z (List.mem_range.1 hz)).1)
  simp at this;omega
 ·intro q
  have e:p=(List.range p.length).map Int.ofNat:=by
   refine zai hr (fun s y hy=>?_) (by simp) fun s t hs ht=>?_
   ·have hs:s<p.length:=by have:=(List.getElem?_eq_some_iff.1 hy).1;simpa using this
    simp [hs]at hy;refine⟨s,hy.symm,fun w hw=>⟨w,hw,by simp [show w<p.length by omega]⟩⟩
   ·constructor
    ·intro g;rw [q s t hs ht g]
    ·intro g
     simp [hs,ht]at g;have:s=t:=by omega
     rw [this]
  have hin:((p.length - 1:Nat):Int)∈(List.range p.length).map Int.ofNat:=List.mem_map.2 ⟨p.length - 1,List.mem_range.2 (by omega),rfl⟩
  rw [<-e]at hin;have h1:=hm _ hin;rw [e]at hx;obtain⟨w,hw,rfl⟩:=List.mem_map.1 hx;have:=List.mem_range.1 hw;have:Int.ofNat w=(w:Int):=rfl;omega
theorem zbd:Ret (xZ m) (PE m):=by
 have hN:=h.len64;have hN1:=h.len1;unfold xZ YM Zf Ze Zd qg;rw [Kq,z6e h,Option.bind_some,bne_self_eq_false,cond_false,Option.bind_some,zw,zw];refine(z8Q h).mono ?_;rintro⟨b1,_⟩ ⟨_,hb1⟩;rw [zg];simp only at hb1 ⊢;cases b1 with
 | false=>exact zg.2 (.inl ⟨rfl,fun q=>by have:=hb1.2 q;cases this⟩)
 | true=>
  have hc:=hb1.1 rfl;simp only [Bool.not_true,cond_false];rw [zw,zw];refine(z7e h).mono ?_;rintro⟨b2,_⟩ ⟨_,hb2⟩;rw [zg];simp only at hb2 ⊢;cases b2 with
  | false=>exact zg.2 (.inr (.inl ⟨rfl,hc,fun q=>by have:=hb2.2 q;cases this⟩))
  | true=>
   have hr:=hb2.1 rfl;simp only [Bool.not_true,cond_false];rw [zw,zw];refine(zbp h).mono ?_;rintro⟨p,n,e⟩ ⟨_,hp,hrg,hq⟩;simp only at hp hrg hq ⊢;rw [zw];refine(zhR (l:=p) (by omega) (by omega)).mono ?_
   rintro x ⟨x1,x2⟩;have hmax:=zhw hrg (by omega) x1 x2
   rw [zg,zS (x:=((p.length:Nat):Int) - 1) (by omega) (by omega)]
   have hd:ziQ m↔∀s t:Nat,s<p.length->t<p.length->p[s]?=p[t]?->s=t:=by
    rw [hp];exact⟨fun d s t hs ht g=>d s t hs ht ((hq s t hs ht).1 g),fun d s t hs ht g=>d s t hs ht ((hq s t hs ht).2 g)⟩
   by_cases g:x=(p.length:Int) - 1
   ·rw [beq_iff_eq.2 g]
    simp only [Bool.not_true,cond_false];exact zg.2 (.inr (.inr (.inr ⟨rfl,hc,hr,hd.2 (hmax.1 g)⟩)))
   ·have:(x==(p.length:Int) - 1)=false:=by simpa using g
    rw [this];simp only [Bool.not_false,cond_true];exact zg.2 (.inr (.inr (.inl ⟨rfl,hc,hr,fun d=>g (hmax.2 (hd.1 d))⟩)))
end
theorem zhT {l:List α}  {x:α}(h:l[i]?=some x):i<l.length:=(List.getElem?_eq_some_iff.1 h).1
section
variable {m p:z6}{F:List Nat}(h:VM m)(hc:Cpl m)(hF:Xb m F)(hp:zfX m F p)
include h hc hF hp
theorem zk7:VM p:=by
 have hz:=(z68 h hF).1;have hl:=hF.len;have l64:=h.len64;have hkk:kk p=kk m:=by unfold kk;rw [hp.inp]
 have hke:=h.kk_eq;refine⟨by rw [hp.inp];exact h.in1,by rw [hp.inp];exact h.in16,by rw [hp.out];exact h.out1,by rw [hp.out];exact h.out16,by rw [hp.len];omega,by rw [hp.len];omega,fun r hr=>?_,fun r hr x hx=>?_⟩
 ·obtain⟨k,hk⟩:=List.mem_iff_getElem?.1 hr
  have hkl:=zhT hk;rw [hp.len]at hkl;obtain⟨row,q1,q2,_⟩:=hp.row k hkl;rw [hk]at q1;cases q1;rw [hp.inp];omega
 ·obtain⟨k,hk⟩:=List.mem_iff_getElem?.1 hr
  have hkl:=zhT hk;rw [hp.len]at hkl;obtain⟨row,q1,q2,q3⟩:=hp.row k hkl;rw [hk]at q1;cases q1;obtain⟨i,hi⟩:=List.mem_iff_getElem?.1 hx;have hil:=zhT hi;rw [q2]at hil;obtain⟨e,e1,e2,e3⟩:=q3 i hil;rw [hi]at e1;cases e1;obtain⟨_,f2,_⟩:=hF.at hkl;have he:=h.edgeAt f2 hil;have hcc:=hc _ i f2 hil;rw [hp.len,hp.out];rcases e3 with⟨g0,n,g1,g2,_⟩|⟨g0,_⟩
  ·right
   omega
  ·omega
omit h in
theorem zhQ:Cpl p:=by
 intro s i hs hi;rw [hp.len]at hs;have hkk:kk p=kk m:=by unfold kk;rw [hp.inp]
 rw [hkk]at hi;obtain⟨_,f2,_⟩:=hF.at hs;have hcc:=hc _ i f2 hi;rcases(zof hp hkk hs hi).2 with⟨_,n,g,_⟩|⟨g,_⟩
 ·rw [g];exact Int.natCast_nonneg n
 ·omega
omit h hc in
theorem zeZ:ziQ p:=by
 intro s t hs ht hst;rw [hp.len]at hs ht;have hkk:kk p=kk m:=by unfold kk;rw [hp.inp]
 refine hF.uniq hs ht fun w hw=>?_;rw [<-z9k hF hp w s hs hw,<-z9k hF hp w t ht hw];exact hst w (by rw [hkk];exact hw)
omit h hF hp in
theorem zeA {s t i:Nat}(hs:s<m.Rows.length)(ht:t<m.Rows.length)(hi:i<kk m)(q:SEq m s t):SEq m (E m s i).To.toNat (E m t i).To.toNat:=by
 have a:=hc s i hs hi;have b:=hc t i ht hi;intro w hw;have:=q (i::w) fun j hj=>by
  rcases List.mem_cons.1 hj with rfl|hj
  ·exact hi
  ·exact hw j hj
 simp only [rsp,jC,List.cons.injEq]at this;rw [Int.toNat_of_nonneg a,Int.toNat_of_nonneg b];exact this.2
theorem zcG:∀(v:List Nat) (k s:Nat),k<F.length->s<m.Rows.length->Wd (kk m) v->SEq m F[k]! s->∃n t:Nat,aft p (k:Int) v=(n:Int)/\n<F.length/\aft m (s:Int) v=(t:Int)/\t<m.Rows.length/\SEq m F[n]! t
 | [],k,s,hk,hs,_,q=>⟨k,s,rfl,hk,rfl,hs,q⟩
 | i::v,k,s,hk,hs,hv,q=>by
  have hkk:kk p=kk m:=by unfold kk;rw [hp.inp]
  have hi:=hv i (by simp)
  obtain⟨_,f2,_⟩:=hF.at hk;have hcs:=hc s i hs hi;have hes:=h.edgeAt hs hi;rcases(zof hp hkk hk hi).2 with⟨g0,n,g1,g2,g3⟩|⟨g,_⟩
  ·have hstep:=zeA hc f2 hs hi q
   obtain⟨n',t',r1,r2,r3,r4,r5⟩:=zcG v n (E m s i).To.toNat g2 (by omega) (fun j hj=>hv j (by simp [hj])) (g3.trans hstep)
   refine⟨n',t',?_,r2,?_,r4,r5⟩
   ·simp only [aft,jC,g1]
    exact r1
   ·simp only [aft,jC]
    rw [<-Int.toNat_of_nonneg hcs];exact r3
  ·have:=hc _ i f2 hi
   omega
theorem zeY:zla p:=by
 intro t ht;rw [hp.len]at ht;have hkk:kk p=kk m:=by unfold kk;rw [hp.inp]
 have hz:=z68 h hF;obtain⟨f1,f2,_⟩:=hF.at ht;obtain⟨_,v,hv⟩:=hF.acc _ f1;obtain⟨n,u,a,b,c,_,d⟩:=zcG h hc hF hp v 0 0 hz.1 (by have:=h.len1;omega) hv.wd (by rw [hz.2];exact SEq.refl 0)
 have hu:u=F[t]!:=by
  have e:aft m 0 v=(u:Int):=c;rw [hv.aft]at e;omega
 subst hu;have hn:=hF.uniq b ht d;subst hn;exact⟨v,by rw [hkk];exact hv.wd,a⟩
end
section
variable {S:Type}{k:Nat}{bad:S->Nat->Bool}{nx:S->Nat->Option S}
def Lst (k:Nat)(bad:S->Nat->Bool)(nx:S->Nat->Option S)(p:S)(w:List Nat):Prop :=
 z2o k bad nx p w/\∀v,z2o k bad nx p v->w.length<=v.length/\(w.length=v.length->zfZ w v)
theorem z63:∀{w v:List Nat},zfZ w v->zfZ v w->w.length=v.length->w=v
 | [],[],_,_,_=>rfl
 | [],_::_,_,_,h=>by simp at h
 | _::_,[],_,_,h=>by simp at h
 | i::u,j::v,h1,h2,hl=>by
  rcases h1 with a|⟨rfl,a⟩
  ·rcases h2 with b|⟨b,_⟩ <;> omega
  ·rcases h2 with b|⟨_,b⟩
   ·omega
   ·rw [z63 a b (by simpa using hl)]
theorem Lst.uniq {p:S}{w v:List Nat}(h:Lst k bad nx p w)(g:Lst k bad nx p v):w=v:=by
 have a:=h.2 v g.1;have b:=g.2 w h.1;exact z63 (a.2 (by omega)) (b.2 (by omega)) (by omega)
theorem Lst.le {n:Nat}{p:S}  (h:Lst k bad nx p w)(hm:Mk k bad nx n p):w.length<=n:=by
 obtain⟨v,h1,h2⟩:=hm.tell;have:=(h.2 v h1).1;omega
theorem zhU {p:S}  (hi:i<k)(hb:bad p i=true)(hl:∀j,j<i->bad p j=false):Lst k bad nx p [i]:=by
 refine⟨⟨hi,hb⟩,fun v hv=>?_⟩;cases v with
 | nil=>exact hv.elim
 | cons j v=>
  refine⟨by simp,fun e=>?_⟩
  have:v=[]:=by simpa using e.symm
  subst this;rcases Nat.lt_trichotomy i j with q|q|q
  ·exact .inl q
  ·exact .inr ⟨q,trivial⟩
  ·have:=hl j q
   rw [hv.2]at this;cases this
theorem zcy {n:Nat}{p:S}(hn:¬Mk k bad nx (n+1) p){j:Nat}(hj:j<k):bad p j=false:=by
 cases hc:bad p j with
 | false=>rfl
 | true=>exact(hn ((Mk.mono (n:=1) (.inr ⟨j,hj,.inl hc⟩) (by omega)))).elim
theorem zf4 {n:Nat}{p q:S}  {u:List Nat}(hn:¬Mk k bad nx (n+1) p)(hi:i<k)(hq:nx p i=some q)(hu:Lst k bad nx q u)(hul:u.length=n+1)
  (hl:∀j,j<i->∀r,nx p j=some r->¬Mk k bad nx (n+1) r):Lst k bad nx p (i::u):=by
 refine⟨?_,fun v hv=>?_⟩
 ·cases u with
  | nil=>simp at hul
  | cons j u=>exact⟨hi,zcy hn hi,q,hq,hu.1⟩
 ·have hlen:n+2<=v.length:=by
   rcases Nat.lt_or_ge v.length (n+2) with g|g
   ·exact(hn (Mk.mono (Jx hv) (by omega))).elim
   ·exact g
  refine⟨by simp [hul];omega,fun e=>?_⟩
  match v,hv with
  | [],hv=>exact hv.elim
  | [j],hv=>simp [hul]at e
  | j::x::v,⟨hj,hjb,r,hr,hv⟩=>
   have hmj:Mk k bad nx (n+1) r:=Mk.mono (Jx hv) (by simp [hul]at e ⊢;omega)
   rcases Nat.lt_trichotomy i j with g|rfl|g
   ·exact .inl g
   ·rw [hq]at hr
    cases hr;exact .inr ⟨rfl,(hu.2 _ hv).2 (by simpa using e)⟩
   ·exact(hl j g r hr hmj).elim
end
section
variable {m:z6}(h:WM m)
theorem zaT (p:Nat×Nat)(i:Nat):Xd m m (p.2,p.1) i=Xd m m p i:=by
 unfold Xd;exact bne_comm
theorem zhL (p:Nat×Nat)(i:Nat):nxP m m (p.2,p.1) i=(nxP m m p i).map fun q=>(q.2,q.1):=by
 unfold nxP;by_cases e:0<=(E m p.1 i).To/\0<=(E m p.2 i).To
 ·rw [if_pos e,if_pos ⟨e.2,e.1⟩]
  rfl
 ·rw [if_neg e,if_neg fun q=>e ⟨q.2,q.1⟩]
  rfl
theorem z9U:∀{w:List Nat} {p:Nat×Nat},z2o (kk m) (Xd m m) (nxP m m) p w->z2o (kk m) (Xd m m) (nxP m m) (p.2,p.1) w
 | [],_,g=>g.elim
 | [i],p,g=>⟨g.1,by rw [zaT];exact g.2⟩
 | i::j::w,p,⟨hi,hb,q,hq,g⟩=>⟨hi,by rw [zaT];exact hb,(q.2,q.1),by rw [zhL,hq];rfl,z9U g⟩
theorem zf3 {p:Nat×Nat}(g:Lst (kk m) (Xd m m) (nxP m m) p w):Lst (kk m) (Xd m m) (nxP m m) (p.2,p.1) w :=
 ⟨z9U g.1,fun v hv=>g.2 v (z9U hv)⟩
theorem z9y {n:Nat}{p:Nat×Nat}(g:Mk (kk m) (Xd m m) (nxP m m) n p):Mk (kk m) (Xd m m) (nxP m m) n (p.2,p.1):=by
 obtain⟨w,h1,h2⟩:=g.tell;exact(Jx (z9U h1)).mono h2
theorem z7V:∀{w:List Nat} {s:Nat},¬z2o (kk m) (Xd m m) (nxP m m) (s,s) w
 | [],_,g=>g
 | [i],s,g=>by
  have:=g.2;simp [Xd]at this
 | i::j::w,s,⟨_,_,q,hq,g⟩=>by
  unfold nxP at hq;split at hq
  ·cases hq
   exact z7V g
  ·cases hq
theorem zhP {n s:Nat}:¬Mk (kk m) (Xd m m) (nxP m m) n (s,s):=fun g=>by
 obtain⟨w,h1,_⟩:=g.tell;exact z7V h1
theorem z7W:∀{w:List Nat} {p:Nat×Nat},z2o (kk m) (Xd m m) (nxP m m) p w->rsp m (p.1:Int) w≠rsp m (p.2:Int) w
 | [],_,g=>g.elim
 | [i],p,g=>by
  intro e;simp only [rsp,jC,List.cons.injEq,and_true]at e;have:=g.2;simp [Xd,e]at this
 | i::j::w,p,⟨_,_,q,hq,g⟩=>by
  intro e;have ih:=z7W g;have e2:=(List.cons.inj (show(nxE m (p.1:Int) i).Out::rsp m (nxE m (p.1:Int) i).To (j::w)=(nxE m (p.2:Int) i).Out::rsp m (nxE m (p.2:Int) i).To (j::w) from e)).2;rw [jC,jC]at e2;unfold nxP at hq;split at hq
  ·rename_i hc
   cases hq;simp only [Int.toNat_of_nonneg hc.1,Int.toNat_of_nonneg hc.2]at ih;exact ih e2
  ·cases hq
include h
theorem zaf:∀(w:List Nat) (p:Nat×Nat),p.1<m.Rows.length->p.2<m.Rows.length->Wd (kk m) w->rsp m (p.1:Int) w≠rsp m (p.2:Int) w->∃v u,z2o (kk m) (Xd m m) (nxP m m) p v/\w=v++u
 | [],_,_,_,_,q=>(q rfl).elim
 | i::w,p,h1,h2,hw,q=>by
  have hi:=hw i (by simp)
  by_cases hb:Xd m m p i=true
  ·exact⟨[i],w,⟨hi,hb⟩,rfl⟩
  ·have he:(E m p.1 i).Out=(E m p.2 i).Out:=by simpa [Xd] using hb
   simp only [rsp,jC,he,ne_eq,List.cons.injEq,true_and]at q;have a:=h.edgeAt h1 hi;have b:=h.edgeAt h2 hi;by_cases hc:0<=(E m p.1 i).To/\0<=(E m p.2 i).To
   ·have hr:nxP m m p i=some ((E m p.1 i).To.toNat,(E m p.2 i).To.toNat):=by unfold nxP;rw [if_pos hc]
    have hin:=h.nx_in h1 h2 hi hr;obtain⟨v,u,g1,g2⟩:=zaf w _ hin.1 hin.2 (fun j hj=>hw j (by simp [hj])) (by simpa only [Int.toNat_of_nonneg hc.1,Int.toNat_of_nonneg hc.2] using q)
    refine⟨i::v,u,?_,by rw [g2];rfl⟩
    cases v with
    | nil=>exact g1.elim
    | cons j v=>exact⟨hi,by simpa using hb,_,hr,g1⟩
   ·exfalso
    refine q ?_;have e1:(E m p.1 i).To=-1:=by omega
    have e2:(E m p.2 i).To=-1:=by omega
    rw [e1,e2]
end
abbrev TbT:=ArN 64 (ArN 64 (List Int))
def cl (f:TbT)(s t:Nat):List Int:=((f.l[s]?.map fun r=>r.l[t]?.getD [])).getD []
theorem z6d (f:TbT)  (hs:s<64)(ht:t<64):∃r,f.l[s]?=some r/\r.l[t]?=some (cl f s t):=by
 have h1:f.l[s]?=some (f.l[s]'(by rw [f.len];exact hs)):=List.getElem?_eq_getElem (by rw [f.len];exact hs)
 refine⟨_,h1,?_⟩;unfold cl;rw [h1];have h2:(f.l[s]'(by rw [f.len];exact hs)).l[t]?=some _:=List.getElem?_eq_getElem (by rw [ArN.len];exact ht)
 simp only [Option.map_some,Option.getD_some];rw [h2];rfl
def zbs (f:TbT)(s t:Nat)(w:List Int):TbT:=match f.l[s]? with|some r=>ArN.setI f (s:Int) (ArN.setI r (t:Int) w)|none=>f
theorem zdk (f:TbT)  (hs:s<64)(ht:t<64)(w:List Int)(x y:Nat):cl (zbs f s t w) x y=if x=s/\y=t then w else cl f x y:=by
 obtain⟨r,h1,h2⟩:=z6d f hs ht;have hl:s<f.l.length:=by rw [f.len];exact hs
 have hr:t<r.l.length:=by rw [r.len];exact ht
 unfold zbs;rw [h1];simp only [cl,ArN.setI,Int.toNat_natCast,List.getElem?_set];by_cases hx:s=x
 ·subst hx
  rw [if_pos rfl,if_pos hl,h1];simp only [Option.map_some,Option.getD_some,true_and,List.getElem?_set];by_cases hy:t=y
  ·subst hy
   rw [if_pos rfl,if_pos hr,if_pos rfl];rfl
  ·rw [if_neg hy,if_neg (fun e=>hy e.symm)]
 ·rw [if_neg hx,if_neg (fun e=>hx e.1.symm)]
theorem zgH (f:TbT)  (hs:s<64)(ht:t<64)(w:List Int):qE (s:Int) (t:Int) w f=some (zbs (zbs f s t w) t s w):=by
 obtain⟨r,h1,h2⟩:=z6d f hs ht;obtain⟨r',h3,h4⟩:=z6d (zbs f s t w) ht hs;have e1:zbs f s t w=ArN.setI f (s:Int) (ArN.setI r (t:Int) w):=by unfold zbs;rw [h1]
 unfold qE;rw [zH,bdT h1,zH,bdT h2,Option.bind_some,Option.bind_some,<-e1,zH,bdT h3,zH,bdT h4,Option.bind_some,Option.bind_some];unfold zbs;rw [h1];rw [e1]at h3;simp only;rw [h3]
theorem zks (a:Int)(w:List Int)(hw:w.length<=1000):wv [[a],w]=some (a::w):=by
 have e0:idx [[a],w] 0=some [a]:=rfl;have e1:idx [[a],w] 1=some w:=rfl;have w1:w64 1=1:=zS (by omega) (by omega)
 have w2:w64 2=2:=zS (by omega) (by omega)
 have w3:w64 (1+((w.length:Nat):Int))=1+((w.length:Nat):Int):=by rw [zS (by omega) (by omega)]
 have h1:loop (fun s=>zN [[a],w] s.1 s.2) (0,0)=some (1+(w.length:Int)):=by
  refine Zg (step:=fun s=>zN [[a],w] s.1 s.2) (fun i=>match i with|0=>((0:Int),(0:Int))|1=>(1,1)|_=>(1+(w.length:Int),2)) 2 (by omega) (fun i hi=>?_) ?_
  ·match i,hi with
   | 0,_=>
    show zN [[a],w] 0 0=_
    unfold zN;rw [e0];simp [w1]
   | 1,_=>
    show zN [[a],w] 1 1=_
    unfold zN;rw [e1];have:¬(1+((w.length:Nat):Int)<0):=by omega
    simp [this,w2,w3]
  ·show zN [[a],w] _ 2=_
   unfold zN;simp
 have h2:loop (fun s=>zO [[a],w] s.1 s.2) (([]:List Int),0)=some (a::w):=by
  refine Zg (step:=fun s=>zO [[a],w] s.1 s.2) (fun i=>match i with|0=>(([]:List Int),(0:Int))|1=>([a],1)|_=>(a::w,2)) 2 (by omega) (fun i hi=>?_) ?_
  ·match i,hi with
   | 0,_=>
    show zO [[a],w] [] 0=_
    unfold zO;rw [e0];simp [w1,gd]
   | 1,_=>
    show zO [[a],w] [a] 1=_
    unfold zO;rw [e1];have:1+w.length<=4294967296:=by omega
    simp [w2,gd,this]
  ·show zO [[a],w] _ 2=_
   unfold zO;simp
 unfold wv wF xQ wD;rw [bdT h1];have g:(([]:List Int).isEmpty&&(decide (0<1+(w.length:Int))&&decide (1+(w.length:Int)<=1000000)))=true:=by simp;omega
 rw [g,cond_true,Option.bind_some,bdT h2]
theorem zgv (s:List Int)(hs:s.length<=1000):yf s=some s:=by
 unfold yf;rw [gdT ⟨by omega,by omega,by omega,by omega⟩]
 simp
theorem zkr (s:List Int)(hs:s.length<=1000):yG s=some s:=by
 unfold yG;rw [gdT (by simp;omega)]
variable {σ:Type}
theorem zb6 (m:z6)(hN:m.Rows.length<=1000)  (yy:σ->(Int×Int)->Option (σ×Bool))(I:Nat->Nat->σ->Prop)(Q:σ->Prop){sg:σ}(h0:I 0 1 sg)
  (hy:∀(s t:Nat) sg,s<t->t<m.Rows.length->I s t sg->Ret (yy sg ((s:Int),(t:Int))) fun r=>(r.2=true/\I s (t+1) r.1)\/(r.2=false/\Q r.1))
  (hr:∀(s t:Nat) sg,s<m.Rows.length->s<t->m.Rows.length<=t->I s t sg->I (s+1) (s+2) sg) (hq:∀(s t:Nat) sg,m.Rows.length<=s->I s t sg->Q sg):Ret (ue m yy sg) Q:=by
 have hw:∀k:Nat,k<=1000->w64 ((k:Int)+1)=((k+1:Nat):Int):=fun k hk=>by rw [zS (by omega) (by omega)];rfl
 unfold ue;rw [zw];refine Ret.mono (Q:=Q) ?_ fun o ho=>zg.2 ho;refine y4 (fun q=>∃s:Nat,q.2=(s:Int)/\s<=m.Rows.length/\I s (s+1) q.1) (fun q=>2000 - q.2.toNat) ⟨0,rfl,Nat.zero_le _,h0⟩ (by simp) ?_
 rintro⟨g,q⟩ ⟨s,e2,hs,hI⟩;simp only at e2 hI;subst e2;unfold kX;rw [zB];refine⟨fun hc=>?_,fun hc=>?_⟩
 ·have hs':s<m.Rows.length:=by simpa using hc
  rw [zw,hw s (by omega)]
  have inner:Ret (loop (fun q=>uu m yy (s:Int) q.1 q.2) (g,((s+1:Nat):Int))) fun r=>match r with|.inl g'=>∃t:Nat,s<t/\m.Rows.length<=t/\I s t g'|.inr g'=>Q g':=by
   refine y4 (fun q=>∃t:Nat,q.2=(t:Int)/\s<t/\t<=m.Rows.length/\I s t q.1) (fun q=>2000 - q.2.toNat) ⟨s+1,rfl,by omega,by omega,hI⟩ (by simp only;omega) ?_
   rintro⟨g',q⟩ ⟨t,e2,ht1,ht2,hI⟩;simp only at e2 hI;subst e2;unfold uu;rw [zB];refine⟨fun hc=>?_,fun hc=>?_⟩
   ·have ht':t<m.Rows.length:=by simpa using hc
    rw [zw];refine(hy s t g' ht1 ht' hI).mono fun r hr=>?_;rw [zB,hw t (by omega)]
    rcases hr with⟨e,h⟩|⟨e,h⟩
    ·exact⟨fun c=>by simp [e]at c,fun _=>zg.2 ⟨⟨t+1,rfl,by omega,by omega,h⟩,by simp only [Int.toNat_natCast];omega⟩⟩
    ·exact⟨fun _=>zg.2 h,fun c=>by simp [e]at c⟩
   ·have ht':¬t<m.Rows.length:=by simpa using hc
    exact zg.2 ⟨t,ht1,by omega,hI⟩
  refine inner.mono fun r hr'=>?_;cases r with
  | inl p=>
   obtain⟨t,h1,h2,h3⟩:=hr';unfold kY;rw [hw s (by omega)]
   exact zg.2 ⟨⟨s+1,rfl,by omega,hr s t p hs' h1 h2 h3⟩,by simp only [Int.toNat_natCast];omega⟩
  | inr p=>exact zg.2 hr'
 ·have hs':¬s<m.Rows.length:=by simpa using hc
  exact zg.2 (hq s (s+1) g (by omega) hI)
theorem z65 (n:Nat)(hN:n<=1000)  (yy:σ->(Int×Int)->Option (σ×Bool))(I:Nat->Nat->σ->Prop)(Q:σ->Prop){sg:σ}(h0:I 0 1 sg)
  (hy:∀(s t:Nat) sg,s<t->t<n->I s t sg->Ret (yy sg ((s:Int),(t:Int))) fun r=>(r.2=true/\I s (t+1) r.1)\/(r.2=false/\Q r.1))
  (hr:∀(s t:Nat) sg,s<n->s<t->n<=t->I s t sg->I (s+1) (s+2) sg) (hq:∀(s t:Nat) sg,n<=s->I s t sg->Q sg):Ret (yU (n:Int) yy sg) Q:=by
 have hw:∀k:Nat,k<=1000->w64 ((k:Int)+1)=((k+1:Nat):Int):=fun k hk=>by rw [zS (by omega) (by omega)];rfl
 unfold yU;rw [zw];refine Ret.mono (Q:=Q) ?_ fun o ho=>zg.2 ho;refine y4 (fun q=>∃s:Nat,q.2=(s:Int)/\s<=n/\I s (s+1) q.1) (fun q=>2000 - q.2.toNat) ⟨0,rfl,Nat.zero_le _,h0⟩ (by simp) ?_
 rintro⟨g,q⟩ ⟨s,e2,hs,hI⟩;simp only at e2 hI;subst e2;unfold Zl;rw [zB];refine⟨fun hc=>?_,fun hc=>?_⟩
 ·have hs':s<n:=by simpa using hc
  rw [zw,hw s (by omega)]
  have inner:Ret (loop (fun q=>uQ (n:Int) yy (s:Int) q.1 q.2) (g,((s+1:Nat):Int))) fun r=>match r with|.inl g'=>∃t:Nat,s<t/\n<=t/\I s t g'|.inr g'=>Q g':=by
   refine y4 (fun q=>∃t:Nat,q.2=(t:Int)/\s<t/\t<=n/\I s t q.1) (fun q=>2000 - q.2.toNat) ⟨s+1,rfl,by omega,by omega,hI⟩ (by simp only;omega) ?_
   rintro⟨g',q⟩ ⟨t,e2,ht1,ht2,hI⟩;simp only at e2 hI;subst e2;unfold uQ;rw [zB];refine⟨fun hc=>?_,fun hc=>?_⟩
   ·have ht':t<n:=by simpa using hc
    rw [zw];refine(hy s t g' ht1 ht' hI).mono fun r hr=>?_;rw [zB,hw t (by omega)]
    rcases hr with⟨e,h⟩|⟨e,h⟩
    ·exact⟨fun c=>by simp [e]at c,fun _=>zg.2 ⟨⟨t+1,rfl,by omega,by omega,h⟩,by simp only [Int.toNat_natCast];omega⟩⟩
    ·exact⟨fun _=>zg.2 h,fun c=>by simp [e]at c⟩
   ·have ht':¬t<n:=by simpa using hc
    exact zg.2 ⟨t,ht1,by omega,hI⟩
  refine inner.mono fun r hr'=>?_;cases r with
  | inl p=>
   obtain⟨t,h1,h2,h3⟩:=hr';unfold Zm;rw [hw s (by omega)]
   exact zg.2 ⟨⟨s+1,rfl,by omega,hr s t p hs' h1 h2 h3⟩,by simp only [Int.toNat_natCast];omega⟩
  | inr p=>exact zg.2 hr'
 ·have hs':¬s<n:=by simpa using hc
  exact zg.2 (hq s (s+1) g (by omega) hI)
abbrev MkP (m:z6)(n:Nat)(p:Nat×Nat):Prop:=Mk (kk m) (Xd m m) (nxP m m) n p
abbrev zbr (m:z6)(p:Nat×Nat)(w:List Nat):Prop:=Lst (kk m) (Xd m m) (nxP m m) p w
def Tb (m:z6)(r:Nat)(f:TbT):Prop :=
 ∀s t,s<m.Rows.length->t<m.Rows.length->(MkP m r (s,t)->∃w,zbr m (s,t) w/\cl f s t=w.map Int.ofNat)/\(¬MkP m r (s,t)->cl f s t=[])
theorem zhV {r i:Nat}{p q:Nat×Nat}  (hn:¬MkP m r p)(hi:i<kk m)(hb:Xd m m p i=false)(hq:nxP m m p i=some q)(hw:zbr m q w)(hm:MkP m r q):w.length=r:=by
 have h1:=hw.le hm;rcases Nat.lt_or_ge w.length r with g|g
 ·refine(hn ?_).elim
  have ht:z2o (kk m) (Xd m m) (nxP m m) p (i::w):=by
   cases w with
   | nil=>exact hw.1.elim
   | cons j w=>exact⟨hi,hb,q,hq,hw.1⟩
  exact Mk.mono (Jx ht) (by simp only [List.length_cons];omega)
 ·omega
variable {f:TbT}
section
variable {m:z6}(h:VM m)(hc:Cpl m)
include h hc
theorem zet {r s t:Nat}(hf:Tb m r f)(hs:s<m.Rows.length)(ht:t<m.Rows.length)(hr:r<=100)(hn:¬MkP m r (s,t)) :
  Ret (uv m (s:Int) (t:Int) ((r+1:Nat):Int) f) fun o=>o.2=f/\(MkP m (r+1) (s,t)->∃w,w.length=r+1/\zbr m (s,t) w/\o.1=w.map Int.ofNat)/\(¬MkP m (r+1) (s,t)->o.1=[]):=by
 have hl:=h.len64;have hk:=h.kk_le;obtain⟨row,r1,r2,r3⟩:=h.rowAt hs;obtain⟨row',q1,q2,q3⟩:=h.rowAt ht;unfold uv;rw [zH,bdT r1,zw];have main:Ret (loop (fun x=>wS m (t:Int) ((r+1:Nat):Int) f row x) 0) fun out=>(MkP m (r+1) (s,t)/\∃w,w.length=r+1/\zbr m (s,t) w/\out=w.map Int.ofNat)\/(¬MkP m (r+1) (s,t)/\out=[]):=by
  refine y4 (fun x=>∃i:Nat,x=(i:Int)/\i<=kk m/\∀j,j<i->Xd m m (s,t) j=false/\∀q,nxP m m (s,t) j=some q->¬MkP m r q) (fun x=>100 - x.toNat) ⟨0,rfl,Nat.zero_le _,fun j hj=>by omega⟩ (by simp) ?_
  rintro x ⟨i,rfl,hi,hj⟩;unfold wS xW;rw [zB,r2];refine⟨fun c=>?_,fun c=>?_⟩
  ·have hi':i<kk m:=by simpa using c
   have ew:w64 ((i:Int)+1)=((i+1:Nat):Int):=by rw [zS (by omega) (by omega)];rfl
   have en:w64 (((r+1:Nat):Int) - 1)=(r:Int):=by rw [zS (by omega) (by omega)];omega
   have step:Xd m m (s,t) i=false->(∀q,nxP m m (s,t) i=some q->¬MkP m r q)->Ret (some (.next (w64 ((i:Int)+1))):Option (LR Int (List Int))) (LRP (fun s'=>(∃i:Nat,s'=(i:Int)/\i<=kk m/\∀j,j<i->Xd m m (s,t) j=false/\∀q,nxP m m (s,t) j=some q->¬MkP m r q)/\100 - s'.toNat<100 - (i:Int).toNat) fun out=>(MkP m (r+1) (s,t)/\∃w,w.length=r+1/\zbr m (s,t) w/\out=w.map Int.ofNat)\/(¬MkP m (r+1) (s,t)/\out=[])):=by
    intro g1 g2;rw [ew];refine zg.2 ⟨⟨i+1,rfl,hi',fun j hj'=>?_⟩,by simp only [Int.toNat_natCast];omega⟩
    rcases Nat.lt_or_ge j i with q|q
    ·exact hj j q
    ·have:j=i:=by omega
     subst this;exact⟨g1,g2⟩
   rw [zH,bdT (r3 i hi'),zH,bdT q1,zH,bdT (q3 i hi'),zB];refine⟨fun c1=>?_,fun c1=>?_⟩
   ·have hb:Xd m m (s,t) i=true:=c1
    have h0:r=0:=by
     cases r with
     | zero=>rfl
     | succ r=>rw [zcy hn hi']at hb;cases hb
    subst h0;exact zg.2 (.inl ⟨.inr ⟨i,hi',.inl hb⟩,[i],rfl,zhU hi' hb fun j hj'=>(hj j hj').1,rfl⟩)
   ·have hb:Xd m m (s,t) i=false:=c1
    rw [zB];refine⟨fun c2=>?_,fun c2=>?_⟩
    ·have hr1:1<=r:=by
      have:(1:Int)<((r+1:Nat):Int):=by simpa using c2
      omega
     have a0:=hc s i hs hi';have b0:=hc t i ht hi';have a1:=h.edgeAt hs hi';have b1:=h.edgeAt ht hi';obtain⟨a,ha⟩:∃a:Nat,(E m s i).To=a:=⟨(E m s i).To.toNat,by omega⟩
     obtain⟨b,hb'⟩:∃b:Nat,(E m t i).To=b:=⟨(E m t i).To.toNat,by omega⟩
     have hal:a<m.Rows.length:=by omega
     have hbl:b<m.Rows.length:=by omega
     have hnx:nxP m m (s,t) i=some (a,b):=by
      unfold nxP;rw [if_pos ⟨a0,b0⟩];simp [ha,hb']
     rw [zB];refine⟨fun c3=>?_,fun c3=>absurd (show(E m s i).To=-1 by simpa using c3) (by omega)⟩
     obtain⟨g,g1,g2⟩:=z6d f (show a<64 by omega) (show b<64 by omega)
     rw [ha,hb',zH,bdT g1,zH,bdT g2,en,zB];have hab:=hf a b hal hbl;by_cases hm:MkP m r (a,b)
     ·obtain⟨w,w1,w2⟩:=hab.1 hm
      have hwl:=zhV hn hi' hb hnx w1 hm;refine⟨fun c4=>?_,fun c4=>?_⟩
      ·rw [bdT g1,zH,bdT g2,w2,bdT (zks _ _ (by simp;omega))]
       refine zg.2 (.inl ⟨.inr ⟨i,hi',.inr ⟨_,hnx,hm⟩⟩,i::w,by simp [hwl],?_,rfl⟩)
       obtain⟨r',rfl⟩:∃r',r=r' + 1:=⟨r - 1,by omega⟩
       exact zf4 hn hi' hnx w1 hwl fun j hj' q hq=>(hj j hj').2 q hq
      ·rw [w2]at c4
       simp [hwl]at c4
     ·rw [hab.2 hm]
      refine⟨fun c4=>?_,fun c4=>step hb fun q hq=>?_⟩
      ·have:((([]:List Int).length:Nat):Int)=(r:Int):=by simpa using c4
       simp at this;omega
      ·rw [hnx]at hq
       cases hq;exact hm
    ·have h0:r=0:=by
      have:¬(1:Int)<((r+1:Nat):Int):=by simpa using c2
      omega
     subst h0;exact step hb fun q hq g=>g
  ·have hi':i=kk m:=by
    have:¬i<kk m:=by simpa using c
    omega
   subst hi';refine zg.2 (.inr ⟨fun g=>?_,rfl⟩);rcases g with g|⟨i,gi,g|⟨q,gq,g⟩⟩
   ·exact hn g
   ·rw [(hj i gi).1]at g
    cases g
   ·exact(hj i gi).2 q gq g
 refine main.mono fun out ho=>?_;unfold uq;rcases ho with⟨o1,w,o2,o3,rfl⟩|⟨o1,rfl⟩
 ·rw [zB]
  refine⟨fun c=>by simp [o2]at c,fun _=>?_⟩
  rw [bdT (zgv _ (by simp;omega)),Ws]
  refine⟨fun e=>?_,zg.2 ⟨rfl,fun _=>⟨w,o2,o3,rfl⟩,fun g=>(g o1).elim⟩⟩;have:w=[]:=by simpa using e
  subst this;simp at o2
 ·rw [zB]
  refine⟨fun _=>zg.2 ⟨rfl,fun g=>(o1 g).elim,fun _=>rfl⟩,fun c=>?_⟩;have:((([]:List Int).length:Nat):Int)=((r+1:Nat):Int):=by simpa using c
  simp at this;omega
omit hc in
theorem Tb.zero:Tb m 0 (ArN.rep 64 (ArN.rep 64 [])):=by
 have hl:=h.len64;intro s t hs ht;refine⟨fun g=>g.elim,fun _=>?_⟩;unfold cl;have h1:s<64:=by omega
 have h2:t<64:=by omega
 rw [show(ArN.rep 64 (ArN.rep 64 ([]:List Int))).l=List.replicate 64 (ArN.rep 64 []) from rfl,List.getElem?_replicate,if_pos h1];simp only [Option.map_some,Option.getD_some];rw [show(ArN.rep 64 ([]:List Int)).l=List.replicate 64 [] from rfl,List.getElem?_replicate,if_pos h2];rfl
structure Now (m:z6)(r:Nat)(P:Nat->Nat->Prop)(now:List zF):Prop where
 ok:∀x∈now,∃a b w,a<m.Rows.length/\b<m.Rows.length/\x.S=(a:Int)/\x.T=(b:Int)/\x.Word=w.map Int.ofNat/\zbr m (a,b) w/\MkP m (r+1) (a,b)
 all:∀a b,P a b->a<b->b<m.Rows.length->¬MkP m r (a,b)->MkP m (r+1) (a,b)->∃x∈now,x.S=(a:Int)/\x.T=(b:Int)
theorem zce {r:Nat}(hf:Tb m r f)(hr:r<=100) :
  Ret (ue m (yOf (fun s x=>xH m ((r+1:Nat):Int) s.1 s.2 x.1 x.2)) (.next (f,([]:List zF)))) fun o=>∃now,o=.next (f,now)/\Now m r (fun _ _=>True) now/\now.length<=5000:=by
 have hl:=h.len64;refine zb6 m (by omega) _ (fun s t o=>∃now,o=.next (f,now)/\Now m r (fun a b=>a<s\/(a=s/\b<t)) now/\now.length<=64*s+t/\t<=66/\s<=64) _ ⟨[],rfl,⟨fun x hx=>by simp at hx,fun a b q=>by omega⟩,by simp,by omega,by omega⟩ ?_ ?_ ?_
 ·rintro s t o hst ht ⟨now,rfl,hn,hnl,_⟩
  have hs:s<m.Rows.length:=by omega
  obtain⟨g,g1,g2⟩:=z6d f (show s<64 by omega) (show t<64 by omega)
  have hst':=hf s t hs ht;have keep:(¬MkP m r (s,t)->¬MkP m (r+1) (s,t))->Now m r (fun a b=>a<s\/(a=s/\b<t+1)) now:=fun q=>⟨hn.ok,fun a b hab h1 h2 h3 h4=>by
   rcases hab with e|⟨e,e2⟩
   ·exact hn.all a b (.inl e) h1 h2 h3 h4
   ·rcases Nat.lt_or_ge b t with e3|e3
    ·exact hn.all a b (.inr ⟨e,e3⟩) h1 h2 h3 h4
    ·have:b=t:=by omega
     subst this;subst e;exact(q h3 h4).elim⟩
  have main:Ret (xH m ((r+1:Nat):Int) f now (s:Int) (t:Int)) fun o=>∃now',o=.next (f,now')/\Now m r (fun a b=>a<s\/(a=s/\b<t+1)) now'/\now'.length<=now.length+1:=by
   unfold xH;rw [zH,bdT g1,zH,bdT g2,zB];refine⟨fun c=>?_,fun c=>?_⟩
   ·refine zg.2 ⟨now,rfl,keep fun q=>?_,by omega⟩
    rw [hst'.2 q]at c;simp at c
   ·have hno:¬MkP m r (s,t):=fun q=>by
     obtain⟨w,w1,w2⟩:=hst'.1 q;rw [w2]at c;cases w with
     | nil=>exact w1.1
     | cons i w=>simp at c
    rw [zw];refine(zet h hc hf hs ht hr hno).mono fun o ho=>?_;obtain⟨o1,o2,o3⟩:=ho;rw [zB];refine⟨fun c=>?_,fun c=>?_⟩
    ·by_cases hm:MkP m (r+1) (s,t)
     ·obtain⟨w,w1,w2,w3⟩:=o2 hm
      rw [Ws,o1];refine⟨by simp;omega,zg.2 ⟨_,rfl,⟨fun x hx=>?_,fun a b hab h1 h2 h3 h4=>?_⟩,by simp⟩⟩
      ·rcases List.mem_append.1 hx with hx|hx
       ·exact hn.ok x hx
       ·rw [List.mem_singleton.1 hx]
        exact⟨s,t,w,hs,ht,rfl,rfl,w3,w2,hm⟩
      ·by_cases e:a=s/\b=t
       ·exact⟨_,List.mem_append.2 (.inr (List.mem_singleton.2 rfl)),by rw [e.1],by rw [e.2]⟩
       ·obtain⟨x,x1,x2⟩:=hn.all a b (by omega) h1 h2 h3 h4
        exact⟨x,List.mem_append.2 (.inl x1),x2⟩
     ·rw [o3 hm]at c
      simp at c
    ·rw [o1]
     refine zg.2 ⟨now,rfl,keep fun _ q=>?_,by omega⟩
     obtain⟨w,w1,w2,w3⟩:=o2 q;rw [w3]at c;cases w with
     | nil=>simp at w1
     | cons i w=>simp at c
  obtain⟨o,e,now',rfl,q1,q2⟩:=main;refine⟨(.next (f,now'),true),?_,.inl ⟨rfl,now',rfl,q1,by omega,by omega,by omega⟩⟩
  simp only [yOf];rw [e]
 ·rintro s t o hs hst ht ⟨now,rfl,hn,hnl,_⟩
  refine⟨now,rfl,⟨hn.ok,fun a b hab h1 h2 h3 h4=>hn.all a b (by omega) h1 h2 h3 h4⟩,by omega,by omega,by omega⟩
 ·rintro s t o hs ⟨now,rfl,hn,hnl,_⟩
  refine⟨now,rfl,⟨hn.ok,fun a b _ h1 h2 h3 h4=>hn.all a b (by omega) h1 h2 h3 h4⟩,by omega⟩
omit hc in
theorem zeT {r:Nat}(hf:Tb m r f){now:List zF}(hn:Now m r (fun _ _=>True) now)(hl5:now.length<=5000) :
  Ret (loop (fun s=>vd now s.1 s.2) (f,0)) fun f'=>Tb m (r+1) f':=by
 have hl:=h.len64
 let G:TbT->Nat->Nat->Prop:=fun g a b=>∃w,zbr m (a,b) w/\cl g a b=w.map Int.ofNat;have hw:∀k:Nat,k<=5000->w64 ((k:Int)+1)=((k+1:Nat):Int):=fun k hk=>by rw [zS (by omega) (by omega)];rfl
 refine y4 (fun q=>∃k:Nat,q.2=(k:Int)/\k<=now.length/\(∀a b,a<m.Rows.length->b<m.Rows.length->(G q.1 a b/\MkP m (r+1) (a,b))\/cl q.1 a b=cl f a b) /\
  ∀(j:Nat) x (a b:Nat),j<k->now[j]?=some x->x.S=(a:Int)->x.T=(b:Int)->G q.1 a b/\G q.1 b a) (fun q=>10000 - q.2.toNat) ⟨0,rfl,Nat.zero_le _,fun a b _ _=>.inr rfl,fun j x a b hj=>by omega⟩ (by simp) ?_
 rintro⟨g,q⟩ ⟨k,e2,hk,j1,j2⟩;simp only at e2 j1 j2;subst e2;unfold vd;rw [zB];refine⟨fun c=>?_,fun c=>?_⟩
 ·have hk':k<now.length:=by simpa using c
  have hx:now[k]?=some now[k]:=List.getElem?_eq_getElem hk';obtain⟨a,b,w,q1,q2,q3,q4,q5,q6,q7⟩:=hn.ok _ (List.getElem_mem hk');have a64:a<64:=by omega
  have b64:b<64:=by omega
  rw [zH,bdT hx,q3,q4,q5,bdT (zgH g a64 b64 _),hw k (by omega)]
  have hcl:∀x y,cl (zbs (zbs g a b (w.map Int.ofNat)) b a (w.map Int.ofNat)) x y=if x=b/\y=a then w.map Int.ofNat else if x=a/\y=b then w.map Int.ofNat else cl g x y:=fun x y=>by
   rw [zdk _ b64 a64,zdk _ a64 b64]
  have hG:∀x y,G g x y\/(x=a/\y=b)\/(x=b/\y=a)->G (zbs (zbs g a b (w.map Int.ofNat)) b a (w.map Int.ofNat)) x y:=by
   intro x y hxy;by_cases e1:x=b/\y=a
   ·obtain⟨rfl,rfl⟩:=e1
    exact⟨w,zf3 q6,by rw [hcl,if_pos ⟨rfl,rfl⟩]⟩
   ·by_cases e2:x=a/\y=b
    ·obtain⟨rfl,rfl⟩:=e2
     exact⟨w,q6,by rw [hcl,if_neg e1,if_pos ⟨rfl,rfl⟩]⟩
    ·rcases hxy with⟨v,v1,v2⟩|g|g
     ·exact⟨v,v1,by rw [hcl,if_neg e1,if_neg e2];exact v2⟩
     ·exact(e2 g).elim
     ·exact(e1 g).elim
  refine zg.2 ⟨⟨k+1,rfl,hk',fun x y hx hy=>?_,fun j z x y hj hz z1 z2=>?_⟩,by simp only [Int.toNat_natCast];omega⟩
  ·by_cases e1:x=b/\y=a
   ·refine .inl ⟨hG x y (.inr (.inr e1)),?_⟩
    obtain⟨rfl,rfl⟩:=e1;exact z9y q7
   ·by_cases e2:x=a/\y=b
    ·refine .inl ⟨hG x y (.inr (.inl e2)),?_⟩
     obtain⟨rfl,rfl⟩:=e2;exact q7
    ·rcases j1 x y hx hy with⟨g1,g2⟩|g1
     ·exact .inl ⟨hG x y (.inl g1),g2⟩
     ·exact .inr (by rw [hcl,if_neg e1,if_neg e2];exact g1)
  ·rcases Nat.lt_or_ge j k with hjk|hjk
   ·obtain⟨g1,g2⟩:=j2 j z x y hjk hz z1 z2
    exact⟨hG x y (.inl g1),hG y x (.inl g2)⟩
   ·have:j=k:=by omega
    subst this;rw [hx]at hz;cases hz;rw [q3]at z1;rw [q4]at z2;have e1:x=a:=by omega
    have e2:y=b:=by omega
    exact⟨hG x y (.inr (.inl ⟨e1,e2⟩)),hG y x (.inr (.inr ⟨e2,e1⟩))⟩
 ·have hk':k=now.length:=by
   have:¬k<now.length:=by simpa using c
   omega
  subst hk';refine zg.2 fun s t hs ht=>⟨fun hm=>?_,fun hm=>?_⟩
  ·by_cases hmr:MkP m r (s,t)
   ·rcases j1 s t hs ht with⟨g1,_⟩|g1
    ·exact g1
    ·obtain⟨w,w1,w2⟩:=(hf s t hs ht).1 hmr
     exact⟨w,w1,by rw [g1];exact w2⟩
   ·rcases Nat.lt_trichotomy s t with g|g|g
    ·obtain⟨x,x1,x2,x3⟩:=hn.all s t trivial g ht hmr hm
     obtain⟨j,hj⟩:=List.mem_iff_getElem?.1 x1;exact(j2 j x s t (List.getElem?_eq_some_iff.1 hj).1 hj x2 x3).1
    ·subst g
     exact(zhP hm).elim
    ·obtain⟨x,x1,x2,x3⟩:=hn.all t s trivial g hs (fun q=>hmr (z9y q)) (z9y hm)
     obtain⟨j,hj⟩:=List.mem_iff_getElem?.1 x1;exact(j2 j x t s (List.getElem?_eq_some_iff.1 hj).1 hj x2 x3).2
  ·rcases j1 s t hs ht with⟨_,g1⟩|g1
   ·exact(hm g1).elim
   ·rw [g1]
    exact(hf s t hs ht).2 fun q=>hm (q.mono (by omega))
omit h hc in
theorem zk4 {n:Nat}:mx (n:Int) 2=((if n<2 then 2 else n:Nat):Int):=by
 unfold mx;by_cases e:n<2
 ·rw [if_pos (by omega),if_pos e];rfl
 ·rw [if_neg (by omega),if_neg e]
theorem z15:Ret (qD m) fun f=>∀s t,s<m.Rows.length->t<m.Rows.length->(∃w,zbr m (s,t) w/\cl f s t=w.map Int.ofNat)\/((∀w,¬z2o (kk m) (Xd m m) (nxP m m) (s,t) w)/\cl f s t=[]):=by
 have hl:=h.len64;have hl1:=h.len1;unfold qD;rw [zw];refine Ret.mono (Q:=fun f=>∃r,m.Rows.length<=r+1/\Tb m r f) ?_ fun f hf=>?_
 ·refine y4 (fun q=>∃r:Nat,q.2=((r+1:Nat):Int)/\r<=64/\Tb m r q.1) (fun q=>100 - q.2.toNat) ⟨0,rfl,by omega,Tb.zero h⟩ (by simp) ?_
  rintro⟨f,q⟩ ⟨r,e2,hr,hf⟩;simp only at e2 hf;subst e2;unfold q9 Uo;rw [zB,Option.bind_some,zk4];refine⟨fun c=>?_,fun c=>?_⟩
  ·have hr':r+1<(if m.Rows.length<2 then 2 else m.Rows.length):=by
    have:=of_decide_eq_true c;omega
   rw [zw];refine(zce h hc hf (by omega)).mono fun o ho=>?_
   obtain⟨now,rfl,hn,hnl⟩:=ho;unfold qa qb;simp only;rw [zw];refine(zeT h hf hn hnl).mono fun f' hf'=>?_;have e:w64 (((r+1:Nat):Int)+1)=((r+1+1:Nat):Int):=by rw [zS (by omega) (by omega)];rfl
   rw [e];have:r+1<64:=by
    split at hr' <;> omega
   exact zg.2 ⟨⟨r+1,rfl,by omega,hf'⟩,by simp only [Int.toNat_natCast];omega⟩
  ·refine zg.2 ⟨r,?_,hf⟩
   have hr':¬r+1<(if m.Rows.length<2 then 2 else m.Rows.length):=by
    intro g;have:=of_decide_eq_false c;omega
   split at hr' <;> omega
 ·obtain⟨r,hr,hf⟩:=hf
  unfold qd;refine zg.2 fun s t hs ht=>?_;by_cases hm:MkP m r (s,t)
  ·exact .inl ((hf s t hs ht).1 hm)
  ·refine .inr ⟨fun w hw=>hm ?_,(hf s t hs ht).2 hm⟩
   exact(z3E h.wm hs ht (Jx hw)).mono (by omega)
end
open Classical in
noncomputable def lw (m:z6)(s t:Nat):List Nat:=if h:∃w,zbr m (s,t) w then Classical.choose h else []
theorem znl (h:zbr m (s,t) w):lw m s t=w:=by
 have hx:∃w,zbr m (s,t) w:=⟨w,h⟩;unfold lw;rw [dif_pos hx];exact(Classical.choose_spec hx).uniq h
noncomputable abbrev lwI (m:z6)(s t:Nat):List Int:=(lw m s t).map Int.ofNat
def Wx (m:z6)(P D:Nat->Nat->Prop)(out:List (List Int)):Prop:=∀x,x∈out↔∃a b,a<b/\b<m.Rows.length/\D a b/\P a b/\x=lwI m a b
variable {out:List (List Int)}{P D D':Nat->Nat->Prop}
theorem Wx.add (h:Wx m P D out)  (hst:s<t)(ht:t<m.Rows.length)(hD:∀a b,D' a b↔D a b\/(a=s/\b=t))(hP:P s t):Wx m P D' (out++[lwI m s t]):=by
 intro x;rw [List.mem_append,h x,List.mem_singleton];constructor
 ·rintro(⟨a,b,h1,h2,h3,h4⟩|rfl)
  ·exact⟨a,b,h1,h2,(hD a b).2 (.inl h3),h4⟩
  ·exact⟨s,t,hst,ht,(hD s t).2 (.inr ⟨rfl,rfl⟩),hP,rfl⟩
 ·rintro⟨a,b,h1,h2,h3,h4,h5⟩
  rcases(hD a b).1 h3 with g|⟨rfl,rfl⟩
  ·exact .inl ⟨a,b,h1,h2,g,h4,h5⟩
  ·exact .inr h5
theorem Wx.congr (h:Wx m P D out)(hD:∀a b,a<b->b<m.Rows.length->(D' a b↔D a b)):Wx m P D' out:=by
 intro x;rw [h x];constructor
 ·rintro⟨a,b,h1,h2,h3,h4⟩
  exact⟨a,b,h1,h2,(hD a b h1 h2).2 h3,h4⟩
 ·rintro⟨a,b,h1,h2,h3,h4⟩
  exact⟨a,b,h1,h2,(hD a b h1 h2).1 h3,h4⟩
section
variable {m:z6}(h:VM m)(hc:Cpl m)(hd:ziQ m)
include h
theorem zbM (hs:s<m.Rows.length)(ht:t<m.Rows.length):XM m [(s:Int),(t:Int)]=some 0:=by
 have st:∀x:Nat,x<m.Rows.length->Zy (x:Int) m=some false:=fun x hx=>by
  unfold Zy;have e1:¬((x:Int)<0):=by omega
  have e2:¬((x:Int)>=((m.Rows.length:Nat):Int)):=by omega
  rw [decide_eq_false e1,cond_false,decide_eq_false e2]
 have hi:yI [(s:Int),(t:Int)] m=some (-1):=by
  unfold yI;have:=vz [(s:Int),(t:Int)] (by simp) (step:=fun x=>y7 [(s:Int),(t:Int)] m x) (fun _ _=>(none:Option Int)) (fun i x hx=>by
   unfold y7;have hlt:=(List.getElem?_eq_some_iff.1 hx).1;have hxm:∃k:Nat,x=(k:Int)/\k<m.Rows.length:=by
    rcases List.mem_cons.1 (List.mem_of_getElem? hx) with e|e
    ·exact⟨s,e,hs⟩
    ·exact⟨t,by simpa using e,ht⟩
   obtain⟨k,rfl,hk⟩:=hxm;have hlt':(i:Int)<((([(s:Int),(t:Int)]:List Int).length:Nat):Int):=by omega
   rw [decide_eq_true hlt',cond_true,zH,bdT hx,bdT (st k hk),cond_false];rfl) (by
   unfold y7;rw [decide_eq_false (by omega),cond_false])
  rw [bdT this];rfl
 unfold XM yY;rw [bdT (Kq m),z6e h,bdT hi];rfl
include hc
theorem zl8 (hs:s<m.Rows.length)(ht:t<m.Rows.length)  (hw:zbr m (s,t) w):uw m (s:Int) (t:Int)=some (w.map Int.ofNat,true,0):=by
 have hl:=h.len64;have hwl:w.length<=64:=by have:=hw.le (z3E h.wm hs ht (Jx hw.1));omega
 unfold uw;rw [bdT (zbM h hs ht)];obtain⟨f,f1,f2⟩:=z15 h hc;have hcl:cl f s t=w.map Int.ofNat:=by
  rcases f2 s t hs ht with⟨v,v1,v2⟩|⟨v1,_⟩
  ·rw [v2,v1.uniq hw]
  ·exact(v1 w hw.1).elim
 obtain⟨g,g1,g2⟩:=z6d f (show s<64 by omega) (show t<64 by omega)
 rw [show((0:Int) != 0)=false from rfl,cond_false,bdT f1,zH,bdT g1,zH,bdT g2,hcl,bdT (zkr _ (by simp;omega)),bdT (zgv _ (by simp;omega))]
 have hw1:0<w.length:=by
  cases w with
  | nil=>exact hw.1.elim
  | cons i w=>simp
 have:decide ((((w.map Int.ofNat).length:Nat):Int) > 0)=true:=decide_eq_true (by simp only [List.length_map];omega)
 rw [this]
include hd
theorem zcJ (hs:s<m.Rows.length)(ht:t<m.Rows.length)(hst:s≠t):zbr m (s,t) (lw m s t):=by
 obtain⟨f,f1,f2⟩:=z15 h hc;rcases f2 s t hs ht with⟨w,w1,_⟩|⟨w1,_⟩
 ·rw [znl w1]
  exact w1
 ·exfalso
  refine hst (hd s t hs ht fun w hw=>?_);refine Classical.byContradiction fun hne=>?_;obtain⟨v,u,g,_⟩:=zaf h.wm w (s,t) hs ht hw hne;exact w1 v g
theorem zgm (hs:s<m.Rows.length)(ht:t<m.Rows.length)(hst:s≠t):(lw m s t).length+1<=m.Rows.length:=by
 have hw:=zcJ h hc hd hs ht hst;have:=hw.le (z3E h.wm hs ht (Jx hw.1));have:=h.len1;omega
theorem Wx.len {P D:Nat->Nat->Prop}  (hx:Wx m P D out)  (q:x∈out):x.length+1<=m.Rows.length/\∀c∈x,0<=c/\c<m.Inputs:=by
 obtain⟨a,b,h1,h2,_,_,rfl⟩:=(hx x).1 q;refine⟨by simpa using zgm h hc hd (show a<m.Rows.length by omega) h2 (by omega),fun c hcx=>?_⟩
 obtain⟨i,hi,rfl⟩:=List.mem_map.1 hcx;have:=z97 (zcJ h hc hd (show a<m.Rows.length by omega) h2 (by omega)).1 i hi
 have hke:=h.kk_eq
 show 0<=(i:Int)/\(i:Int)<m.Inputs
 omega
theorem zeq {P D:Nat->Nat->Prop}  (hx:Wx m P D out)(hN:m.Rows.length<=30)(hl:out.length<=1000):WQ out m.Inputs=some (srt out,0):=by
 have hlen:=fun(x:List Int) (q:x∈out)=>hx.len h hc hd q;have h0:loE m.Inputs out=0:=z1a.2 ⟨⟨h.in1,h.in16⟩,by omega,fun w hw=>⟨by have:=(hlen w hw).1;omega,(hlen w hw).2⟩⟩
 unfold WQ;rw [bdT (zaw _ _),h0,bdT (za3 (by omega) fun w hw=>by have:=(hlen w hw).1;omega)]
 have hs:=z9b out;have hy:=z43 (l:=srt out) (m:=30) fun w hw=>by have:=(hlen w (z2b.1 hw)).1;omega
 have:¬(4096<(srt out).length\/65536<QQ (srt out)):=by
  intro g;rcases g with g|g
  ·omega
  ·have:(srt out).length*30<=1000*30:=Nat.mul_le_mul_right _ (by omega)
   omega
 unfold soR;rw [if_neg this];rfl
theorem zbF (hN:m.Rows.length<=30):Ret (XT m ()) fun o=>∃out,Wx m (fun _ _=>True) (fun _ _=>True) out/\out.length<=1000/\o=(srt out,0):=by
 unfold XT uY;rw [Option.bind_some,zw];refine Ret.mono (Q:=fun o=>∃out,o=.next ((0:Int),out)/\Wx m (fun _ _=>True) (fun _ _=>True) out/\out.length<=1000) ?_ fun o ho=>?_
 ·refine z65 m.Rows.length (by omega) _ (fun s t o=>∃out,o=.next ((0:Int),out)/\Wx m (fun _ _=>True) (fun a b=>a<s\/(a=s/\b<t)) out/\out.length<=30*s+t/\s<=30/\t<=32) _ ⟨[],rfl,fun x=>?_,by simp,by omega,by omega⟩ ?_ ?_ ?_
  ·constructor
   ·intro q;simp at q
   ·rintro⟨a,b,h1,h2,h3,_⟩;omega
  ·rintro s t o hst ht ⟨out,rfl,ho,hl,h1,h2⟩
   have hw:=zcJ h hc hd (show s<m.Rows.length by omega) ht (by omega)
   have e:uP m 0 out (s:Int) (t:Int)=some (.next (0,out++[lwI m s t])):=by
    unfold uP Uy;rw [Option.bind_some,show(!true)=false from rfl,cond_false,bdT (zl8 h hc (show s<m.Rows.length by omega) ht hw),show((0:Int) != 0)=false from rfl,cond_false,gdT (by simp;omega)]
   refine⟨(.next (0,out++[lwI m s t]),true),?_,.inl ⟨rfl,_,rfl,ho.add hst ht (fun a b=>by omega) trivial,by simp;omega,by omega,by omega⟩⟩
   simp only [yOf];rw [e]
  ·rintro s t o hs hst ht ⟨out,rfl,ho,hl,h1,h2⟩
   exact⟨out,rfl,ho.congr fun a b _ _=>by omega,by omega,by omega,by omega⟩
  ·rintro s t o hs ⟨out,rfl,ho,hl,h1,h2⟩
   exact⟨out,rfl,ho.congr fun a b _ _=>by simp;omega,by omega⟩
 ·obtain⟨out,rfl,h1,h2⟩:=ho
  unfold YT;simp only;rw [bdT (zeq h hc hd h1 hN h2)];exact zg.2 ⟨out,h1,h2,rfl⟩
end
structure KM (m:z6):Prop where
 vm:VM m
 cpl:Cpl m
 dist:ziQ m
 rall:zla m
 inp:m.Inputs<=4
 len:m.Rows.length<=6
theorem KM.proper (h:KM m):xZ m=some 0:=by
 obtain⟨e,e1,e2⟩:=zbd h.vm;rw [e1,e2.uniq (.inr (.inr (.inr ⟨rfl,h.cpl,h.rall,h.dist⟩)))]
theorem zoc {x:ub}(h:zmP x.C):Ret (Q5 x) KM:=by
 unfold Q5;rw [gdT (by decide),zw]
 have h':zmP (zD.mk (Int.tmod x.C.States 5) x.C.Inputs x.C.Outputs x.C.Tree x.C.Edges):=⟨Int.tmod_nonneg _ h.s0,h.i0,h.o0,h.t0,h.e0⟩;refine(zhJ h').mono fun m hm=>?_;obtain⟨h1,h2,h3,h4,h5⟩:=hm;have k1:=h1.kk_pos;have k2:=h1.kk_eq;have hG:GG (kk m) m.Rows.length<=1000000000:=by
  have e:kk m=1\/kk m=2\/kk m=3:=by omega
  have hm:GG (kk m) m.Rows.length<=GG (kk m) 8:=z7y (by omega)
  rcases e with e|e|e <;> rw [e]at hm ⊢ <;> exact Nat.le_trans hm (by decide)
 rw [zw];refine(z9z h1 hG).mono fun p hp=>?_;obtain⟨F,hF,hp⟩:=hp;have hc:Cpl m:=h4;have hl:=hF.len;exact zg.2 ⟨zk7 h1 hc hF hp,zhQ hc hF hp,zeZ hF hp,zeY h1 hc hF hp,by rw [hp.inp];omega,by rw [hp.len];omega⟩
theorem z8t:Qx=some true:=by kernel_rfl
end Go.Own
