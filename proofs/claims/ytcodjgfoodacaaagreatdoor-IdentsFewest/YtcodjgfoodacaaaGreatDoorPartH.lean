/- -/
import Derived.Test.YtcodjgfoodacaaaGreatDoorPartG
import Derived.Test.YtcodjgfoodacaaaGreatDoorPartE
set_option linter.unusedVariables false
set_option linter.unusedSimpArgs false
namespace Go.Own
theorem oB {α:Type _}{β:Type _}(a:α)(f:α->Option β):Option.bind (some a) f=f a:=rfl
structure WM (m:z6):Prop where
 in1:1<=m.Inputs
 in16:m.Inputs<=16
 len1:1<=m.Rows.length
 len:m.Rows.length<=128
 row:∀r∈m.Rows,(r.length:Int)=m.Inputs
 edge:∀r∈m.Rows,∀x∈r,(x.To=-1/\x.Out=-1)\/(0<=x.To/\x.To<(m.Rows.length:Int)/\0<=x.Out)
variable {m:z6}
theorem VM.wm (h:VM m):WM m:=⟨h.in1,h.in16,h.len1,by have:=h.len64;omega,h.row,λr hr x hx=>by
 rcases h.edge r hr x hx with g|⟨g1,g2,g3,_⟩
 ·exact .inl g
 ·exact .inr ⟨g1,g2,g3⟩⟩
variable {s:Nat}{i:Nat}{β:Type}
section
variable {m:z6}(h:WM m)
include h
theorem WM.kk_eq:((kk m:Nat):Int)=m.Inputs:=by have:=h.in1;unfold kk;omega
theorem WM.kk_le:kk m<=16:=by have:=h.in16;unfold kk;omega
theorem WM.rowAt (hs:s<m.Rows.length):∃r,m.Rows[s]?=some r/\r.length=kk m/\∀i,i<kk m->r[i]?=some (E m s i):=by
 have hr:=p7 hs;have hl:=h.row _ (pn hs);have hl':m.Rows[s].length=kk m:=by unfold kk;omega
 refine⟨_,hr,hl',λi hi=>?_⟩;have hi':i<m.Rows[s].length:=by omega
 unfold E;rw[hr];simp only[pu];rw[p7 hi'];rfl
theorem WM.edgeAt {s i:Nat}(hs:s<m.Rows.length)(hi:i<kk m):((E m s i).To=-1/\(E m s i).Out=-1)\/(0<=(E m s i).To/\(E m s i).To<(m.Rows.length:Int)/\0<=(E m s i).Out):=by obtain⟨r,h1,_,h2⟩:=h.rowAt hs;exact h.edge r (pw h1) _ (pw (h2 i hi))
theorem WM.edge_eq {s i:Nat}(hs:s<m.Rows.length)(hi:i<kk m)  {f:z8->Option β} :
  (Option.bind (idx m.Rows (s:Int)) λr=>Option.bind (idx r (i:Int)) f)=f (E m s i):=by
 obtain⟨r,h1,_,h2⟩:=h.rowAt hs;rw[zH,h1,oB,zH,h2 i hi,oB]
theorem WM.nx_in {p:Nat×Nat}  {q:Nat×Nat}(h1:p.1<m.Rows.length)(h2:p.2<m.Rows.length)(hi:i<kk m)(hq:nxP m m p i=some q):q.1<m.Rows.length/\q.2<m.Rows.length:=by
 unfold nxP at hq;split at hq
 ·rename_i hc;cases hq;have a:=h.edgeAt h1 hi;have b:=h.edgeAt h2 hi;simp only;omega
 ·cases hq
end
def mkb (k:Nat)(bad:Nat×Nat->Nat->Bool)(nx:Nat×Nat->Nat->Option (Nat×Nat)):Nat->Nat×Nat->Bool
 | 0,_=>false
 | n+1,p=>mkb k bad nx n p ||(List.range k).any λi=>bad p i ||(match nx p i with|some q=>mkb k bad nx n q|none=>false)
theorem z8X (k:Nat)(bad:Nat×Nat->Nat->Bool)(nx:Nat×Nat->Nat->Option (Nat×Nat)):∀(n:Nat) (p:Nat×Nat),mkb k bad nx n p=true↔Mk k bad nx n p
 | 0,p=>by simp[mkb,Mk]
 | n+1,p=>by
  simp only[mkb,Mk,pV,mZ,pM,z8X k bad nx n p];constructor
  ·rintro(h|⟨i,hi,h|h⟩)
   ·exact .inl h
   ·exact .inr ⟨i,hi,.inl h⟩
   ·cases hq:nx p i with
    | none=>rw[hq]at h;cases h
    | some q=>rw[hq]at h;exact .inr ⟨i,hi,.inr ⟨q,hq,(z8X k bad nx n q).1 h⟩⟩
  ·rintro(h|⟨i,hi,h|⟨q,hq,h⟩⟩)
   ·exact .inl h
   ·exact .inr ⟨i,hi,.inl h⟩
   ·exact .inr ⟨i,hi,.inr (by rw[hq];exact(z8X k bad nx n q).2 h)⟩
def tab (N:Nat)(f:Nat->Nat->Bool):List (List Bool):=(List.range N).map λs=>(List.range N).map λt=>f s t
theorem zdJ {N s t:Nat}(f:Nat->Nat->Bool)(hs:s<N)(ht:t<N)  {g:Bool->Option β}:(Option.bind (idx (tab N f) (s:Int)) λr=>Option.bind (idx r (t:Int)) g)=g (f s t):=by
 have e1:(tab N f)[s]?=some ((List.range N).map λt=>f s t):=by simp[tab,hs]
 have e2:((List.range N).map λt=>f s t)[t]?=some (f s t):=by simp[ht]
 rw[zH,e1,oB,zH,e2,oB]
variable {α:Type}
theorem zdY (N t:Nat)(g:Nat->α)(v:α):((List.range N).map g).set t v=(List.range N).map λx=>if x=t then v else g x:=by
 refine List.ext_getElem (by simp) λn h1 h2=>?_;simp only[List.getElem_set,List.getElem_map,List.getElem_range];by_cases e:t=n
 ·rw[if_pos e,if_pos e.symm]
 ·rw[if_neg e,if_neg (Ne.symm e)]
def zb8 (m:z6)(f:Nat->Nat->Bool)(p:Nat×Nat)(i:Nat):Bool:=XB m m p i ||(match nxP m m p i with|some q=>f q.1 q.2|none=>false)
theorem zhZ (h:WM m)(f:Nat->Nat->Bool){s t:Nat}(hs:s<m.Rows.length)(ht:t<m.Rows.length) :
  Uh m (tab m.Rows.length f) (s:Int) (t:Int)=some (if(List.range (kk m)).any (zb8 m f (s,t))=true then 1 else 0):=by
 have hk:=h.kk_eq;have k16:=h.kk_le;have hl:loop (λq=>jK m (tab m.Rows.length f) (s:Int) (t:Int) q) 0=some (oS (yj (λ_ i=>if zb8 m f (s,t) i=true then some (1:Int) else none) (List.range (kk m)) 0)):=by
  refine wk (List.range (kk m)) (by simp;omega) _ ?_ ?_
  ·intro i x hx;have hi:i<kk m:=by have:=(p8.1 hx).1;simpa using this
   have:x=i:=by rw[ny hi]at hx;exact(Option.some.inj hx).symm
   subst this;unfold jK jL;have hd:decide ((x:Int)<m.Inputs)=true:=by rw[<-hk];simpa using hi
   rw[hd,cond_true,h.edge_eq hs hi,h.edge_eq ht hi];have e1:=h.edgeAt hs hi;have e2:=h.edgeAt ht hi;by_cases hbad:(E m s x).Out=(E m t x).Out
   ·have n1:((E m s x).Out !=(E m t x).Out)=false:=by simpa using hbad
    rw[n1,cond_false];by_cases t1:(E m s x).To>=0
    ·by_cases t2:(E m t x).To>=0
     ·have hnx:nxP m m (s,t) x=some ((E m s x).To.toNat,(E m t x).To.toNat):=by unfold nxP;rw[if_pos ⟨t1,t2⟩]
      have hin:=h.nx_in hs ht hi hnx;have c1:(E m s x).To=(((E m s x).To.toNat:Nat):Int):=by omega
      have c2:(E m t x).To=(((E m t x).To.toNat:Nat):Int):=by omega
      have ht1:zb8 m f (s,t) x=f (E m s x).To.toNat (E m t x).To.toNat:=by unfold zb8 XB;rw[hnx];simp only[n1,mP]
      rw[decide_eq_true t1,decide_eq_true t2];simp only[cond_true];have:=zdJ f hin.1 hin.2 (g:=λv=>bif v then some (LR.done (Sum.inr (1:Int)):LR Int (Unit⊕Int)) else some (LR.next (w64 ((x:Int)+1))));rw[<-c1,<-c2]at this;rw[this,ht1];cases f (E m s x).To.toNat (E m t x).To.toNat <;> rfl
     ·have ht1:zb8 m f (s,t) x=false:=by unfold zb8 XB nxP;rw[if_neg (by simp only;omega)];simp only[n1,mP]
      rw[decide_eq_true t1,decide_eq_false t2,ht1];rfl
    ·have ht1:zb8 m f (s,t) x=false:=by unfold zb8 XB nxP;rw[if_neg (by simp only;omega)];simp only[n1,mP]
     rw[decide_eq_false t1,ht1];rfl
   ·have n1:((E m s x).Out !=(E m t x).Out)=true:=by simpa using hbad
    have ht1:zb8 m f (s,t) x=true:=by unfold zb8 XB;simp only[n1,Bool.true_or]
    rw[n1,ht1];rfl
  ·unfold jK;rw[List.length_range,hk];simp
 unfold Uh;rw[bdT hl];cases hf:yj (λ(_:Nat) i=>if zb8 m f (s,t) i=true then some (1:Int) else none) (List.range (kk m)) 0 with
 | some q=>
  obtain⟨i,x,h1,h2⟩:=wY hf;split at h2
  ·rename_i hx;cases h2;have:(List.range (kk m)).any (zb8 m f (s,t))=true:=mZ.2 ⟨x,pw h1,hx⟩;rw[if_pos this];rfl
  ·cases h2
 | none=>
  have:¬(List.range (kk m)).any (zb8 m f (s,t))=true:=by rw[mZ];rintro⟨x,hx,hx2⟩;obtain⟨i,hi⟩:=List.getElem?_of_mem hx;have:=vo hf i x hi;rw[if_pos hx2]at this;cases this
  rw[if_neg this];rfl
theorem zeo (N:Nat):List.replicate ((N:Nat):Int).toNat false=(List.range N).map λ_=>false:=by refine List.ext_getElem (by simp) λn h1 h2=>?_;simp
def UV (m:z6)(f:Nat->Nat->Bool)(s t:Nat):Bool:=f s t ||(List.range (kk m)).any (zb8 m f (s,t))
theorem zgV (h:WM m)(f:Nat->Nat->Bool):loop (λq=>vH m (tab m.Rows.length f) q.1 q.2) (([]:List (List Bool)),0)=some (tab m.Rows.length (UV m f)):=by
 have l128:=h.len;have row:∀(s:Nat),s<m.Rows.length->loop (λq=>vG m (tab m.Rows.length f) (s:Int) q.1 q.2) (((List.range s).map λs=>(List.range m.Rows.length).map λt=>UV m f s t)++[(List.range m.Rows.length).map λ_=>false],0)=some ((List.range (s+1)).map λs=>(List.range m.Rows.length).map λt=>UV m f s t):=by
  intro s hs;have hst:=uK (step:=λq=>vG m (tab m.Rows.length f) (s:Int) q.1 q.2) (λt:Nat=>(((List.range s).map λs=>(List.range m.Rows.length).map λt=>UV m f s t)++[(List.range m.Rows.length).map λt'=>if t' < t then UV m f s t' else false],(t:Int))) m.Rows.length (t:=(List.range (s+1)).map λs=>(List.range m.Rows.length).map λt=>UV m f s t) (by omega) ?_ ?_
  ·simpa using hst
  ·intro t ht;unfold vG;have hd:decide ((t:Int)<((m.Rows.length:Nat):Int))=true:=by simpa using ht
   have hw:w64 ((t:Int)+1)=((t+1:Nat):Int):=by rw[zN (by omega) (by omega)];rfl
   simp only[hd,cond_true];have e1:(((List.range s).map λs=>(List.range m.Rows.length).map λt=>UV m f s t)++[(List.range m.Rows.length).map λt'=>if t' < t then UV m f s t' else false])[s]?=some ((List.range m.Rows.length).map λt'=>if t' < t then UV m f s t' else false):=by rw[pf (by simp)];simp
   have e2:∀x,((List.range m.Rows.length).map λt'=>if t' < t then UV m f s t' else false)[t]?=some x↔x=false:=by intro x;simp[ht,eq_comm]
   have e2':=(e2 false).2 rfl;have fin:∀v:Bool,v=UV m f s t->(((List.range s).map λs=>(List.range m.Rows.length).map λt=>UV m f s t)++[(List.range m.Rows.length).map λt'=>if t' < t then UV m f s t' else false]).set s (((List.range m.Rows.length).map λt'=>if t' < t then UV m f s t' else false).set t v)=((List.range s).map λs=>(List.range m.Rows.length).map λt=>UV m f s t)++[(List.range m.Rows.length).map λt'=>if t' < t+1 then UV m f s t' else false]:=by
    intro v hv;rw[List.set_append,if_neg (by simp),zdY];simp only[pX,List.length_range,mO,mT];congr 3;funext x;by_cases e:x=t
    ·subst e;rw[if_pos rfl,if_pos (by omega)];exact hv
    ·rw[if_neg e];by_cases g:x<t
     ·rw[if_pos g,if_pos (by omega)]
     ·rw[if_neg g,if_neg (by omega)]
   rw[zH,bdT e1,zdJ f hs ht];cases hf:f s t with
   | true=>simp only[cond_true];rw[zH,bdT e2',hw,pb,pb,fin true (by simp[UV,hf])]
   | false=>simp only[cond_false];rw[bdT (zhZ h f hs ht),zH,bdT e2',hw,pb,pb,fin _ ?_];unfold UV;rw[hf,mP];cases (List.range (kk m)).any (zb8 m f (s,t)) <;> rfl
  ·unfold vG;simp only[Int.lt_irrefl,decide_false,cond_false];congr 3;rw[List.range_succ,m7];congr 1;simp only[pR,mJ];congr 1;refine gM λx hx=>?_;rw[if_pos (pM.1 hx)]
 have:=uK (step:=λq=>vH m (tab m.Rows.length f) q.1 q.2) (λs:Nat=>((List.range s).map λs=>(List.range m.Rows.length).map λt=>UV m f s t,(s:Int))) m.Rows.length (t:=tab m.Rows.length (UV m f)) (by omega) ?_ ?_
 ·exact this
 ·intro s hs;unfold vH X3;have hd:decide ((s:Int)<((m.Rows.length:Nat):Int))=true:=by simpa using hs
  have hw:w64 ((s:Int)+1)=((s+1:Nat):Int):=by rw[zN (by omega) (by omega)];rfl
  simp only[hd,cond_true];rw[gdT (by omega),gdT (by simp;omega),zeo,bdT (row s hs),hw]
 ·unfold vH;simp only[Int.lt_irrefl,decide_false,cond_false];rfl
def mrk (m:z6)(n s t:Nat):Bool:=mkb (kk m) (XB m m) (nxP m m) n (s,t)
theorem zh8 (m:z6)(n:Nat):UV m (mrk m n)=mrk m (n+1):=by funext s t;unfold UV mrk;simp only[mkb];congr 1
theorem zeQ (h:WM m)(n:Nat)(hn:n<=1000000):Wt m (n:Int)=some (tab m.Rows.length (mrk m n)):=by
 have l128:=h.len;have l9:loop (λq=>vF m q.1 q.2) (([]:List (List Bool)),0)=some (tab m.Rows.length (mrk m 0)):=by
  have:=uK (step:=λq=>vF m q.1 q.2) (λs:Nat=>((List.range s).map λ_=>(List.range m.Rows.length).map λ_=>false,(s:Int))) m.Rows.length (t:=tab m.Rows.length (mrk m 0)) (by omega) ?_ ?_
  ·exact this
  ·intro s hs;unfold vF;have hd:decide ((s:Int)<((m.Rows.length:Nat):Int))=true:=by simpa using hs
   have hw:w64 ((s:Int)+1)=((s+1:Nat):Int):=by rw[zN (by omega) (by omega)];rfl
   simp only[hd,cond_true];rw[gdT (by omega),gdT (by simp;omega),zeo,hw,List.range_succ,m7];rfl
  ·unfold vF;simp only[Int.lt_irrefl,decide_false,cond_false];rfl
 have l3:=uK (step:=λq=>vI m (n:Int) q.1 q.2) (λr:Nat=>(tab m.Rows.length (mrk m r),(r:Int))) n (t:=tab m.Rows.length (mrk m n)) (by omega) ?_ ?_
 ·unfold Wt X7 X6;rw[bdT l9];have l3':loop (λq=>vI m (n:Int) q.1 q.2) (tab m.Rows.length (mrk m 0),0)=some (tab m.Rows.length (mrk m n)):=l3;rw[bdT l3']
 ·intro r hr;unfold vI X4 X5;have hd:decide ((r:Int)<(n:Int))=true:=by simpa using hr
  have hw:w64 ((r:Int)+1)=((r+1:Nat):Int):=by rw[zN (by omega) (by omega)];rfl
  simp only[hd,cond_true];rw[bdT (zgV h (mrk m r)),zh8,hw]
 ·unfold vI;simp only[Int.lt_irrefl,decide_false,cond_false]
theorem z2u (h:WM m){s t:Nat}(hs:s<m.Rows.length)(ht:t<m.Rows.length){j:Nat}(hj:Mk (kk m) (XB m m) (nxP m m) j (s,t)):Mk (kk m) (XB m m) (nxP m m) (m.Rows.length - 1) (s,t):=by
 refine pA λhno=>?_;have same:∀{p:Nat×Nat} {i:Nat},p.1<m.Rows.length->p.2<m.Rows.length->i<kk m->XB m m p i=false->((E m p.1 i).To>=0↔(E m p.2 i).To>=0):=by
  intro p i h1 h2 hi hb;have e:(E m p.1 i).Out=(E m p.2 i).Out:=by simpa[XB] using hb
  have a:=h.edgeAt h1 hi;have b:=h.edgeAt h2 hi;omega
 have symm:∀k s t,Mk (kk m) (XB m m) (nxP m m) k (s,t)->Mk (kk m) (XB m m) (nxP m m) k (t,s):=by
  intro k;induction k with
  | zero=>intro s t h;exact h
  | succ k ih=>
   rintro s t (h|⟨i,hi,h|⟨q,hq,h⟩⟩)
   ·exact .inl (ih _ _ h)
   ·exact .inr ⟨i,hi,.inl (by unfold XB at h ⊢;simp only[bne_iff_ne,ne_eq]at h ⊢;exact λe=>h e.symm)⟩
   ·refine .inr ⟨i,hi,.inr ⟨(q.2,q.1),?_,ih _ _ h⟩⟩;unfold nxP at hq ⊢;split at hq
    ·rename_i hc;cases hq;rw[if_pos ⟨hc.2,hc.1⟩]
    ·cases hq
 have trans:∀k s t u,s<m.Rows.length->t<m.Rows.length->u<m.Rows.length->Mk (kk m) (XB m m) (nxP m m) k (s,u)->Mk (kk m) (XB m m) (nxP m m) k (s,t)\/Mk (kk m) (XB m m) (nxP m m) k (t,u):=by
  intro k;induction k with
  | zero=>intro s t u _ _ _ h;exact h.elim
  | succ k ih=>
   rintro s t u hs ht hu (g|⟨i,hi,g|⟨q,hq,g⟩⟩)
   ·rcases ih s t u hs ht hu g with g|g
    ·exact .inl (.inl g)
    ·exact .inr (.inl g)
   ·cases b1:XB m m (s,t) i with
    | true=>exact .inl (.inr ⟨i,hi,.inl b1⟩)
    | false=>refine .inr (.inr ⟨i,hi,.inl ?_⟩);unfold XB at b1 g ⊢;simp only[bne_iff_ne,ne_eq,bne_eq_false_iff_eq]at b1 g ⊢;rw[<-b1];exact g
   ·cases b1:XB m m (s,t) i with
    | true=>exact .inl (.inr ⟨i,hi,.inl b1⟩)
    | false=>
     cases b2:XB m m (t,u) i with
     | true=>exact .inr (.inr ⟨i,hi,.inl b2⟩)
     | false=>
      have c1:=same (p:=(s,t)) hs ht hi b1;have c2:=same (p:=(t,u)) ht hu hi b2;simp only at c1 c2;unfold nxP at hq;split at hq
      ·rename_i hc;cases hq;simp only at hc g;have e1:=h.edgeAt hs hi;have e2:=h.edgeAt ht hi;have e3:=h.edgeAt hu hi;rcases ih (E m s i).To.toNat (E m t i).To.toNat (E m u i).To.toNat (by omega) (by omega) (by omega) g with g|g
       ·exact .inl (.inr ⟨i,hi,.inr ⟨_,by unfold nxP;rw[if_pos ⟨hc.1,by simp only;omega⟩],g⟩⟩)
       ·exact .inr (.inr ⟨i,hi,.inr ⟨_,by unfold nxP;rw[if_pos ⟨by simp only;omega,hc.2⟩],g⟩⟩)
      ·cases hq
 have refl:∀k s,¬Mk (kk m) (XB m m) (nxP m m) k (s,s):=by
  intro k;induction k with
  | zero=>intro s h;exact h
  | succ k ih=>
   rintro s (g|⟨i,hi,g|⟨q,hq,g⟩⟩)
   ·exact ih s g
   ·simp[XB]at g
   ·unfold nxP at hq;split at hq
    ·cases hq;exact ih _ g
    ·cases hq
 exact zsc (N:=m.Rows.length) h.len1 (λk s t=>¬Mk (kk m) (XB m m) (nxP m m) k (s,t)) (λk s t _ _ g q=>g (symm k t s q)) (λk s t u hs ht hu g1 g2 q=>by
   rcases trans k s t u hs ht hu q with g|g
   ·exact g1 g
   ·exact g2 g) (λk s _=>refl k s) (λk s t _ _ g q=>g (.inl q)) (λk hk s t hs ht g q=>by
   rcases q with q|⟨i,hi,q|⟨r,hr,q⟩⟩
   ·exact g q
   ·exact g (.inr ⟨i,hi,.inl q⟩)
   ·have hin:=h.nx_in (p:=(s,t)) hs ht hi hr;have:Mk (kk m) (XB m m) (nxP m m) k r:=pA λc=>hk r.1 r.2 hin.1 hin.2 c q;exact g (.inr ⟨i,hi,.inr ⟨r,hr,this⟩⟩)) s t hs ht hno j hj
theorem zjC (s t:List Int)(hs:s.length<4611686018427387904)(ht:t.length<4611686018427387904):Je s t=some (decide (s=t)):=by
 unfold Je Vd;by_cases h1:s.length<t.length
 ·rw[decide_eq_true (show((s.length:Nat):Int)<((t.length:Nat):Int) by omega),cond_true,oB];rw[decide_eq_false (λe=>by rw[e]at h1;omega)];rfl
 by_cases h2:t.length<s.length
 ·rw[decide_eq_false (show ¬((s.length:Nat):Int)<((t.length:Nat):Int) by omega),cond_false,decide_eq_true (show((s.length:Nat):Int) > ((t.length:Nat):Int) by omega),cond_true,oB];rw[decide_eq_false (λe=>by rw[e]at h2;omega)];rfl
 rw[decide_eq_false (show ¬((s.length:Nat):Int)<((t.length:Nat):Int) by omega),cond_false,decide_eq_false (show ¬((s.length:Nat):Int) > ((t.length:Nat):Int) by omega),cond_false];have hlen:s.length=t.length:=by omega
 have hl:loop (λq=>vZ s t q) 0=some (oS (yj (λi x=>match t[i]? with|none=>none|some y=>if x<y then some (-1) else if y<x then some (1:Int) else none) s 0)):=by
  refine wk s hs _ ?_ ?_
  ·intro i x hx;have hi:=(p8.1 hx).1;have hit:i<t.length:=by omega
   have ht:=p7 hit;unfold vZ;have hd:decide ((i:Int)<((s.length:Nat):Int))=true:=by simpa using hi
   rw[hd,cond_true];simp only[zH,hx,ht,oB];generalize t[i]=y;by_cases h1:x<y
   ·simp[gL,h1,nS]
   ·by_cases h2:y<x
    ·simp[gL,h1,h2,nS]
    ·simp[gL,h1,h2,nS]
  ·unfold vZ;simp
 rw[hl,oB];cases hf:yj (λi x=>match t[i]? with|none=>none|some y=>if x<y then some (-1) else if y<x then some (1:Int) else none) s 0 with
 | some r=>
  obtain⟨i,x,h3,h4⟩:=wY hf;have hne:s≠t:=by intro e;rw[pq,<-e,h3]at h4;simp at h4
  have hr:r≠0:=by
   rw[pq]at h4;cases ht:t[i]? with
   | none=>rw[ht]at h4;cases h4
   | some y=>
    rw[ht]at h4;simp only at h4;split at h4
    ·cases h4;decide
    ·split at h4
     ·cases h4;decide
     ·cases h4
  simp only[oS,oB,decide_eq_false hne];congr 1;simpa using hr
 | none=>
  have he:s=t:=by
   refine pU λn=>?_;rcases pj n s.length with g|g
   ·have hx:=p7 g;have ht:=p7 (show n<t.length by omega);have:=vo hf n _ hx;rw[pq,ht]at this;simp only at this;rw[hx,ht];split at this
    ·cases this
    ·split at this
     ·cases this
     ·rename_i g1 g2;congr 1;omega
   ·rw[m0.2 g,m0.2 (by omega)]
  simp only[oS,Yh,oB,decide_eq_true he];rfl
def nxE (m:z6)(s:Int)(i:Nat):z8:=if s<0 then⟨-1,-1⟩ else E m s.toNat i
def rsp (m:z6):Int->List Nat->List Int
 | _,[]=>[]
 | s,i::w=>(nxE m s i).Out::rsp m (nxE m s i).To w
def aft (m:z6):Int->List Nat->Int
 | s,[]=>s
 | s,i::w=>aft m (nxE m s i).To w
theorem z2r (m:z6):∀(w:List Nat) (s:Int) (i:Nat),rsp m s (w++[i])=rsp m s w++[(nxE m (aft m s w) i).Out]/\aft m s (w++[i])=(nxE m (aft m s w) i).To
 | [],s,i=>⟨rfl,rfl⟩
 | j::w,s,i=>by have:=z2r m w (nxE m s j).To i;simp only[pJ,rsp,aft,this.1,this.2,and_self]
theorem zbl (m:z6):∀(w:List Nat) (s:Int),(rsp m s w).length=w.length
 | [],_=>rfl
 | i::w,s=>by simp[rsp,zbl m w]
def z9t (m:z6)(s:Int):Prop:=-1<=s/\s<(m.Rows.length:Int)
theorem zpB (h:VM m){s:Int}(hs:z9t m s)  (hi:i<kk m):z9t m (nxE m s i).To:=by
 unfold nxE;have:=h.len1;by_cases h0:s<0
 ·rw[if_pos h0];unfold z9t;simp only;omega
 ·rw[if_neg h0];have hl:s.toNat<m.Rows.length:=by have:=hs.2;omega
  have:=h.edgeAt hl hi;unfold z9t;omega
theorem zeL (h:VM m){s:Int}(hs:z9t m s)  (hi:i<kk m):Vw m s (i:Int)=some (nxE m s i)/\z9t m (nxE m s i).To:=by
 unfold Vw nxE;have:=h.len1;by_cases h0:s<0
 ·rw[decide_eq_true h0,cond_true,if_pos h0];exact⟨rfl,by unfold z9t;simp only;omega⟩
 ·rw[decide_eq_false h0,cond_false,if_neg h0];have hl:s.toNat<m.Rows.length:=by have:=hs.2;omega
  have he:=h.edge_eq hl hi (f:=λe=>some e);have hc:((s.toNat:Nat):Int)=s:=by omega
  rw[hc]at he;refine⟨he,?_⟩;have:=h.edgeAt hl hi;unfold z9t;omega
theorem zee (h:VM m){s:Int}(hs:z9t m s)(w:List Nat)(hw:∀i∈w,i<kk m)(hl:w.length<=100000):Uk m s (w.map Int.ofNat)=some (rsp m s w):=by
 have hloop:loop (λq=>Wv m (w.map Int.ofNat) q.1 q.2.1 q.2.2) (s,([]:List Int),0)=some (rsp m s w):=by
  refine Ret.eq (zS (λq=>∃k:Nat,q.2.2=(k:Int)/\k<=w.length/\z9t m q.1/\q.2.1.length=k/\q.2.1++rsp m q.1 (w.drop k)=rsp m s w) (λq=>200000 - q.2.2.toNat) ⟨0,rfl,pv _,hs,rfl,rfl⟩ (by simp) ?_);rintro⟨s',out,k'⟩ ⟨k,hk,hkl,hst,hol,ho⟩;simp only at hk hst hol ho;subst hk;unfold Wv;rw[zz];refine⟨λhlt=>?_,λhge=>?_⟩
  ·have hlt:k<w.length:=by simpa using hlt
   have hx:(w.map Int.ofNat)[k]?=some ((w[k]:Nat):Int):=by simp[hlt]
   have hi:=hw _ (pn hlt);have hn:=zeL h hst hi;have hw1:w64 ((k:Int)+1)=((k+1:Nat):Int):=by rw[zN (by omega) (by omega)];rfl
   rw[zH,bdT hx,bdT hn.1,gdT (by simp;omega),ze,hw1];refine⟨⟨k+1,rfl,hlt,hn.2,by simp[hol],?_⟩,by simp only;omega⟩;rw[<-ho,pF hlt];simp[rsp]
  ·have:k=w.length:=by simp at hge;omega
   subst this;rw[ze];rw[List.drop_length]at ho;show out=rsp m s w;simpa[rsp] using ho
 unfold Uk Qn;rw[bdT hloop]
section
variable {N:Nat}{f:Nat->Nat->Bool}
structure znx (N:Nat)(f:Nat->Nat->Bool)(out:List Int)(n:Int)(s:Nat):Prop where
 len:out.length=s
 sN:s<=N
 n0:0<=n
 nS:n<=(s:Int)
 lt:∀(i:Nat) (x:Int),out[i]?=some x->0<=x/\x<n
 cls:∀(i j:Nat),i<s->j<s->(out[i]?=out[j]?↔f i j=false)
theorem zh7 (hN:N<=1000)(hr:∀s,s<N->f s s=false)(hs:∀s t,s<N->t<N->f s t=false->f t s=false)(ht:∀s t u,s<N->t<N->u<N->f s t=false->f t u=false->f s u=false) :
  Ret (Zg (tab N f)) λout=>out.length=N/\∀i j,i<N->j<N->(out[i]?=out[j]?↔f i j=false):=by
 have hl:(tab N f).length=N:=by simp[tab]
 unfold Zg;rw[zw];refine Ret.mono (Q:=λout=>out.length=N/\∀i j,i<N->j<N->(out[i]?=out[j]?↔f i j=false)) ?_ λout h=>ze.2 h;refine zS (λq=>znx N f q.1 q.2.1 q.2.2.toNat/\0<=q.2.2) (λq=>N - q.2.2.toNat) ⟨⟨rfl,pv _,Int.le_refl 0,Int.le_refl 0,λi x h=>by simp at h,λi j h=>by simp at h⟩,Int.le_refl 0⟩ (by show N - 0<_;omega) ?_;rintro⟨out,n,s⟩ ⟨hI,h0⟩;obtain⟨s,rfl⟩:=mF h0;simp only[pb]at hI ⊢;unfold k7;rw[zz];refine⟨λhc=>?_,λhc=>?_⟩
 ·rw[hl]at hc;have hsN:s<N:=by simpa using hc
  rw[zw];have inner:Ret (loop (λs_1=>ui (tab N f) out (s:Int) s_1.1 s_1.2) (-1,0)) λb=>(b=-1/\∀t,t<s->f s t=true)\/∃t,t<s/\f s t=false/\out[t]?=some b:=by
   refine zS (λq=>0<=q.2/\q.2<=(s:Int)/\((q.1=-1/\∀t:Nat,(t:Int)<q.2->f s t=true)\/∃t,t<s/\f s t=false/\out[t]?=some q.1)) (λq=>s - q.2.toNat) ⟨by omega,by omega,.inl ⟨rfl,λt ht=>by simp at ht;omega⟩⟩ (by show s - 0<_;omega) ?_;rintro⟨b,t⟩ ⟨g0,g1,g2⟩;simp only at g0 g1 g2 ⊢;obtain⟨t,rfl⟩:=mF g0;unfold ui uj;rw[zz];refine⟨λhc=>?_,λhc=>?_⟩
   ·have hts:t<s:=by simpa using hc
    have hw:w64 ((t:Int)+1)=((t+1:Nat):Int):=by rw[zN (by omega) (by omega)];rfl
    rw[zdJ f hsN (by omega),hw,zz];refine⟨λhf=>?_,λhf=>?_⟩
    ·rw[zw,zbm];have:∃x,out[t]?=some x:=⟨out[t]'(by rw[hI.len];exact hts),p7 _⟩;obtain⟨x,hx⟩:=this;refine⟨by omega,x,by rw[pb];exact hx,ze.2 ⟨⟨by omega,by omega,.inr ⟨t,hts,by simpa using hf,hx⟩⟩,by simp only[pb];omega⟩⟩
    ·refine ze.2 ⟨⟨by omega,by omega,?_⟩,by simp only[pb];omega⟩;rcases g2 with⟨e,g2⟩|g2
     ·refine .inl ⟨e,λu hu=>?_⟩;rcases pj u t with q|q
      ·exact g2 u (by omega)
      ·have:u=t:=by omega
       subst this;simpa using hf
     ·exact .inr g2
   ·have hts:¬t<s:=by simpa using hc
    refine ze.2 ?_;rcases g2 with⟨e,g2⟩|g2
    ·exact .inl ⟨e,λu hu=>g2 u (by omega)⟩
    ·exact .inr g2
  refine inner.mono λb hb=>?_;have hw:w64 ((s:Int)+1)=((s+1:Nat):Int):=by rw[zN (by omega) (by omega)];rfl
  have hlen:=hI.len;have hnS:=hI.nS;have hn0:=hI.n0;have fin:∀(n' c:Int),0<=n'->n'<=((s+1:Nat):Int)->n<=n'->0<=c->c<n'->(∀t,t<s->(out[t]?=some c↔f s t=false)) ->
    Ret (wS out (s:Int) n' c) (LRP (λs'=>(znx N f s'.1 s'.2.1 s'.2.2.toNat/\0<=s'.2.2)/\N - s'.2.2.toNat<N - s) λout=>out.length=N/\∀i j,i<N->j<N->(out[i]?=out[j]?↔f i j=false)):=by
   intro n' c a1 a2 a3 a4 a5 a6;unfold wS kA;rw[Wn,hw];refine⟨by simp[hlen];omega,ze.2 ⟨⟨⟨by simp[hlen],by simp only[pb];omega,a1,by simp only[pb];exact a2,?_,?_⟩,pY _⟩,by simp only[pb];omega⟩⟩
   ·intro i x hx;rcases pj i s with q|q
    ·rw[pk (by omega)]at hx;have:=hI.lt i x hx;exact⟨this.1,by have:=this.2;simp only;omega⟩
    ·rw[pf (by omega)]at hx;cases hh:i - out.length with
     | zero=>rw[hh]at hx;simp at hx;subst hx;exact⟨a4,a5⟩
     | succ k=>rw[hh]at hx;simp at hx
   ·intro i j hi hj;simp only[pb]at hi hj;have at_:∀i,i<s->(out++[c])[i]?=out[i]?:=λi h=>pk (by omega);have at_s:(out++[c])[s]?=some c:=by rw[<-hlen,pf (pd _)];simp
    rcases pj i s with q|q <;> rcases pj j s with q'|q'
    ·show(out++[c])[i]?=(out++[c])[j]?↔_;rw[at_ i q,at_ j q'];exact hI.cls i j q q'
    ·have:j=s:=by omega
     subst this;show(out++[c])[i]?=(out++[c])[j]?↔_;rw[at_ i q,at_s,a6 i q];exact⟨λh=>hs _ _ (by omega) (by omega) h,λh=>hs _ _ (by omega) (by omega) h⟩
    ·have:i=s:=by omega
     subst this;show(out++[c])[i]?=(out++[c])[j]?↔_;rw[at_ j q',at_s,eq_comm,a6 j q']
    ·have e1:i=s:=by omega
     have e2:j=s:=by omega
     subst e1;subst e2;exact⟨λ_=>hr _ hsN,λ_=>rfl⟩
  unfold k8;rw[zz];rcases hb with⟨rfl,hb⟩|⟨t,ht1,ht2,ht3⟩
  ·refine⟨λ_=>?_,λh=>by simp at h⟩;rw[zN (by omega) (by omega)];refine fin (n+1) n (by omega) (by omega) (by omega) hn0 (by omega) λt hts=>?_;rw[hb t hts];refine⟨λh=>?_,λh=>by cases h⟩;have:=hI.lt t n h;omega
  ·have hb0:=hI.lt t b ht3;refine⟨λh=>by simp at h;omega,λ_=>fin n b hn0 (by omega) (by omega) hb0.1 hb0.2 λu hu=>?_⟩;rw[<-ht3,hI.cls u t hu ht1];exact⟨λh=>ht _ _ _ (by omega) (by omega) (by omega) ht2 (hs _ _ (by omega) (by omega) h),λh=>ht _ _ _ (by omega) (by omega) (by omega) (hs _ _ (by omega) (by omega) h) ht2⟩
 ·rw[hl]at hc;have hsN:¬s<N:=by simpa using hc
  have:s=N:=by have:=hI.sN;omega
  subst this;exact ze.2 ⟨hI.len,hI.cls⟩
end
def SEq (m:z6)(s t:Nat):Prop:=∀w:List Nat,(∀i∈w,i<kk m)->rsp m (s:Int) w=rsp m (t:Int) w
theorem zbj (m:z6):∀(w:List Nat) (s:Int),s<0->rsp m s w=w.map λ_=>-1
 | [],_,_=>rfl
 | i::w,s,h=>by simp only[rsp,nxE,if_pos h,pR];rw[zbj m w (-1) (by omega)]
theorem jT (m:z6)(s i:Nat):nxE m (s:Int) i=E m s i:=by unfold nxE;rw[if_neg (by omega),pb]
section
variable {m:z6}(h:WM m)
include h
theorem zbw:∀(n:Nat) (p:Nat×Nat),p.1<m.Rows.length->p.2<m.Rows.length->Mk (kk m) (XB m m) (nxP m m) n p->∃w:List Nat,(∀i∈w,i<kk m)/\rsp m (p.1:Int) w≠rsp m (p.2:Int) w
 | 0,p,_,_,q=>q.elim
 | n+1,p,h1,h2,q=>by
  rcases q with q|⟨i,hi,q|⟨r,hr,q⟩⟩
  ·exact zbw n p h1 h2 q
  ·refine⟨[i],by simpa using hi,λe=>?_⟩;simp only[rsp,jT,List.cons.injEq,and_true]at e;simp[XB,e]at q
  ·have hin:=h.nx_in h1 h2 hi hr;obtain⟨w,hw,hne⟩:=zbw n r hin.1 hin.2 q;refine⟨i::w,λj hj=>by rcases pc.1 hj with rfl|hj;exact hi;exact hw j hj,λe=>hne ?_⟩;simp only[rsp,jT,List.cons.injEq]at e;unfold nxP at hr;split at hr
   ·rename_i hc;cases hr;have e1:(((E m p.1 i).To.toNat:Nat):Int)=(E m p.1 i).To:=by omega
    have e2:(((E m p.2 i).To.toNat:Nat):Int)=(E m p.2 i).To:=by omega
    simp only[e1,e2];exact e.2
   ·cases hr
theorem zdD:∀(w:List Nat) (p:Nat×Nat),p.1<m.Rows.length->p.2<m.Rows.length->(∀i∈w,i<kk m)->rsp m (p.1:Int) w≠rsp m (p.2:Int) w->Mk (kk m) (XB m m) (nxP m m) w.length p
 | [],p,_,_,_,q=>(q rfl).elim
 | i::w,p,h1,h2,hw,q=>by
  have hi:=hw i (by simp);refine .inr ⟨i,hi,?_⟩;by_cases hb:XB m m p i=true
  ·exact .inl hb
  ·have he:(E m p.1 i).Out=(E m p.2 i).Out:=by simpa[XB] using hb
   simp only[rsp,jT,he,ne_eq,List.cons.injEq,true_and]at q;have a:=h.edgeAt h1 hi;have b:=h.edgeAt h2 hi;by_cases hc:0<=(E m p.1 i).To/\0<=(E m p.2 i).To
   ·have hr:nxP m m p i=some ((E m p.1 i).To.toNat,(E m p.2 i).To.toNat):=by unfold nxP;rw[if_pos hc]
    have hin:=h.nx_in h1 h2 hi hr;have e1:(((E m p.1 i).To.toNat:Nat):Int)=(E m p.1 i).To:=by omega
    have e2:(((E m p.2 i).To.toNat:Nat):Int)=(E m p.2 i).To:=by omega
    exact .inr ⟨_,hr,zdD w _ hin.1 hin.2 (λj hj=>hw j (by simp[hj])) (by simpa only[e1,e2] using q)⟩
   ·exfalso;refine q ?_;have e1:(E m p.1 i).To=-1:=by omega
    have e2:(E m p.2 i).To=-1:=by omega
    rw[e1,e2]
theorem z1h {s t:Nat}(hs:s<m.Rows.length)(ht:t<m.Rows.length):mrk m m.Rows.length s t=false↔SEq m s t:=by
 have e:mrk m m.Rows.length s t=true↔¬SEq m s t:=by
  unfold mrk;rw[z8X];constructor
  ·intro q g;obtain⟨w,hw,hne⟩:=zbw h _ (s,t) hs ht q;exact hne (g w hw)
  ·intro q;obtain⟨w,hw⟩:=Classical.not_forall.1 q;obtain⟨hw,hne⟩:=Classical.not_imp.1 hw;have:=z2u h hs ht (zdD h w (s,t) hs ht hw hne);exact this.mono (by omega)
 constructor
 ·intro q;exact pA λg=>by rw[e.2 g]at q;cases q
 ·intro q;cases hm:mrk m m.Rows.length s t with
  | false=>rfl
  | true=>exact(e.1 hm q).elim
theorem z6E:Ret (Zw m) λl=>l.length=m.Rows.length/\∀s t,s<m.Rows.length->t<m.Rows.length->(l[s]?=l[t]?↔SEq m s t):=by have hl:=h.len;unfold Zw Qm;rw[zw,bdT (zeQ h m.Rows.length (by omega)),zw];refine Ret.mono (zh7 (by omega) (λs hs=>(z1h h hs hs).2 λw _=>rfl) (λs t hs ht q=>(z1h h ht hs).2 λw hw=>((z1h h hs ht).1 q w hw).symm) (λs t u hs ht hu q r=>(z1h h hs hu).2 λw hw=>((z1h h hs ht).1 q w hw).trans ((z1h h ht hu).1 r w hw))) ?_;rintro l ⟨h1,h2⟩;exact ze.2 (ze.2 ⟨h1,λs t hs ht=>(h2 s t hs ht).trans (z1h h hs ht)⟩)
end
theorem zcY (h:VM m):∀(w:List Nat) (n:Nat) (s:Int),z9t m s->(∀i∈w,i<kk m)->w.length<n->Xc n m s (w.map Int.ofNat)=some (aft m s w)
 | w,0,_,_,_,hn=>by omega
 | [],n+1,s,hs,_,_=>by show Zx (Xc n) m s []=_;rfl
 | i::w,n+1,s,hs,hw,hn=>by
  show Zx (Xc n) m s ((i:Int)::w.map Int.ofNat)=_;have hi:=hw i (by simp);have hx:=zeL h hs hi;unfold Zx;have hz:(((((i:Int)::w.map Int.ofNat).length:Nat):Int)==0)=false:=by rw[beq_eq_false_iff_ne];simp only[pC];omega
  rw[hz,cond_false];have e0:idx ((i:Int)::w.map Int.ofNat) 0=some (i:Int):=rfl;rw[bdT e0,bdT hx.1,gdT (by simp;omega)];have e1:((i:Int)::w.map Int.ofNat).drop (1:Int).toNat=w.map Int.ofNat:=rfl;rw[e1,bdT (zcY h w n _ hx.2 (λj hj=>hw j (by simp[hj])) (by simp at hn;omega))];rfl
theorem zia (h:VM m){s:Int}(hs:z9t m s)(w:List Nat)(hw:∀i∈w,i<kk m):JQ m s (w.map Int.ofNat)=some (aft m s w):=by unfold JQ;exact zcY h w _ s hs hw (by simp)
def zaE (k:Nat):List Nat->Option (List Nat)
 | []=>none
 | d::r=>if d+1<k then some ((d+1)::r) else(zaE k r).map (0 :: ·)
def Jx (k:Nat):List Nat->Nat
 | []=>0
 | d::r=>d+k*Jx k r
variable {k:Nat}
theorem z5R {k:Nat}:∀{r:List Nat},(∀d∈r,d<k)->Jx k r<k ^ r.length
 | [],_=>by simp[Jx]
 | d::r,h=>by have ih:=z5R (k:=k) (r:=r) λx hx=>h x (by simp[hx]);have hd:=h d (by simp);simp only[Jx,pC,Nat.pow_succ];have:k*(Jx k r+1)<=k*k ^ r.length:=Nat.mul_le_mul_left k ih;rw[Nat.mul_add,Nat.mul_one]at this;rw[Nat.mul_comm (k ^ r.length) k];omega
theorem zbT:∀{r s:List Nat},r.length=s.length->(∀d∈r,d<k)->(∀d∈s,d<k)->Jx k r=Jx k s->r=s
 | [],[],_,_,_,_=>rfl
 | [],_::_,h,_,_,_=>by simp at h
 | _::_,[],h,_,_,_=>by simp at h
 | d::r,e::s,h,h1,h2,hv=>by
  have hd:=h1 d (by simp);have he:=h2 e (by simp);simp only[Jx]at hv;have a1:(d+k*Jx k r) % k=d:=by rw[Nat.add_mul_mod_self_left,gT hd]
  have a2:(e+k*Jx k s) % k=e:=by rw[Nat.add_mul_mod_self_left,gT he]
  have hde:d=e:=by rw[<-a1,<-a2,hv]
  subst hde;have hk:0<k:=by omega
  have:k*Jx k r=k*Jx k s:=by omega
  have:=Nat.eq_of_mul_eq_mul_left hk this;rw[zbT (by simpa using h) (λx hx=>h1 x (by simp[hx])) (λx hx=>h2 x (by simp[hx])) this]
theorem zaC:∀{r s:List Nat},(∀d∈r,d<k)->zaE k r=some s->s.length=r.length/\(∀d∈s,d<k)/\Jx k s=Jx k r+1
 | [],s,_,h=>by cases h
 | d::r,s,hr,h=>by
  have hd:=hr d (by simp);unfold zaE at h;split at h
  ·rename_i hc;cases h;exact⟨rfl,λx hx=>by rcases pc.1 hx with rfl|hx;exact hc;exact hr x (by simp[hx]),by simp only[Jx];omega⟩
  ·rename_i hc;obtain⟨s',h1,rfl⟩:=pB.1 h;obtain⟨g1,g2,g3⟩:=zaC (λx hx=>hr x (by simp[hx])) h1;refine⟨by simp[g1],λx hx=>by rcases pc.1 hx with rfl|hx;omega;exact g2 x hx,?_⟩;simp only[Jx,g3,Nat.mul_add,Nat.mul_one];omega
theorem zaD (hk:0<k):∀{r:List Nat},(∀d∈r,d<k)->zaE k r=none->Jx k r+1=k ^ r.length
 | [],_,_=>by simp[Jx]
 | d::r,hr,h=>by
  have hd:=hr d (by simp);unfold zaE at h;split at h
  ·cases h
  ·rename_i hc;have h1:zaE k r=none:=by cases e:zaE k r with|none=>rfl|some x=>rw[e]at h;cases h
   have:=zaD hk (λx hx=>hr x (by simp[hx])) h1;simp only[Jx,pC,Nat.pow_succ,<-this,hZ,mY,Nat.mul_comm k];omega
def zam (k:Nat)(w:List Nat):List Nat:=match zaE k w.reverse with|some r=>r.reverse|none=>List.replicate (w.length+1) 0
variable {w:List Nat}
theorem zal (hk:1<=k)(hk2:k<=1000)  (hw:∀i∈w,i<k)(hl:w.length<=100000):XP (w.map Int.ofNat) (k:Int)=some ((zam k w).map Int.ofNat):=by
 have hloop:Ret (loop (λs=>X8 (k:Int) s.1 s.2) (w.map Int.ofNat,w64 ((((w.map Int.ofNat).length:Nat):Int) - 1))) λr=>match r with
   | .inl o=>zaE k w.reverse=none/\o=List.replicate w.length (0:Int)
   | .inr o=>∃r,zaE k w.reverse=some r/\o=r.reverse.map Int.ofNat:=by
  refine zS (λq=>∃(p:List Nat) (z:Nat),q.1=(p++List.replicate z 0).map Int.ofNat/\q.2=(p.length:Int) - 1/\(∀i∈p,i<k)/\p.length+z=w.length/\zaE k w.reverse=(zaE k p.reverse).map (λr=>List.replicate z 0++r)) (λq=>(q.2+1).toNat) ⟨w,0,by simp,by rw[zN (by simp;omega) (by simp;omega)];simp,hw,by simp,by cases zaE k w.reverse <;> simp⟩ (by simp only;rw[zN (by simp;omega) (by simp;omega)];simp;omega) ?_;rintro⟨out,j⟩ ⟨p,z,h1,h2,h3,h4,h5⟩;simp only at h1 h2;subst h1;subst h2;unfold X8;rw[zz];refine⟨λhc=>?_,λhc=>?_⟩
  ·have hp:1<=p.length:=by simp at hc;omega
   obtain⟨p',d,rfl⟩:∃p' d,p=p' ++ [d]:=by
    rcases List.eq_nil_or_concat p with e|⟨p',d,e⟩
    ·subst e;simp at hp
    ·exact⟨p',d,by simpa using e⟩
   have hd:=h3 d (by simp);have hj:(((p' ++ [d]).length:Nat):Int) - 1=((p'.length:Nat):Int):=by simp
   have hx:((p' ++ [d]++List.replicate z 0).map Int.ofNat)[p'.length]?=some (d:Int):=by simp
   have hset:∀e:Nat,((p' ++ [d]++List.replicate z 0).map Int.ofNat).set p'.length (e:Int)=(p' ++ e::List.replicate z 0).map Int.ofNat:=by intro e;rw[pm,m7,List.set_append,if_neg (by simp)];simp
   have hr:(p' ++ [d]).reverse=d::p'.reverse:=by simp
   rw[hr]at h5;have hin:zaE k (d::p'.reverse)=if d+1<k then some ((d+1)::p'.reverse) else(zaE k p'.reverse).map (0 :: ·):=rfl
   have hw1:w64 ((d:Int)+1)=((d+1:Nat):Int):=by rw[zN (by omega) (by omega)];rfl
   rw[hj,zH,bdT hx,hw1,zz];refine⟨λhc=>?_,λhc=>?_⟩
   ·have hdk:d+1<k:=by simp at hc;omega
    rw[bdT hx,bdT hx,hw1,pb,hset];refine ze.2 ?_;rw[hin,if_pos hdk]at h5;exact⟨_,h5,by simp⟩
   ·have hdk:¬d+1<k:=by simp at hc;omega
    rw[bdT hx,pb,zN (by omega) (by omega)];have h0:=hset 0;simp only[Int.natCast_zero]at h0;refine ze.2 ⟨⟨p',z+1,?_,rfl,λi hi=>h3 i (by simp[hi]),by simp at h4;omega,?_⟩,?_⟩
    ·rw[gZ];exact h0
    ·rw[hin,if_neg hdk]at h5;rw[h5];cases zaE k p'.reverse with
     | none=>rfl
     | some r=>simp[List.replicate_succ']
    ·simp only
     omega
  ·have hp:p=[]:=mz (by simp at hc;omega);subst hp;refine ze.2 ⟨?_,?_⟩
   ·rw[h5];rfl
   ·simp at h4;simp[h4]
 unfold XP;rw[gdT (by simp;omega)];obtain⟨r,e,hr⟩:=hloop;rw[bdT e];unfold zam;cases r with
 | inl o=>obtain⟨g1,rfl⟩:=hr;show X9 _=_;unfold X9;rw[gdT (by simp;omega),g1];simp[List.replicate_succ']
 | inr o=>obtain⟨r,g1,rfl⟩:=hr;show some _=_;rw[g1]
def GG (k:Nat):Nat->Nat
 | 0=>0
 | n+1=>GG k n+k ^ n
theorem z4x {k n m:Nat}(h:n<=m):GG k n<=GG k m:=by
 induction h with
 | refl=>exact pd _
 | step _ ih=>exact pI ih (Nat.le_add_right _ _)
def rk (k:Nat)(w:List Nat):Nat:=GG k w.length+Jx k w.reverse
def Wd (k:Nat)(w:List Nat):Prop:=∀i∈w,i<k
theorem Wd.rev (h:Wd k w):∀d∈w.reverse,d<k:=λd hd=>h d (by simpa using hd)
theorem zgW (h:Wd k w):rk k w<GG k (w.length+1):=by have:=z5R h.rev;rw[gC]at this;show GG k w.length+Jx k w.reverse<GG k w.length+k ^ w.length;omega
theorem z67 {k:Nat}{w u:List Nat}(hw:Wd k w)(h:w.length<u.length):rk k w<rk k u:=by have h1:=zgW hw;have h2:=z4x (k:=k) (show w.length+1<=u.length from h);unfold rk at *;omega
theorem za7 {w u:List Nat}(hw:Wd k w)(hu:Wd k u)(h:rk k w=rk k u):w=u:=by
 have hl:w.length=u.length:=by
  rcases hU w.length u.length with q|q|q
  ·have:=z67 hw q;omega
  ·exact q
  ·have:=z67 hu q;omega
 have hv:Jx k w.reverse=Jx k u.reverse:=by unfold rk at h;rw[hl]at h;omega
 have:=zbT (by simpa using hl) hw.rev hu.rev hv;simpa using congrArg List.reverse this
theorem z9L (k:Nat):∀n,Jx k (List.replicate n 0)=0
 | 0=>rfl
 | n+1=>by simp[gZ,Jx,z9L k n]
theorem zcv (hk:1<=k)  (hw:Wd k w):Wd k (zam k w)/\rk k (zam k w)=rk k w+1/\(zam k w).length<=w.length+1:=by
 unfold zam;cases e:zaE k w.reverse with
 | some r=>obtain⟨h1,h2,h3⟩:=zaC hw.rev e;rw[gC]at h1;refine⟨λi hi=>h2 i (by simpa using hi),?_,by simp[h1]⟩;simp only[rk,gC,List.reverse_reverse,h1,h3];omega
 | none=>have h:=zaD (by omega) hw.rev e;rw[gC]at h;refine⟨λi hi=>by have:=(List.mem_replicate.1 hi).2;omega,?_,by simp⟩;simp only[rk,pZ,List.reverse_replicate,z9L,GG,<-h];omega
section
variable {m:z6}
def z7b (m:z6)(from_:Int)(l:List (List Int))(is:List Bool)(r t:Nat):Prop :=
 (is[t]?=some true/\∃v:List Nat,l[t]?=some (v.map Int.ofNat)/\rk (kk m) v<r/\Wd (kk m) v/\v.length<m.Rows.length/\aft m from_ v=(t:Int)/\∀u,Wd (kk m) u->aft m from_ u=(t:Int)->rk (kk m) v<=rk (kk m) u) \/
 (is[t]?=some false/\l[t]?=some []/\∀u,Wd (kk m) u->rk (kk m) u<r->aft m from_ u≠(t:Int))
theorem zaW (h:VM m):∀(w:List Nat) (s:Int),z9t m s->Wd (kk m) w->z9t m (aft m s w)
 | [],s,hs,_=>hs
 | i::w,s,hs,hw=>zaW h w _ (zpB h hs (hw i (by simp))) λj hj=>hw j (by simp[hj])
theorem zez (h:VM m)(hG:GG (kk m) m.Rows.length<=1000000000){from_:Int}(hf:z9t m from_) :
  Ret (Ui m from_) λr=>r.1.length=m.Rows.length/\r.2.length=m.Rows.length/\∀t,t<m.Rows.length->z7b m from_ r.1 r.2 (GG (kk m) m.Rows.length) t:=by
 have l64:=h.len64;have l1:=h.len1;have hk:=h.kk_pos;have hk2:=h.kk_le;have hke:=h.kk_eq;unfold Ui Wb;rw[Wn,Wn];refine⟨by omega,by omega,?_⟩;rw[zw];refine Ret.mono ?_ λr hr=>ze.2 hr;refine zS (λq=>∃w:List Nat,q.2.2=w.map Int.ofNat/\Wd (kk m) w/\w.length<=m.Rows.length/\rk (kk m) w<=GG (kk m) m.Rows.length/\q.1.length=m.Rows.length/\q.2.1.length=m.Rows.length/\∀t,t<m.Rows.length->z7b m from_ q.1 q.2.1 (rk (kk m) w) t)
  (λq=>GG (kk m) m.Rows.length - rk (kk m) (q.2.2.map Int.toNat)) ⟨[],rfl,λi hi=>by simp at hi,by simp,by simp[rk,GG,Jx],by simp,by simp,λt ht=>.inr ⟨by simp[ht],by simp[ht],λu _ hu=>by simp[rk,GG,Jx]at hu⟩⟩ (by simp only;omega) ?_
 rintro⟨l,is,wi⟩ ⟨w,h1,hw,hwl,hwr,h2,h3,h4⟩;simp only at h1 h2 h3 h4;subst h1;have hback:∀w:List Nat,(w.map Int.ofNat).map Int.toNat=w:=λw=>by induction w with|nil=>rfl|cons a w ih=>simp only[pR,ih];rfl
 simp only[hback];unfold Wa;rw[zz];refine⟨λhc=>?_,λhc=>?_⟩
 ·have hlt:w.length<m.Rows.length:=by simpa using hc
  have hrk:rk (kk m) w<GG (kk m) m.Rows.length:=nE (zgW hw) (z4x hlt);obtain⟨n1,n2,n3⟩:=zcv hk hw;have hnx:XP (w.map Int.ofNat) m.Inputs=some ((zam (kk m) w).map Int.ofNat):=by rw[<-hke];exact zal hk (by omega) hw (by omega)
  have fin:∀(l2:List (List Int)) (is2:List Bool),l2.length=m.Rows.length->is2.length=m.Rows.length->(∀t,t<m.Rows.length->z7b m from_ l2 is2 (rk (kk m) w+1) t) ->
    Ret (uC m (w.map Int.ofNat) l2 is2) (LRP (λs'=>(∃w:List Nat,s'.2.2=w.map Int.ofNat/\Wd (kk m) w/\w.length<=m.Rows.length/\rk (kk m) w<=GG (kk m) m.Rows.length/\s'.1.length=m.Rows.length/\s'.2.1.length=m.Rows.length/\∀t,t<m.Rows.length->z7b m from_ s'.1 s'.2.1 (rk (kk m) w) t)/\GG (kk m) m.Rows.length - rk (kk m) (s'.2.2.map Int.toNat)<GG (kk m) m.Rows.length - rk (kk m) w)
     λr=>r.1.length=m.Rows.length/\r.2.length=m.Rows.length/\∀t,t<m.Rows.length->z7b m from_ r.1 r.2 (GG (kk m) m.Rows.length) t):=by
   intro l2 is2 a1 a2 a3;unfold uC;rw[bdT hnx];refine ze.2 ⟨⟨_,rfl,n1,by omega,by omega,a1,a2,λt ht=>by rw[n2];exact a3 t ht⟩,?_⟩;rw[hback,n2];omega
  have hin:=zaW h w from_ hf hw;rw[bdT (zia h hf w hw),zz];have stay:∀t,t<m.Rows.length->(aft m from_ w=(t:Int)->is[t]?=some true)->z7b m from_ l is (rk (kk m) w+1) t:=by
   intro t ht hn;rcases h4 t ht with⟨g1,v,g2,g3,g4⟩|⟨g1,g2,g3⟩
   ·exact .inl ⟨g1,v,g2,by omega,g4⟩
   ·refine .inr ⟨g1,g2,λu hu hr e=>?_⟩;rcases pj (rk (kk m) u) (rk (kk m) w) with q|q
    ·exact g3 u hu q e
    ·have:=za7 hu hw (by omega);subst this;rw[hn e]at g1;cases g1
  refine⟨λhc=>?_,λhc=>?_⟩
  ·have hs0:0<=aft m from_ w:=by simpa using hc
   obtain⟨s,hs⟩:=mF hs0;have hsN:s<m.Rows.length:=by have:=hin.2;omega
   rw[hs];rcases h4 s hsN with⟨g1,v,g2,g3⟩|⟨g1,g2,g3⟩
   ·rw[zH,bdT g1];simp only[gX,cond_false];refine fin l is h2 h3 λt ht=>stay t ht λe=>?_;have:t=s:=by omega
    subst this;exact g1
   ·rw[zH,bdT g1];simp only[ni,cond_true];rw[bdT g1,zH,bdT g2,pb];refine fin _ _ (by simpa using h2) (by simpa using h3) λt ht=>?_;by_cases e:t=s
    ·subst e;refine .inl ⟨by simp[h3,ht],w,by simp[h2,ht],by omega,hw,hlt,hs,λu hu he=>?_⟩;rcases pj (rk (kk m) u) (rk (kk m) w) with q|q
     ·exact(g3 u hu q he).elim
     ·exact q
    ·have:=stay t ht λe2=>by omega
     unfold z7b at this ⊢;rw[gA (by omega),gA (by omega)];exact this
  ·have hs0:¬0<=aft m from_ w:=by simpa using hc
   exact fin l is h2 h3 λt ht=>stay t ht λe=>by omega
 ·have hlt:¬w.length<m.Rows.length:=by simpa using hc
  have hle:w.length=m.Rows.length:=by omega
  have hrk:rk (kk m) w=GG (kk m) m.Rows.length:=by
   have:GG (kk m) m.Rows.length<=rk (kk m) w:=by rw[<-hle];unfold rk;omega
   omega
  refine ze.2 ⟨h2,h3,λt ht=>?_⟩;rw[<-hrk];exact h4 t ht
end
theorem Ja (k:Nat):∀(r:List Nat) (d:Nat),Jx k (r++[d])=Jx k r+d*k ^ r.length
 | [],d=>by simp[Jx]
 | e::r,d=>by simp only[pJ,Jx,Ja k r d,pC,Nat.pow_succ,Nat.mul_add];rw[Nat.mul_left_comm k d,Nat.mul_comm k (k ^ r.length)];omega
theorem zdE {k:Nat}:∀(i:Nat) (a b:List Nat),a.length=b.length->Wd k a->Wd k b->∀x y,a.take i=b.take i->a[i]?=some x->b[i]?=some y->x<y->Jx k a.reverse<Jx k b.reverse
 | 0,a,b,hl,ha,hb,x,y,_,h1,h2,h=>by
  cases a with
  | nil=>simp at h1
  | cons d a=>
   cases b with
   | nil=>simp at h2
   | cons e b=>simp at h1 h2 hl;subst h1;subst h2;rw[ng,ng,Ja,Ja,gC,gC,<-hl];have:=z5R (k:=k) (r:=a.reverse) (λz hz=>ha z (by simp at hz;simp[hz]));rw[gC]at this;have h3:(d+1)*k ^ a.length<=e*k ^ a.length:=pO _ h;rw[hZ,mY]at h3;omega
 | i+1,a,b,hl,ha,hb,x,y,ht,h1,h2,h=>by
  cases a with
  | nil=>simp at h1
  | cons d a=>
   cases b with
   | nil=>simp at h2
   | cons e b=>simp only[nw,List.cons.injEq]at ht;simp at h1 h2 hl;have ih:=zdE i a b hl (λz hz=>ha z (by simp[hz])) (λz hz=>hb z (by simp[hz])) x y ht.2 h1 h2 h;rw[ng,ng,Ja,Ja,gC,gC,<-hl,ht.1];omega
theorem zk6 {a b:List Nat}(ha:Wd k a)(hb:Wd k b)(hl:a.length<=100000)(hl2:b.length<=100000):Jd (a.map Int.ofNat) (b.map Int.ofNat)=some (if rk k a<rk k b then 1 else 0):=by
 refine Ret.eq ?_;unfold Jd;rw[zz];refine⟨λhc=>?_,λhc=>?_⟩
 ·have hne:a.length≠b.length:=by intro e;simp[e]at hc
  rw[zz];refine⟨λhc=>?_,λhc=>?_⟩
  ·have:a.length<b.length:=by simpa using hc
   exact ze.2 (by rw[if_pos (z67 ha this)])
  ·have:¬a.length<b.length:=by simpa using hc
   have:=z67 hb (u:=a) (w:=b) (by omega);exact ze.2 (by rw[if_neg (by omega)])
 ·have he:a.length=b.length:=by
   have:((a.length:Nat):Int)=((b.length:Nat):Int):=by simpa using hc
   omega
  rw[zw];have hloop:Ret (loop (λs=>Xa (a.map Int.ofNat) (b.map Int.ofNat) s) 0) λr=>match r with
    | .inl _=>a=b
    | .inr r=>r=if rk k a<rk k b then 1 else 0:=by
   refine zS (λq=>∃i:Nat,q=(i:Int)/\i<=a.length/\a.take i=b.take i) (λq=>100000 - q.toNat) ⟨0,rfl,pv _,rfl⟩ (by simp) ?_;rintro q ⟨i,rfl,hi,ht⟩;unfold Xa;rw[zz];refine⟨λhc=>?_,λhc=>?_⟩
   ·have hia:i<a.length:=by simpa using hc
    have hib:i<b.length:=by omega
    have ea:(a.map Int.ofNat)[i]?=some ((a[i]:Nat):Int):=by simp[hia]
    have eb:(b.map Int.ofNat)[i]?=some ((b[i]:Nat):Int):=by simp[hib]
    have ea':a[i]?=some a[i]:=p7 hia;have eb':b[i]?=some b[i]:=p7 hib;rw[zH,bdT ea,zH,bdT eb,zz];refine⟨λhc=>?_,λhc=>?_⟩
    ·rw[bdT ea,bdT eb,zz];refine⟨λhc=>?_,λhc2=>?_⟩
     ·have hlt:a[i]<b[i]:=by simpa using hc
      have:=zdE i a b he ha hb _ _ ht ea' eb' hlt;refine ze.2 ?_;show(1:Int)=_;rw[if_pos (by unfold rk;rw[he];omega)]
     ·have h1:¬a[i]<b[i]:=by simpa using hc2
      have h2:a[i]≠b[i]:=by intro e;simp[e]at hc
      have:=zdE i b a he.symm hb ha _ _ ht.symm eb' ea' (by omega);refine ze.2 ?_;show(0:Int)=_;rw[if_neg (by unfold rk;rw[he];omega)]
    ·have h2:a[i]=b[i]:=by
      have:((a[i]:Nat):Int)=((b[i]:Nat):Int):=by simpa using hc
      omega
     rw[zN (by omega) (by omega)];refine ze.2 ⟨⟨i+1,rfl,hia,?_⟩,by simp only[pb];omega⟩;rw[gE,gE,ht,ea',eb',h2]
   ·have:i=a.length:=by
     have:¬i<a.length:=by simpa using hc
     omega
    subst this;refine ze.2 ?_;show a=b;rw[mB]at ht;rw[ht,he,mB]
  refine hloop.mono λr hr=>?_;cases r with
  | inl u=>have hr:a=b:=hr;subst hr;exact ze.2 (by rw[if_neg (n9 _)])
  | inr r=>exact ze.2 hr
theorem z9q (m:z6):∀(u w:List Nat) (s:Int),aft m s (u++w)=aft m (aft m s u) w
 | [],_,_=>rfl
 | i::u,w,s=>by simp only[pJ,aft,z9q m u w]
theorem zfM (m:z6):∀(w:List Nat) (s:Int),s<0->aft m s w<0
 | [],s,h=>h
 | i::w,s,h=>by simp only[aft,nxE,if_pos h];exact zfM m w (-1) (by omega)
section
variable {m:z6}(h:VM m)
include h
theorem z1e:∀(n:Nat) (u:List Nat),u.length<=n->Wd (kk m) u->0<=aft m 0 u->∃w,Wd (kk m) w/\w.length<m.Rows.length/\w.length<=u.length/\aft m 0 w=aft m 0 u
 | n,u,hn,hu,h0=>by
  have l1:=h.len1;rcases pj u.length m.Rows.length with q|q
  ·exact⟨u,hu,q,pd _,rfl⟩
  ·cases n with
   | zero=>omega
   | succ n=>
    have hin0:z9t m 0:=⟨by omega,by omega⟩;have hpre:∀i,0<=aft m 0 (u.take i)/\aft m 0 (u.take i)<(m.Rows.length:Int):=by
     intro i;have e:=z9q m (u.take i) (u.drop i) 0;rw[gB]at e;have h1:=zaW h (u.take i) 0 hin0 λj hj=>hu j (pK hj);refine⟨?_,h1.2⟩;rcases Int.lt_or_le (aft m 0 (u.take i)) 0 with g|g
     ·have:=zfM m (u.drop i) _ g;omega
     ·exact g
    have hex:∃i j,i<j/\j<=m.Rows.length/\aft m 0 (u.take i)=aft m 0 (u.take j):=by
     refine pA λhno=>?_;have hnd:((List.range (m.Rows.length+1)).map λi=>(aft m 0 (u.take i)).toNat).Nodup:=by unfold List.Nodup;rw[List.pairwise_map];refine List.Pairwise.imp_of_mem ?_ (List.pairwise_lt_range (n:=m.Rows.length+1));intro a b ha hb hab e;have h1:=(hpre a).1;have h2:=(hpre b).1;exact hno ⟨a,b,hab,by have:=pM.1 hb;omega,by omega⟩
     have:=Un m.Rows.length _ hnd λx hx=>by obtain⟨i,_,rfl⟩:=pT.1 hx;have:=hpre i;omega
     simp at this;omega
    obtain⟨i,j,hij,hj,e⟩:=hex;have e1:aft m 0 (u.take i++u.drop j)=aft m 0 u:=by rw[z9q,e,<-z9q,gB]
    have hlen:(u.take i++u.drop j).length<=n:=by simp;omega
    obtain⟨w,w1,w2,w3,w4⟩:=z1e n (u.take i++u.drop j) hlen (λx hx=>by
     rcases pe.1 hx with q|q
     ·exact hu x (pK q)
     ·exact hu x (List.mem_of_mem_drop q)) (by rw[e1];exact h0)
    exact⟨w,w1,w2,by simp at w3;omega,w4.trans e1⟩
end
structure Acc (m:z6)(t:Nat)(v:List Nat):Prop where
 wd:Wd (kk m) v
 len:v.length<m.Rows.length
 aft:aft m 0 v=(t:Int)
 least:∀u,Wd (kk m) u->Go.Own.aft m 0 u=(t:Int)->rk (kk m) v<=rk (kk m) u
section
variable {m:z6}(h:VM m)(hG:GG (kk m) m.Rows.length<=1000000000)
include h hG
def zqF (m:z6)(r:List (List Int)×List Bool):Prop :=
 r.1.length=m.Rows.length/\r.2.length=m.Rows.length/\∀t,t<m.Rows.length ->
  (r.2[t]?=some true/\∃v:List Nat,r.1[t]?=some (v.map Int.ofNat)/\Acc m t v)\/(r.2[t]?=some false/\∀u,Wd (kk m) u->aft m 0 u≠(t:Int))
theorem z8e:Ret (Wu m) (zqF m):=by
 have l1:=h.len1;unfold Wu;rw[zw];refine(zez h hG (from_:=0) ⟨by omega,by omega⟩).mono λr hr=>ze.2 ⟨hr.1,hr.2.1,λt ht=>?_⟩;rcases hr.2.2 t ht with⟨g1,v,g2,g3,g4,g5,g6,g7⟩|⟨g1,g2,g3⟩
 ·exact .inl ⟨g1,v,g2,⟨g4,g5,g6,g7⟩⟩
 ·refine .inr ⟨g1,λu hu e=>?_⟩;obtain⟨w,w1,w2,w3,w4⟩:=z1e h u.length u (pd _) hu (by omega);exact g3 w w1 (nE (zgW w1) (z4x w2)) (w4.trans e)
end
theorem zkF {s t:Nat}{v w:List Nat}(hv:Acc m s v)(hw:Acc m t w)(h:rk (kk m) v=rk (kk m) w):s=t:=by have:=za7 hv.wd hw.wd h;subst this;have h1:=hv.aft;have h2:=hw.aft;omega
def zcZ (m:z6)(L:List Nat):Prop:=L.Pairwise λs t=>∀v w,Acc m s v->Acc m t w->rk (kk m) v<rk (kk m) w
theorem K6 {v w:List Nat}(hv:Acc m s v)(hw:Acc m s w):v=w :=
 za7 hv.wd hw.wd (Nat.le_antisymm (hv.least w hw.wd hw.aft) (hw.least v hv.wd hv.aft))
section
variable {m:z6}(h:VM m)(hG:GG (kk m) m.Rows.length<=1000000000)
include h hG
theorem zeC:Ret (Uj m) λo=>∃L:List Nat,o=L.map Int.ofNat/\zcZ m L/\(∀t∈L,t<m.Rows.length/\∃v,Acc m t v)/\∀t,t<m.Rows.length->t∉L->∀u,Wd (kk m) u->aft m 0 u≠(t:Int):=by
 have l64:=h.len64;unfold Uj;rw[zw];refine(z8e h hG).mono ?_;rintro r ⟨r1,r2,r3⟩;rw[zw];let I:List Nat->Nat->Prop:=λL s=>s<=m.Rows.length/\L.length<=s/\zcZ m L/\(∀t∈L,t<s/\∃v,Acc m t v)/\∀t,t<s->t∉L->∀u,Wd (kk m) u->aft m 0 u≠(t:Int);have hI:∀L s,I L s=(s<=m.Rows.length/\L.length<=s/\zcZ m L/\(∀t∈L,t<s/\∃v,Acc m t v)/\∀t,t<s->t∉L->∀u,Wd (kk m) u->aft m 0 u≠(t:Int)):=λ_ _=>rfl
 suffices hloop:Ret (loop (λs=>ZY r s.1 s.2) (([]:List Int),0)) λo=>∃L:List Nat,o=L.map Int.ofNat/\I L m.Rows.length from by refine hloop.mono ?_;rintro o ⟨L,rfl,q1,q2,q3,q4,q5⟩;exact ze.2 ⟨L,rfl,q3,q4,q5⟩
 refine zS (λq=>∃(L:List Nat) (s:Nat),q.1=L.map Int.ofNat/\q.2=(s:Int)/\I L s) (λq=>1000 - q.2.toNat) ⟨[],0,rfl,rfl,pv _,pd _,List.Pairwise.nil,λt ht=>by simp at ht,λt ht=>by omega⟩ (by simp) ?_;rintro⟨out,q⟩ ⟨L,s,e1,e2,i1,i2,i3,i4,i5⟩;simp only at e1 e2;subst e1;subst e2;unfold ZY;rw[zz];refine⟨λhc=>?_,λhc=>?_⟩
 ·have hs:s<m.Rows.length:=by rw[r1]at hc;simpa using hc
  have hw:w64 ((s:Int)+1)=((s+1:Nat):Int):=by rw[zN (by omega) (by omega)];rfl
  have fin:∀L':List Nat,I L' (s+1)->Ret (jM (s:Int) (L'.map Int.ofNat)) (LRP (λs'=>(∃(L:List Nat) (s:Nat),s'.1=L.map Int.ofNat/\s'.2=(s:Int)/\I L s)/\1000 - s'.2.toNat<1000 - (s:Int).toNat) λo=>∃L:List Nat,o=L.map Int.ofNat/\I L m.Rows.length):=by intro L' hL;unfold jM;rw[hw];exact ze.2 ⟨⟨L',s+1,rfl,rfl,hL⟩,by simp only[pb];omega⟩
  rcases r3 s hs with⟨g1,v,g2,g3⟩|⟨g1,g2⟩
  ·rw[zH,bdT g1];simp only[gX,cond_false];rw[zw];have inner:Ret (loop (λk=>ZX r (L.map Int.ofNat) (s:Int) k) 0) λk=>∃n:Nat,k=(n:Int)/\n<=L.length/\(∀t∈L.take n,∀w,Acc m t w->rk (kk m) w<rk (kk m) v)/\∀t,L[n]?=some t->∀w,Acc m t w->rk (kk m) v<rk (kk m) w:=by
    refine zS (λk=>∃n:Nat,k=(n:Int)/\n<=L.length/\∀t∈L.take n,∀w,Acc m t w->rk (kk m) w<rk (kk m) v) (λk=>1000 - k.toNat) ⟨0,rfl,pv _,λt ht=>by simp at ht⟩ (by simp) ?_;rintro k ⟨n,rfl,n1,n2⟩;unfold ZX;rw[zz];refine⟨λhc=>?_,λhc=>?_⟩
    ·have hn:n<L.length:=by simpa using hc
     have hx:(L.map Int.ofNat)[n]?=some ((L[n]:Nat):Int):=by simp[hn]
     have hx':L[n]?=some L[n]:=p7 hn;obtain⟨ht,w,hw2⟩:=i4 L[n] (pn hn);have hacc:r.1[L[n]]?=some (w.map Int.ofNat):=by
      rcases r3 L[n] (by omega) with⟨_,w',k2,k3⟩|⟨_,k2⟩
      ·rw[k2,K6 k3 hw2]
      ·exact(k2 w hw2.wd hw2.aft).elim
     have hle:=hw2.len;have hlv:=g3.len;rw[zH,bdT hx,zH,bdT hacc,zH,bdT g2,bdT (zk6 hw2.wd g3.wd (by omega) (by omega)),zz];by_cases hlt:rk (kk m) w<rk (kk m) v
     ·rw[if_pos hlt];refine⟨λ_=>?_,λe=>by simp at e⟩;rw[zN (by omega) (by omega)];refine ze.2 ⟨⟨n+1,rfl,hn,λt ht=>?_⟩,by simp only[pb];omega⟩;rw[gE,hx',pe]at ht;rcases ht with ht|ht
      ·exact n2 t ht
      ·have:t=L[n]:=by simpa using ht
       subst this;intro w' hw';rw[K6 hw' hw2];exact hlt
     ·rw[if_neg hlt];refine⟨λe=>by simp at e,λ_=>ze.2 ⟨n,rfl,n1,n2,λt ht w' hw'=>?_⟩⟩;rw[hx']at ht;cases ht;rw[K6 hw' hw2];rcases pj (rk (kk m) v) (rk (kk m) w) with q|q
      ·exact q
      ·have:=zkF hw2 g3 (by omega);omega
    ·have hn:¬n<L.length:=by simpa using hc
     refine ze.2 ⟨n,rfl,n1,n2,λt ht=>?_⟩;have:n<L.length:=(p8.1 ht).1;omega
   refine inner.mono ?_;rintro k ⟨n,rfl,n1,n2,n3⟩;unfold Wc;have e1:(((L.map Int.ofNat).drop 0).take ((n:Int).toNat - 0))=(L.take n).map Int.ofNat:=by simp[List.map_take]
   have e2:(L.map Int.ofNat).drop (n:Int).toNat=(L.drop n).map Int.ofNat:=by simp[List.map_drop]
   rw[e1,e2,Wn,Wn,Wn,Wn,Wn];refine⟨by simp;omega,by simp;omega,by simp;omega,by simp;omega,by simp;omega,?_⟩;have e3:((L.take n).map Int.ofNat++([(s:Int)]:List Int))++(L.drop n).map Int.ofNat=(L.take n++s::L.drop n).map Int.ofNat:=by simp
   rw[e3];have hperm:∀t,t∈L.take n++s::L.drop n↔t=s\/t∈L:=by
    intro t;have:t∈L↔t∈L.take n\/t∈L.drop n:=by rw[<-pe,gB]
    rw[this,pe,pc];constructor
    ·rintro(q|q|q)
     ·exact .inr (.inl q)
     ·exact .inl q
     ·exact .inr (.inr q)
    ·rintro(q|q|q)
     ·exact .inr (.inl q)
     ·exact .inl q
     ·exact .inr (.inr q)
   have hdrop:∀t∈L.drop n,∀w,Acc m t w->rk (kk m) v<rk (kk m) w:=by
    intro t ht w hw';rcases pj n L.length with q|q
    ·rw[pF q]at ht;have hx':L[n]?=some L[n]:=p7 q;obtain⟨_,w0,hw0⟩:=i4 L[n] (pn q);have h0:=n3 L[n] hx' w0 hw0;rcases pc.1 ht with rfl|ht
     ·rw[K6 hw' hw0];exact h0
     ·have hd:(L.drop n).Pairwise λs t=>∀v w,Acc m s v->Acc m t w->rk (kk m) v<rk (kk m) w:=mn (List.drop_sublist n L) i3;rw[pF q]at hd;exact Nat.lt_trans h0 ((pS.1 hd).1 t ht w0 w hw0 hw')
    ·rw[gI q]at ht;cases ht
   refine fin _ ⟨hs,by simp;omega,?_,λt ht=>?_,λt ht hn u hu=>?_⟩
   ·show List.Pairwise _ _;rw[nl];refine⟨mn (List.take_sublist n L) i3,pS.2 ⟨λt ht v' w hv' hw'=>?_,mn (List.drop_sublist n L) i3⟩,?_⟩
    ·rw[K6 hv' g3];exact hdrop t ht w hw'
    ·intro a ha b hb v' w hv' hw';have hav:=n2 a ha v' hv';rcases pc.1 hb with rfl|hb
     ·rw[K6 hw' g3];exact hav
     ·exact Nat.lt_trans hav (hdrop b hb w hw')
   ·rcases(hperm t).1 ht with rfl|ht
    ·exact⟨by omega,v,g3⟩
    ·have:=i4 t ht;exact⟨by omega,this.2⟩
   ·have hne:t≠s:=λe=>hn ((hperm t).2 (.inl e));exact i5 t (by omega) (λq=>hn ((hperm t).2 (.inr q))) u hu
  ·rw[zH,bdT g1];simp only[ni,cond_true];refine fin L ⟨hs,by omega,i3,λt ht=>⟨by have:=(i4 t ht).1;omega,(i4 t ht).2⟩,λt ht hn u hu=>?_⟩;rcases pj t s with q|q
   ·exact i5 t q hn u hu
   ·have:t=s:=by omega
    subst this;exact g2 u hu
 ·have hs:¬s<m.Rows.length:=by rw[r1]at hc;simpa using hc
  have:s=m.Rows.length:=by omega
  subst this;exact ze.2 ⟨L,rfl,i1,i2,i3,i4,i5⟩
end
theorem SEq.refl (s:Nat):SEq m s s:=λ_ _=>rfl
theorem SEq.symm {s t:Nat}(h:SEq m s t):SEq m t s:=λw hw=>(h w hw).symm
theorem SEq.trans {s t u:Nat}(h:SEq m s t)(k:SEq m t u):SEq m s u:=λw hw=>(h w hw).trans (k w hw)
structure XA (m:z6)(F:List Nat):Prop where
 sorted:zcZ m F
 acc:∀t∈F,t<m.Rows.length/\∃v,Acc m t v
 dist:F.Pairwise λs t=>¬SEq m s t
 all:∀t v,t<m.Rows.length->Acc m t v->∃s∈F,SEq m s t/\∃w,Acc m s w/\rk (kk m) w<=rk (kk m) v
section
variable {m:z6}(h:VM m)(hG:GG (kk m) m.Rows.length<=1000000000)
include h hG
theorem zdl:Ret (Zf m) λo=>∃F:List Nat,o=F.map Int.ofNat/\XA m F:=by
 have l64:=h.len64;unfold Zf X1;rw[zw];refine(z6E h.wm).mono ?_;rintro p ⟨p1,p2⟩;rw[zw];refine(zeC h hG).mono ?_;rintro o ⟨L,rfl,s1,s2,s3⟩;have hLn:L.length<=m.Rows.length:=by refine Un _ L ?_ λx hx=>(s2 x hx).1;refine List.Pairwise.imp_of_mem ?_ s1;intro a b ha hb q e;subst e;obtain⟨v,hv⟩:=(s2 a ha).2;exact n9 _ (q v v hv hv)
 rw[zw];refine Ret.mono (Q:=λo=>∃F:List Nat,o=F.map Int.ofNat/\XA m F) ?_ λo ho=>ze.2 ho;let J:List Nat->Nat->Prop:=λF k=>k<=L.length/\F.length<=k/\F.Sublist (L.take k)/\(F.Pairwise λs t=>¬SEq m s t)/\∀t∈L.take k,∃s∈F,SEq m s t/\∀v w,Acc m s w->Acc m t v->rk (kk m) w<=rk (kk m) v;refine zS (λq=>∃(F:List Nat) (k:Nat),q.1=F.map Int.ofNat/\q.2=(k:Int)/\J F k) (λq=>1000 - q.2.toNat) ⟨[],0,rfl,rfl,pv _,pd _,List.nil_sublist _,List.Pairwise.nil,λt ht=>by simp at ht⟩ (by simp) ?_;rintro⟨out,q⟩ ⟨F,k,e1,e2,j1,j2,j3,j4,j5⟩;simp only at e1 e2;subst e1;subst e2;have cl:∀n,n<L.length->∃x,p[L[n]!]?=some x:=by
  intro n hn;have hm:L[n]!∈L:=by rw[getElem!_pos L n hn];exact pn hn
  have:=(s2 _ hm).1;exact⟨_,p7 (by omega)⟩
 have gx:∀n,n<L.length->(L.map Int.ofNat)[n]?=some ((L[n]!:Nat):Int):=by intro n hn;rw[getElem!_pos L n hn];simp[hn]
 have gl:∀n,n<L.length->L[n]!∈L/\L[n]! < m.Rows.length:=by
  intro n hn;have hm:L[n]!∈L:=by rw[getElem!_pos L n hn];exact pn hn
  exact⟨hm,(s2 _ hm).1⟩
 unfold YX;rw[zz];refine⟨λhc=>?_,λhc=>?_⟩
 ·have hk:k<L.length:=by simpa using hc
  have hw:∀k:Nat,k<1000->w64 ((k:Int)+1)=((k+1:Nat):Int):=λk hk=>by rw[zN (by omega) (by omega)];rfl
  rw[zw];have inner:Ret (loop (λs=>Zd p (L.map Int.ofNat) (k:Int) s.1 s.2) (0,0)) λc=>(c=0/\∀n,n<k->¬SEq m L[n]! L[k]!)\/(c=1/\∃n,n<k/\SEq m L[n]! L[k]!):=by
   refine zS (λq=>∃n:Nat,q.2=(n:Int)/\n<=k/\((q.1=0/\∀i,i<n->¬SEq m L[i]! L[k]!)\/(q.1=1/\∃i,i<k/\SEq m L[i]! L[k]!))) (λq=>1000 - q.2.toNat) ⟨0,rfl,pv _,.inl ⟨rfl,λi hi=>by omega⟩⟩ (by simp) ?_;rintro⟨c,q⟩ ⟨n,e2,n1,n2⟩;simp only at e2 n2;subst e2;unfold Zd Ze;rw[zz];refine⟨λhc=>?_,λhc=>?_⟩
   ·have hn:n<k:=by simpa using hc
    obtain⟨x,hx⟩:=cl n (by omega);obtain⟨y,hy⟩:=cl k hk;rw[zH,bdT (gx n (by omega)),zH,bdT hx,zH,bdT (gx k hk),zH,bdT hy,hw n (by omega),zz];have hs:=p2 _ _ (gl n (by omega)).2 (gl k hk).2;rw[hx,hy,Option.some.injEq]at hs;refine⟨λe=>?_,λe=>?_⟩
    ·have:SEq m L[n]! L[k]!:=hs.1 (by simpa using e);exact ze.2 ⟨⟨n+1,rfl,hn,.inr ⟨rfl,n,hn,this⟩⟩,by simp only[pb];omega⟩
    ·have hno:¬SEq m L[n]! L[k]!:=λg=>by have:=hs.2 g;simp[this]at e
     refine ze.2 ⟨⟨n+1,rfl,hn,?_⟩,by simp only[pb];omega⟩;rcases n2 with⟨c0,n2⟩|n2
     ·refine .inl ⟨c0,λi hi=>?_⟩;rcases pj i n with q|q
      ·exact n2 i q
      ·have:i=n:=by omega
       subst this;exact hno
     ·exact .inr n2
   ·have:n=k:=by
     have:¬n<k:=by simpa using hc
     omega
    subst this;exact ze.2 n2
  refine inner.mono λc hc=>?_;have hx':L[k]?=some L[k]!:=by rw[getElem!_pos L k hk];exact p7 hk
  have htk:L.take (k+1)=L.take k++[L[k]!]:=by rw[gE,hx'];rfl
  have hmt:∀n,n<k->L[n]!∈L.take k:=by
   intro n hn;rw[getElem!_pos L n (by omega)];have:(L.take k)[n]'(by simp;omega)=L[n]:=by simp
   rw[<-this];exact pn _
  unfold YZ;rw[zz];have fin:∀F':List Nat,J F' (k+1)->Ret (uX (k:Int) (F'.map Int.ofNat)) (LRP (λs'=>(∃(F:List Nat) (k:Nat),s'.1=F.map Int.ofNat/\s'.2=(k:Int)/\J F k)/\1000 - s'.2.toNat<1000 - (k:Int).toNat) λo=>∃F:List Nat,o=F.map Int.ofNat/\XA m F):=by intro F' hF;unfold uX;rw[hw k (by omega)];exact ze.2 ⟨⟨F',k+1,rfl,rfl,hF⟩,by simp only[pb];omega⟩
  rcases hc with⟨rfl,hc⟩|⟨rfl,n,hn,hc⟩
  ·refine⟨λ_=>?_,λe=>by simp at e⟩;rw[zH,bdT (gx k hk),Wn];refine⟨by simp;omega,?_⟩;have e3:F.map Int.ofNat++([((L[k]!:Nat):Int)]:List Int)=(F++[L[k]!]).map Int.ofNat:=by simp
   rw[e3];refine fin _ ⟨hk,by simp;omega,by rw[htk];exact List.Sublist.append j3 (List.Sublist.refl _),?_,λt ht=>?_⟩
   ·rw[nl];refine⟨j4,List.pairwise_singleton _ _,λa ha b hb e=>?_⟩;have hb:b=L[k]!:=by simpa using hb
    subst hb;have ha':a∈L.take k:=j3.subset ha;obtain⟨i,hi,e4⟩:=List.getElem_of_mem ha';have hi':i<k/\i<L.length:=by rw[pH]at hi;omega
    have:L[i]! = a:=by rw[getElem!_pos L i (by omega),<-e4];simp
    exact hc i hi'.1 (by rw[this];exact e)
   ·rw[htk,pe]at ht;rcases ht with ht|ht
    ·obtain⟨s,q1,q2,q3⟩:=j5 t ht;exact⟨s,pe.2 (.inl q1),q2,q3⟩
    ·have:t=L[k]!:=by simpa using ht
     subst this;exact⟨_,pe.2 (.inr (by simp)),SEq.refl _,λv w hv hv'=>by rw[K6 hv hv'];exact pd _⟩
  ·refine⟨λe=>by simp at e,λ_=>fin F ⟨hk,by omega,by rw[htk];exact j3.trans (List.sublist_append_left _ _),j4,λt ht=>?_⟩⟩;rw[htk,pe]at ht;rcases ht with ht|ht
   ·exact j5 t ht
   ·have:t=L[k]!:=by simpa using ht
    subst this;obtain⟨s,q1,q2,q3⟩:=j5 _ (hmt n hn);refine⟨s,q1,q2.trans hc,λv w hw' hv'=>?_⟩;obtain⟨u,hu⟩:=(s2 _ (gl n (by omega)).1).2;refine pI (q3 u w hw' hu) (Nat.le_of_lt ?_);have:=gF.1 s1 n k (by omega) hk hn;rw[<-getElem!_pos L n (by omega),<-getElem!_pos L k hk]at this;exact this u v hu hv'
 ·have hk:¬k<L.length:=by simpa using hc
  have:k=L.length:=by omega
  subst this;rw[mB]at j3 j5;refine ze.2 ⟨F,rfl,mn j3 s1,λt ht=>s2 t (j3.subset ht),j4,λt v ht hv=>?_⟩;have hmem:t∈L:=pA λg=>s3 t ht g v hv.wd hv.aft;obtain⟨s,q1,q2,q3⟩:=j5 t hmem;obtain⟨w,hw⟩:=(s2 s (j3.subset q1)).2;exact⟨s,q1,q2,w,hw,q3 v w hw hv⟩
end
def Rch (m:z6)(t:Nat):Prop:=∃u,Wd (kk m) u/\aft m 0 u=(t:Int)
theorem z4A {out:List Bool}{j t:Nat}(hj:j<out.length):(out.set j true)[t]?=some true↔t=j\/out[t]?=some true:=by
 by_cases e:t=j
 ·subst e;simp[hj]
 ·rw[gA (Ne.symm e)];exact⟨.inr,λq=>q.resolve_left e⟩
section
variable {m:z6}(h:VM m)
include h
omit h in theorem rch_step {s i:Nat} (hs:Rch m s) (hi:i<kk m) (h0:0<=(E m s i).To):Rch m (E m s i).To.toNat:=by
 obtain⟨u,hu,e⟩:=hs;refine⟨u++[i],λj hj=>?_,?_⟩
 ·rcases pe.1 hj with q|q
  ·exact hu j q
  ·have:j=i:=by simpa using q
   omega
 ·have:=(z2r m u 0 i).2;rw[e,jT]at this;rw[this];omega
theorem zbq:Ret (Xb m 0) λis=>is.length=m.Rows.length/\∀t,t<m.Rows.length->(is[t]?=some true↔Rch m t):=by
 have l64:=h.len64;have l1:=h.len1;have hk2:=h.kk_le;have hke:=h.kk_eq;have w1:∀n:Nat,n<1000->w64 ((n:Int)+1)=((n+1:Nat):Int):=λn hn=>by rw[zN (by omega) (by omega)];rfl
 unfold Xb Yg;rw[Wn];refine⟨by omega,?_⟩;have e0:idx (List.replicate ((m.Rows.length:Nat):Int).toNat false) 0=some false:=by show(List.replicate ((m.Rows.length:Nat):Int).toNat false)[0]?=some false;rw[gS,if_pos (by rw[pb];omega)]
 rw[bdT e0,zw];let S:List Bool->Prop:=λout=>out.length=m.Rows.length/\∀t:Nat,out[t]?=some true->Rch m t;refine Ret.mono (Q:=λis=>is.length=m.Rows.length/\∀t,t<m.Rows.length->(is[t]?=some true↔Rch m t)) ?_ λo ho=>ze.2 ho;refine zS (λq=>∃r:Nat,q.2=(r:Int)/\r<=m.Rows.length/\S q.1/\∀(u:List Nat) (t:Nat),Wd (kk m) u->u.length<=r->aft m 0 u=((t:Nat):Int)->q.1[t]?=some true) (λq=>1000 - q.2.toNat) ⟨0,rfl,pv _,⟨by simp,λt ht=>?_⟩,λu t hu hl e=>?_⟩ (by simp) ?_
 ·rw[show(0:Int).toNat=0 from rfl,z4A (by rw[pZ,pb];omega)]at ht;rcases ht with rfl|ht
  ·exact⟨[],λi hi=>by simp at hi,rfl⟩
  ·rw[gS]at ht;split at ht <;> simp at ht
 ·have:u=[]:=mz (by omega);subst this;have:t=0:=by simp[aft]at e;omega
  subst this;rw[show(0:Int).toNat=0 from rfl,z4A (by rw[pZ,pb];omega)];exact .inl rfl
 rintro⟨out1,q⟩ ⟨r,e1,r1,r2,r3⟩;simp only at e1 r2 r3;subst e1;unfold Yd Yf;rw[zz];refine⟨λhc=>?_,λhc=>?_⟩
 ·have hr:r<m.Rows.length:=by simpa using hc
  rw[zw];let C:List Bool->Nat->Nat->Prop:=λout s i=>S out/\(∀t:Nat,out1[t]?=some true->out[t]?=some true)/\∀s' i':Nat,(s' < s\/s'=s/\i' < i)->i' < kk m->s' < m.Rows.length->out1[s']?=some true->0<=(E m s' i').To->out[(E m s' i').To.toNat]?=some true;have round:Ret (loop (λs=>qZ m s.1 s.2) (out1,0)) λout=>C out m.Rows.length 0:=by
   refine zS (λq=>∃s:Nat,q.2=(s:Int)/\s<=m.Rows.length/\C q.1 s 0) (λq=>1000 - q.2.toNat) ⟨0,rfl,pv _,r2,λt ht=>ht,λs' i' hh=>by omega⟩ (by simp) ?_;rintro⟨out3,q⟩ ⟨s,e1,s1,s2⟩;simp only at e1 s2;subst e1;unfold qZ Ye;rw[zz];refine⟨λhc=>?_,λhc=>?_⟩
   ·have hs:s<m.Rows.length:=by simpa using hc
    rw[zw];have row:Ret (loop (λq=>qY m (s:Int) q.1 q.2) (out3,0)) λout=>C out s (kk m):=by
     refine zS (λq=>∃i:Nat,q.2=(i:Int)/\i<=kk m/\C q.1 s i) (λq=>1000 - q.2.toNat) ⟨0,rfl,pv _,s2⟩ (by simp) ?_;rintro⟨out5,q⟩ ⟨i,e1,i1,c1,c2,c3⟩;simp only at e1 c1 c2 c3;subst e1;unfold qY vY;rw[zz];refine⟨λhc=>?_,λhc=>?_⟩
     ·have hi:i<kk m:=by rw[<-hke]at hc;simpa using hc
      have he:=h.edgeAt hs hi;have hl:s<out5.length:=by rw[c1.1];exact hs
      rw[h.edge_eq hs hi,zH,bdT (p7 hl),zz,w1 i (by omega)];have fin:∀out:List Bool,C out s (i+1)->Ret (some (LR.next (out,((i+1:Nat):Int)):LR (List Bool×Int) (List Bool))) (LRP (λs'=>(∃i:Nat,s'.2=(i:Int)/\i<=kk m/\C s'.1 s i)/\1000 - s'.2.toNat<1000 - (i:Int).toNat) λout=>C out s (kk m)):=by intro out hC;exact ze.2 ⟨⟨i+1,rfl,hi,hC⟩,by simp only[pb];omega⟩
      have keep:(out1[s]?=some true->0<=(E m s i).To->out5[(E m s i).To.toNat]?=some true)->C out5 s (i+1):=by
       intro hh;refine⟨c1,c2,λs' i' g1 g2 g3 g4 g5=>?_⟩;by_cases e:s'=s/\i'=i
       ·obtain⟨rfl,rfl⟩:=e;exact hh g4 g5
       ·exact c3 s' i' (by omega) g2 g3 g4 g5
      refine⟨λhb=>?_,λhb=>?_⟩
      ·have hb':out5[s]?=some true:=by rw[p7 hl,hb]
       rw[zz];refine⟨λhc=>?_,λhc=>?_⟩
       ·have h0:0<=(E m s i).To:=by simpa using hc
        have ht:(E m s i).To.toNat<out5.length:=by rw[c1.1];omega
        obtain⟨n,hn⟩:=mF h0;obtain⟨y,hx⟩:∃y,idx out5 (E m s i).To=some y:=by rw[hn]at ht ⊢;exact⟨_,p7 ht⟩
        rw[bdT hx];refine fin _ ⟨⟨by simpa using c1.1,λt hh=>?_⟩,λt hh=>(z4A ht).2 (.inr (c2 t hh)),λs' i' g1 g2 g3 g4 g5=>(z4A ht).2 ?_⟩
        ·rcases(z4A ht).1 hh with rfl|hh
         ·exact rch_step (c1.2 s hb') hi h0
         ·exact c1.2 t hh
        ·by_cases e:s'=s/\i'=i
         ·obtain⟨rfl,rfl⟩:=e;exact .inl rfl
         ·exact .inr (c3 s' i' (by omega) g2 g3 g4 g5)
       ·have h0:¬0<=(E m s i).To:=by simpa using hc
        exact fin _ (keep λ_ g=>(h0 g).elim)
      ·have hb':out5[s]?=some false:=by rw[p7 hl,hb]
       refine fin _ (keep λg _=>?_);have:=c2 s g;rw[hb']at this;cases this
     ·have:i=kk m:=by
       have:¬i<kk m:=by rw[<-hke]at hc;simpa using hc
       omega
      subst this;exact ze.2 ⟨c1,c2,c3⟩
    refine row.mono ?_;rintro out ⟨c1,c2,c3⟩;rw[w1 s (by omega)];exact ze.2 ⟨⟨s+1,rfl,hs,c1,c2,λs' i' g1 g2 g3=>c3 s' i' (by omega) g2 g3⟩,by simp only[pb];omega⟩
   ·have:s=m.Rows.length:=by
     have:¬s<m.Rows.length:=by simpa using hc
     omega
    subst this;exact ze.2 s2
  refine round.mono ?_;rintro out ⟨c1,c2,c3⟩;rw[w1 r (by omega)];refine ze.2 ⟨⟨r+1,rfl,hr,c1,λu t hu hl e=>?_⟩,by simp only[pb];omega⟩;rcases pj r u.length with q|q
  ·obtain⟨u',i,rfl⟩:∃u' i,u=u' ++ [i]:=by
    rcases List.eq_nil_or_concat u with e|⟨u',i,e⟩
    ·subst e;simp at q
    ·exact⟨u',i,by simpa using e⟩
   have hu':Wd (kk m) u':=λj hj=>hu j (by simp[hj]);have hi:=hu i (by simp);rw[(z2r m u' 0 i).2]at e;have h1:=zaW h u' 0 ⟨by omega,by omega⟩ hu';have h0:0<=aft m 0 u':=by
    rcases Int.lt_or_le (aft m 0 u') 0 with g|g
    ·unfold nxE at e;rw[if_pos g]at e;simp only at e;omega
    ·exact g
   obtain⟨s,hs⟩:=mF h0;have hsN:s<m.Rows.length:=by have:=h1.2;omega
   rw[hs,jT]at e;have:=c3 s i (.inl hsN) hi hsN (r3 u' s hu' (by simp at hl;omega) hs) (by omega);rw[e]at this;simpa using this
  ·exact c2 t (r3 u t hu (by omega) e)
 ·have:r=m.Rows.length:=by
   have:¬r<m.Rows.length:=by simpa using hc
   omega
  subst this;refine ze.2 ⟨r2.1,λt ht=>⟨r2.2 t,?_⟩⟩;rintro⟨u,hu,e⟩;obtain⟨w,x1,x2,x3,x4⟩:=z1e h u.length u (pd _) hu (by omega);exact r3 w t x1 (by omega) (x4.trans e)
end
structure zi5 (m:z6)(F:List Nat)(p:z6):Prop where
 inp:p.Inputs=m.Inputs
 out:p.Outputs=m.Outputs
 len:p.Rows.length=F.length
 row:∀k:Nat,k<F.length->∃row,p.Rows[k]?=some row/\row.length=kk m/\∀i:Nat,i<kk m->∃e,row[i]?=some e/\e.Out=(E m F[k]! i).Out /\
  ((0<=(E m F[k]! i).To/\∃n:Nat,e.To=(n:Int)/\n<F.length/\SEq m F[n]! (E m F[k]! i).To.toNat)\/((E m F[k]! i).To=-1/\e.To=-1))
variable {F:List Nat}
theorem XA.at (hF:XA m F)  (hk:k<F.length):F[k]!∈F/\F[k]! < m.Rows.length/\F[k]?=some F[k]!:=by
 have hm:F[k]!∈F:=by rw[getElem!_pos F k hk];exact pn hk
 exact⟨hm,(hF.acc _ hm).1,by rw[getElem!_pos F k hk];exact p7 hk⟩
theorem XA.uniq (hF:XA m F){i j:Nat}(hi:i<F.length)(hj:j<F.length)(h:SEq m F[i]! F[j]!):i=j:=by
 rw[getElem!_pos F i hi,getElem!_pos F j hj]at h;have:=gF.1 hF.dist;rcases hU i j with q|q|q
 ·exact(this i j hi hj q h).elim
 ·exact q
 ·exact(this j i hj hi q h.symm).elim
theorem XA.len (hF:XA m F):F.length<=m.Rows.length:=by refine Un _ F ?_ λx hx=>(hF.acc x hx).1;refine List.Pairwise.imp ?_ hF.dist;intro a b q e;subst e;exact q (SEq.refl _)
section
variable {m:z6}(h:VM m)(hG:GG (kk m) m.Rows.length<=1000000000){F:List Nat}(hF:XA m F)
include h hG hF
theorem zhz (hs:s<m.Rows.length)(hr:Rch m s):∃i,i<F.length/\SEq m F[i]! s:=by
 obtain⟨r,_,_,_,r3⟩:=z8e h hG;rcases r3 s hs with⟨_,v,_,hv⟩|⟨_,hno⟩
 ·obtain⟨t,ht,q,_⟩:=hF.all s v hs hv;obtain⟨i,hi,e⟩:=List.getElem_of_mem ht;exact⟨i,hi,by rw[getElem!_pos F i hi,e];exact q⟩
 ·obtain⟨u,hu,e⟩:=hr;exact(hno u hu e).elim
theorem zk2 (hf:Zf m=some (F.map Int.ofNat)):Ret (KO m) λo=>o.length=m.Rows.length/\∀s,s<m.Rows.length->Rch m s->∃n:Nat,o[s]?=some (n:Int)/\n<F.length/\SEq m F[n]! s:=by
 have l64:=h.len64;have hFl:=hF.len;unfold KO Ql;rw[zw];refine(z6E h.wm).mono ?_;rintro p ⟨p1,p2⟩;rw[bdT hf,zw];refine(zbq h).mono ?_;rintro is ⟨q1,q2⟩;rw[zw];have w1:∀n:Nat,n<1000->w64 ((n:Int)+1)=((n+1:Nat):Int):=λn hn=>by rw[zN (by omega) (by omega)];rfl
 refine Ret.mono (Q:=λo=>o.length=m.Rows.length/\∀s,s<m.Rows.length->Rch m s->∃n:Nat,o[s]?=some (n:Int)/\n<F.length/\SEq m F[n]! s) ?_ λo ho=>ze.2 ho;refine zS (λq=>∃s:Nat,q.2=(s:Int)/\s<=m.Rows.length/\q.1.length=s/\∀t:Nat,t<s->Rch m t->∃n:Nat,q.1[t]?=some (n:Int)/\n<F.length/\SEq m F[n]! t) (λq=>1000 - q.2.toNat) ⟨0,rfl,pv _,rfl,λt ht=>by omega⟩ (by simp) ?_;rintro⟨out,q⟩ ⟨s,e1,s1,s2,s3⟩;simp only at e1 s2 s3;subst e1;unfold Qi;rw[zz];refine⟨λhc=>?_,λhc=>?_⟩
 ·have hs:s<m.Rows.length:=by rw[p1]at hc;simpa using hc
  rw[zw];have hl:s<is.length:=by omega
  obtain⟨y,hy⟩:∃y,p[s]?=some y:=⟨_,p7 (by omega)⟩;have inner:Ret (loop (λq=>Wr p (F.map Int.ofNat) is (s:Int) q.1 q.2) ((-1),0)) λk=>Rch m s->∃n:Nat,k=(n:Int)/\n<F.length/\SEq m F[n]! s:=by
   refine zS (λq=>∃n:Nat,q.2=(n:Int)/\n<=F.length/\(Rch m s->(∀i,i<n->¬SEq m F[i]! s)\/∃i:Nat,q.1=(i:Int)/\i<F.length/\SEq m F[i]! s)) (λq=>1000 - q.2.toNat) ⟨0,rfl,pv _,λ_=>.inl λi hi=>by omega⟩ (by simp) ?_;rintro⟨k,q⟩ ⟨n,e1,n1,n2⟩;simp only at e1 n2;subst e1;unfold Wr Yz;rw[zz];refine⟨λhc=>?_,λhc=>?_⟩
   ·have hn:n<F.length:=by simpa using hc
    obtain⟨f1,f2,f3⟩:=hF.at hn;have hx:(F.map Int.ofNat)[n]?=some ((F[n]!:Nat):Int):=by rw[pW,f3];rfl
    obtain⟨x,hx2⟩:∃x,p[F[n]!]?=some x:=⟨_,p7 (by omega)⟩;have hcl:=p2 _ _ f2 hs;rw[hx2,hy,Option.some.injEq]at hcl;rw[zH,bdT (p7 hl),zz,w1 n (by omega)];have step:∀k',(Rch m s->(∀i,i<n+1->¬SEq m F[i]! s)\/∃i:Nat,k'=(i:Int)/\i<F.length/\SEq m F[i]! s)->Ret (some (LR.next (k',((n+1:Nat):Int)):LR (Int×Int) Int)) (LRP (λs'=>(∃n:Nat,s'.2=(n:Int)/\n<=F.length/\(Rch m s->(∀i,i<n->¬SEq m F[i]! s)\/∃i:Nat,s'.1=(i:Int)/\i<F.length/\SEq m F[i]! s))/\1000 - s'.2.toNat<1000 - (n:Int).toNat) λk=>Rch m s->∃n:Nat,k=(n:Int)/\n<F.length/\SEq m F[n]! s):=by intro k' hk';exact ze.2 ⟨⟨n+1,rfl,hn,hk'⟩,by simp only[pb];omega⟩
    have grow:¬SEq m F[n]! s->Rch m s->(∀i,i<n+1->¬SEq m F[i]! s)\/∃i:Nat,k=(i:Int)/\i<F.length/\SEq m F[i]! s:=by
     intro hno hr;rcases n2 hr with g|g
     ·refine .inl λi hi=>?_;rcases pj i n with q|q
      ·exact g i q
      ·have:i=n:=by omega
       subst this;exact hno
     ·exact .inr g
    refine⟨λhb=>?_,λhb=>step k λhr=>?_⟩
    ·rw[zH,bdT hx,zH,bdT hx2,zH,bdT hy,zz];refine⟨λe=>step _ λ_=>.inr ⟨n,rfl,hn,hcl.1 (by simpa using e)⟩,λe=>step _ (grow λg=>?_)⟩;have:=hcl.2 g;simp[this]at e
    ·have:=(q2 s hs).2 hr;rw[p7 hl,hb]at this;cases this
   ·have:n=F.length:=by
     have:¬n<F.length:=by simpa using hc
     omega
    subst this;refine ze.2 λhr=>?_;rcases n2 hr with g|g
    ·obtain⟨i,hi,q⟩:=zhz h hG hF hs hr;exact(g i hi q).elim
    ·exact g
  refine inner.mono λk hk=>?_;unfold Qj Qk;rw[Wn,w1 s (by omega)];refine⟨by simp;omega,ze.2 ⟨⟨s+1,rfl,hs,by simp[s2],λt ht hr=>?_⟩,by simp only[pb];omega⟩⟩;rcases pj t s with q|q
  ·rw[pk (show t<out.length from by rw[s2];exact q)];exact s3 t q hr
  ·have:t=s:=by omega
   subst this;obtain⟨n,rfl,g⟩:=hk hr;exact⟨n,by rw[<-s2,pf (pd _)];simp,g⟩
 ·have:s=m.Rows.length:=by
   have:¬s<m.Rows.length:=by rw[p1]at hc;simpa using hc
   omega
  subst this;exact ze.2 ⟨s2,s3⟩
end
section
variable {m:z6}(h:VM m)(hG:GG (kk m) m.Rows.length<=1000000000)
include h hG
theorem zby:Ret (YW m) λp=>∃F,XA m F/\zi5 m F p:=by
 have l64:=h.len64;have hk2:=h.kk_le;have hke:=h.kk_eq;obtain⟨o,hf,F,rfl,hF⟩:=zdl h hG;have hFl:=hF.len;obtain⟨mp,hm,m1,m2⟩:=zk2 h hG hF hf;have w1:∀n:Nat,n<1000->w64 ((n:Int)+1)=((n+1:Nat):Int):=λn hn=>by rw[zN (by omega) (by omega)];rfl
 unfold YW Yc;rw[bdT hf,bdT hm,zw];let RowI:Nat->List z8->Nat->Prop:=λk row n=>row.length=n/\∀i:Nat,i<n->∃e,row[i]?=some e/\e.Out=(E m F[k]! i).Out /\
  ((0<=(E m F[k]! i).To/\∃n:Nat,e.To=(n:Int)/\n<F.length/\SEq m F[n]! (E m F[k]! i).To.toNat)\/((E m F[k]! i).To=-1/\e.To=-1))
 have hrow:∀k:Nat,k<F.length->Ret (loop (λs=>qW m (F.map Int.ofNat) mp (k:Int) s.1 s.2) (([]:List z8),0)) λrow=>RowI k row (kk m):=by
  intro k hk;obtain⟨f1,f2,f3⟩:=hF.at hk;have hx:(F.map Int.ofNat)[k]?=some ((F[k]!:Nat):Int):=by rw[pW,f3];rfl
  have hrch:Rch m F[k]!:=by obtain⟨_,v,hv⟩:=hF.acc _ f1;exact⟨v,hv.wd,hv.aft⟩
  refine zS (λq=>∃i:Nat,q.2=(i:Int)/\i<=kk m/\RowI k q.1 i) (λq=>1000 - q.2.toNat) ⟨0,rfl,pv _,rfl,λi hi=>by omega⟩ (by simp) ?_;rintro⟨row,q⟩ ⟨i,e1,i1,i2,i3⟩;simp only at e1 i2 i3;subst e1;unfold qW;rw[zz];refine⟨λhc=>?_,λhc=>?_⟩
  ·have hi:i<kk m:=by rw[<-hke]at hc;simpa using hc
   have he:=h.edgeAt f2 hi;rw[zH,bdT hx,h.edge_eq f2 hi,zz];have fin:∀to:Int,((0<=(E m F[k]! i).To/\∃n:Nat,to=(n:Int)/\n<F.length/\SEq m F[n]! (E m F[k]! i).To.toNat)\/((E m F[k]! i).To=-1/\to=-1)) ->
     Ret (vX row (i:Int) (E m F[k]! i) to) (LRP (λs'=>(∃i:Nat,s'.2=(i:Int)/\i<=kk m/\RowI k s'.1 i)/\1000 - s'.2.toNat<1000 - (i:Int).toNat) λrow=>RowI k row (kk m)):=by
    intro to hto;unfold vX;rw[Wn,w1 i (by omega)];refine⟨by simp;omega,ze.2 ⟨⟨i+1,rfl,hi,by simp[i2],λj hj=>?_⟩,by simp only[pb];omega⟩⟩;rcases pj j i with q|q
    ·rw[pk (show j<row.length from by rw[i2];exact q)];exact i3 j q
    ·have:j=i:=by omega
     subst this;refine⟨⟨to,(E m F[k]! j).Out⟩,?_,rfl,hto⟩
     conv=>lhs;arg 2;rw[<-i2]
     rw[pf (pd _)];simp
   refine⟨λhc=>?_,λhc=>?_⟩
   ·have h0:0<=(E m F[k]! i).To:=by simpa using hc
    obtain⟨t,ht⟩:=mF h0;have htN:t<m.Rows.length:=by omega
    have hr:Rch m t:=by have:=rch_step hrch hi h0;rw[ht]at this;simpa using this
    obtain⟨n,n1,n2,n3⟩:=m2 t htN hr;rw[ht,zH,bdT n1];exact fin _ (.inl ⟨h0,n,rfl,n2,by rw[ht];simpa using n3⟩)
   ·have h0:¬0<=(E m F[k]! i).To:=by simpa using hc
    have:(E m F[k]! i).To=-1:=by omega
    exact fin _ (.inr ⟨this,this⟩)
  ·have:i=kk m:=by
    have:¬i<kk m:=by rw[<-hke]at hc;simpa using hc
    omega
   subst this;exact ze.2 ⟨i2,i3⟩
 have hloop:Ret (loop (λs=>qX m (F.map Int.ofNat) mp s.1 s.2) (([]:List (List z8)),0)) λrows=>rows.length=F.length/\∀k:Nat,k<F.length->∃row,rows[k]?=some row/\RowI k row (kk m):=by
  refine zS (λq=>∃k:Nat,q.2=(k:Int)/\k<=F.length/\q.1.length=k/\∀j:Nat,j<k->∃row,q.1[j]?=some row/\RowI j row (kk m)) (λq=>1000 - q.2.toNat) ⟨0,rfl,pv _,rfl,λi hi=>by omega⟩ (by simp) ?_;rintro⟨rows,q⟩ ⟨k,e1,k1,k2,k3⟩;simp only at e1 k2 k3;subst e1;unfold qX;rw[zz];refine⟨λhc=>?_,λhc=>?_⟩
  ·have hk:k<F.length:=by simpa using hc
   rw[zw];refine(hrow k hk).mono λrow hr=>?_;unfold Ya Yb;rw[Wn,w1 k (by omega)];refine⟨by simp;omega,ze.2 ⟨⟨k+1,rfl,hk,by simp[k2],λj hj=>?_⟩,by simp only[pb];omega⟩⟩;rcases pj j k with q|q
   ·rw[pk (show j<rows.length from by rw[k2];exact q)];exact k3 j q
   ·have:j=k:=by omega
    subst this;refine⟨row,?_,hr⟩
    conv=>lhs;arg 2;rw[<-k2]
    rw[pf (pd _)];simp
  ·have:k=F.length:=by
    have:¬k<F.length:=by simpa using hc
    omega
   subst this;exact ze.2 ⟨k2,k3⟩
 refine hloop.mono ?_;rintro rows ⟨r1,r2⟩;refine ze.2 ⟨F,hF,rfl,rfl,r1,λk hk=>?_⟩;obtain⟨row,e,q1,q2⟩:=r2 k hk;exact⟨row,e,q1,q2⟩
end
section
variable {m:z6}(h:VM m)
include h
omit h in
theorem zqE {p:z6}(hp:zi5 m F p)(hk:kk p=kk m){k i:Nat}(h1:k<F.length)(hi:i<kk m):(E p k i).Out=(E m F[k]! i).Out/\((0<=(E m F[k]! i).To/\∃n:Nat,(E p k i).To=(n:Int)/\n<F.length/\SEq m F[n]! (E m F[k]! i).To.toNat)\/((E m F[k]! i).To=-1/\(E p k i).To=-1)):=by
 obtain⟨row,q1,q2,q3⟩:=hp.row k h1;obtain⟨e,e1,e2⟩:=q3 i hi;have:E p k i=e:=by unfold E;rw[q1,pu,e1];rfl
 rw[this];exact e2
omit h in
theorem zbk (hF:XA m F){p:z6}(hp:zi5 m F p):∀(w:List Nat) (k:Nat),k<F.length->Wd (kk m) w->rsp p (k:Int) w=rsp m ((F[k]!:Nat):Int) w
 | [],_,_,_=>rfl
 | i::w,k,hk,hw=>by
  have hkk:kk p=kk m:=by unfold kk;rw[hp.inp]
  have hi:=hw i (by simp);have hw':Wd (kk m) w:=λj hj=>hw j (by simp[hj]);obtain⟨e1,e2⟩:=zqE hp hkk hk hi;simp only[rsp,jT,e1,List.cons.injEq,true_and];rcases e2 with⟨h0,n,g1,g2,g3⟩|⟨g1,g2⟩
  ·rw[g1,zbk hF hp w n g2 hw',g3 w hw'];congr 1;omega
  ·rw[g1,g2,zbj _ _ _ (by omega),zbj _ _ _ (by omega)]
theorem z83 (hF:XA m F):0<F.length/\F[0]! = 0:=by
 have l1:=h.len1;have hacc:Acc m 0 []:=⟨λi hi=>by simp at hi,by show 0<m.Rows.length;omega,rfl,λu _ _=>by simp[rk,GG,Jx]⟩;obtain⟨s,hs,_,w,hw,hle⟩:=hF.all 0 [] (by omega) hacc;have hw0:w=[]:=za7 hw.wd hacc.wd (by
  have:rk (kk m) ([]:List Nat)=0:=by simp[rk,GG,Jx]
  omega)
 subst hw0;have hs0:s=0:=by have:=hw.aft;simp[aft]at this;omega
 subst hs0;obtain⟨j,hj,ej⟩:=List.getElem_of_mem hs;refine⟨by omega,?_⟩;rcases mU j with rfl|q
 ·rw[getElem!_pos F 0 (by omega)];exact ej
 ·have h0:0<F.length:=by omega
  have:=gF.1 hF.sorted 0 j h0 hj q;obtain⟨_,v,hv⟩:=hF.acc F[0] (pn h0);have:=this v [] hv (by rw[ej];exact hacc);simp[rk,GG,Jx]at this
end
def kC:List Int->List Int->Int
 | [],[]=>0
 | [],_::_=>-1
 | _::_,[]=>1
 | x::a,y::b=>if x<y then -1 else if y<x then 1 else kC a b
def YB (a b:List Int):Int:=if a.length<b.length then -1 else if b.length<a.length then 1 else kC a b
theorem zeV:∀{a b:List Int},kC a b=0->a=b
 | [],[],_=>rfl
 | [],_::_,h=>by simp[kC]at h
 | _::_,[],h=>by simp[kC]at h
 | x::a,y::b,h=>by
  simp only[kC]at h;split at h
  ·simp at h
  ·split at h
   ·simp at h
   ·rw[show x=y by omega,zeV h]
theorem zat:∀a:List Int,kC a a=0
 | []=>rfl
 | x::a=>by simp[kC,zat a]
theorem zcA:∀a b:List Int,kC b a=- kC a b
 | [],[]=>rfl
 | [],_::_=>rfl
 | _::_,[]=>rfl
 | x::a,y::b=>by
  simp only[kC];split
  ·rw[if_neg (by omega)]
  ·split
   ·rfl
   ·exact zcA a b
theorem z81:∀{a b c:List Int},kC a b<0->kC b c<0->kC a c<0
 | [],[],_,h,_=>by simp[kC]at h
 | [],_::_,[],_,h=>by simp[kC]at h
 | [],_::_,_::_,_,_=>by simp[kC]
 | _::_,[],_,h,_=>by simp[kC]at h
 | _::_,_::_,[],_,h=>by simp[kC]at h
 | x::a,y::b,z::c,h1,h2=>by
  simp only[kC]at h1 h2 ⊢;by_cases e1:x<y
  ·by_cases e2:y<z
   ·rw[if_pos (by omega)];omega
   ·rw[if_neg e2]at h2;by_cases e3:z<y
    ·rw[if_pos e3]at h2;omega
    ·rw[if_pos (by omega)];omega
  ·rw[if_neg e1]at h1;by_cases e3:y<x
   ·rw[if_pos e3]at h1;omega
   ·rw[if_neg e3]at h1;have:x=y:=by omega
    subst this;by_cases e2:x<z
    ·rw[if_pos e2];omega
    ·rw[if_neg e2]at h2 ⊢;by_cases e4:z<x
     ·rw[if_pos e4]at h2;omega
     ·rw[if_neg e4]at h2 ⊢;exact z81 h1 h2
variable {a b:List Int}
theorem z6D (h:YB a b=0):a=b:=by
 unfold YB at h;split at h
 ·simp at h
 ·split at h
  ·simp at h
  ·exact zeV h
theorem Uw (a:List Int):YB a a=0:=by simp[YB,zat]
theorem zcS:YB a b=0↔a=b:=⟨z6D,λh=>h ▸ Uw a⟩
theorem zcR (a b:List Int):YB b a=- YB a b:=by
 unfold YB;by_cases h1:a.length<b.length
 ·rw[if_pos h1,if_neg (by omega),if_pos h1];rfl
 ·by_cases h2:b.length<a.length
  ·rw[if_pos h2,if_neg h1,if_pos h2]
  ·rw[if_neg h1,if_neg h2,if_neg h2,if_neg h1,zcA]
theorem ZJ {a b c:List Int}(h1:YB a b<0)(h2:YB b c<0):YB a c<0:=by
 unfold YB at *;by_cases e1:a.length<b.length
 ·by_cases e2:b.length<c.length
  ·rw[if_pos (by omega)];omega
  ·rw[if_neg e2]at h2;by_cases e3:c.length<b.length
   ·rw[if_pos e3]at h2;omega
   ·rw[if_pos (by omega)];omega
 ·rw[if_neg e1]at h1;by_cases e3:b.length<a.length
  ·rw[if_pos e3]at h1;omega
  ·rw[if_neg e3]at h1;have e:a.length=b.length:=by omega
   rw[e];by_cases e2:b.length<c.length
   ·rw[if_pos e2];omega
   ·rw[if_neg e2]at h2 ⊢;by_cases e4:c.length<b.length
    ·rw[if_pos e4]at h2;omega
    ·rw[if_neg e4]at h2 ⊢;exact z81 h1 h2
theorem z97 (a:List Int):¬YB a a<0:=by rw[Uw];omega
theorem zaR (h:YB a b<0):¬YB b a<0:=by rw[zcR a b];omega
theorem z98:¬YB a b<0↔YB b a<0\/a=b:=by rw[<-zcS,zcR a b];omega
def SW (l:List (List Int)):Prop:=l.Pairwise λa b=>YB a b<0
theorem SW.nil:SW []:=List.Pairwise.nil
variable {l:List (List Int)}{x:List Int}
theorem SW.tail (h:SW (x::l)):SW l:=(pS.1 h).2
theorem SW.head (h:SW (x::l)):∀y∈l,YB x y<0:=(pS.1 h).1
theorem SW.unique:∀{l m:List (List Int)},SW l->SW m->(∀x,x∈l↔x∈m)->l=m
 | [],[],_,_,_=>rfl
 | [],y::m,_,_,h=>by have:=(h y).2 (by simp);simp at this
 | x::l,[],_,_,h=>by have:=(h x).1 (by simp);simp at this
 | x::l,y::m,h1,h2,h=>by
  have hxy:x=y:=by
   rcases pc.1 ((h x).1 (by simp)) with e|e
   ·exact e
   ·rcases pc.1 ((h y).2 (by simp)) with e'|e'
    ·exact e'.symm
    ·exact absurd (h2.head x e) (zaR (h1.head y e'))
  subst hxy;rw[SW.unique h1.tail h2.tail λz=>?_];constructor
  ·intro hz;rcases pc.1 ((h z).1 (by simp[hz])) with e|e
   ·subst e;exact absurd (h1.head _ hz) (z97 _)
   ·exact e
  ·intro hz;rcases pc.1 ((h z).2 (by simp[hz])) with e|e
   ·subst e;exact absurd (h2.head _ hz) (z97 _)
   ·exact e
theorem SW.sub {l m:List (List Int)}(h:SW l)(hs:List.Sublist m l):SW m:=mn hs h
def z7S (w:List Int):List (List Int)->List (List Int)
 | []=>[w]
 | x::l=>if YB x w<0 then x::z7S w l else if YB x w=0 then x::l else w::x::l
theorem z2v {w x:List Int}:∀{l:List (List Int)},x∈z7S w l↔x=w\/x∈l
 | []=>by simp[z7S]
 | y::l=>by
  simp only[z7S];split
  ·simp only[pc,z2v];constructor
   ·rintro(h|h|h) <;> simp[h]
   ·rintro(h|h|h) <;> simp[h]
  ·split
   ·rename_i h1 h2;have:=z6D h2;subst this;simp
   ·simp
theorem SW.put {w:List Int}:∀{l:List (List Int)},SW l->SW (z7S w l)
 | [],_=>by simp[z7S,SW]
 | y::l,h=>by
  simp only[z7S];split
  ·rename_i h1;refine pS.2 ⟨λz hz=>?_,SW.put h.tail⟩;rcases z2v.1 hz with rfl|hz
   ·exact h1
   ·exact h.head z hz
  ·split
   ·exact h
   ·rename_i h1 h2;have hw:YB w y<0:=by
     rcases z98.1 h1 with q|q
     ·exact q
     ·exact absurd (zcS.2 q) h2
    refine pS.2 ⟨λz hz=>?_,h⟩;rcases pc.1 hz with rfl|hz
    ·exact hw
    ·exact ZJ hw (h.head z hz)
theorem zcq (w:List Int):∀l,(z7S w l).length<=l.length+1
 | []=>by simp[z7S]
 | y::l=>by
  simp only[z7S];split
  ·have:=zcq w l;simp;omega
  ·split <;> simp
def srt (l:List (List Int)):List (List Int):=l.foldl (λm w=>z7S w m) []
theorem zbb:∀(l m:List (List Int)),SW m->SW (l.foldl (λm w=>z7S w m) m)/\∀x,x∈l.foldl (λm w=>z7S w m) m↔x∈m\/x∈l
 | [],m,h=>⟨h,by simp⟩
 | w::l,m,h=>by
  obtain⟨h1,h2⟩:=zbb l (z7S w m) h.put;refine⟨h1,λx=>?_⟩;rw[nb,h2,z2v];simp only[pc];constructor
  ·rintro((h|h)|h) <;> simp[h]
  ·rintro(h|h|h) <;> simp[h]
theorem zc4 (l:List (List Int)):SW (srt l):=(zbb l [] .nil).1
theorem z1i:x∈srt l↔x∈l:=by rw[srt,(zbb l [] .nil).2];simp
theorem zdR {l m:List (List Int)}(h:SW m)(hm:∀x,x∈m↔x∈l):m=srt l:=h.unique (zc4 l) λx=>by rw[hm,z1i]
theorem z9Q (h:SW l):srt l=l:=(zdR h λ_=>.rfl).symm
theorem z9R {l m:List (List Int)}(h:∀x,x∈l↔x∈m):srt l=srt m:=zdR (zc4 l) λx=>by rw[z1i,h]
theorem zgx (l:List (List Int))(w:List Int):srt (l++[w])=z7S w (srt l):=by simp[srt]
theorem z8H (l:List (List Int)):(srt l).length<=l.length:=by
 have:∀(l m:List (List Int)),(l.foldl (λm w=>z7S w m) m).length<=m.length+l.length:=by
  intro l;induction l with
  | nil=>intro m;simp
  | cons w l ih=>intro m;have:=ih (z7S w m);have:=zcq w m;simp only[nb,pC];omega
 have q:=this l [];simp only[mG,pq]at q;exact q
theorem zK {l:List α}  {x:α}(h:l[i]?=some x):idx l (i:Int)=some x:=h
theorem zfb (b:List Int)(g:Nat->Int->Option Int)(hg:∀i x y,b[i]?=some y->g i x=if x<y then some (-1) else if y<x then some 1 else none) :
  ∀(a:List Int) (k:Nat),k+a.length=b.length->(yj g a k).getD 0=kC a (b.drop k)
 | [],k,h=>by have:b.drop k=[]:=gI (by simp at h;omega);rw[this];rfl
 | x::a,k,h=>by
  simp only[pC]at h;have hk:k<b.length:=by omega
  rw[pF hk];simp only[yj,kC,hg k x b[k] (p7 hk)];by_cases h1:x<b[k]
  ·simp[h1]
  ·by_cases h2:b[k]<x
   ·simp[h1,h2]
   ·simp only[h1,h2,if_false];exact zfb b g hg a (k+1) (by omega)
theorem z2C (a b:List Int)(h:a.length=b.length->a.length<4611686018427387904):ug a b=some (YB a b):=by
 unfold ug;by_cases hl:a.length=b.length
 ·have h':=h hl;simp only[hl,bne_self_eq_false,cond_false];rw[bdT (wk a h' (λi x=>match b[i]? with|some y=>if x<y then some (-1:Int) else if y<x then some 1 else none|none=>none) ?_ ?_)]
  ·have q:=zfb b (λi x=>match b[i]? with|some y=>if x<y then some (-1:Int) else if y<x then some 1 else none|none=>none) (λi x y hy=>by simp only[hy]) a 0 (by omega);rw[List.drop_zero]at q;have hc:YB a b=kC a b:=by unfold YB;rw[if_neg (by omega),if_neg (by omega)]
   rw[hc,<-q];cases yj (λi x=>match b[i]? with|some y=>if x<y then some (-1:Int) else if y<x then some 1 else none|none=>none) a 0 <;> rfl
  ·intro i x hx;have hi:i<a.length:=(p8.1 hx).1;have hy:b[i]?=some b[i]:=p7 (by omega);unfold qV;have hc:decide ((i:Int)<(a.length:Int))=true:=by simpa using hi
   simp only[hc,cond_true,zK hx,zK hy,hy,oB];by_cases h1:x<b[i]
   ·simp[h1,nS]
   ·by_cases h2:b[i]<x
    ·simp[h1,h2,nS]
    ·simp[h1,h2,nS]
  ·unfold qV;simp
 ·have h1:(((a.length:Nat):Int) !=((b.length:Nat):Int))=true:=by simp;omega
  simp only[h1,cond_true];unfold YB;by_cases h2:a.length<b.length
  ·simp[h2]
  ·have h3:b.length<a.length:=by omega
   simp[h2,h3]
def cI (x y:Int):Int:=if x<y then -1 else if y<x then 1 else 0
theorem zfq (x y:Int):qp x y=some (cI x y):=by
 unfold qp Xp cI;simp only[bne_self_eq_false,oB,cond_false];by_cases h1:x<y
 ·simp[h1]
 ·by_cases h2:y<x
  ·simp[h1,h2]
  ·simp[h1,h2]
theorem zjB (a b:List Int)(h:a.length<4611686018427387904):∃c,wh a b=some c/\(a.length=b.length->c=kC a b):=by
 unfold wh;have hloop:=wk a h (step:=λs=>yD a b s) (λi x=>match b[i]? with|some y=>if x<y then some (-1:Int) else if y<x then some 1 else none|none=>some 1) (by
  intro i x hx;have hi:i<a.length:=(p8.1 hx).1;unfold yD;have hc:decide ((i:Int)<(a.length:Int))=true:=by simpa using hi
  simp only[hc,cond_true,zK hx,oB];by_cases hb:i<b.length
  ·have hy:b[i]?=some b[i]:=p7 hb;have hd:decide ((i:Int)>=(b.length:Int))=false:=by simp;omega
   simp only[hd,cond_false,zK hy,hy,oB,zfq];unfold cI;by_cases h1:x<b[i]
   ·simp[h1,nS]
   ·by_cases h2:b[i]<x
    ·simp[h1,h2,nS]
    ·simp[h1,h2,nS]
  ·have hy:b[i]?=none:=pi (by omega);have hd:decide ((i:Int)>=(b.length:Int))=true:=by simp;omega
   simp only[hd,cond_true,hy,nS]) (by unfold yD;simp)
 rw[bdT hloop];have q:=λhl=>zfb b (λi x=>match b[i]? with|some y=>if x<y then some (-1:Int) else if y<x then some 1 else none|none=>some 1) (λi x y hy=>by simp only[hy]) a 0 hl;cases hf:yj (λi x=>match b[i]? with|some y=>if x<y then some (-1:Int) else if y<x then some 1 else none|none=>some 1) a 0 with
 | some r=>refine⟨r,rfl,λhl=>?_⟩;have:=q (by omega);rw[hf]at this;simpa using this
 | none=>
  unfold wu;by_cases hl:a.length<b.length
  ·refine⟨-1,by simp[oS,hl],λhl2=>by omega⟩
  ·refine⟨0,by simp[oS,hl],λhl2=>?_⟩;have:=q (by omega);rw[hf]at this;simpa using this
theorem zsA (x y:Int):Jo [x,y]=some (if x=0 then y else x):=by
 unfold Jo;rw[bdT (wk [x,y] (by simp) (step:=λs=>ZI [x,y] s) (λi v=>if v≠0 then some v else none) ?_ ?_)]
 ·by_cases h1:x=0
  ·by_cases h2:y=0
   ·simp[yj,h1,h2,oS,Vl]
   ·simp[yj,h1,h2,oS]
  ·simp[yj,h1,oS]
 ·intro i v hv;have hi:i<[x,y].length:=(p8.1 hv).1;unfold ZI;have hc:decide ((i:Int)<(([x,y]:List Int).length:Int))=true:=by simp only[decide_eq_true_eq];omega
  simp only[hc,cond_true,zK hv,oB];by_cases h:v=0
  ·simp[h,nS]
  ·have hb:(v != 0)=true:=by simpa using h
   simp[h,hb,nS]
 ·unfold ZI;simp
theorem z4y (a b:List Int)(h:a.length<4611686018427387904):xI a b=some (YB a b):=by
 unfold xI;obtain⟨c,hc,hl⟩:=zjB a b h;rw[zfq,hc];simp only[oB,zsA];unfold cI YB;by_cases h1:a.length<b.length
 ·simp[h1]
 ·by_cases h2:b.length<a.length
  ·simp[h1,h2]
  ·simp[h1,h2,hl (by omega)]
def wE (n:Int)(w:List Int):Int:=if 256<w.length then 3 else if w.any (λc=>decide (c<0) || decide (n<=c)) then 1 else 0
variable {n:Int}
theorem zb6 {w:List Int}:wE n w=0↔w.length<=256/\∀c∈w,0<=c/\c<n:=by
 unfold wE;by_cases h:256<w.length
 ·rw[if_pos h];exact⟨λq=>by simp at q,λq=>by omega⟩
 ·rw[if_neg h];by_cases h2:w.any (λc=>decide (c<0) || decide (n<=c))=true
  ·rw[if_pos h2];simp only[mZ,pV,decide_eq_true_eq]at h2;obtain⟨c,h3,h4⟩:=h2;refine⟨λq=>by simp at q,λq=>?_⟩;have:=q.2 c h3;omega
  ·rw[if_neg h2];simp only[mZ,pV,decide_eq_true_eq,not_exists,not_and,not_or]at h2;refine⟨λ_=>⟨by omega,λc hc=>?_⟩,λ_=>rfl⟩;have:=h2 c hc;omega
variable {ρ:Type}
theorem zfc (p:Int->Bool)(g:Nat->Int->Option ρ)(hg:∀i x,(g i x).isSome=p x):∀(w:List Int) (k:Nat),(yj g w k).isSome=w.any p
 | [],k=>rfl
 | x::w,k=>by
  simp only[yj,List.any_cons];have:=hg k x;cases hx:g k x with
  | some r=>rw[hx]at this;simp at this;simp[<-this]
  | none=>rw[hx]at this;simp at this;rw[this,mP];exact zfc p g hg w (k+1)
theorem ziO (n:Int)(w:List Int):(Option.bind (Vv w) λr=>bif r != 0 then some r else YV w n)=some (wE n w):=by
 unfold Vv wE;by_cases h:256<w.length
 ·have h':(256:Int)<(w.length:Int):=by omega
  simp[h,h']
 ·have hd:decide (((w.length:Nat):Int) > 256)=false:=by simp;omega
  simp only[hd,cond_false,oB,bne_self_eq_false,if_neg h];unfold YV;have hl:=wk w (by omega) (step:=λs=>vW w n s) (λi c=>if c<0\/n<=c then some (1:Int) else none) (by
   intro i c hc;have hi:i<w.length:=(p8.1 hc).1;unfold vW;have hq:decide ((i:Int)<(w.length:Int))=true:=by simpa using hi
   simp only[hq,cond_true,zK hc,oB];by_cases h1:c<0
   ·simp[h1,nS]
   ·by_cases h2:n<=c
    ·simp[h1,h2,nS]
    ·simp[h1,h2,nS]) (by unfold vW;simp)
  rw[bdT hl];have q:=zfc (λc=>decide (c<0) || decide (n<=c)) (λi c=>if c<0\/n<=c then some (1:Int) else none) (λi c=>by by_cases h:c<0\/n<=c <;> simp[h] <;> simpa using h) w 0;cases hf:yj (λi c=>if c<0\/n<=c then some (1:Int) else none) w 0 with
  | none=>rw[hf]at q;rw[<-q];rfl
  | some r=>
   rw[hf]at q;obtain⟨i,x,h1,h2⟩:=wY hf;rw[<-q];split at h2
   ·cases h2;rfl
   ·cases h2
theorem z9K (n:Int)(w:List Int):kN w n=some (if 16<n then 3 else if 256<w.length then 3 else if n<1 then 1 else wE n w):=by
 unfold kN;by_cases h0:16<n
 ·simp[h0]
 by_cases h:256<w.length
 ·have h':(256:Int)<(w.length:Int):=by omega
  simp[h0,h,h']
 by_cases h1:n<1
 ·have h':¬(256:Int)<(w.length:Int):=by omega
  simp[h0,h,h',h1]
 ·have hd:decide (((w.length:Nat):Int) > 256)=false:=by simp;omega
  have hd0:decide (n > 16)=false:=by simp;omega
  have hd1:decide (n<1)=false:=by simp;omega
  simp only[hd,hd0,hd1,cond_false,if_neg h,if_neg h0,if_neg h1];unfold xW wM wE;have hl:=wk w (by omega) (step:=λs=>yh w n s) (λi c=>if c<0\/n<=c then some (i:Int) else none) (by
   intro i c hc;have hi:i<w.length:=(p8.1 hc).1;unfold yh V9;have hq:decide ((i:Int)<(w.length:Int))=true:=by simpa using hi
   simp only[hq,cond_true,zK hc,oB];by_cases h1:c<0
   ·simp[h1,nS]
   ·by_cases h2:n<=c
    ·simp[h1,h2,nS]
    ·simp[h1,h2,nS]) (by unfold yh;simp)
  rw[bdT hl,if_neg h];have q:=zfc (λc=>decide (c<0) || decide (n<=c)) (λi c=>if c<0\/n<=c then some (i:Int) else none) (λi c=>by by_cases h:c<0\/n<=c <;> simp[h] <;> simpa using h) w 0;cases hf:yj (λi c=>if c<0\/n<=c then some (i:Int) else none) w 0 with
  | none=>rw[hf]at q;rw[<-q];rfl
  | some r=>
   rw[hf]at q;obtain⟨i,x,h1,h2⟩:=wY hf;rw[<-q];split at h2
   ·cases h2;simp[oS]
   ·cases h2
def eS (e:Int):Option Int:=if e=0 then none else some e
def loE (n:Int)(l:List (List Int)):Int:=if 16<n then 3 else if 4096<l.length then 3 else if n<1 then 1 else(yj (λ_ w=>eS (wE n w)) l 0).getD 0
theorem zcM:∀{l:List (List Int)} {k:Nat},(yj (λ_ w=>eS (wE n w)) l k).getD 0=0↔∀w∈l,wE n w=0
 | [],_=>by simp[yj]
 | w::l,k=>by
  by_cases h:wE n w=0
  ·have:eS (wE n w)=none:=by simp[eS,h]
   simp only[yj,this];rw[zcM];simp[h]
  ·have:eS (wE n w)=some (wE n w):=by simp[eS,h]
   simp[yj,this,h]
theorem z2x:loE n l=0↔(1<=n/\n<=16)/\l.length<=4096/\∀w∈l,w.length<=256/\∀c∈w,0<=c/\c<n:=by
 unfold loE;by_cases h0:16<n
 ·rw[if_pos h0];exact⟨λq=>by simp at q,λq=>by omega⟩
 by_cases h1:4096<l.length
 ·rw[if_neg h0,if_pos h1];exact⟨λq=>by simp at q,λq=>by omega⟩
 by_cases h2:n<1
 ·rw[if_neg h0,if_neg h1,if_pos h2];exact⟨λq=>by simp at q,λq=>by omega⟩
 rw[if_neg h0,if_neg h1,if_neg h2,zcM];constructor
 ·intro q;exact⟨by omega,by omega,λw hw=>zb6.1 (q w hw)⟩
 ·intro q w hw;exact zb6.2 (q.2.2 w hw)
theorem zi7 (l:List (List Int))(n:Int):Uf l n=some (loE n l):=by
 unfold Uf loE;by_cases h0:16<n
 ·simp[h0]
 by_cases h1:4096<l.length
 ·have h':(4096:Int)<(l.length:Int):=by omega
  simp[h0,h1,h']
 by_cases h2:n<1
 ·have h':¬(4096:Int)<(l.length:Int):=by omega
  simp[h0,h1,h2,h']
 have d0:decide (n > 16)=false:=by simp;omega
 have d1:decide (((l.length:Nat):Int) > 4096)=false:=by simp;omega
 have d2:decide (n<1)=false:=by simp;omega
 simp only[d0,d1,d2,cond_false,if_neg h0,if_neg h1,if_neg h2];rw[bdT (wk l (by omega) (step:=λs=>jI l n s) (λ_ w=>eS (wE n w)) ?_ ?_)]
 ·cases yj (λ_ w=>eS (wE n w)) l 0 <;> rfl
 ·intro i w hw;have hi:i<l.length:=(p8.1 hw).1;have hq:decide ((i:Int)<(l.length:Int))=true:=by simpa using hi
  have he:=ziO n w;unfold jI;simp only[hq,cond_true,zK hw,oB];unfold Vv at he ⊢;by_cases h:256<w.length
  ·have h':(256:Int)<(w.length:Int):=by omega
   have:wE n w=3:=by unfold wE;rw[if_pos h]
   simp[h',this,eS,nS]
  ·have hd:decide (((w.length:Nat):Int) > 256)=false:=by simp;omega
   simp only[hd,cond_false,oB,bne_self_eq_false]at he ⊢;rw[he];simp only[oB];by_cases hz:wE n w=0
   ·simp[hz,eS,nS]
   ·have hb:(wE n w != 0)=true:=by simpa using hz
    simp[hz,hb,eS,nS]
 ·unfold jI;simp
theorem zcx (l:List (List Int))(n:Int):XF l n=some (loE n l):=by
 unfold XF loE;by_cases h0:16<n
 ·simp[h0]
 by_cases h1:4096<l.length
 ·have h':(4096:Int)<(l.length:Int):=by omega
  simp[h0,h1,h']
 by_cases h2:n<1
 ·have h':¬(4096:Int)<(l.length:Int):=by omega
  simp[h0,h1,h2,h']
 have d0:decide (n > 16)=false:=by simp;omega
 have d1:decide (((l.length:Nat):Int) > 4096)=false:=by simp;omega
 have d2:decide (n<1)=false:=by simp;omega
 simp only[d0,d1,d2,cond_false,if_neg h0,if_neg h1,if_neg h2];rw[bdT (wk l (by omega) (step:=λs=>jF l n s) (λ_ w=>eS (wE n w)) ?_ ?_)]
 ·cases yj (λ_ w=>eS (wE n w)) l 0 <;> rfl
 ·intro i w hw;have hi:i<l.length:=(p8.1 hw).1;have hq:decide ((i:Int)<(l.length:Int))=true:=by simpa using hi
  have he:kN w n=some (wE n w):=by
   rw[z9K,if_neg h0,if_neg h2];by_cases h:256<w.length
   ·rw[if_pos h];unfold wE;rw[if_pos h]
   ·rw[if_neg h]
  unfold jF;simp only[hq,cond_true,zK hw,oB,he];by_cases hz:wE n w=0
  ·simp[hz,eS,nS]
  ·have hb:(wE n w != 0)=true:=by simpa using hz
   simp[hz,hb,eS,nS]
 ·unfold jF;simp
theorem zcy (l:List (List Int))(hl:l.length<4611686018427387904){step:Int×Int->Option (LR (Int×Int) Int)}
  (h:∀(n:Int) (i:Nat) (x:List Int),l[i]?=some x->step (n,(i:Int))=some (.next (w64 (n+((x.length:Nat):Int)),w64 ((i:Int)+1)))) (h2:∀n,step (n,(l.length:Int))=some (.done n)) :
  loop step (0,0)=some (l.foldl (λn x=>w64 (n+((x.length:Nat):Int))) 0):=by
 have gen:∀(m k:Nat) (n:Int),k<=l.length->l.length - k<m->z1l step m (n,(k:Int))=some ((l.drop k).foldl (λn x=>w64 (n+((x.length:Nat):Int))) n):=by
  intro m;induction m with
  | zero=>intro k n _ h;omega
  | succ m ih=>
   intro k n hk hn;rw[Jh];rcases pj k l.length with hlt|hge
   ·have hx:l[k]?=some l[k]:=p7 hlt;rw[h n k _ hx,pF hlt];simp only[nb];rw[zN (x:=(k:Int)+1) (by omega) (by omega)];exact ih (k+1) _ hlt (by omega)
   ·have:k=l.length:=by omega
    subst this;rw[h2,List.drop_length];rfl
 exact gen fuel 0 0 (pv _) (by show l.length - 0<18446744073709551616;omega)
def stW (l:List (List Int)):Int:=l.foldl (λn x=>w64 (n+((x.length:Nat):Int))) 0
theorem zi3 (l:List (List Int))(hl:l.length<4611686018427387904):Ue l=some (stW l):=by
 unfold Ue;rw[bdT (zcy l hl (step:=λs=>jH l s.1 s.2) ?_ ?_)]
 ·rfl
 ·intro n i x hx;have hi:i<l.length:=(p8.1 hx).1;have hq:decide ((i:Int)<(l.length:Int))=true:=by simpa using hi
  unfold jH;simp only[hq,cond_true,zK hx,oB]
 ·intro n;unfold jH;simp
theorem zbZ (l:List (List Int))(hl:l.length<4611686018427387904):XE l=some (stW l):=by
 unfold XE;rw[bdT (zcy l hl (step:=λs=>jD l s.1 s.2) ?_ ?_)]
 ·rfl
 ·intro n i x hx;have hi:i<l.length:=(p8.1 hx).1;have hq:decide ((i:Int)<(l.length:Int))=true:=by simpa using hi
  unfold jD;simp only[hq,cond_true,zK hx,oB]
 ·intro n;unfold jD;simp
def z23 (l:List (List Int)):Nat:=(l.map List.length).sum
theorem zdP (h:z23 l<4611686018427387904):stW l=(z23 l:Int):=by
 have gen:∀(l:List (List Int)) (n:Nat),n+z23 l<4611686018427387904->l.foldl (λn x=>w64 (n+((x.length:Nat):Int))) (n:Int)=((n+z23 l:Nat):Int):=by
  intro l;induction l with
  | nil=>intro n _;simp[z23]
  | cons x l ih=>
   intro n hn;have hs:z23 (x::l)=x.length+z23 l:=by simp[z23]
   rw[hs]at hn ⊢;rw[nb,zN (by omega) (by omega),<-Int.natCast_add,ih (n+x.length) (by omega)];congr 1;omega
 have:=gen l 0 (by omega);simpa[stW] using this
theorem z5W {m:Nat}(h:∀w∈l,w.length<=m):z23 l<=l.length*m:=by
 induction l with
 | nil=>simp[z23]
 | cons x l ih=>
  have hs:z23 (x::l)=x.length+z23 l:=by simp[z23]
  have h1:=h x (by simp);have h2:=ih λw hw=>h w (by simp[hw]);rw[hs,pC,hZ];omega
theorem zbY:∀{l:List (List Int)},SW l↔∀i x y,l[i]?=some x->l[i+1]?=some y->YB x y<0
 | []=>by simp[SW]
 | [x]=>⟨λ_ i a b _ h2=>by simp at h2,λ_=>by simp[SW]⟩
 | x::y::l=>by
  constructor
  ·intro h i a b h1 h2;cases i with
   | zero=>simp at h1 h2;subst h1;subst h2;exact h.head y (by simp)
   | succ i=>exact zbY.1 h.tail i a b (by simpa using h1) (by simpa using h2)
  ·intro h;have ht:SW (y::l):=zbY.2 λi a b h1 h2=>h (i+1) a b (by simpa using h1) (by simpa using h2);have h0:=h 0 x y rfl rfl;refine pS.2 ⟨λz hz=>?_,ht⟩;rcases pc.1 hz with rfl|hz
   ·exact h0
   ·exact ZJ h0 (ht.head z hz)
theorem z7Y {α ρ:Type}(l:List α)(hl:l.length<4611686018427387904){step:Int->Option (LR Int (Unit⊕ρ))}(f:Nat->α->Option ρ)
  (h:∀(i:Nat) (x:α),1<=i->l[i]?=some x->step (i:Int)=some (nS i (f i x))) (h2:∀k:Nat,l.length<=k->step (k:Int)=some (.done (.inl ()))) :
  loop step 1=some (oS (yj f (l.drop 1) 1)):=by
 have gen:∀(n:Nat) (k:Nat),1<=k->l.length - k<n->z1l step n (k:Int)=some (oS (yj f (l.drop k) k)):=by
  intro n;induction n with
  | zero=>intro k _ h;omega
  | succ n ih=>
   intro k hk hn;rw[Jh];rcases pj k l.length with hlt|hge
   ·have hx:l[k]?=some l[k]:=p7 hlt;rw[h k _ hk hx,pF hlt];simp only[yj];cases hf:f k l[k] with
    | some r=>rfl
    | none=>simp only[nS];rw[zN (by omega) (by omega)];exact ih (k+1) (by omega) (by omega)
   ·rw[h2 k hge,gI hge];rfl
 exact gen fuel 1 (pd _) (by show l.length - 1<18446744073709551616;omega)
instance (l:List (List Int)):Decidable (SW l):=by unfold SW;infer_instance
theorem zcL (l:List (List Int))(r:ρ):yj (λi x=>match l[i - 1]? with|some y=>if 0<=YB y x then some r else none|none=>none) (l.drop 1) 1=if SW l then none else some r:=by
 by_cases hs:SW l
 ·rw[if_pos hs];refine Yu λi x hx=>?_;rw[mA]at hx;have hi:1+i<l.length:=(p8.1 hx).1;have hy:l[1+i - 1]?=some l[i]:=by rw[show 1+i - 1=i by omega];exact p7 (by omega)
  rw[hy];have:=zbY.1 hs i l[i] x (p7 (by omega)) (by rw[nC];exact hx);simp only;rw[if_neg (by omega)]
 ·rw[if_neg hs];cases hf:yj (λi x=>match l[i - 1]? with|some y=>if 0<=YB y x then some r else none|none=>none) (l.drop 1) 1 with
  | some r'=>
   obtain⟨i,x,h1,h2⟩:=wY hf;split at h2
   ·split at h2
    ·exact h2.symm
    ·cases h2
   ·cases h2
  | none=>
   exfalso;refine hs (zbY.2 λi x y hx hy=>?_);have:=vo hf i y (by rw[mA,nC];exact hy);rw[show 1+i - 1=i by omega,hx]at this;simp only at this;split at this
   ·cases this
   ·omega
theorem zi2 (l:List (List Int))(h:l.length<=4096)(hw:∀w∈l,w.length<4611686018427387904):VB l=some (decide (SW l)):=by
 unfold VB;rw[bdT (z7Y l (by omega) (step:=λs=>jG l s) (λi x=>match l[i - 1]? with|some y=>if 0<=YB y x then some false else none|none=>none) ?_ ?_),zcL]
 ·by_cases hs:SW l
  ·simp[hs,oS,XY]
  ·simp[hs,oS]
 ·intro i x hi hx;have hil:i<l.length:=(p8.1 hx).1;have hy:l[i - 1]?=some l[i - 1]:=p7 (by omega);have hq:decide ((i:Int)<(l.length:Int))=true:=by simpa using hil
  unfold jG;rw[zN (x:=(i:Int) - 1) (by omega) (by omega),show((i:Int) - 1)=((i - 1:Nat):Int) by omega];have hE:=z4y l[i - 1] x (hw _ (pn (by omega)));simp only[hq,cond_true,zK hx,zK hy,oB,hy,hE];by_cases hc:0<=YB l[i - 1] x
  ·simp[hc,nS]
  ·simp[hc,nS]
 ·intro k hk;unfold jG;have:decide ((k:Int)<(l.length:Int))=false:=by simp;omega
  simp only[this,cond_false]
def chE (n:Int)(l:List (List Int)):Int:=if loE n l≠0 then loE n l else if SW l then(if 65536<z23 l then 3 else 0) else 1
theorem z99:chE n l=0↔loE n l=0/\SW l/\z23 l<=65536:=by
 unfold chE;by_cases h:loE n l=0
 ·rw[if_neg (by simp[h])];by_cases h2:SW l
  ·rw[if_pos h2];by_cases h3:65536<z23 l
   ·rw[if_pos h3];exact⟨λq=>by simp at q,λq=>by omega⟩
   ·rw[if_neg h3];exact⟨λ_=>⟨h,h2,by omega⟩,λ_=>rfl⟩
  ·rw[if_neg h2];exact⟨λq=>by simp at q,λq=>absurd q.2.1 h2⟩
 ·rw[if_pos h];exact⟨λq=>absurd q h,λq=>absurd q.1 h⟩
theorem z6q (h:loE n l=0):l.length<=4096/\(∀w∈l,w.length<=256)/\z23 l<=1048576:=by obtain⟨_,h1,h2⟩:=z2x.1 h;refine⟨h1,λw hw=>(h2 w hw).1,?_⟩;have:=z5W (m:=256) λw hw=>(h2 w hw).1;omega
theorem zdK (l:List (List Int))(n:Int):VC l n=some (chE n l):=by
 unfold VC chE;rw[zcx];simp only[oB];by_cases h:loE n l=0
 ·obtain⟨h1,h2,h3⟩:=z6q h;rw[zi2 l h1 λw hw=>by have:=h2 w hw;omega,zbZ l (by omega),zdP (by omega)];simp only[h,bne_self_eq_false,cond_false,oB,ne_eq,not_true,if_false];by_cases hs:SW l
  ·by_cases hq:65536<z23 l
   ·have:(65536:Int)<(z23 l:Int):=by omega
    simp[hs,hq,this]
   ·have:¬(65536:Int)<(z23 l:Int):=by omega
    simp[hs,hq,this]
  ·simp[hs]
 ·have hb:(loE n l != 0)=true:=by simpa using h
  simp[h,hb]
theorem zeq (l:List (List Int))(n:Int):Ug l n=some (chE n l):=by
 unfold Ug chE;rw[zi7];simp only[oB];by_cases h:loE n l=0
 ·obtain⟨h1,h2,h3⟩:=z6q h;simp only[h,bne_self_eq_false,cond_false,ne_eq,not_true,if_false];rw[bdT (z7Y l (by omega) (step:=λs=>jJ l s) (λi x=>match l[i - 1]? with|some y=>if 0<=YB y x then some (1:Int) else none|none=>none) ?_ ?_),zcL]
  ·by_cases hs:SW l
   ·simp only[hs,if_true,oS];unfold W9;rw[zi3 l (by omega),zdP (by omega)];simp only[oB];by_cases hq:65536<z23 l
    ·have:(65536:Int)<(z23 l:Int):=by omega
     simp[hq,this]
    ·have:¬(65536:Int)<(z23 l:Int):=by omega
     simp[hq,this]
   ·simp[hs,oS]
  ·intro i x hi hx;have hil:i<l.length:=(p8.1 hx).1;have hy:l[i - 1]?=some l[i - 1]:=p7 (by omega);have hq:decide ((i:Int)<(l.length:Int))=true:=by simpa using hil
   unfold jJ;rw[zN (x:=(i:Int) - 1) (by omega) (by omega),show((i:Int) - 1)=((i - 1:Nat):Int) by omega];have hE:=z2C l[i - 1] x (λ_=>by have:=h2 _ (pn (show i - 1<l.length by omega));omega);simp only[hq,cond_true,zK hx,zK hy,oB,hy,hE];by_cases hc:0<=YB l[i - 1] x
   ·simp[hc,nS]
   ·simp[hc,nS]
  ·intro k hk;unfold jJ;have:decide ((k:Int)<(l.length:Int))=false:=by simp;omega
   simp only[this,cond_false]
 ·have hb:(loE n l != 0)=true:=by simpa using h
  simp[h,hb]
theorem zkn (w:List Int):yq w=some w:=by unfold yq;rw[gdT (by omega)];simp
theorem zhK (w:List Int)(h:w.length<=4294967296):yG w=some w:=by unfold yG;rw[gdT (by simpa using h)]
theorem zch (a b:List Int)(h:a.length<4611686018427387904):jE a b=some (decide (a=b)):=by
 unfold jE;rw[z4y a b h];simp only[oB];by_cases e:a=b
 ·subst e;simp[Uw]
 ·have:YB a b≠0:=λq=>e (z6D q);simp[e,this]
def QW (l:List (List Int)):Prop:=l.Pairwise λa b=>¬YB b a<0
theorem Ve {l:List α}{n:Nat}{x:α}:x∈l.take n↔∃i,i<n/\l[i]?=some x:=by
 rw[pL];constructor
 ·rintro⟨i,h⟩;rw[py]at h;split at h
  ·exact⟨i,by omega,h⟩
  ·cases h
 ·rintro⟨i,h1,h2⟩;exact⟨i,by rw[py,if_pos h1];exact h2⟩
theorem zdL (h:SW l)(hx:∀y∈l,YB y x<0):SW (l++[x]):=by unfold SW;rw[nl];exact⟨h,by simp,λa ha b hb=>by simp at hb;subst hb;exact hx a ha⟩
section
variable {s:List (List Int)}(hq:QW s)(hl:s.length<=4294967296)(hw:∀w∈s,w.length<4611686018427387904)
include hq hl hw
omit hl hw in
theorem zh4 {i j:Nat}{x y:List Int}(hi:s[i]?=some x)(hj:s[j]?=some y)(h:i<=j):YB x y<0\/x=y:=by
 rcases pj i j with h|h
 ·have:=(gF.1 hq) i j (p8.1 hi).1 (p8.1 hj).1 h;rw[(p8.1 hi).2,(p8.1 hj).2]at this;rcases z98.1 this with q|q
  ·exact .inl q
  ·exact .inr q.symm
 ·have:i=j:=by omega
  subst this;rw[hi]at hj;exact .inr (by simpa using hj)
theorem zaQ (h1:1<=k)(hk:k<s.length)(hd:s[k - 1]?=s[k]?)(hs:SW (s.take k)) :
  Ret (Option.bind (loop (λq=>y8 (k:Int) q.1 q.2.1 q.2.2) (s,(k:Int),1)) λt=>ya t.1 t.2) λr=>r=.done (.inr (srt s)):=by
 rw[zw];refine Ret.mono (zS (λq=>∃kk k2:Nat,q.2.1=(kk:Int)/\q.2.2=(k2:Int)/\1<=k2/\k+k2<=s.length/\kk<k+k2/\q.1.length=s.length/\(∀i,kk<=i->q.1[i]?=s[i]?)/\SW (q.1.take kk)/\∀x,x∈q.1.take kk↔x∈s.take (k+k2)) (λq=>s.length - q.2.2.toNat) (R:=λt=>∃kk:Nat,t.2=(kk:Int)/\kk<=s.length/\t.1.length=s.length/\t.1.take kk=srt s) ?_ ?_ ?_) ?_
 ·refine⟨k,1,rfl,rfl,pd _,hk,by omega,rfl,λ_ _=>rfl,hs,λx=>?_⟩;rw[Ve,Ve];constructor
  ·rintro⟨i,h2,h3⟩;exact⟨i,by omega,h3⟩
  ·rintro⟨i,h2,h3⟩;rcases pj i k with h|h
   ·exact⟨i,h,h3⟩
   ·have:i=k:=by omega
    subst this;exact⟨i - 1,by omega,by rw[hd];exact h3⟩
 ·show s.length - _<_;omega
 ·rintro⟨S,a,b⟩ ⟨kk,k2,rfl,rfl,g1,g2,g3,g4,g5,g6,g7⟩;simp only at g4 g5 g6 g7;show Ret (y8 (k:Int) S (kk:Int) (k2:Int)) _;unfold y8;rw[zz];refine⟨λhc=>?_,λhc=>?_⟩
  ·have hlt:k2<s.length - k:=by rw[g4]at hc;simpa using hc
   have e1:s[k+k2]?=some s[k+k2]:=p7 (by omega);have e2:s[k+k2 - 1]?=some s[k+k2 - 1]:=p7 (by omega);have f1:idx S ((k:Int)+(k2:Int))=some s[k+k2]:=by rw[<-Int.natCast_add,zH,g5 _ (by omega),e1]
   have f2:idx S ((k:Int)+w64 ((k2:Int) - 1))=some s[k+k2 - 1]:=by rw[zN (by omega) (by omega),show(k:Int)+((k2:Int) - 1)=((k+k2 - 1:Nat):Int) by omega,zH,g5 _ (by omega),e2]
   rw[gdT (by omega),f1];simp only[oB];rw[gdT (by rw[zN (by omega) (by omega)];omega),f2];simp only[oB];rw[zch _ _ (hw _ (pn (by omega)))];simp only[oB];have hk2:w64 ((k2:Int)+1)=((k2+1:Nat):Int):=by rw[zN (by omega) (by omega)];omega
   by_cases he:s[k+k2]=s[k+k2 - 1]
   ·simp only[he,decide_true,gX,cond_false];unfold y9;rw[hk2,ze];refine⟨⟨kk,k2+1,rfl,rfl,by omega,by omega,by omega,g4,g5,g6,λx=>?_⟩,by simp only[pb];omega⟩;rw[g7,Ve,Ve];constructor
    ·rintro⟨i,h2,h3⟩;exact⟨i,by omega,h3⟩
    ·rintro⟨i,h2,h3⟩;rcases pj i (k+k2) with h|h
     ·exact⟨i,h,h3⟩
     ·have:i=k+k2:=by omega
      subst this;exact⟨k+k2 - 1,by omega,by rw[e2,<-he,<-e1];exact h3⟩
   ·simp only[he,decide_false,ni,cond_true];rw[gdT (by omega)];have e3:idx S (kk:Int)=some s[kk]:=by rw[zH,g5 _ (pd _),p7 (by omega)]
    rw[e3];simp only[oB];unfold y9;rw[hk2,zN (x:=(kk:Int)+1) (by omega) (by omega),ze];have hset:(S.set ((kk:Int).toNat) s[k+k2]).take (kk+1)=S.take kk++[s[k+k2]]:=by rw[pb,gE,List.take_set_of_le (pd _),gQ (by omega)];rfl
    refine⟨⟨kk+1,k2+1,rfl,rfl,by omega,by omega,by omega,by simp[g4],λi hi=>?_,?_,λx=>?_⟩,by simp only[pb];omega⟩
    ·simp only
     rw[gA (by omega),g5 _ (by omega)]
    ·simp only
     rw[hset];refine zdL g6 λy hy=>?_;obtain⟨i,h2,h3⟩:=Ve.1 ((g7 y).1 hy);have hlast:YB s[k+k2 - 1] s[k+k2]<0:=by
      rcases zh4 hq e2 e1 (by omega) with q|q
      ·exact q
      ·exact absurd q.symm he
     rcases zh4 hq h3 e2 (by omega) with q|q
     ·exact ZJ q hlast
     ·rw[q];exact hlast
    ·simp only
     rw[hset,pe,g7,Ve,Ve];constructor
     ·rintro(⟨i,h2,h3⟩|h)
      ·exact⟨i,by omega,h3⟩
      ·simp at h;subst h;exact⟨k+k2,by omega,e1⟩
     ·rintro⟨i,h2,h3⟩;rcases pj i (k+k2) with h|h
      ·exact .inl ⟨i,h,h3⟩
      ·have:i=k+k2:=by omega
       subst this;rw[e1]at h3;exact .inr (by simpa using h3.symm)
  ·have hge:s.length - k<=k2:=by rw[g4]at hc;simpa using hc
   have hkk:k+k2=s.length:=by omega
   rw[ze];refine⟨kk,rfl,by omega,g4,zdR g6 λx=>?_⟩;rw[g7,hkk,mB]
 ·rintro⟨S,a⟩ ⟨kk,rfl,h1,h2,h3⟩;simp only at h2 h3;show Ret (ya S (kk:Int)) _;unfold ya;have hlen:(S.take (kk:Int).toNat++List.replicate (S.length - (kk:Int).toNat) ([]:List Int)).length=S.length:=by simp[pH];omega
  rw[gdT (by omega),gdT (by omega),gdT (by rw[hlen];omega),ze];simp only[pb];rw[List.take_left' (by rw[pH];omega),h3]
theorem zdq:yS s ()=some (srt s):=by
 unfold yS;by_cases h2:s.length<2
 ·have hd:decide (((s.length:Nat):Int)<2)=true:=by simp;omega
  simp only[hd,cond_true];rw[z9Q];match s,h2 with
  | [],_=>exact SW.nil
  | [x],_=>simp[SW]
 ·have hd:decide (((s.length:Nat):Int)<2)=false:=by simp;omega
  simp only[hd,cond_false];apply Ret.eq;rw[zw];refine Ret.mono (zS (λq:Int=>∃j:Nat,q=(j:Int)/\1<=j/\j<=s.length/\SW (s.take j)) (λq=>s.length - q.toNat) (R:=λt:Unit⊕List (List Int)=>match t with|.inl _=>srt s=s|.inr p=>p=srt s) ?_ ?_ ?_) ?_
  ·refine⟨1,rfl,pd _,by omega,?_⟩;match s,h2 with
   | [],h2=>simp at h2
   | x::l,_=>simp[SW]
  ·show s.length - _<_;omega
  ·rintro _ ⟨j,rfl,g1,g2,g3⟩;show Ret (yl s (j:Int)) _;unfold yl;rw[zz];refine⟨λhc=>?_,λhc=>?_⟩
   ·have hj:j<s.length:=by simpa using hc
    have e1:s[j]?=some s[j]:=p7 hj;have e2:s[j - 1]?=some s[j - 1]:=p7 (by omega);rw[zN (x:=(j:Int) - 1) (by omega) (by omega),show(j:Int) - 1=((j - 1:Nat):Int) by omega,zK e1,zK e2];simp only[oB];rw[zch _ _ (hw _ (pn hj))];simp only[oB];by_cases he:s[j]=s[j - 1]
    ·simp only[he,decide_true,cond_true];rw[gdT (by omega)];refine(zaQ hq hl hw g1 hj (by rw[e1,e2,he]) g3).mono ?_;rintro _ rfl;rfl
    ·simp only[he,decide_false,cond_false];unfold xu;rw[zN (by omega) (by omega),ze];refine⟨⟨j+1,rfl,by omega,hj,?_⟩,by simp only[pb];omega⟩;have:s.take (j+1)=s.take j++[s[j]]:=by rw[gE,e1];rfl
     rw[this];refine zdL g3 λy hy=>?_;obtain⟨i,h3,h4⟩:=Ve.1 hy;have hlast:YB s[j - 1] s[j]<0:=by
      rcases zh4 hq e2 e1 (by omega) with q|q
      ·exact q
      ·exact absurd q.symm he
     rcases zh4 hq h4 e2 (by omega) with q|q
     ·exact ZJ q hlast
     ·rw[q];exact hlast
   ·have hj:j=s.length:=by
     have:¬j<s.length:=by simpa using hc
     omega
    rw[ze];show srt s=s;rw[hj,mB]at g3;exact z9Q g3
  ·rintro(u|p) h
   ·show Ret (some s) _;rw[ze];exact h.symm
   ·show Ret (some p) _;rw[ze];exact h
end
theorem z9T (l:List (List Int)):SOk YB l :=
 ⟨λx _=>z97 x,λx _ y _ z _ h1 h2=>ZJ h1 h2,λx _ y _ h1 h2=>by
  rcases z98.1 h1 with q|q
  ·exact absurd q h2
  ·exact q⟩
theorem zgy {l m:List (List Int)}(h:l.Perm m):srt l=srt m:=z9R λx=>h.mem_iff
theorem z6t {c d:List Int->List Int->Int}:∀{l:List (List Int)},(∀x∈l,∀y∈l,c x y=d x y)->z1n c l=z1n d l
 | [],_=>rfl
 | x::l,h=>by
  have ih:=z6t (c:=c) (d:=d) (l:=l) λa ha b hb=>h a (by simp[ha]) b (by simp[hb]);show zdz c x (z1n c l)=zdz d x (z1n d l);rw[ih];have gen:∀m:List (List Int),(∀y∈m,y∈l)->zdz c x m=zdz d x m:=by
   intro m;induction m with
   | nil=>intro _;rfl
   | cons y m ih2=>intro hm;simp only[zdz];rw[h y (by simp[hm y (by simp)]) x (by simp),ih2 λz hz=>hm z (by simp[hz])]
  exact gen _ λy hy=>(XS d l).mem_iff.1 hy
def soR (l:List (List Int)):List (List Int)×Int:=if 4096<(srt l).length\/65536<z23 (srt l) then([],3) else(srt l,0)
theorem zgB (hl:l.length<=100000)(hw:∀w∈l,w.length<=4294967296):Wl l=some (soR l):=by
 unfold Wl ue;rw[gdT (by simp;omega)];simp only[oB];have hc:∀x∈l,∀y,xI x y=some (YB x y):=λx hx y=>z4y x y (by have:=hw x hx;omega);have hso:zdV (λx y=>xI x y) l=some (z1n YB l):=by
  unfold zdV;rw[gdT ⟨by omega,λx hx y hy=>by simp only[hc x hx y];rfl⟩];have hcc:∀x∈l,∀y∈l,(xI x y).getD 0=YB x y:=λx hx y _=>by rw[hc x hx y];rfl
  rw[gdT,z6t (c:=λx y=>(xI x y).getD 0) (d:=YB) hcc];have q:=z9T l;refine⟨λx hx=>by show ¬(xI x x).getD 0<0;rw[hcc x hx x hx];exact q.1 x hx,λx hx y hy z hz h1 h2=>?_,λx hx y hy h1 h2=>?_⟩
  ·simp only[hcc x hx y hy,hcc y hy z hz,hcc x hx z hz]at h1 h2 ⊢;exact q.2.1 x hx y hy z hz h1 h2
  ·simp only[hcc x hx y hy,hcc y hy x hx]at h1 h2;exact q.2.2 x hx y hy h1 h2
 rw[hso];simp only[oB];have hp:=XS YB l;have hq:QW (z1n YB l):=KU (z9T l) (λy hy=>hy);rw[zdq hq (by rw[hp.length_eq];omega) (λw h=>by have:=hw w (hp.mem_iff.1 h);omega)];simp only[oB];unfold xX;simp only[oB];rw[zgy hp];have hlen:(srt l).length<=100000:=pI (z8H l) hl;have hws:∀w∈srt l,w.length<=4294967296:=λw h=>hw w (z1i.1 h);unfold soR;generalize srt l=r at hlen hws;have hsy:z23 r<=100000*4294967296:=pI (z5W hws) (pO _ hlen);by_cases h1:4096<r.length
 ·have:(4096:Int)<(r.length:Int):=by omega
  simp[h1,this]
 ·have d1:decide (((r.length:Nat):Int) > 4096)=false:=by simp;omega
  simp only[d1,cond_false];rw[zbZ r (by omega),zdP (by omega)];simp only[oB];by_cases h2:65536<z23 r
  ·have:(65536:Int)<(z23 r:Int):=by omega
   simp[h2,this]
  ·have d2:decide (((z23 r:Nat):Int) > 65536)=false:=by simp;omega
   simp only[d2,cond_false];rw[if_neg (by omega)];have hloop:=uK (step:=λs=>wz r s.1 s.2) (λi=>((r.take i).map (λq=>(q,true))++(r.drop i).map (λq=>(q,false)),(i:Int))) r.length (t:=r.map λq=>(q,true)) (by omega) (by
    intro i hi;have hA:((r.take i).map (λq:List Int=>(q,true))).length=i:=by rw[pX,pH];omega
    have hd:r.drop i=r[i]::r.drop (i+1):=pF hi;have hx:((r.take i).map (λq=>(q,true))++(r.drop i).map (λq=>(q,false)))[i]?=some (r[i],false):=by rw[pf (by omega),hA,hd];simp
    show wz r _ (i:Int)=_;unfold wz;have hq:decide ((i:Int)<((r.length - (0:Int).toNat:Nat):Int))=true:=by simpa using hi
    simp only[hq,cond_true];rw[gdT (by omega),Int.zero_add,zK hx];simp only[oB];rw[zhK _ (hws _ (pn hi))];simp only[oB,zkn,pb];rw[zN (by omega) (by omega)];congr 3;rw[List.set_append_right _ _ (by omega),hA,hd,gE,p7 hi];simp only[mO,pR,mT,m7,Option.toList_some,mJ,pm,pJ,p9]) (by
    show wz r _ (r.length:Int)=_;unfold wz;simp)
   have h0:((r.take 0).map (λq=>(q,true))++(r.drop 0).map (λq=>(q,false)),((0:Nat):Int))=(r.map (λq=>(q,false)),(0:Int)):=by simp
   rw[h0]at hloop;rw[hloop];simp only[oB];unfold YJ;rw[gdT (by intro q hq;obtain⟨_,_,rfl⟩:=pT.1 hq;rfl)];simp[hB,Function.comp_def]
theorem zes (hs:SW l){w:List Int}  (hi:i<=l.length)(h1:∀m x,m<i->l[m]?=some x->YB x w<0)(h2:∀m x,i<=m->l[m]?=some x->YB w x<0):l.take i++w::l.drop i=z7S w l:=by
 have ht:∀x∈l.take i,YB x w<0:=λx hx=>by obtain⟨m,q1,q2⟩:=Ve.1 hx;exact h1 m x q1 q2
 have hd:∀x∈l.drop i,YB w x<0:=λx hx=>by obtain⟨m,q⟩:=pL.1 hx;rw[mA]at q;exact h2 (i+m) x (by omega) q
 refine SW.unique ?_ hs.put λx=>?_
 ·unfold SW;rw[nl,pS];refine⟨hs.sub (List.take_sublist _ _),⟨hd,hs.sub (List.drop_sublist _ _)⟩,λa ha b hb=>?_⟩;rcases pc.1 hb with rfl|hb
  ·exact ht a ha
  ·exact ZJ (ht a ha) (hd b hb)
 ·rw[z2v];have:x∈l↔x∈l.take i\/x∈l.drop i:=by rw[<-pe,gB]
  rw[this];simp only[pe,pc];constructor
  ·rintro(h|h|h) <;> simp[h]
  ·rintro(h|h|h) <;> simp[h]
theorem zmg {l:List (List Int)}(hs:SW l)(hl:l.length<=1000000)(hw:∀x∈l,x.length<4611686018427387904){w:List Int}(hww:w.length<=4294967296):KN l w=some (z7S w l):=by
 unfold KN;apply Ret.eq;rw[zw];refine Ret.mono (zS (λq:Int×Int=>∃i j:Nat,q=((i:Int),(j:Int))/\i<=j/\j<=l.length/\(∀m x,m<i->l[m]?=some x->YB x w<0)/\∀m x,j<=m->l[m]?=some x->¬YB x w<0) (λq=>(q.2 - q.1).toNat) (R:=λt=>∃i:Nat,t=(i:Int)/\i<=l.length/\(∀m x,m<i->l[m]?=some x->YB x w<0)/\∀m x,i<=m->l[m]?=some x->¬YB x w<0) ?_ ?_ ?_) ?_
 ·exact⟨0,l.length,rfl,pv _,pd _,λm x h=>by omega,λm x h hx=>by have:=(p8.1 hx).1;omega⟩
 ·simp only;omega
 ·rintro _ ⟨i,j,rfl,g1,g2,g3,g4⟩;show Ret (Wp l w (i:Int) (j:Int)) _;unfold Wp;rw[zz];refine⟨λhc=>?_,λhc=>?_⟩
  ·have hij:i<j:=by simpa using hc
   have hh:w64 (Int.tdiv (w64 ((i:Int)+(j:Int))) 2)=(((i+j) / 2:Nat):Int):=by
    rw[zN (x:=(i:Int)+(j:Int)) (by omega) (by omega)];have:Int.tdiv ((i:Int)+(j:Int)) 2=(((i+j) / 2:Nat):Int):=by rw[show((i:Int)+(j:Int))=((i+j:Nat):Int) by omega,nr (by omega)];rfl
    rw[this,zN (by omega) (by omega)]
   rw[gdT (by omega),hh];have hm:(i+j) / 2<l.length:=by omega
   have hx:l[(i+j) / 2]?=some l[(i+j) / 2]:=p7 hm;rw[zK hx];simp only[oB];rw[z2C _ _ (λ_=>hw _ (pn hm))];simp only[oB];by_cases hc2:YB l[(i+j) / 2] w<0
   ·simp only[hc2,decide_true,cond_true];rw[zN (by omega) (by omega),ze];refine⟨⟨(i+j) / 2+1,j,by simp,by omega,g2,λm x h hmx=>?_,g4⟩,by simp only;omega⟩;rcases pj m ((i+j) / 2) with q|q
    ·have h1:=(gF.1 hs) m ((i+j) / 2) (p8.1 hmx).1 hm q;rw[(p8.1 hmx).2]at h1;exact ZJ h1 hc2
    ·rw[show m=(i+j) / 2 by omega,hx]at hmx;cases hmx;exact hc2
   ·simp only[hc2,decide_false,cond_false];rw[ze];refine⟨⟨i,(i+j) / 2,rfl,by omega,by omega,g3,λm x h hmx hlt=>?_⟩,by simp only;omega⟩;rcases pj ((i+j) / 2) m with q|q
    ·have h1:=(gF.1 hs) ((i+j) / 2) m hm (p8.1 hmx).1 q;rw[(p8.1 hmx).2]at h1;exact hc2 (ZJ h1 hlt)
    ·rw[show m=(i+j) / 2 by omega,hx]at hmx;cases hmx;exact hc2 hlt
  ·have hij:i=j:=by
    have:¬i<j:=by simpa using hc
    omega
   subst hij;rw[ze];exact⟨i,rfl,g2,g3,g4⟩
 ·rintro _ ⟨i,rfl,h1,h2,h3⟩;have J2:(∀x,l[i]?=some x->x≠w)->Ret (Yx l w (i:Int)) λr=>r=z7S w l:=by
   intro hne;have h4:∀m x,i<=m->l[m]?=some x->YB w x<0:=by
    intro m x hm hx;have hil:i<l.length:=by have:=(p8.1 hx).1;omega
    have hxi:l[i]?=some l[i]:=p7 hil;have hlt:YB w l[i]<0:=by
     rcases z98.1 (h3 i _ (pd _) hxi) with q|q
     ·exact q
     ·exact absurd q (hne _ hxi)
    rcases pj i m with q|q
    ·have h5:=(gF.1 hs) i m hil (p8.1 hx).1 q;rw[(p8.1 hx).2]at h5;exact ZJ hlt h5
    ·rw[show m=i by omega,hxi]at hx;cases hx;exact hlt
   unfold Yx;rw[gdT (by simp;omega),zw];have hlen:w64 ((((l++([[]]:List (List Int))).length:Nat):Int) - 1)=((l.length:Nat):Int):=by rw[gR,List.length_singleton,zN (by omega) (by omega)];omega
   rw[hlen];refine Ret.mono (zS (λq:List (List Int)×Int=>∃(j:Nat) (x:List Int),q=(l.take j++x::l.drop j,(j:Int))/\i<=j/\j<=l.length) (λq=>q.2.toNat) (R:=λt=>∃x:List Int,t=l.take i++x::l.drop i) ⟨l.length,[],by simp,h1,pd _⟩ (by simp only[pb];omega) ?_) ?_
   ·rintro _ ⟨j,x,rfl,g1,g2⟩;show Ret (Wq (i:Int) (l.take j++x::l.drop j) (j:Int)) _;unfold Wq;rw[zz];refine⟨λhc=>?_,λhc=>?_⟩
    ·have hij:i<j:=by simpa using hc
     have hA:(l.take j).length=j:=by rw[pH];omega
     have hy:(l.take j++x::l.drop j)[j - 1]?=some l[j - 1]:=by rw[pk (by omega),py,if_pos (by omega)];exact p7 (by omega)
     have hz:(l.take j++x::l.drop j)[j]?=some x:=by rw[pf (by omega),hA];simp
     rw[zN (by omega) (by omega),show(j:Int) - 1=((j - 1:Nat):Int) by omega,zK hy,zK hz];simp only[oB,ze,pb];refine⟨⟨j - 1,l[j - 1],?_,by omega,by omega⟩,by simp only[pb];omega⟩;rw[List.set_append_right _ _ (by omega),hA,mO,mT];have e1:l.take j=l.take (j - 1)++[l[j - 1]]:=by have:=gE (l:=l) (i:=j - 1);rw[show j - 1+1=j by omega,p7 (by omega)]at this;exact this
     have e2:l.drop (j - 1)=l[j - 1]::l.drop j:=by rw[pF (by omega),show j - 1+1=j by omega]
     rw[e2,e1,pm];rfl
    ·have hij:j=i:=by
      have:¬i<j:=by simpa using hc
      omega
     subst hij;rw[ze];exact⟨x,rfl⟩
   ·rintro _ ⟨x,rfl⟩;unfold Qg;have hA:(l.take i).length=i:=by rw[pH];omega
    have hz:(l.take i++x::l.drop i)[i]?=some x:=by rw[pf (by omega),hA];simp
    rw[gdT (by simpa using hww),zK hz];simp only[oB,ze,pb];rw[List.set_append_right _ _ (by omega),hA,mO,mT];exact zes hs h1 h2 h4
  unfold Qh;rw[zz];refine⟨λhc=>?_,λhc=>?_⟩
  ·have hi:i<l.length:=by simpa using hc
   have hx:l[i]?=some l[i]:=p7 hi;rw[zK hx];simp only[oB];rw[z2C _ _ (λ_=>hw _ (pn hi))];simp only[oB];by_cases he:l[i]=w
   ·have hb:(YB l[i] w==0)=true:=by rw[he,Uw];rfl
    rw[hb,cond_true,ze];refine SW.unique hs hs.put λx=>?_;rw[z2v];refine⟨λq=>.inr q,λq=>?_⟩;rcases q with rfl|q
    ·exact he ▸ pn hi
    ·exact q
   ·have hb:(YB l[i] w==0)=false:=by simp;exact λq=>he (z6D q)
    rw[hb,cond_false];exact J2 λx hx2=>by rw[hx]at hx2;cases hx2;exact he
  ·have hi:¬i<l.length:=by simpa using hc
   exact J2 λx hx2=>by have:=(p8.1 hx2).1;omega
theorem zh3 (hl:l.length<=1000000)(hw:∀x∈l,x.length<=4294967296):Jc l=some (srt l):=by
 unfold Jc;have h:=uK (step:=λs=>uh l s.1 s.2) (λi=>(srt (l.take i),(i:Int))) l.length (t:=srt l) (by omega) (by
  intro i hi;show uh l _ (i:Int)=_;unfold uh;have hq:decide ((i:Int)<(l.length:Int))=true:=by simpa using hi
  have hx:l[i]?=some l[i]:=p7 hi;simp only[hq,cond_true,zK hx,oB];have hlen:(srt (l.take i)).length<=1000000:=by have:=z8H (l.take i);rw[pH]at this;omega
  rw[zmg (zc4 _) hlen (λx hx=>by have:=hw x (pK (z1i.1 hx));omega) (hw _ (pn hi))];simp only[oB];rw[zN (by omega) (by omega),<-zgx,gE,hx];rfl) (by
  show uh l _ (l.length:Int)=_;unfold uh;simp)
 have h0:(srt (l.take 0),((0:Nat):Int))=(([]:List (List Int)),(0:Int)):=by simp[srt]
 rw[h0]at h;rw[bdT h];rfl
theorem z8Q (a b:List (List Int))(hl:a.length<4611686018427387904)(hw:∀x∈a,x.length<4611686018427387904):Yy a b=some (decide (a=b)):=by
 unfold Yy;by_cases he:a.length=b.length
 ·have hb:(((a.length:Nat):Int) !=((b.length:Nat):Int))=false:=by simp;omega
  simp only[hb,cond_false];rw[bdT (wk a hl (step:=λs=>Zu a b s) (λi x=>if b[i]?=some x then none else some false) ?_ ?_)]
  ·cases hf:yj (λi x=>if b[i]?=some x then none else some false) a 0 with
   | some r=>
    obtain⟨i,x,h1,h2⟩:=wY hf;rw[pq]at h2;split at h2
    ·cases h2
    ·rename_i h3;have:a≠b:=λe=>h3 (by rw[<-e];exact h1);cases h2;simp[oS,this]
   | none=>
    have hab:a=b:=by
     refine pU λi=>?_;rcases pj i a.length with q|q
     ·have hx:a[i]?=some a[i]:=p7 q;have:=vo hf i _ hx;rw[pq]at this;split at this
      ·rename_i h3;rw[h3,hx]
      ·cases this
     ·rw[pi q,pi (by omega)]
    simp[oS,Vc,hab]
  ·intro i x hx;have hi:i<a.length:=(p8.1 hx).1;have hq:decide ((i:Int)<(a.length:Int))=true:=by simpa using hi
   have hy:b[i]?=some b[i]:=p7 (by omega);have hxm:x∈a:=(p8.1 hx).2 ▸ pn hi;unfold Zu;simp only[hq,cond_true,zK hx,zK hy,oB,z2C x b[i] (λ_=>hw x hxm),hy];by_cases h:b[i]=x
   ·rw[if_pos (by rw[h]),h,Uw];rfl
   ·have:(YB x b[i] != 0)=true:=by simp;exact λq=>h (z6D q).symm
    rw[this,if_neg (by simpa using h)];rfl
  ·unfold Zu;simp
 ·have hb:(((a.length:Nat):Int) !=((b.length:Nat):Int))=true:=by simp;omega
  have:a≠b:=λe=>he (by rw[e]);simp[hb,this]
theorem z5z (h:chE n l=0):l.length<=4096/\(∀w∈l,w.length<=256)/\z23 l<=65536/\SW l/\(1<=n/\n<=16)/\∀w∈l,∀c∈w,0<=c/\c<n:=by obtain⟨h1,h2,h3⟩:=z99.1 h;obtain⟨q1,q2,_⟩:=z6q h1;obtain⟨r1,_,r3⟩:=z2x.1 h1;exact⟨q1,q2,h3,h2,r1,λw hw=>(r3 w hw).2⟩
theorem zfW (h:i<9223372036854775807):w64 ((i:Int)+1)=((i+1:Nat):Int):=by rw[zN (by omega) (by omega)];rfl
def un (x:List Bool):Nat:=x.countP λb=>!b
theorem zlh {x:List Bool}{s:Nat}(h:x[s]?=some false):un (x.set s true)<un x:=by
 induction x generalizing s with
 | nil=>simp at h
 | cons b x ih=>
  cases s with
  | zero=>simp at h;subst h;simp[un]
  | succ s=>have:=ih (s:=s) (by simpa using h);unfold un at *;rw[nB,nk,nk];omega
theorem zli:∀{x y:List Bool},y.length=x.length->(∀t:Nat,x[t]?=some true->y[t]?=some true)->un y<=un x
 | [],[],_,_=>pd _
 | a::x,b::y,hl,h=>by
  have ih:=zli (x:=x) (y:=y) (by simpa using hl) λt ht=>by simpa using h (t+1) (by simpa using ht)
  have h0:=h 0;unfold un at *;rw[nk,nk];cases a <;> cases b <;> simp at h0 ⊢ <;> omega
 | [],_::_,hl,_=>by simp at hl
 | _::_,[],hl,_=>by simp at hl
structure Dfs (m:z6)(P:Nat->Prop)(x y:List Bool):Prop where
 len:y.length=x.length
 mono:∀t:Nat,x[t]?=some true->y[t]?=some true
 new:∀t:Nat,y[t]?=some true->x[t]?=some true\/P t/\∀i,i<kk m->0<=(E m t i).To->y[(E m t i).To.toNat]?=some true
variable {P:Nat->Prop}
theorem Dfs.refl (x:List Bool):Dfs m P x x:=⟨rfl,λ_ h=>h,λ_ h=>.inl h⟩
theorem Dfs.trans {x y z:List Bool}(h:Dfs m P x y)(k:Dfs m P y z):Dfs m P x z:={
 len:=k.len.trans h.len
 mono:=λt q=>k.mono t (h.mono t q)
 new:=λt q=>by
  rcases k.new t q with g|g
  ·rcases h.new t g with r|⟨r1,r2⟩
   ·exact .inl r
   ·exact .inr ⟨r1,λi hi h0=>k.mono _ (r2 i hi h0)⟩
  ·exact .inr g }
section
variable {m:z6}(h:VM m)
include h
theorem zfo (hP:∀t i,P t->t<m.Rows.length->i<kk m->0<=(E m t i).To->P (E m t i).To.toNat):∀(fu:Nat) (x:List Bool),x.length=m.Rows.length->un x<fu->∀s:Int,z9t m s->(0<=s->P s.toNat) ->
  ∃y,yf fu s x m=some (y,m)/\Dfs m P x y/\(0<=s->y[s.toNat]?=some true)
 | 0,x,_,hu,_,_,_=>by omega
 | fu+1,x,hx,hu,s,hs,hPs=>by
  have hk:=h.kk_le;show ∃y,wj (yf fu) s x m=some (y,m)/\_;unfold wj;by_cases h1:s=-1
  ·have:(s == -1)=true:=by simpa using h1
   rw[this,cond_true];exact⟨x,rfl,Dfs.refl x,λq=>by omega⟩
  ·have e1:(s == -1)=false:=by simpa using h1
   obtain⟨n,rfl⟩:∃n:Nat,s=n:=⟨s.toNat,by have:=hs.1;omega⟩;have hn:n<m.Rows.length:=by have:=hs.2;omega
   have hxn:x[n]?=some x[n]:=p7 (by omega);rw[e1,cond_false,zK hxn,oB];by_cases hb:x[n]=true
   ·rw[hb,cond_true];exact⟨x,rfl,Dfs.refl x,λ_=>by simp only[pb];rw[hxn,hb]⟩
   ·have hb:x[n]=false:=by simpa using hb
    obtain⟨r,hr,hrl,hre⟩:=h.rowAt hn;rw[hb,cond_false,oB,zK hr,oB];simp only[pb];rw[hb]at hxn;have hu1:=zlh hxn;have hxl:(x.set n true).length=m.Rows.length:=by simpa using hx
    have run:Ret (loop (λs=>xa (yf fu) r s.1 s.2.1 s.2.2.1 s.2.2.2.1 s.2.2.2.2) (x.set n true,m.Inputs,m.Outputs,m.Rows,0)) λq=>q.2=m/\Dfs m P (x.set n true) q.1/\∀j,j<kk m->0<=(E m n j).To->q.1[(E m n j).To.toNat]?=some true:=by
     refine zS (λq=>∃i:Nat,q.2=(m.Inputs,m.Outputs,m.Rows,(i:Int))/\i<=kk m/\Dfs m P (x.set n true) q.1/\∀j,j<i->0<=(E m n j).To->q.1[(E m n j).To.toNat]?=some true) (λq=>100 - q.2.2.2.2.toNat) ⟨0,rfl,pv _,Dfs.refl _,λj hj=>by omega⟩ (by show 100 - _<_;omega) ?_;rintro⟨q,_⟩ ⟨i,rfl,hi,hd,hall⟩;simp only at hd hall;show Ret (xa (yf fu) r q m.Inputs m.Outputs m.Rows (i:Int)) _;unfold xa;rw[zz];refine⟨λhc=>?_,λhc=>?_⟩
     ·have hlt:i<kk m:=by simp at hc;omega
      rw[zK (hre i hlt),oB];have hst:z9t m (E m n i).To:=by
       rcases h.edgeAt hn hlt with⟨g,_⟩|⟨g1,g2,_⟩
       ·exact⟨by omega,by have:=h.len1;omega⟩
       ·exact⟨by omega,g2⟩
      have hPn:P n:=by simpa using hPs (by omega)
      obtain⟨y,y1,y2,y3⟩:=zfo hP fu q (by rw[hd.len];exact hxl) (by have:=zli hd.len hd.mono;omega) (E m n i).To hst (λh0=>hP n i hPn hn hlt h0);have y1':yf fu (E m n i).To q (z6.mk m.Inputs m.Outputs m.Rows)=some (y,m):=y1;rw[y1',oB,ze,zfW (by omega)];refine⟨⟨i+1,rfl,hlt,hd.trans y2,λj hj h0=>?_⟩,by simp only;omega⟩;by_cases e:j=i
      ·subst e;exact y3 h0
      ·exact y2.mono _ (hall j (by omega) h0)
     ·have:i=kk m:=by simp at hc;omega
      subst this;rw[ze];exact⟨rfl,hd,hall⟩
    obtain⟨⟨y,m'⟩,e,hm,hd,hall⟩:=run;simp only at hm hd hall;subst hm;rw[e];refine⟨y,rfl,?_,λ_=>hd.mono _ ((z4A (by omega)).2 (.inl rfl))⟩;refine⟨by rw[hd.len];simp,λt ht=>hd.mono t ((z4A (by omega)).2 (.inr ht)),λt ht=>?_⟩;rcases hd.new t ht with g|g
    ·rcases(z4A (by omega)).1 g with rfl|g
     ·exact .inr ⟨by simpa using hPs (by omega),hall⟩
     ·exact .inl g
    ·exact .inr g
omit h in
theorem z7C (l:List Bool)(hl:l.length<4611686018427387904):xD l false=some (!(l.all id)):=by
 unfold xD vQ;have hfs:∀(l:List Bool) (k:Nat),(yj (λi x=>if x=true then none else some ((i:Nat):Int)) l k=none/\l.all id=true)\/∃i:Nat,yj (λi x=>if x=true then none else some ((i:Nat):Int)) l k=some (i:Int)/\l.all id=false:=by
  intro l;induction l with
  | nil=>intro k;exact .inl ⟨rfl,rfl⟩
  | cons x l ih=>
   intro k;simp only[yj,List.all_cons];cases x with
   | true=>simpa using ih (k+1)
   | false=>exact .inr ⟨k,by simp,by simp⟩
 rw[bdT (wk l hl (step:=λs=>yC l false s) (λi x=>if x=true then none else some ((i:Nat):Int)) ?_ ?_)]
 ·rcases hfs l 0 with⟨h1,h2⟩|⟨i,h1,h2⟩
  ·rw[h1,h2];rfl
  ·rw[h1,h2];simp[oS]
 ·intro i x hx;have hi:=(p8.1 hx).1;unfold yC;rw[decide_eq_true (by omega),cond_true,zK hx,oB];cases x <;> rfl
 ·unfold yC;rw[decide_eq_false (by omega),cond_false]
theorem z96:Ret (um m) λr=>r.2=0/\(r.1=true↔∀t,t<m.Rows.length->Rch m t):=by
 have l1:=h.len1;have l64:=h.len64;unfold um;rw[z0w,z89 h,oB,bne_self_eq_false,cond_false,gdT (by omega)];have e0:((m.Rows.length:Nat):Int).toNat=m.Rows.length:=by simp
 rw[e0];have hun:un (List.replicate m.Rows.length false)<fuel:=by have:un (List.replicate m.Rows.length false)<=(List.replicate m.Rows.length false).length:=List.countP_le_length;rw[pZ]at this;show _<18446744073709551616;omega
 have hP:∀t i,Rch m t->t<m.Rows.length->i<kk m->0<=(E m t i).To->Rch m (E m t i).To.toNat:=λt i ht _ hi h0=>rch_step ht hi h0;obtain⟨y,y1,y2,y3⟩:=zfo h hP fuel (List.replicate m.Rows.length false) (by simp) hun 0 ⟨by omega,by omega⟩ (λ_=>⟨[],by simp[Wd],rfl⟩);have hyl:y.length=m.Rows.length:=by rw[y2.len];simp
 have no:∀t:Nat,(List.replicate m.Rows.length false)[t]?≠some true:=λt q=>by rw[gS]at q;split at q <;> cases q
 rw[y1,oB,z7C y (by omega),oB,ze];refine⟨rfl,?_⟩;rw[Bool.not_not,pD];have clo:∀(u:List Nat) (t:Nat),Wd (kk m) u->aft m 0 u=(t:Int)->y[t]?=some true:=by
  intro u;generalize hlen:u.length=n;induction n generalizing u with
  | zero=>
   intro t _ e;rw[List.length_eq_zero_iff.1 hlen]at e;have:t=0:=by have:(0:Int)=t:=e;omega
   subst this;exact y3 (by omega)
  | succ n ih=>
   intro t hu e;have hne:u≠[]:=by intro q;rw[q]at hlen;simp at hlen
   have hsplit:=List.dropLast_concat_getLast hne;have hu':Wd (kk m) u.dropLast:=λi hi=>hu i (List.dropLast_subset _ hi);have hi:u.getLast hne<kk m:=hu _ (List.getLast_mem hne);have h2:=(z2r m u.dropLast 0 (u.getLast hne)).2;rw[hsplit,e]at h2;have hin:=zaW h u.dropLast 0 ⟨by omega,by omega⟩ hu';by_cases hneg:aft m 0 u.dropLast<0
   ·exfalso;unfold nxE at h2;rw[if_pos hneg]at h2;simp at h2
   ·obtain⟨s,hs⟩:∃s:Nat,aft m 0 u.dropLast=s:=⟨(aft m 0 u.dropLast).toNat,by omega⟩;have hy:=ih u.dropLast (by simp[hlen]) s hu' hs;rw[hs,jT]at h2;rcases y2.new s hy with g|⟨_,g⟩
    ·exact absurd g (no s)
    ·have:=g _ hi (by omega);rw[<-h2]at this;simpa using this
 constructor
 ·intro q t ht;have hx:y[t]?=some y[t]:=p7 (by omega);have:=q _ (pw hx);rw[show y[t]=true from this]at hx;rcases y2.new t hx with g|⟨g,_⟩
  ·exact absurd g (no t)
  ·exact g
 ·intro q b hb;obtain⟨t,ht⟩:=pL.1 hb;have htl:=(p8.1 ht).1;obtain⟨u,hu,e⟩:=q t (by omega);have:=clo u t hu e;rw[ht]at this;cases this;rfl
end
def ed (rows:List (List z8))(s i:Nat):z8:=((rows[s]?.getD [])[i]?).getD ⟨-1,-1⟩
structure TM (n k o:Nat)(rows:List (List z8)):Prop where
 len:rows.length=n
 row:∀(s:Nat) (r:List z8),rows[s]?=some r->r.length=k
 edge:∀s i,s<n->i<k->-1<=(ed rows s i).To/\(ed rows s i).To<(n:Int)/\0<=(ed rows s i).Out/\(ed rows s i).Out<(o:Int)
variable {r:List z8}
section
variable {n k o:Nat}{rows:List (List z8)}
theorem TM.rowAt (h:TM n k o rows)  (hs:s<n):∃r,rows[s]?=some r/\r.length=k/\∀i,i<k->r[i]?=some (ed rows s i):=by
 have hsl:s<rows.length:=by rw[h.len];exact hs
 have hr:rows[s]?=some rows[s]:=p7 hsl;have hl:=h.row s _ hr;refine⟨_,hr,hl,λi hi=>?_⟩;unfold ed;rw[hr,pu,p7 (by omega),pu]
theorem TM.upd (h:TM n k o rows){s i:Nat}(hs:s<n)(hi:i<k)  (hr:rows[s]?=some r){t:Int}(t0:-1<=t)(t1:t<(n:Int)) :
  TM n k o (rows.set s (r.set i ⟨t,(ed rows s i).Out⟩))/\∀s' i',ed (rows.set s (r.set i ⟨t,(ed rows s i).Out⟩)) s' i'=if s'=s/\i'=i then⟨t,(ed rows s i).Out⟩ else ed rows s' i':=by
 have hsl:s<rows.length:=by rw[h.len];exact hs
 have hrl:=h.row s r hr;have q2:=h.edge s i hs hi;generalize (ed rows s i).Out=oo at q2 ⊢;have key:∀s' i',ed (rows.set s (r.set i ⟨t,oo⟩)) s' i'=if s'=s/\i'=i then⟨t,oo⟩ else ed rows s' i':=by
  intro s' i';by_cases e:s'=s
  ·subst e
   conv=>lhs;unfold ed
   rw[gQ hsl,pu];by_cases e2:i'=i
   ·subst e2;rw[gQ (by omega),if_pos ⟨rfl,rfl⟩,pu]
   ·rw[gA (λq=>e2 q.symm),if_neg (λq=>e2 q.2)];unfold ed;rw[hr,pu]
  ·conv=>lhs;unfold ed
   rw[gA (λq=>e q.symm),if_neg (λq=>e q.1)];rfl
 refine⟨⟨by rw[List.length_set];exact h.len,λs' r' hr'=>?_,λs' i' hs' hi'=>?_⟩,key⟩
 ·rw[ne]at hr';split at hr'
  ·cases hr';rw[List.length_set];exact hrl
  ·exact h.row s' r' hr'
 ·rw[key];have q:=h.edge s' i' hs' hi';split
  ·rename_i e;exact⟨t0,t1,q2.2.2.1,q2.2.2.2⟩
  ·exact q
theorem TM.idx2 (h:TM n k o rows){s i:Nat}(hs:s<n)(hi:i<k):∃r,rows[s]?=some r/\r.length=k/\r[i]?=some (ed rows s i):=by obtain⟨r,h1,h2,h3⟩:=h.rowAt hs;exact⟨r,h1,h2,h3 i hi⟩
end
theorem z7V (l:List Int)(hl:∀v∈l,0<=v/\v<=65535){q:Int}(hq:0<=q):Ret (YA l q) λv=>0<=v/\v<=65535:=by unfold YA;rw[zz];refine⟨λhc=>?_,λ_=>ze.2 (by omega)⟩;have hc:q<((l.length:Nat):Int):=of_decide_eq_true hc;have hx:l[q.toNat]?=some l[q.toNat]:=p7 (by omega);rw[zw,zbm];have:=hl _ (pw hx);exact⟨hq,_,hx,ze.2 (by rw[zN (by omega) (by omega)];exact this)⟩
structure zpb (x:zG):Prop where
 s0:0<=x.States
 i0:0<=x.Inputs
 o0:0<=x.Outputs
 t0:∀v∈x.Tree,0<=v/\v<=255
 e0:∀v∈x.Edges,0<=v/\v<=65535
variable {rows:List (List z8)}
section
variable {x:zG}(h:zpb x){n k o:Nat}(hn:w64 (1+w64 (Int.tmod x.States 6))=(n:Int))(hk:w64 (1+w64 (Int.tmod x.Inputs 3))=(k:Int))(ho:w64 (1+w64 (Int.tmod x.Outputs 3))=(o:Int))
 (n1:1<=n/\n<=6) (k1:1<=k/\k<=3) (o1:1<=o/\o<=3)
include h hn hk ho n1 k1 o1
theorem zgT (hs:s<n):Ret (loop (λst=>jN x (s:Int) st.1 st.2) (([]:List z8),0)) λr=>r.length=k/\∀e∈r,e.To=-1/\0<=e.Out/\e.Out<(o:Int):=by
 refine zS (λst=>∃i:Nat,st.2=(i:Int)/\i<=k/\st.1.length=i/\∀e∈st.1,e.To=-1/\0<=e.Out/\e.Out<(o:Int)) (λst=>10 - st.2.toNat) ⟨0,rfl,by omega,rfl,by simp⟩ (by show 10 - _<_;omega) ?_;rintro⟨row,_⟩ ⟨i,rfl,h1,h2,h3⟩;simp only at h2 h3;show Ret (jN x (s:Int) row (i:Int)) _;unfold jN;rw[hk,hn,ho,zz];have hsk:s*k<=5*3:=nh (by omega) (by omega);have w1:w64 ((s:Int)*(k:Int))=((s*k:Nat):Int):=by rw[zN (by rw[<-mH];omega) (by rw[<-mH];omega)];exact(mH s k).symm
 refine⟨λhc=>?_,λhc=>ze.2 ⟨by have:=of_decide_eq_false hc;omega,h3⟩⟩;have hc:(i:Int)<(k:Int):=of_decide_eq_true hc;rw[w1,zN (x:=((s*k:Nat):Int)+(i:Int)) (by omega) (by omega),zw];refine(z7V x.Edges h.e0 (q:=((s*k:Nat):Int)+(i:Int)) (by omega)).mono λv hv=>?_;have d0:0<=Int.tdiv v n/\Int.tdiv v n<=v:=by rw[nr hv.1];exact⟨Int.ediv_nonneg hv.1 (by omega),Int.ediv_le_self _ hv.1⟩
 rw[gdT (by omega),gdT (by omega),gdT (by simp;omega),ze,zN (x:=Int.tdiv v n) (by omega) (by omega),zN (x:=(i:Int)+1) (by omega) (by omega)];refine⟨⟨i+1,rfl,by omega,by simp[h2],λe he=>?_⟩,by simp only;omega⟩;rcases pe.1 he with q|q
 ·exact h3 e q
 ·simp only[pc,pG,or_false]at q;subst q;exact⟨rfl,nA _ d0.1,nD _ (by omega)⟩
theorem zej:Ret (loop (λst=>jO x st.1 st.2) (([]:List (List z8)),0)) λrows=>TM n k o rows/\∀s i,s<n->i<k->(ed rows s i).To=-1:=by
 refine zS (λst=>∃s:Nat,st.2=(s:Int)/\s<=n/\st.1.length=s/\∀r∈st.1,r.length=k/\∀e∈r,e.To=-1/\0<=e.Out/\e.Out<(o:Int)) (λst=>10 - st.2.toNat) ⟨0,rfl,by omega,rfl,by simp⟩ (by show 10 - _<_;omega) ?_;rintro⟨rows,_⟩ ⟨s,rfl,h1,h2,h3⟩;simp only at h2 h3;show Ret (jO x rows (s:Int)) _;unfold jO;rw[hn,zz];refine⟨λhc=>?_,λhc=>?_⟩
 ·have hc:(s:Int)<(n:Int):=of_decide_eq_true hc;rw[zw];refine(zgT h hn hk ho n1 k1 o1 (s:=s) (by omega)).mono λr hr=>?_;unfold Wf Wg;rw[gdT (by simp;omega),ze,zN (x:=(s:Int)+1) (by omega) (by omega)];refine⟨⟨s+1,rfl,by omega,by simp[h2],λr' hr'=>?_⟩,by simp only;omega⟩;rcases pe.1 hr' with q|q
  ·exact h3 r' q
  ·simp only[pc,pG,or_false]at q;subst q;exact hr
 ·have hsn:s=n:=by have:=of_decide_eq_false hc;omega
  have all:∀s i,s<n->i<k->(ed rows s i).To=-1/\0<=(ed rows s i).Out/\(ed rows s i).Out<(o:Int):=by intro t i ht hi;have hr:rows[t]?=some rows[t]:=p7 (by omega);obtain⟨g1,g2⟩:=h3 _ (pn (by omega:t<rows.length));have hx:(rows[t])[i]?=some (rows[t])[i]:=p7 (by omega);unfold ed;rw[hr,pu,hx,pu];exact g2 _ (pn _)
  refine ze.2 ⟨⟨by omega,λt r hr=>(h3 r (pw hr)).1,λt i ht hi=>?_⟩,λt i ht hi=>(all t i ht hi).1⟩;obtain⟨a,b,c⟩:=all t i ht hi;omega
omit h hn hk ho n1 k1 o1 in
theorem zdW:∀a:Nat,a<=100->w64 (a:Int)=(a:Int):=λa ha=>zN (by omega) (by omega)
omit h hn hk ho n1 o1 in
theorem ziB {c s:Nat}(hc:c<s*k):c / k<s/\c % k<k/\Int.tdiv (c:Int) (k:Int)=((c / k:Nat):Int)/\Int.tmod (c:Int) (k:Int)=((c % k:Nat):Int) :=
 ⟨Nat.div_lt_of_lt_mul (by rw[Nat.mul_comm];exact hc),Nat.mod_lt _ (by omega),by rw[nr (by omega)];rfl,by rw[Int.tmod_eq_emod_of_nonneg (by omega)];rfl⟩
omit h hn ho o1 in
theorem zhy (hT:TM n k o rows){s:Nat}(s1:1<=s)(sn:s<n)(hfree:∀i,i<k->(ed rows (s - 1) i).To=-1) :
  Ret (loop (λst=>jP x rows (s:Int) st.1 st.2) (([]:List Int),0)) λfr=>fr≠[]/\fr.length<=100/\∀c∈fr,∃q:Nat,c=(q:Int)/\q<s*k/\(ed rows (q / k) (q % k)).To<0:=by
 have hsk:s*k<=5*3:=nh (by omega) (by omega);refine zS (λst=>∃q:Nat,st.2=(q:Int)/\q<=s*k/\st.1.length<=q/\((s - 1)*k<q->st.1≠[])/\∀c∈st.1,∃q:Nat,c=(q:Int)/\q<s*k/\(ed rows (q / k) (q % k)).To<0) (λst=>20 - st.2.toNat) ⟨0,rfl,by omega,by simp,by omega,by simp⟩ (by show 20 - _<_;omega) ?_;rintro⟨fr,_⟩ ⟨q,rfl,h1,h2,h3,h4⟩;simp only at h2 h3 h4;show Ret (jP x rows (s:Int) fr (q:Int)) _;unfold jP;have w1:w64 ((s:Int)*(k:Int))=((s*k:Nat):Int):=by rw[zN (by rw[<-mH];omega) (by rw[<-mH];omega)];exact(mH s k).symm
 rw[hk,w1,zz];refine⟨λhc=>?_,λhc=>?_⟩
 ·have hc:((q:Nat):Int)<((s*k:Nat):Int):=of_decide_eq_true hc;have hqs:q<s*k:=by omega
  obtain⟨d1,d2,d3,d4⟩:=ziB k1 hqs;obtain⟨r,r1,r2,r3⟩:=hT.idx2 (s:=q / k) (i:=q % k) (by omega) d2;rw[gdT (by omega),d3,zdW (q / k) (by omega),bdT (zK r1),gdT (by omega),d4,bdT (zK r3),zz];have w2:w64 ((q:Int)+1)=((q+1:Nat):Int):=by rw[zN (by omega) (by omega)];rfl
  unfold Y1;refine⟨λht=>?_,λht=>?_⟩
  ·have ht:(ed rows (q / k) (q % k)).To<0:=of_decide_eq_true ht;rw[gdT (by simp;omega),ze,w2];refine⟨⟨q+1,rfl,by omega,by simp;omega,λ_=>by simp,λc hc=>?_⟩,by simp only[pb];omega⟩;rcases pe.1 hc with g|g
   ·exact h4 c g
   ·simp only[pc,pG,or_false]at g;exact⟨q,g,hqs,ht⟩
  ·have ht:=of_decide_eq_false ht;rw[ze,w2];refine⟨⟨q+1,rfl,by omega,by simp only;omega,λhlt=>?_,h4⟩,by simp only[pb];omega⟩;by_cases e:(s - 1)*k<q
   ·exact h3 e
   ·exfalso;have e2:q=(s - 1)*k:=by omega
    have:q / k=s - 1:=by rw[e2];exact Nat.mul_div_cancel _ (by omega)
    have q2:=hfree (q % k) d2;rw[this,q2]at ht;omega
 ·have hc:=of_decide_eq_false hc;have e:(s - 1)*k<s*k:=Nat.mul_lt_mul_of_pos_right (by omega) (by omega);exact ze.2 ⟨h3 (by omega),by omega,h4⟩
structure Tree (s:Nat)(rows:List (List z8)):Prop where
 tm:TM n k o rows
 par:∀t,1<=t->t<s->∃r i,r<t/\i<k/\(ed rows r i).To=(t:Int)
 free:∀r i,s<=r+1->r<n->i<k->(ed rows r i).To=-1
omit h hn ho o1 in
theorem zjQ {rows:List (List z8)}{s:Nat}(s1:1<=s)(sn:s<n)(hT:Tree (n:=n) (k:=k) (o:=o) s rows){q:Nat}(hq:q<s*k)(hf:(ed rows (q / k) (q % k)).To<0) :
  ∃rows',uD x rows (s:Int) (q:Int)=some (.next (rows',((s+1:Nat):Int)))/\Tree (n:=n) (k:=k) (o:=o) (s+1) rows':=by
 have hsk:s*k<=5*3:=nh (by omega) (by omega);obtain⟨d1,d2,d3,d4⟩:=ziB k1 hq;obtain⟨r,r1,r2,r3⟩:=hT.tm.idx2 (s:=q / k) (i:=q % k) (by omega) d2;obtain⟨u1,u2⟩:=hT.tm.upd (s:=q / k) (i:=q % k) (by omega) d2 r1 (t:=(s:Int)) (by omega) (by omega);refine⟨_,?_,u1,λt t1 t2=>?_,λr' i g1 g2 g3=>?_⟩
 ·unfold uD Vf;have w2:w64 ((s:Int)+1)=((s+1:Nat):Int):=by rw[zN (by omega) (by omega)];rfl
  rw[hk,gdT (by omega),d3,zdW (q / k) (by omega),bdT (zK r1),gdT (by omega),d4,bdT (zK r3),w2];rfl
 ·by_cases e:t=s
  ·subst e;exact⟨q / k,q % k,d1,d2,by rw[u2,if_pos ⟨rfl,rfl⟩]⟩
  ·obtain⟨r',i,g1,g2,g3⟩:=hT.par t t1 (by omega);refine⟨r',i,g1,g2,?_⟩;rw[u2,if_neg,g3];rintro⟨rfl,rfl⟩;omega
 ·rw[u2,if_neg (by rintro⟨e,_⟩;omega)];exact hT.free r' i (by omega) g2 g3
omit ho o1 in
theorem zfX (hT:TM n k o rows)(hfree:∀s i,s<n->i<k->(ed rows s i).To=-1):Ret (loop (λst=>ZB x st.1 st.2) (rows,1)) (Tree (n:=n) (k:=k) (o:=o) n):=by
 refine zS (λst=>∃s:Nat,st.2=(s:Int)/\1<=s/\s<=n/\Tree (n:=n) (k:=k) (o:=o) s st.1) (λst=>10 - st.2.toNat) ⟨1,rfl,by omega,by omega,hT,λt _ _=>by omega,λr i _=>hfree r i⟩ (by show 10 - _<_;omega) ?_;rintro⟨rows,_⟩ ⟨s,rfl,s1,sn,hS⟩;simp only at hS;show Ret (ZB x rows (s:Int)) _;unfold ZB;rw[hn,zz];refine⟨λhc=>?_,λhc=>?_⟩
 ·have hc:(s:Int)<(n:Int):=of_decide_eq_true hc;have hsn:s<n:=by omega
  rw[zw];refine(zhy hk n1 k1 hS.tm s1 hsn λi hi=>hS.free (s - 1) i (by omega) (by omega) hi).mono λfr hfr=>?_;obtain⟨f1,f2,f3⟩:=hfr;have flen:0<fr.length:=nv.2 f1;have fin:∀c∈fr,Ret (uD x rows (s:Int) c) (LRP (λs'=>(∃s:Nat,s'.2=(s:Int)/\1<=s/\s<=n/\Tree (n:=n) (k:=k) (o:=o) s s'.1)/\10 - s'.2.toNat<10 - (s:Int).toNat) (Tree (n:=n) (k:=k) (o:=o) n)):=by intro c hc;obtain⟨q,rfl,q1,q2⟩:=f3 c hc;obtain⟨rows',e,g⟩:=zjQ hk n1 k1 s1 hsn hS q1 q2;rw[e,ze];exact⟨⟨s+1,rfl,by omega,by omega,g⟩,by simp only[pb];omega⟩
  unfold Wh;have e0:fr[0]?=some fr[0]:=p7 flen;have w3:w64 ((s:Int) - 1)=((s - 1:Nat):Int):=by rw[zN (by omega) (by omega)];omega
  rw[bdT (show idx fr 0=some fr[0] from e0),w3,zz];refine⟨λhc2=>?_,λ_=>fin _ (pn _)⟩;have hc2:((s - 1:Nat):Int)<((x.Tree.length:Nat):Int):=of_decide_eq_true hc2;have hx:x.Tree[s - 1]?=some x.Tree[s - 1]:=p7 (by omega);have hv:=h.t0 _ (pn (by omega:s - 1<x.Tree.length));rw[bdT (zK hx),gdT (by omega),zN (x:=x.Tree[s - 1]) (by omega) (by omega)];have m1:=nA (fr.length:Int) hv.1;have m2:=nD x.Tree[s - 1] (show(0:Int)<(fr.length:Int) by omega);have hy:fr[(Int.tmod x.Tree[s - 1] (fr.length:Int)).toNat]?=some fr[(Int.tmod x.Tree[s - 1] (fr.length:Int)).toNat]:=p7 (by omega);rw[zw,zbm];exact⟨m1,_,hy,fin _ (pn _)⟩
 ·have hsn:s=n:=by have:=of_decide_eq_false hc;omega
  subst hsn;exact ze.2 hS
structure zp1 (s i:Nat)(rows:List (List z8)):Prop where
 tm:TM n k o rows
 par:∀t,1<=t->t<n->∃r i,r<t/\i<k/\(ed rows r i).To=(t:Int)
 full:∀r j,r<n->j<k->r<s\/r=s/\j<i->0<=(ed rows r j).To
omit ho o1 in
theorem zbF {rows:List (List z8)}  (sn:s<n)(hF:zp1 (n:=n) (k:=k) (o:=o) s 0 rows):Ret (loop (λst=>ZC x (s:Int) st.1 st.2) (rows,0)) (zp1 (n:=n) (k:=k) (o:=o) (s+1) 0):=by
 have hsk:s*k<=5*3:=nh (by omega) (by omega);refine zS (λst=>∃i:Nat,st.2=(i:Int)/\i<=k/\zp1 (n:=n) (k:=k) (o:=o) s i st.1) (λst=>10 - st.2.toNat) ⟨0,rfl,by omega,hF⟩ (by show 10 - _<_;omega) ?_;rintro⟨rows,_⟩ ⟨i,rfl,ik,hS⟩;simp only at hS;show Ret (ZC x (s:Int) rows (i:Int)) _;unfold ZC;have w1:w64 ((s:Int)*(k:Int))=((s*k:Nat):Int):=by rw[zN (by rw[<-mH];omega) (by rw[<-mH];omega)];exact(mH s k).symm
 rw[hk,hn,w1,zz];refine⟨λhc=>?_,λhc=>?_⟩
 ·have hc:(i:Int)<(k:Int):=of_decide_eq_true hc;have hik:i<k:=by omega
  obtain⟨r,r1,r2,r3⟩:=hS.tm.idx2 sn hik;have w2:w64 ((i:Int)+1)=((i+1:Nat):Int):=by rw[zN (by omega) (by omega)];rfl
  rw[bdT (zK r1),bdT (zK r3),zz];unfold Xi;refine⟨λht=>?_,λht=>?_⟩
  ·have ht:(ed rows s i).To<0:=of_decide_eq_true ht;rw[bdT (zK r1),zN (x:=((s*k:Nat):Int)+(i:Int)) (by omega) (by omega),zw];refine(z7V x.Edges h.e0 (q:=((s*k:Nat):Int)+(i:Int)) (by omega)).mono λv hv=>?_;have m1:=nA (n:Int) hv.1;have m2:=nD v (show(0:Int)<(n:Int) by omega);obtain⟨u1,u2⟩:=hS.tm.upd sn hik r1 (t:=Int.tmod v n) (by omega) m2;rw[gdT (by omega),bdT (zK r3),ze,w2];refine⟨⟨i+1,rfl,by omega,u1,λt t1 t2=>?_,λr' j g1 g2 g3=>?_⟩,by simp only[pb];omega⟩
   ·obtain⟨r',j,g1,g2,g3⟩:=hS.par t t1 t2;refine⟨r',j,g1,g2,?_⟩;show(ed (rows.set s (r.set i ⟨Int.tmod v n,(ed rows s i).Out⟩)) r' j).To=_;rw[u2,if_neg,g3];rintro⟨rfl,rfl⟩;omega
   ·show 0<=(ed (rows.set s (r.set i ⟨Int.tmod v n,(ed rows s i).Out⟩)) r' j).To;rw[u2];split
    ·exact m1
    ·rename_i e;exact hS.full r' j g1 g2 (by rcases g3 with g3|⟨rfl,g3⟩;exact .inl g3;exact .inr ⟨rfl,by have:¬j=i:=λq=>e ⟨rfl,q⟩;omega⟩)
  ·have ht:=of_decide_eq_false ht;rw[ze,w2];refine⟨⟨i+1,rfl,by omega,hS.tm,hS.par,λr' j g1 g2 g3=>?_⟩,by simp only[pb];omega⟩;rcases g3 with g3|⟨rfl,g3⟩
   ·exact hS.full r' j g1 g2 (.inl g3)
   ·by_cases e:j=i
    ·subst e;show 0<=(ed rows r' j).To;omega
    ·exact hS.full r' j g1 g2 (.inr ⟨rfl,by omega⟩)
 ·have hik:i=k:=by have:=of_decide_eq_false hc;omega
  subst hik;exact ze.2 ⟨hS.tm,hS.par,λr' j g1 g2 g3=>hS.full r' j g1 g2 (by omega)⟩
omit ho o1 in
theorem zhA {rows:List (List z8)}(hT:Tree (n:=n) (k:=k) (o:=o) n rows):Ret (loop (λst=>ZD x st.1 st.2) (rows,0)) (zp1 (n:=n) (k:=k) (o:=o) n 0):=by
 refine zS (λst=>∃s:Nat,st.2=(s:Int)/\s<=n/\zp1 (n:=n) (k:=k) (o:=o) s 0 st.1) (λst=>10 - st.2.toNat) ⟨0,rfl,by omega,hT.tm,hT.par,λr j _ _ g=>by omega⟩ (by show 10 - _<_;omega) ?_;rintro⟨rows,_⟩ ⟨s,rfl,sn,hS⟩;simp only at hS;show Ret (ZD x rows (s:Int)) _;unfold ZD;rw[hn,zz];refine⟨λhc=>?_,λhc=>?_⟩
 ·have hc:(s:Int)<(n:Int):=of_decide_eq_true hc;rw[zw];refine(zbF h hn hk n1 k1 (s:=s) (by omega) hS).mono λr hr=>?_;unfold Vg;rw[ze,zN (x:=(s:Int)+1) (by omega) (by omega)];exact⟨⟨s+1,rfl,by omega,hr⟩,by simp only;omega⟩
 ·have hsn:s=n:=by have:=of_decide_eq_false hc;omega
  subst hsn;exact ze.2 hS
end
theorem zjT {x:zG}(h:zpb x):Ret (Jk x) λm=>VM m/\m.Inputs<=3/\m.Rows.length<=6/\(∀s i,s<m.Rows.length->i<kk m->0<=(E m s i).To)/\∀t,t<m.Rows.length->Rch m t:=by
 have hn':=zbt h.s0 (k:=6) (by omega) (by omega);have hi':=zbt h.i0 (k:=3) (by omega) (by omega);have ho':=zbt h.o0 (k:=3) (by omega) (by omega);obtain⟨n,hn⟩:∃n:Nat,w64 (1+w64 (Int.tmod x.States 6))=(n:Int):=⟨(w64 (1+w64 (Int.tmod x.States 6))).toNat,by omega⟩;obtain⟨k,hk⟩:∃n:Nat,w64 (1+w64 (Int.tmod x.Inputs 3))=(n:Int):=⟨(w64 (1+w64 (Int.tmod x.Inputs 3))).toNat,by omega⟩;obtain⟨o,ho⟩:∃n:Nat,w64 (1+w64 (Int.tmod x.Outputs 3))=(n:Int):=⟨(w64 (1+w64 (Int.tmod x.Outputs 3))).toNat,by omega⟩;rw[hn]at hn';rw[hk]at hi';rw[ho]at ho';have n1:1<=n/\n<=6:=by omega
 have k1:1<=k/\k<=3:=by omega
 have o1:1<=o/\o<=3:=by omega
 unfold Jk Vj Vi Vh;rw[gdT (by decide),gdT (by decide),gdT (by decide),zw];refine(zej h hn hk ho n1 k1 o1).mono λr0 h0=>?_;rw[zw];refine(zfX h hn hk n1 k1 h0.1 h0.2).mono λr1 h1=>?_;rw[zw];refine(zhA h hn hk n1 k1 h1).mono λr hF=>?_;rw[ze,hk,ho];have hlen:r.length=n:=hF.tm.len;have hkk:kk (z6.mk (k:Int) (o:Int) r)=k:=by show(k:Int).toNat=k;omega
 have hfull:∀s i,s<n->i<k->0<=(ed r s i).To:=λs i a b=>hF.full s i a b (.inl a);refine⟨⟨by show(1:Int)<=(k:Int);omega,by show(k:Int)<=16;omega,by show(1:Int)<=(o:Int);omega,by show(o:Int)<=16;omega,by show 1<=r.length;omega,by show r.length<=64;omega,λrow hr=>?_,λrow hr e he=>?_⟩,by show(k:Int)<=3;omega,by show r.length<=6;omega,λs i hs hi=>?_,?_⟩
 ·obtain⟨s,hs⟩:=pL.1 hr;have:=hF.tm.row s row hs;show((row.length:Nat):Int)=(k:Int);omega
 ·obtain⟨s,hs⟩:=pL.1 hr;have hrow:=hF.tm.row s row hs;have hsl:s<n:=by have:=(p8.1 hs).1;rw[hlen]at this;exact this
  obtain⟨i,hi⟩:=pL.1 he;have hil:i<k:=by have:=(p8.1 hi).1;omega
  have e1:ed r s i=e:=by unfold ed;rw[hs,pu,hi,pu]
  have q1:=hF.tm.edge s i hsl hil;have q2:=hfull s i hsl hil;rw[e1]at q1 q2;exact .inr ⟨q2,by show e.To<((r.length:Nat):Int);rw[hlen];exact q1.2.1,q1.2.2.1,q1.2.2.2⟩
 ·exact hfull s i (by have hs:s<r.length:=hs;omega) (by rw[hkk]at hi;exact hi)
 ·have gen:∀b t,t<b->t<n->Rch (z6.mk (k:Int) (o:Int) r) t:=by
   intro b;induction b with
   | zero=>intro t q;omega
   | succ b ih=>
    intro t q ht;by_cases e:t=0
    ·subst e;exact⟨[],(λi hi=>by cases hi),rfl⟩
    ·obtain⟨s,i,g1,g2,g3⟩:=hF.par t (by omega) ht;have e3:(E (z6.mk (k:Int) (o:Int) r) s i).To=(t:Int):=g3;have:=rch_step (m:=z6.mk (k:Int) (o:Int) r) (i:=i) (ih s (by omega) (by omega)) (by rw[hkk];exact g2) (by rw[e3];omega);rw[e3]at this;exact this
  intro t ht;exact gen (t+1) t (by omega) (by have ht:t<r.length:=ht;omega)
theorem z5s (x:xg α)(i:Nat)(v:α):(xg.setI x (i:Int) v).toL=x.toL.set i v:=by unfold xg.setI;rw[xg.toL_ofL _ _ (by simp[xg.toL]),pb]
theorem ziS {x y:xg α}(h:x.toL=y.toL):x=y:=by cases x;cases y;simp only[xg.toL,List.cons.injEq,and_true]at h;simp only[xg.mk.injEq];exact h
instance:LawfulBEq (xg (wK Int)):={
 eq_of_beq:=by
  intro a b h;cases a;cases b;simp only[BEq.beq,ph,decide_eq_true_eq]at h;simp only[xg.mk.injEq];obtain⟨⟨⟨⟨⟨⟨⟨⟨⟨⟨⟨⟨⟨⟨⟨h0,h1⟩,h2⟩,h3⟩,h4⟩,h5⟩,h6⟩,h7⟩,h8⟩,h9⟩,h10⟩,h11⟩,h12⟩,h13⟩,h14⟩,h15⟩:=h;have e:∀{p q:wK Int},(p.e0=q.e0/\p.e1=q.e1)->p=q:=by rintro⟨a0,a1⟩ ⟨b0,b1⟩ ⟨rfl,rfl⟩;rfl
  exact⟨e h0,e h1,e h2,e h3,e h4,e h5,e h6,e h7,e h8,e h9,e h10,e h11,e h12,e h13,e h14,e h15⟩
 rfl:=by intro a;cases a;simp[BEq.beq] }
instance:LawfulBEq zA:={
 eq_of_beq:=by intro a b h;have h:(a.block_==b.block_&&a.signature_==b.signature_)=true:=h;rw[ph,beq_iff_eq,beq_iff_eq]at h;obtain⟨a0,a1⟩:=a;obtain⟨b0,b1⟩:=b;obtain⟨h0,h1⟩:=h;have h0:a0=b0:=h0;have h1:a1=b1:=h1;rw[h0,h1]
 rfl:=by intro a;show(a.block_==a.block_&&a.signature_==a.signature_)=true;rw[beq_self_eq_true,beq_self_eq_true];rfl }
def sgN (m:z6)(p:List Int)(s j:Nat):wK Int:=if j<kk m then⟨(E m s j).Out,if(E m s j).To=-1 then -1 else(p[(E m s j).To.toNat]?).getD 0⟩ else⟨0,0⟩
theorem zep (f g:Nat->α){n i:Nat}(v:α)(h:∀j,j<n->g j=if j=i then v else f j):((List.range n).map f).set i v=(List.range n).map g:=by
 apply pU;intro j;by_cases hj:j<n
 ·have e1:((List.range n).map g)[j]?=some (g j):=by simp[hj]
  have e2:((List.range n).map f)[j]?=some (f j):=by simp[hj]
  rw[e1,h j hj];by_cases e:j=i
  ·subst e;rw[gQ (by simpa using hj),if_pos rfl]
  ·rw[gA (λq=>e q.symm),e2,if_neg e]
 ·rw[pi (by simp;omega),pi (by simp;omega)]
variable {p:List Int}
section
variable {m:z6}(h:VM m)
include h
theorem zgF (hp:p.length=m.Rows.length)  (hs:s<m.Rows.length):Ret (kY m p (s:Int)) λa=>a.toL=(List.range 16).map (sgN m p s):=by
 obtain⟨r,r1,r2,r3⟩:=h.rowAt hs;have hk:=h.kk_le;unfold kY YT;rw[bdT (zK r1),zw];refine Ret.mono ?_ λa ha=>ze.2 ha;refine zS (λst=>∃i:Nat,st.2=(i:Int)/\i<=kk m/\st.1.toL=(List.range 16).map λj=>if j<i then sgN m p s j else⟨0,0⟩) (λst=>20 - st.2.toNat) ⟨0,rfl,by omega,by simp[xg.toL,List.range_succ]⟩ (by show 20 - _<_;omega) ?_;rintro⟨a,_⟩ ⟨i,rfl,hi,ha⟩;simp only at ha;show Ret (kW p r a (i:Int)) _;unfold kW kX;rw[zz];refine⟨λhc=>?_,λhc=>?_⟩
 ·have hc:(i:Int)<((r.length:Nat):Int):=of_decide_eq_true hc;have hik:i<kk m:=by omega
  have e1:a.toL[i]?=some ⟨0,0⟩:=by rw[ha];simp[show i<16 by omega]
  have w2:w64 ((i:Int)+1)=((i+1:Nat):Int):=by rw[zN (by omega) (by omega)];rfl
  have hed:=h.edgeAt hs hik;have step:∀v:wK Int,sgN m p s i=v->∀b:xg (wK Int),b.toL=((List.range 16).map λj=>if j<i then sgN m p s j else⟨0,0⟩).set i v->b.toL=(List.range 16).map λj=>if j<i+1 then sgN m p s j else⟨0,0⟩:=by
   intro v hv b hb;rw[hb];refine zep _ _ v λj hj=>?_;by_cases e:j=i
   ·subst e;rw[if_pos (by omega),if_pos rfl,hv]
   ·rw[if_neg e];by_cases e2:j<i
    ·rw[if_pos e2,if_pos (by omega)]
    ·rw[if_neg e2,if_neg (by omega)]
  rw[bdT (zK (r3 i hik)),bdT (zK e1),oB,zz];refine⟨λht=>?_,λht=>?_⟩
  ·have ht:(E m s i).To≠-1:=by simpa using ht
   obtain⟨t,htn⟩:∃t:Nat,(E m s i).To=t:=⟨(E m s i).To.toNat,by omega⟩;have hpt:p[t]?=some p[t]:=p7 (by omega);have e2:(xg.setI a (i:Int) ⟨(E m s i).Out,-1⟩).toL[i]?=some ⟨(E m s i).Out,-1⟩:=by rw[z5s,gQ (by rw[ha];simp;omega)]
   rw[htn,bdT (zK hpt),bdT (zK e2),oB,ze,w2];refine⟨⟨i+1,rfl,by omega,step _ ?_ _ (by rw[z5s,z5s,ha,List.set_set])⟩,by simp only[pb];omega⟩;unfold sgN;rw[if_pos hik,if_neg ht,htn,pb,hpt,pu]
  ·have ht:(E m s i).To=-1:=by simpa using ht
   rw[ze,w2];refine⟨⟨i+1,rfl,by omega,step _ ?_ _ (by rw[z5s,ha])⟩,by simp only[pb];omega⟩;unfold sgN;rw[if_pos hik,if_pos ht]
 ·have hc:=of_decide_eq_false hc;have:i=kk m:=by omega
  subst this;refine ze.2 ?_;show a.toL=_;rw[ha];refine gM λj hj=>?_;unfold sgN;by_cases e:j<kk m
  ·rw[if_pos e,if_pos e]
  ·rw[if_neg e,if_neg e]
end
def Rgf (l:List Int):Prop:=∀(s:Nat) (x:Int),l[s]?=some x->∃v:Nat,x=(v:Int)/\∀w:Nat,w<v->∃t,t<s/\l[t]?=some (w:Int)
theorem zck {l r:List Int}(hl:Rgf l)(hr:Rgf r)(hlen:l.length=r.length)(h:∀s t:Nat,s<l.length->t<l.length->(l[s]?=l[t]?↔r[s]?=r[t]?)):l=r:=by
 have gen:∀n s,s<n->s<l.length->l[s]?=r[s]?:=by
  intro n;induction n with
  | zero=>intro s q;omega
  | succ n ih=>
   intro s hs hsl;have hx:l[s]?=some l[s]:=p7 hsl;have hy:r[s]?=some r[s]:=p7 (by omega);by_cases old:∃t,t<s/\l[t]?=l[s]?
   ·obtain⟨t,t1,t2⟩:=old;rw[<-t2,ih t (by omega) (by omega)];exact(h t s (by omega) hsl).1 t2
   ·obtain⟨v,v1,v2⟩:=hl s _ hx;obtain⟨u,u1,u2⟩:=hr s _ hy;rw[hx,hy,v1,u1];rcases hU v u with q|q|q
    ·exfalso;obtain⟨t,t1,t2⟩:=u2 v q;exact old ⟨t,t1,by rw[ih t (by omega) (by omega),t2,hx,v1]⟩
    ·rw[q]
    ·exfalso;obtain⟨t,t1,t2⟩:=v2 u q;have:r[t]?=r[s]?:=by rw[<-ih t (by omega) (by omega),t2,hy,u1]
     exact old ⟨t,t1,(h t s (by omega) hsl).2 this⟩
 apply pU;intro s;by_cases hs:s<l.length
 ·exact gen (s+1) s (by omega) hs
 ·rw[pi (by omega),pi (by omega)]
theorem zcw {K V:Type}[BEq K](x:K)(v:V):∀l:List (K×V),z4D l x=none->(zdh l x v).length=l.length+1
 | [],_=>rfl
 | p::l,hg=>by
  simp only[z4D]at hg;split at hg
  ·cases hg
  ·rename_i q;simp only[zdh,q];show((p::zdh l x v).length)=_;rw[pC,zcw x v l hg,pC]
section
variable {m:z6}(h:VM m)
include h
def zi9 (m:z6)(p:List Int)(s t:Nat):Prop:=p[s]?=p[t]?/\∀j,j<kk m->sgN m p s j=sgN m p t j
theorem zbp (hp:p.length=m.Rows.length):Ret (kZ m p) λq=>q.length=m.Rows.length/\Rgf q/\∀s t:Nat,s<m.Rows.length->t<m.Rows.length->(q[s]?=q[t]?↔zi9 m p s t):=by
 have hN:=h.len64;have hk:=h.kk_le;have hkey:∀s,s<m.Rows.length->∃key:zA,key.block_=(p[s]?).getD 0/\key.signature_.toL=(List.range 16).map (sgN m p s)/\kY m p (s:Int)=some key.signature_:=by intro s hs;obtain⟨a,a1,a2⟩:=zgF h hp hs;exact⟨⟨(p[s]?).getD 0,a⟩,rfl,a2,a1⟩
 have:∃key:Nat->zA,∀s,s<m.Rows.length->(key s).block_=(p[s]?).getD 0/\(key s).signature_.toL=(List.range 16).map (sgN m p s)/\kY m p (s:Int)=some (key s).signature_:=by
  classical
  refine⟨λs=>if q:s<m.Rows.length then(hkey s q).choose else⟨0,xg.mk ⟨0,0⟩ ⟨0,0⟩ ⟨0,0⟩ ⟨0,0⟩ ⟨0,0⟩ ⟨0,0⟩ ⟨0,0⟩ ⟨0,0⟩ ⟨0,0⟩ ⟨0,0⟩ ⟨0,0⟩ ⟨0,0⟩ ⟨0,0⟩ ⟨0,0⟩ ⟨0,0⟩ ⟨0,0⟩⟩,λs hs=>?_⟩;simp only[hs,dif_pos];exact(hkey s hs).choose_spec
 obtain⟨key,hkey⟩:=this;have alike:∀s t,s<m.Rows.length->t<m.Rows.length->(key s=key t↔zi9 m p s t):=by
  intro s t hs ht;obtain⟨a1,a2,_⟩:=hkey s hs;obtain⟨b1,b2,_⟩:=hkey t ht;have xs:p[s]?=some p[s]:=p7 (by omega);have xt:p[t]?=some p[t]:=p7 (by omega);rw[xs,pu]at a1;rw[xt,pu]at b1;constructor
  ·intro e;refine⟨by rw[xs,xt,<-a1,<-b1,e],λj hj=>?_⟩;have e2:(List.range 16).map (sgN m p s)=(List.range 16).map (sgN m p t):=by rw[<-a2,<-b2,e]
   have:=congrArg (λl=>l[j]?) e2;simpa[show j<16 by omega] using this
  ·rintro⟨e1,e2⟩;have e3:(key s).signature_=(key t).signature_:=ziS (by
    rw[a2,b2];refine gM λj hj=>?_;by_cases q:j<kk m
    ·exact e2 j q
    ·unfold sgN;rw[if_neg q,if_neg q])
   have e4:(key s).block_=(key t).block_:=by rw[a1,b1];rw[xs,xt]at e1;exact Option.some.inj e1
   revert e3 e4;generalize key s=u;generalize key t=v;intro e3 e4;obtain⟨u0,u1⟩:=u;obtain⟨v0,v1⟩:=v;simp only at e3 e4;rw[e3,e4]
 unfold kZ jX;rw[gdT (by omega),zw];refine Ret.mono ?_ λq hq=>ze.2 hq;refine zS (λst=>∃i:Nat,st.2.2=(i:Int)/\i<=m.Rows.length/\st.2.1.length=m.Rows.length/\(∀s,s<i->∃v:Nat,st.2.1[s]?=some (v:Int)/\v<st.1.length/\z4D st.1 (key s)=some (v:Int)/\∀w:Nat,w<v->∃t,t<s/\st.2.1[t]?=some (w:Int))/\(∀w:Nat,w<st.1.length->∃t,t<i/\st.2.1[t]?=some (w:Int)) /\
   (∀k v,z4D st.1 k=some v->∃t,t<i/\key t=k)/\∀s t:Nat,s<i->t<i->st.2.1[s]?=st.2.1[t]?->key s=key t) (λst=>100 - st.2.2.toNat) ⟨0,rfl,by omega,by simp[hp],λs q=>by omega,λw q=>by simp at q,λk v q=>by simp[z4D]at q,λs t q=>by omega⟩ (by show 100 - _<_;omega) ?_
 rintro⟨names,out,_⟩ ⟨i,rfl,hi,ho,h1,h2,h3,h4⟩;simp only at ho h1 h2 h3 h4;show Ret (uf m p names out (i:Int)) _;unfold uf;rw[zz];refine⟨λhc=>?_,λhc=>?_⟩
 ·have hc:(i:Int)<((p.length:Nat):Int):=of_decide_eq_true hc;have hiN:i<m.Rows.length:=by omega
  obtain⟨a1,a2,a3⟩:=hkey i hiN;have xi:p[i]?=some p[i]:=p7 (by omega);rw[xi,pu]at a1;have hmk:zA.mk p[i] (key i).signature_=key i:=by rw[<-a1]
  have w2:w64 ((i:Int)+1)=((i+1:Nat):Int):=by rw[zN (by omega) (by omega)];rfl
  have hoi:out[i]?=some out[i]:=p7 (by omega);rw[bdT (zK xi),bdT a3,oB,hmk];cases hg:z4D names (key i) with
  | none=>
   rw[Option.isSome_none,ni,cond_true];unfold wQ;have hfresh:∀t,t<i->key t≠key i:=λt ht e=>by obtain⟨v,_,_,v3,_⟩:=h1 t ht;rw[e,hg]at v3;cases v3
   have hlen:=zcw (key i) ((names.length:Nat):Int) names hg;rw[hmk,z5v,if_pos (by simp),pu,oB,bdT (zK hoi),ze,w2,pb];have keep:∀t:Nat,t<i->(out.set i ((names.length:Nat):Int))[t]?=out[t]?:=λt ht=>gA (by omega);have new:(out.set i ((names.length:Nat):Int))[i]?=some ((names.length:Nat):Int):=gQ (by omega);refine⟨⟨i+1,rfl,by omega,by simp[ho],λs hs=>?_,λw hw=>?_,λk v q=>?_,λs t hs ht q=>?_⟩,by simp only[pb];omega⟩
   ·simp only
    by_cases e:s=i
    ·subst e;refine⟨names.length,new,by omega,by rw[z5v,if_pos (by simp)],λw hw=>?_⟩;obtain⟨t,t1,t2⟩:=h2 w hw;exact⟨t,t1,by rw[keep t t1];exact t2⟩
    ·obtain⟨v,v1,v2,v3,v4⟩:=h1 s (by omega);refine⟨v,by rw[keep s (by omega)];exact v1,by omega,?_,λw hw=>?_⟩
     ·rw[z5v,if_neg (by simpa using λq=>hfresh s (by omega) q.symm)];exact v3
     ·obtain⟨t,t1,t2⟩:=v4 w hw;exact⟨t,t1,by rw[keep t (by omega)];exact t2⟩
   ·simp only at hw ⊢;by_cases e:w<names.length
    ·obtain⟨t,t1,t2⟩:=h2 w e;exact⟨t,by omega,by rw[keep t t1];exact t2⟩
    ·have:w=names.length:=by omega
     subst this;exact⟨i,by omega,new⟩
   ·simp only at q;rw[z5v]at q;by_cases e:key i=k
    ·exact⟨i,by omega,e⟩
    ·rw[if_neg (by simpa using e)]at q;obtain⟨t,t1,t2⟩:=h3 k v q;exact⟨t,by omega,t2⟩
   ·simp only at q;have low:∀t,t<i->out[t]?≠some ((names.length:Nat):Int):=λt ht g=>by obtain⟨v,v1,v2,_⟩:=h1 t ht;rw[v1]at g;have:=Option.some.inj g;omega
    by_cases es:s=i
    ·by_cases et:t=i
     ·rw[es,et]
     ·exfalso;rw[es,new,keep t (by omega)]at q;exact low t (by omega) q.symm
    ·by_cases et:t=i
     ·exfalso;rw[et,new,keep s (by omega)]at q;exact low s (by omega) q
     ·rw[keep s (by omega),keep t (by omega)]at q;exact h4 s t (by omega) (by omega) q
  | some v=>
   rw[Option.isSome_some,gX,cond_false];unfold wQ;obtain⟨t0,t1,t2⟩:=h3 _ _ hg;obtain⟨u,u1,u2,u3,u4⟩:=h1 t0 t1;rw[t2,hg]at u3;have hvu:v=(u:Int):=Option.some.inj u3;rw[hmk,hg,pu,oB,bdT (zK hoi),ze,w2,pb];have keep:∀t:Nat,t<i->(out.set i v)[t]?=out[t]?:=λt ht=>gA (by omega);have new:(out.set i v)[i]?=some v:=gQ (by omega);refine⟨⟨i+1,rfl,by omega,by simp[ho],λs hs=>?_,λw hw=>?_,λk v q=>?_,λs t hs ht q=>?_⟩,by simp only[pb];omega⟩
   ·simp only
    by_cases e:s=i
    ·subst e;refine⟨u,by rw[new,hvu],u2,by rw[hg,hvu],λw hw=>?_⟩;obtain⟨t,g1,g2⟩:=u4 w hw;exact⟨t,by omega,by rw[keep t (by omega)];exact g2⟩
    ·obtain⟨v',v1,v2,v3,v4⟩:=h1 s (by omega);refine⟨v',by rw[keep s (by omega)];exact v1,v2,v3,λw hw=>?_⟩;obtain⟨t,g1,g2⟩:=v4 w hw;exact⟨t,g1,by rw[keep t (by omega)];exact g2⟩
   ·simp only at hw ⊢;obtain⟨t,g1,g2⟩:=h2 w hw;exact⟨t,by omega,by rw[keep t g1];exact g2⟩
   ·obtain⟨t,g1,g2⟩:=h3 k v q;exact⟨t,by omega,g2⟩
   ·simp only at q;have like:∀t,t<i->out[t]?=some v->key t=key i:=λt ht g=>by rw[<-t2];exact h4 t t0 ht t1 (by rw[g,u1,hvu])
    by_cases es:s=i
    ·by_cases et:t=i
     ·rw[es,et]
     ·rw[es,new,keep t (by omega)]at q;rw[es];exact(like t (by omega) q.symm).symm
    ·by_cases et:t=i
     ·rw[et,new,keep s (by omega)]at q;rw[et];exact like s (by omega) q
     ·rw[keep s (by omega),keep t (by omega)]at q;exact h4 s t (by omega) (by omega) q
 ·have hc:=of_decide_eq_false hc;have:i=m.Rows.length:=by omega
  subst this;refine ze.2 ⟨ho,λs x hx=>?_,λs t hs ht=>?_⟩
  ·have hs:s<m.Rows.length:=by have:=(p8.1 hx).1;omega
   obtain⟨v,v1,_,_,v4⟩:=h1 s hs;rw[hx]at v1;exact⟨v,Option.some.inj v1,v4⟩
  ·rw[<-alike s t hs ht];refine⟨h4 s t hs ht,λe=>?_⟩;obtain⟨v,v1,_,v3,_⟩:=h1 s hs;obtain⟨u,u1,_,u3,_⟩:=h1 t ht;rw[e,u3]at v3;rw[v1,u1,<-Option.some.inj v3]
end
theorem zaN (a b:List Int)(ha:a.length<4611686018427387904):w7 a b=some (decide (a=b)):=by
 unfold w7 ve;by_cases hl:a.length=b.length
 ·have e:(((a.length:Nat):Int) !=((b.length:Nat):Int))=false:=by simp[hl]
  rw[e,cond_false,wk a ha (step:=λs=>yY a b s) (λi x=>if b[i]?=some x then none else some false) ?_ ?_]
  ·by_cases q:a=b
   ·rw[Yu λi x hx=>by rw[pq,<-q,if_pos hx]];simp[oS,q]
   ·cases hf:yj (λi x=>if b[i]?=some x then none else some false) a 0 with
    | none=>
     exfalso;refine q (pU λi=>?_);by_cases hi:i<a.length
     ·have hx:a[i]?=some a[i]:=p7 hi;have:=vo hf i _ hx;rw[pq]at this;split at this
      ·rename_i g;rw[hx,g]
      ·cases this
     ·rw[pi (by omega),pi (by omega)]
    | some r=>
     obtain⟨i,x,_,h2⟩:=wY hf;split at h2
     ·cases h2
     ·cases h2;simp[oS,q]
  ·intro i x hx;have hi:=(p8.1 hx).1;have hy:b[i]?=some b[i]:=p7 (by omega);unfold yY;rw[decide_eq_true (by omega),cond_true,bdT (zK hx),bdT (zK hy),hy];by_cases e2:x=b[i]
   ·rw[e2,bne_self_eq_false,cond_false,if_pos rfl];rfl
   ·have e3:(x != b[i])=true:=by simpa using e2
    rw[e3,cond_true,if_neg λg=>e2 (Option.some.inj g).symm];rfl
  ·unfold yY;rw[decide_eq_false (by omega),cond_false]
 ·have e:(((a.length:Nat):Int) !=((b.length:Nat):Int))=true:=by simpa using λg:(a.length:Int)=b.length=>hl (by omega)
  rw[e,cond_true,decide_eq_false λq=>hl (by rw[q])]
section
variable {m:z6}(h:VM m)
include h
omit h in theorem seq_out {s t:Nat} (q:SEq m s t) {j:Nat} (hj:j<kk m):(E m s j).Out=(E m t j).Out/\∀w:List Nat,(∀i∈w,i<kk m)->rsp m (E m s j).To w=rsp m (E m t j).To w:=by
 have gen:∀w:List Nat,(∀i∈w,i<kk m)->(E m s j).Out=(E m t j).Out/\rsp m (E m s j).To w=rsp m (E m t j).To w:=by intro w hw;have:=q (j::w) (λi hi=>by rcases pc.1 hi with rfl|g;exact hj;exact hw i g);simp only[rsp,jT,List.cons.injEq]at this;exact this
 exact⟨(gen [] (by simp)).1,λw hw=>(gen w hw).2⟩
theorem zdZ (hp:p.length=m.Rows.length)(hq:∀s t,s<m.Rows.length->t<m.Rows.length->SEq m s t->p[s]?=p[t]?){s t:Nat}(hs:s<m.Rows.length)(ht:t<m.Rows.length)(q:SEq m s t):zi9 m p s t:=by
 refine⟨hq s t hs ht q,λj hj=>?_⟩;obtain⟨o1,o2⟩:=seq_out q hj;have hes:=h.edgeAt hs hj;have het:=h.edgeAt ht hj;unfold sgN;rw[if_pos hj,if_pos hj,o1];rcases hes with⟨a1,a2⟩|⟨a1,a2,a3,a4⟩
 ·rcases het with⟨b1,b2⟩|⟨b1,b2,b3,b4⟩
  ·rw[if_pos a1,if_pos b1]
  ·omega
 ·rcases het with⟨b1,b2⟩|⟨b1,b2,b3,b4⟩
  ·omega
  ·rw[if_neg (by omega),if_neg (by omega)];have e1:(((E m s j).To.toNat:Nat):Int)=(E m s j).To:=by omega
   have e2:(((E m t j).To.toNat:Nat):Int)=(E m t j).To:=by omega
   have:=hq _ _ (by omega) (by omega) (show SEq m (E m s j).To.toNat (E m t j).To.toNat from λw hw=>by rw[e1,e2];exact o2 w hw);rw[this]
theorem zfe (hp:p.length=m.Rows.length)(hr:Rgf p)(hf:∀s t,s<m.Rows.length->t<m.Rows.length->p[s]?=p[t]?->zi9 m p s t):∀(w:List Nat) (s t:Nat),s<m.Rows.length->t<m.Rows.length->p[s]?=p[t]?->(∀i∈w,i<kk m)->rsp m (s:Int) w=rsp m (t:Int) w
 | [],_,_,_,_,_,_=>rfl
 | j::w,s,t,hs,ht,e,hw=>by
  have hj:j<kk m:=hw j (by simp);have hw':∀i∈w,i<kk m:=λi hi=>hw i (by simp[hi]);have hal:=(hf s t hs ht e).2 j hj;have hes:=h.edgeAt hs hj;have het:=h.edgeAt ht hj;have pos:∀u:Nat,u<m.Rows.length->0<=(p[u]?).getD 0:=λu hu=>by have hx:p[u]?=some p[u]:=p7 (by omega);obtain⟨v,v1,_⟩:=hr u _ hx;rw[hx,pu,v1];omega
  unfold sgN at hal;rw[if_pos hj,if_pos hj]at hal;have a0:=congrArg wK.e0 hal;have a1:=congrArg wK.e1 hal;simp only at a0 a1;simp only[rsp,jT,a0,List.cons.injEq,true_and];rcases hes with⟨b1,b2⟩|⟨b1,b2,b3,b4⟩
  ·rcases het with⟨c1,c2⟩|⟨c1,c2,c3,c4⟩
   ·rw[b1,c1]
   ·rw[if_pos b1,if_neg (by omega)]at a1;have:=pos (E m t j).To.toNat (by omega);omega
  ·rcases het with⟨c1,c2⟩|⟨c1,c2,c3,c4⟩
   ·rw[if_neg (by omega),if_pos c1]at a1;have:=pos (E m s j).To.toNat (by omega);omega
   ·rw[if_neg (by omega),if_neg (by omega)]at a1;have x1:p[(E m s j).To.toNat]?=some p[(E m s j).To.toNat]:=p7 (by omega);have x2:p[(E m t j).To.toNat]?=some p[(E m t j).To.toNat]:=p7 (by omega);have:=zfe hp hr hf w (E m s j).To.toNat (E m t j).To.toNat (by omega) (by omega) (by rw[x1,x2]at a1 ⊢;exact congrArg some a1) hw';have e1:(((E m s j).To.toNat:Nat):Int)=(E m s j).To:=by omega
    have e2:(((E m t j).To.toNat:Nat):Int)=(E m t j).To:=by omega
    rw[e1,e2]at this;exact this
def z0m (N:Nat)(p:List Int):Nat:=((List.range N).flatMap λs=>(List.range N).map λt=>(s,t)).countP λx=>decide (p[x.1]?=p[x.2]?)
omit h in
theorem zao {N s t:Nat}:(s,t)∈((List.range N).flatMap λs=>(List.range N).map λt=>(s,t))↔s<N/\t<N:=by
 simp only[mL,pT,pM,Prod.mk.injEq];constructor
 ·rintro⟨a,ha,b,hb,rfl,rfl⟩;exact⟨ha,hb⟩
 ·rintro⟨a,b⟩;exact⟨s,a,t,b,rfl,rfl⟩
theorem zdr:Ret (Za m) λr=>r.2.2=0/\r.1.length=m.Rows.length/\Rgf r.1/\∀s t:Nat,s<m.Rows.length->t<m.Rows.length->(r.1[s]?=r.1[t]?↔SEq m s t):=by
 have hN:=h.len64;have hN1:=h.len1;unfold Za W3;rw[z0w,z89 h,oB,bne_self_eq_false,cond_false,oB];unfold qU;rw[gdT (by omega),zw,zw];have e0:((m.Rows.length:Nat):Int).toNat=m.Rows.length:=by simp
 rw[e0];refine(zS (R:=λy:LR (List Int×Int) Empty=>∃p n,y=.next (p,n)/\p.length=m.Rows.length/\Rgf p/\∀s t:Nat,s<m.Rows.length->t<m.Rows.length->(p[s]?=p[t]?↔SEq m s t))
  (λst:LR (List Int×Int) Empty×List Int=>(∃x,st.1=.next x)/\st.2.length=m.Rows.length/\Rgf st.2/\∀s t:Nat,s<m.Rows.length->t<m.Rows.length->SEq m s t->st.2[s]?=st.2[t]?) (λst=>z0m m.Rows.length st.2) ⟨⟨_,rfl⟩,by simp,?_,?_⟩ ?_ ?_).mono ?_
 ·intro s x hx;simp only[gS]at hx;split at hx
  ·cases hx;exact⟨0,rfl,λw q=>by omega⟩
  ·cases hx
 ·intro s t hs ht _;simp only[gS];rw[if_pos hs,if_pos ht]
 ·have:z0m m.Rows.length (List.replicate m.Rows.length (0:Int))<=((List.range m.Rows.length).flatMap λs=>(List.range m.Rows.length).map λt=>(s,t)).length:=List.countP_le_length;have e:((List.range m.Rows.length).flatMap λs=>(List.range m.Rows.length).map λt=>(s,t)).length=m.Rows.length*m.Rows.length:=by rw[List.length_flatMap];simp only[pX,List.length_range,List.map_const',List.sum_replicate_nat]
  rw[e]at this;have:=nh hN hN;show z0m m.Rows.length (List.replicate m.Rows.length (0:Int))<18446744073709551616;omega
 ·rintro⟨y,p⟩ ⟨⟨⟨x,n⟩,rfl⟩,hp,hr,hq⟩;simp only at hp hr hq;show Ret (vE m (yOf λs x=>wR s.1 s.2 x) (.next (x,n)) p) _;unfold vE;simp only[yOf,wR,oB,cond_true];rw[zw];refine(zbp h hp).mono ?_;rintro q ⟨q1,q2,q3⟩;rw[zaN p q (by omega),oB,zz];refine⟨λhc=>?_,λhc=>?_⟩
  ·have hc:p=q:=of_decide_eq_true hc;rw[ze];refine⟨p,w64 (n+1),rfl,hp,hr,λs t hs ht=>⟨λe w hw=>?_,hq s t hs ht⟩⟩;exact zfe h hp hr (λs t hs ht e=>(q3 s t hs ht).1 (by rw[<-hc];exact e)) w s t hs ht e hw
  ·have hc:¬p=q:=of_decide_eq_false hc;rw[ze];refine⟨⟨⟨_,rfl⟩,q1,q2,λs t hs ht e=>(q3 s t hs ht).2 (zdZ h hp hq hs ht e)⟩,?_⟩;show z0m m.Rows.length q<z0m m.Rows.length p;unfold z0m;refine z6C (λz hz hd=>?_) ?_
   ·obtain⟨s,t⟩:=z;obtain⟨hs,ht⟩:=zao.1 hz;simp only[decide_eq_true_eq]at hd ⊢;exact((q3 s t hs ht).1 hd).1
   ·refine pA λg=>hc (zck hr q2 (by omega) λs t hs ht=>⟨λe=>?_,λe=>((q3 s t (by omega) (by omega)).1 e).1⟩);refine pA λg2=>g ⟨(s,t),zao.2 ⟨by omega,by omega⟩,by simpa using e,by simpa using g2⟩
 ·rintro y ⟨p,n,rfl,g1,g2,g3⟩;rw[ze];unfold jY;simp only;rw[ze];exact⟨rfl,g1,g2,g3⟩
end
theorem zin:∀(N:Nat) (l:List Nat),l.Nodup->(∀t∈l,t<N)->l.length<=N
 | 0,l,_,h=>by
  cases l with
  | nil=>exact pd _
  | cons x l=>have:=h x (by simp);omega
 | N+1,l,hn,h=>by
  have ih:=zin N (l.erase N) (hn.erase N) λt ht=>by
   have h1:=h t (List.mem_of_mem_erase ht);have h2:t≠N:=λe=>by subst e;exact absurd ht (hn.not_mem_erase)
   omega
  by_cases hm:N∈l
  ·rw[List.length_erase_of_mem hm]at ih;omega
  ·rw[List.erase_of_not_mem hm]at ih;omega
def Cpl (m:z6):Prop:=∀s i,s<m.Rows.length->i<kk m->0<=(E m s i).To
def znw (m:z6):Prop:=∀t,t<m.Rows.length->Rch m t
def zl4 (m:z6):Prop:=∀s t,s<m.Rows.length->t<m.Rows.length->SEq m s t->s=t
def PE (m:z6)(e:Int):Prop:=(e=9/\¬Cpl m)\/(e=11/\Cpl m/\¬znw m)\/(e=12/\Cpl m/\znw m/\¬zl4 m)\/(e=0/\Cpl m/\znw m/\zl4 m)
theorem PE.uniq {e f:Int}(h:PE m e)(g:PE m f):e=f:=by rcases h with⟨rfl,a⟩|⟨rfl,a,b⟩|⟨rfl,a,b,c⟩|⟨rfl,a,b,c⟩ <;> rcases g with⟨rfl,x⟩|⟨rfl,x,y⟩|⟨rfl,x,y,z⟩|⟨rfl,x,y,z⟩ <;> first|rfl|exact absurd x a|exact absurd a x|exact absurd y b|exact absurd b y|exact absurd z c|exact absurd c z
section
variable {m:z6}(h:VM m)
include h
theorem zhF (hs:s<m.Rows.length)  (r2:r.length=kk m)(r3:∀i,i<kk m->r[i]?=some (E m s i)){out0:List (wK Int)}(hl:out0.length<=s*16) :
  Ret (loop (λst=>wq (yOf λs x=>yn s x.1 x.2) (s:Int) r st.1 st.2) ((.next out0:LR (List (wK Int)) Empty),0)) λy=>∃out,y=.inl (.next out)/\out.length<=(s+1)*16/\(out=[]↔out0=[]/\∀i,i<kk m->0<=(E m s i).To):=by
 have hk:=h.kk_le;have hN:=h.len64;refine zS (λst=>∃(i:Nat) (out:List (wK Int)),st.2=(i:Int)/\i<=kk m/\st.1=.next out/\out.length<=s*16+i/\(out=[]↔out0=[]/\∀j,j<i->0<=(E m s j).To)) (λst=>20 - st.2.toNat) ⟨0,out0,rfl,by omega,rfl,by omega,by simp⟩ (by show 20 - _<_;omega) ?_;rintro⟨_,_⟩ ⟨i,out,rfl,hi,rfl,ho,he⟩;show Ret (wq (yOf λs x=>yn s x.1 x.2) (s:Int) r (.next out) (i:Int)) _;unfold wq;rw[zz];refine⟨λhc=>?_,λhc=>?_⟩
 ·have hc:(i:Int)<((r.length:Nat):Int):=of_decide_eq_true hc;have hik:i<kk m:=by omega
  have w2:w64 ((i:Int)+1)=((i+1:Nat):Int):=by rw[zN (by omega) (by omega)];rfl
  have hed:=h.edgeAt hs hik;rw[bdT (zK (r3 i hik))];unfold yOf yn ul;simp only[oB];by_cases ht:(E m s i).To=-1
  ·have ho1:(E m s i).Out=-1:=by omega
   rw[ht,ho1];simp only[beq_self_eq_true,Bool.and_self,cond_true];rw[gdT (by simp;omega)];simp only[oB,gX,cond_false];rw[ze,w2];refine⟨⟨i+1,_,rfl,by omega,rfl,by simp;omega,?_⟩,by simp only[pb];omega⟩;constructor
   ·intro q;simp at q
   ·rintro⟨_,q⟩;have:=q i (by omega);omega
  ·have e1:((E m s i).To == -1)=false:=by simpa using ht
   rw[e1,Bool.false_and,cond_false];simp only[oB,gX,cond_false];rw[ze,w2];refine⟨⟨i+1,out,rfl,by omega,rfl,by omega,he.trans ?_⟩,by simp only[pb];omega⟩;constructor
   ·rintro⟨a,b⟩;refine⟨a,λj hj=>?_⟩;by_cases e:j=i
    ·subst e;omega
    ·exact b j (by omega)
   ·rintro⟨a,b⟩;exact⟨a,λj hj=>b j (by omega)⟩
 ·have hc:=of_decide_eq_false hc;have:i=kk m:=by omega
  subst this;exact ze.2 ⟨out,rfl,by omega,he⟩
theorem zaP:Ret (qe m) λr=>r.2=0/\(r.1=true↔Cpl m):=by
 have hk:=h.kk_le;have hN:=h.len64;unfold qe kB We;rw[z0w,z89 h,oB,bne_self_eq_false,cond_false,oB];unfold jA;rw[zw,zw,zw];refine(zS (R:=λy:LR (List (wK Int)) Empty=>∃out,y=.next out/\out.length<=2000/\(out=[]↔Cpl m)) (λst:LR (List (wK Int)) Empty×Int=>∃(s:Nat) (out:List (wK Int)),st.2=(s:Int)/\s<=m.Rows.length/\st.1=.next out/\out.length<=s*16/\(out=[]↔∀t j,t<s->j<kk m->0<=(E m t j).To)) (λst=>100 - st.2.toNat) ⟨0,[],rfl,by omega,rfl,by simp,by simp⟩ (by show 100 - _<_;omega) ?_).mono ?_
 ·rintro⟨_,_⟩ ⟨s,out,rfl,hs,rfl,ho,he⟩;show Ret (vJ m (yOf λs x=>yn s x.1 x.2) (.next out) (s:Int)) _;unfold vJ;rw[zz];refine⟨λhc=>?_,λhc=>?_⟩
  ·have hc:(s:Int)<((m.Rows.length:Nat):Int):=of_decide_eq_true hc;have hsN:s<m.Rows.length:=by omega
   obtain⟨r,r1,r2,r3⟩:=h.rowAt hsN;rw[bdT (zK r1),zw];refine(zhF h hsN r2 r3 ho).mono ?_;rintro y ⟨out',rfl,g1,g2⟩;simp only;unfold qE;rw[ze,zN (x:=(s:Int)+1) (by omega) (by omega)];refine⟨⟨s+1,out',rfl,by omega,rfl,g1,g2.trans ?_⟩,by simp only;omega⟩;rw[he];constructor
   ·rintro⟨a,b⟩ t j ht hj;by_cases e:t=s
    ·subst e;exact b j hj
    ·exact a t j (by omega) hj
   ·intro a;exact⟨λt j ht hj=>a t j (by omega) hj,λj hj=>a s j (by omega) hj⟩
  ·have hc:=of_decide_eq_false hc;have:s=m.Rows.length:=by omega
   subst this;exact ze.2 ⟨out,rfl,by omega,he⟩
 ·rintro y ⟨out,rfl,g1,g2⟩;rw[ze];simp only;unfold uk vh;rw[gdT (by omega),oB,ze,ze];refine⟨rfl,?_⟩;rw[<-g2];cases out with
  | nil=>simp
  | cons a l=>simp;omega
omit h in
theorem zk1 {l:List Int}(h0:0<l.length)(hl:l.length<=100000):Ret (ud l) λx=>x∈l/\∀y∈l,y<=x:=by
 unfold ud uc;have e0:l[0]?=some l[0]:=p7 h0;rw[decide_eq_false (by omega),cond_false,bdT (show idx l 0=some l[0] from e0),zw];refine Ret.mono ?_ λx hx=>ze.2 hx;refine zS (λst=>∃i:Nat,st.2=(i:Int)/\1<=i/\i<=l.length/\st.1∈l/\∀j y,j<i->l[j]?=some y->y<=st.1) (λst=>100000 - st.2.toNat) ⟨1,rfl,by omega,by omega,pn _,λj y hj hy=>by
  have:j=0:=by omega
  subst this;rw[e0]at hy;cases hy;exact Int.le_refl _⟩ (by show 100000 - _<_;omega) ?_
 rintro⟨x,_⟩ ⟨i,rfl,i1,i2,hx,hm⟩;simp only at hx hm;show Ret (wD l x (i:Int)) _;unfold wD;rw[zz];refine⟨λhc=>?_,λhc=>?_⟩
 ·have hc:(i:Int)<((l.length:Nat):Int):=of_decide_eq_true hc;have hy:l[i]?=some l[i]:=p7 (by omega);rw[bdT (zK hy),ze,zN (x:=(i:Int)+1) (by omega) (by omega)];refine⟨⟨i+1,rfl,by omega,by omega,?_,λj y hj hjy=>?_⟩,by simp only;omega⟩
  ·show mx x l[i]∈l;unfold mx;split
   ·exact pn _
   ·exact hx
  ·show y<=mx x l[i];unfold mx;by_cases e:j=i
   ·subst e;rw[hy]at hjy;cases hjy;split <;> omega
   ·have:=hm j y (by omega) hjy;split <;> omega
 ·have hc:=of_decide_eq_false hc;refine ze.2 ⟨hx,λy hy=>?_⟩;obtain⟨j,hj⟩:=pL.1 hy;exact hm j y (by have:=(p8.1 hj).1;omega) hj
omit h in
theorem zjF (hr:Rgf p)(h0:0<p.length){x:Int}(hx:x∈p)(hm:∀y∈p,y<=x):x=(p.length:Int) - 1↔∀s t:Nat,s<p.length->t<p.length->p[s]?=p[t]?->s=t:=by
 constructor
 ·intro e;obtain⟨s0,hs0⟩:=pL.1 hx;obtain⟨v,v1,v2⟩:=hr s0 x hs0;have hs0l:=(p8.1 hs0).1;have place:∀w:Nat,w<p.length->∃s,s<p.length/\p[s]?=some (w:Int):=by
   intro w hw;by_cases q:w=v
   ·subst q;exact⟨s0,hs0l,by rw[hs0,v1]⟩
   ·obtain⟨t,t1,t2⟩:=v2 w (by omega);exact⟨t,by omega,t2⟩
  intro s t hs ht hst;refine pA λhne=>?_;have:∃g:Nat->Nat,∀w,w<p.length->g w<p.length/\p[g w]?=some (w:Int):=by
   classical
   exact⟨λw=>if q:w<p.length then(place w q).choose else 0,λw hw=>by simp only[hw,dif_pos];exact(place w hw).choose_spec⟩
  obtain⟨g,hg⟩:=this;have:∃u,u<p.length/\∀w,w<p.length->g w≠u:=by
   refine pA λq=>?_;have q:∀u,u<p.length->∃w,w<p.length/\g w=u:=λu hu=>pA λq2=>q ⟨u,hu,λw hw e=>q2 ⟨w,hw,e⟩⟩;obtain⟨a,a1,rfl⟩:=q s hs;obtain⟨b,b1,rfl⟩:=q t ht;rw[(hg a a1).2,(hg b b1).2]at hst;have:a=b:=by have:=Option.some.inj hst;omega
   exact hne (by rw[this])
  obtain⟨u,hu,hgu⟩:=this;have hnd:(u::(List.range p.length).map g).Nodup:=by
   rw[px];refine⟨λq=>?_,?_⟩
   ·obtain⟨w,hw,e⟩:=pT.1 q;exact hgu w (pM.1 hw) e
   ·rw[List.Nodup,List.pairwise_map];refine List.Pairwise.imp_of_mem (λ{a b} ha hb hab=>?_) List.nodup_range;intro e;have ha:=hg a (pM.1 ha);have hb:=hg b (pM.1 hb);rw[e,hb.2]at ha;have:=Option.some.inj ha.2;omega
  have:=zin p.length _ hnd (λw hw=>by
   rcases pc.1 hw with rfl|q
   ·exact hu
   ·obtain⟨z,hz,rfl⟩:=pT.1 q;exact(hg z (pM.1 hz)).1)
  simp at this;omega
 ·intro q;have e:p=(List.range p.length).map Int.ofNat:=by
   refine zck hr (λs y hy=>?_) (by simp) λs t hs ht=>?_
   ·have hs:s<p.length:=by have:=(p8.1 hy).1;simpa using this
    simp[hs]at hy;refine⟨s,hy.symm,λw hw=>⟨w,hw,by simp[show w<p.length by omega]⟩⟩
   ·constructor
    ·intro g;rw[q s t hs ht g]
    ·intro g;simp[hs,ht]at g;have:s=t:=by omega
     rw[this]
  have hin:((p.length - 1:Nat):Int)∈(List.range p.length).map Int.ofNat:=pT.2 ⟨p.length - 1,pM.2 (by omega),rfl⟩;rw[<-e]at hin;have h1:=hm _ hin;rw[e]at hx;obtain⟨w,hw,rfl⟩:=pT.1 hx;have:=pM.1 hw;have:Int.ofNat w=(w:Int):=rfl;omega
theorem zdg:Ret (w9 m) (PE m):=by
 have hN:=h.len64;have hN1:=h.len1;unfold w9 Xd ZA Zz Zy qC;rw[z0w,z89 h,oB,bne_self_eq_false,cond_false,oB,zw,zw];refine(zaP h).mono ?_;rintro⟨b1,_⟩ ⟨_,hb1⟩;rw[ze];simp only at hb1 ⊢;cases b1 with
 | false=>exact ze.2 (.inl ⟨rfl,λq=>by have:=hb1.2 q;cases this⟩)
 | true=>
  have hc:=hb1.1 rfl;simp only[gX,cond_false];rw[zw,zw];refine(z96 h).mono ?_;rintro⟨b2,_⟩ ⟨_,hb2⟩;rw[ze];simp only at hb2 ⊢;cases b2 with
  | false=>exact ze.2 (.inr (.inl ⟨rfl,hc,λq=>by have:=hb2.2 q;cases this⟩))
  | true=>
   have hr:=hb2.1 rfl;simp only[gX,cond_false];rw[zw,zw];refine(zdr h).mono ?_;rintro⟨p,n,e⟩ ⟨_,hp,hrg,hq⟩;simp only at hp hrg hq ⊢;rw[zw];refine(zk1 (l:=p) (by omega) (by omega)).mono ?_;rintro x ⟨x1,x2⟩;have hmax:=zjF hrg (by omega) x1 x2;rw[ze,zN (x:=((p.length:Nat):Int) - 1) (by omega) (by omega)];have hd:zl4 m↔∀s t:Nat,s<p.length->t<p.length->p[s]?=p[t]?->s=t:=by rw[hp];exact⟨λd s t hs ht g=>d s t hs ht ((hq s t hs ht).1 g),λd s t hs ht g=>d s t hs ht ((hq s t hs ht).2 g)⟩
   by_cases g:x=(p.length:Int) - 1
   ·rw[beq_iff_eq.2 g];simp only[gX,cond_false];exact ze.2 (.inr (.inr (.inr ⟨rfl,hc,hr,hd.2 (hmax.1 g)⟩)))
   ·have:(x==(p.length:Int) - 1)=false:=by simpa using g
    rw[this];simp only[ni,cond_true];exact ze.2 (.inr (.inr (.inl ⟨rfl,hc,hr,λd=>g (hmax.2 (hd.1 d))⟩)))
end
theorem zk3 {l:List α}  {x:α}(h:l[i]?=some x):i<l.length:=(p8.1 h).1
section
variable {m p:z6}{F:List Nat}(h:VM m)(hc:Cpl m)(hF:XA m F)(hp:zi5 m F p)
include h hc hF hp
theorem zms:VM p:=by
 have hz:=(z83 h hF).1;have hl:=hF.len;have l64:=h.len64;have hkk:kk p=kk m:=by unfold kk;rw[hp.inp]
 have hke:=h.kk_eq;refine⟨by rw[hp.inp];exact h.in1,by rw[hp.inp];exact h.in16,by rw[hp.out];exact h.out1,by rw[hp.out];exact h.out16,by rw[hp.len];omega,by rw[hp.len];omega,λr hr=>?_,λr hr x hx=>?_⟩
 ·obtain⟨k,hk⟩:=pL.1 hr;have hkl:=zk3 hk;rw[hp.len]at hkl;obtain⟨row,q1,q2,_⟩:=hp.row k hkl;rw[hk]at q1;cases q1;rw[hp.inp];omega
 ·obtain⟨k,hk⟩:=pL.1 hr;have hkl:=zk3 hk;rw[hp.len]at hkl;obtain⟨row,q1,q2,q3⟩:=hp.row k hkl;rw[hk]at q1;cases q1;obtain⟨i,hi⟩:=pL.1 hx;have hil:=zk3 hi;rw[q2]at hil;obtain⟨e,e1,e2,e3⟩:=q3 i hil;rw[hi]at e1;cases e1;obtain⟨_,f2,_⟩:=hF.at hkl;have he:=h.edgeAt f2 hil;have hcc:=hc _ i f2 hil;rw[hp.len,hp.out];rcases e3 with⟨g0,n,g1,g2,_⟩|⟨g0,_⟩
  ·right;omega
  ·omega
omit h in
theorem zk0:Cpl p:=by
 intro s i hs hi;rw[hp.len]at hs;have hkk:kk p=kk m:=by unfold kk;rw[hp.inp]
 rw[hkk]at hi;obtain⟨_,f2,_⟩:=hF.at hs;have hcc:=hc _ i f2 hi;rcases(zqE hp hkk hs hi).2 with⟨_,n,g,_⟩|⟨g,_⟩
 ·rw[g];exact pY n
 ·omega
omit h hc in
theorem zha:zl4 p:=by
 intro s t hs ht hst;rw[hp.len]at hs ht;have hkk:kk p=kk m:=by unfold kk;rw[hp.inp]
 refine hF.uniq hs ht λw hw=>?_;rw[<-zbk hF hp w s hs hw,<-zbk hF hp w t ht hw];exact hst w (by rw[hkk];exact hw)
omit h hF hp in
theorem zgG {s t i:Nat}(hs:s<m.Rows.length)(ht:t<m.Rows.length)(hi:i<kk m)(q:SEq m s t):SEq m (E m s i).To.toNat (E m t i).To.toNat:=by
 have a:=hc s i hs hi;have b:=hc t i ht hi;intro w hw;have:=q (i::w) λj hj=>by
  rcases pc.1 hj with rfl|hj
  ·exact hi
  ·exact hw j hj
 simp only[rsp,jT,List.cons.injEq]at this;rw[mI a,mI b];exact this.2
theorem zeP:∀(v:List Nat) (k s:Nat),k<F.length->s<m.Rows.length->Wd (kk m) v->SEq m F[k]! s->∃n t:Nat,aft p (k:Int) v=(n:Int)/\n<F.length/\aft m (s:Int) v=(t:Int)/\t<m.Rows.length/\SEq m F[n]! t
 | [],k,s,hk,hs,_,q=>⟨k,s,rfl,hk,rfl,hs,q⟩
 | i::v,k,s,hk,hs,hv,q=>by
  have hkk:kk p=kk m:=by unfold kk;rw[hp.inp]
  have hi:=hv i (by simp);obtain⟨_,f2,_⟩:=hF.at hk;have hcs:=hc s i hs hi;have hes:=h.edgeAt hs hi;rcases(zqE hp hkk hk hi).2 with⟨g0,n,g1,g2,g3⟩|⟨g,_⟩
  ·have hstep:=zgG hc f2 hs hi q;obtain⟨n',t',r1,r2,r3,r4,r5⟩:=zeP v n (E m s i).To.toNat g2 (by omega) (λj hj=>hv j (by simp[hj])) (g3.trans hstep);refine⟨n',t',?_,r2,?_,r4,r5⟩
   ·simp only[aft,jT,g1];exact r1
   ·simp only[aft,jT];rw[<-mI hcs];exact r3
  ·have:=hc _ i f2 hi;omega
theorem zh9:znw p:=by
 intro t ht;rw[hp.len]at ht;have hkk:kk p=kk m:=by unfold kk;rw[hp.inp]
 have hz:=z83 h hF;obtain⟨f1,f2,_⟩:=hF.at ht;obtain⟨_,v,hv⟩:=hF.acc _ f1;obtain⟨n,u,a,b,c,_,d⟩:=zeP h hc hF hp v 0 0 hz.1 (by have:=h.len1;omega) hv.wd (by rw[hz.2];exact SEq.refl 0);have hu:u=F[t]!:=by have e:aft m 0 v=(u:Int):=c;rw[hv.aft]at e;omega
 subst hu;have hn:=hF.uniq b ht d;subst hn;exact⟨v,by rw[hkk];exact hv.wd,a⟩
end
end Go.Own
