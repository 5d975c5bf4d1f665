/- -/
import Derived.Test.YtedigoohmnbjfaaGreatPartA
import Derived.Deep.LoopGhost
import Derived.Sort.LoopGhostIn
import Derived.RangeFuncLeaves
import Derived.RangeFuncRecord
import Derived.IntWalk
import Derived.RangeFuncCalls
set_option linter.unusedVariables false
set_option linter.unusedSimpArgs false
namespace Go.Own
variable {P:Program}{U:List (Nat×Ent)}{h:Array Obj}{tt:TT}{R:List Nat}{o:Oper}{u:Unit}{parts:Array (Nat×Value)}{ps:Array (Nat×Operand)}{t:Nat}{arr:Array Value}{zv:Value}
section
variable {C:Ctx}{S:zo}{Fp:Nat->List Nat}{X:List Nat}{st:St}{a:Act}{w:World}
def QI (S:zo)(h:Array Obj):List A->List Value->List Nat->Prop
 | [],[],F=>F=[]
 | y::ys,v::vs,F=>∃F1 F2,F=F2++F1/\Has S h y v F1/\QI S h ys vs F2
 | _,_,_=>False
theorem zcJ:∀{ps:List (Operand×Nat)} {Fp:Nat->List Nat} {X:List Nat} {st:St},Sim C S Fp X st a w->∀{xs:List A} {R:List Nat} {U:List (Nat×Ent)},takes ps tt st=some (xs,R,U) ->
  ∃Fp' G,Sim C S Fp' (G++X) (zh U st) a w/\QI S w.heap xs (ps.map λp=>a.eval p.1) G
 | [],Fp,X,st,h,xs,R,U,e=>by obtain⟨rfl,rfl,rfl⟩:=zy e;exact⟨Fp,[],h,rfl⟩
 |(x,t)::ps,Fp,X,st,h,xs,R,U,e=>by simp only[takes]at e;obtain⟨y,R1,U1,R2,U2,h1,e1,rfl,rfl⟩:=bind_some e;obtain⟨rfl,hx⟩:=zK h h1;obtain⟨z,R3,U3,R4,U4,h3,e2,rfl,rfl⟩:=bind_some e1;simp only[zh,p9]at h3 e2 ⊢;obtain⟨Fp1,F,g1,g2⟩:=z0N h hx h3;obtain⟨bs,R5,U5,R6,U6,h5,e3,rfl,rfl⟩:=bind_some e2;obtain⟨Fp2,G,k1,k2⟩:=zcJ g1 h5;obtain⟨rfl,rfl,rfl⟩:=zy e3;refine⟨Fp2,G++F,?_,F,G,rfl,g2,k2⟩;rw[hU,zB,pL];exact k1
theorem zfc (off:Nat):∀(l:List Value) (k:Nat) (arr:Array Value),(l.zipIdx k).foldl (λcs x=>cs.setIfInBounds (off+x.2) x.1) arr=z1a arr (off+k) l
 | [],k,arr=>by simp only[List.zipIdx_nil,List.foldl_nil];rw[Jo (by intro j v hj;simp at hj)]
 | v::l,k,arr=>by
  rw[List.zipIdx_cons,rc,zfc off l];apply mV;intro j;rw[YO,YO,r7];by_cases hj:off+k=j
  ·subst hj;rw[if_pos rfl,if_pos (pC _),if_neg (by omega)];cases ha:arr[off+k]? with
   | none=>rw[if_neg (by intro hlt;rw[gS hlt]at ha;cases ha)];simp
   | some u=>rw[if_pos (pK.1 ha).1];simp
  ·rw[if_neg hj];by_cases h1:off+k<=j
   ·rw[if_pos (by omega),if_pos h1,show j - (off+k)=(j - (off+(k+1)))+1 from by omega,rz]
   ·rw[if_neg h1,if_neg (by omega)]
theorem zkv (c1 ci c2 cz:List Value)(h:cz.length=ci.length):z1a (c1++ci++c2).toArray c1.length cz=(c1++cz++c2).toArray:=by
 have hs:zaW (c1++ci++c2).toArray 0 (c1++ci++c2):=λj v hj=>by simpa using hj
 have:=z8O hs h;rw[gN]at this;rw[<-this];apply mV;intro k;rw[YO];simp only[pT,if_true,nG,rb];by_cases hk:k<(c1++cz++c2).length
 ·have hk':k<(c1++ci++c2).length:=by simp at hk ⊢;omega
  rw[p7 hk',p7 hk];rfl
 ·have hk':¬k<(c1++ci++c2).length:=by simp at hk ⊢;omega
  rw[pQ (by omega),pQ (by omega)];rfl
theorem zgD {h:Array Obj}{place:Nat->Option (Nat×Nat)}:∀{ps:List (Nat×A)} {vs:List Value} {es:List A} {l:List Value} {F G:List Nat},
  zZ S h es l F->(G++F).Nodup->QI S h (ps.map (·.2)) vs G ->
  (∀p∈ps,∃y,es[p.1]?=some y/\p.2.size=y.size/\(p.2.isAgg=true\/p.2.size=1)/\(∀fs,p.2≠.tup fs)) ->
  (∀i y,es[i]?=some y->(∃p∈ps,p.1=i)->place i=some (A.sizes (es.take i),y.size)) ->
  ∃l' F',Instr.fill place l.toArray ((ps.map (·.1)).zip vs)=some l'.toArray/\zZ S h (z5i es ps) l' F'/\F'.Nodup/\∀k∈F',k∈G++F
 | [],[],es,l,F,G,hc,hn,hh,_,_=>by simp only[nP,QI]at hh;subst hh;exact⟨l,F,rfl,hc,by simpa using hn,λk hk=>by simpa using hk⟩
 | [],_::_,_,_,_,_,_,_,hh,_,_=>by simp[QI]at hh
 | p::ps,[],_,_,_,_,_,_,hh,_,_=>by simp[QI]at hh
 |(i,z)::ps,v::vs,es,l,F,G,hc,hn,hh,hp,hpl=>by
  simp only[gM,QI]at hh;obtain⟨F1,F2,rfl,q1,q2⟩:=hh;obtain⟨y,hy,hsz,hag,hnt⟩:=hp (i,z) (by simp);obtain⟨cz,z1,z2,z3⟩:=q1.cells hnt;obtain⟨c1,ci,c2,G1,Gi,G2,rfl,rfl,hl1,hxi,hup⟩:=zZ.split hc hy;have hlen:cz.length=ci.length:=by rw[z1.len,hxi.len];exact hsz
  have hcl:v.cells=cz.toArray:=by rw[z3];exact z1m z1.na (hag.imp id (λh=>by rw[z1.len];exact h))
  have hpi:=hpl i y hy ⟨(i,z),by simp,rfl⟩;have hown:=hc.own;have hset:=hup S h z cz F1 (λ_ _ _ h=>h) (λk hk=>⟨rfl,(hown k (by rcases hk with hk|hk <;> simp[hk])).2.1⟩) z1;rw[pL,pM]at hn;obtain⟨n1,n2,n3⟩:=hn;rw[pM]at n2;obtain⟨n4,n5,n6⟩:=n2;rw[pL,pM]at n5;obtain⟨m1,m2,m3⟩:=n5;rw[pM]at m2;obtain⟨m4,m5,m6⟩:=m2;have hnod:(F2++(G1++F1++G2)).Nodup:=by
   rw[pM];refine⟨n1,?_,?_⟩
   ·rw[pL,pM];refine⟨m1,?_,?_⟩
    ·rw[pM];exact⟨n4,m5,λk hk k' hk'=>n6 k hk k' (by simp[hk'])⟩
    ·rintro k hk k' hk' rfl;rcases pA.1 hk' with hk'|hk'
     ·exact n6 k hk' k (by simp[hk]) rfl
     ·exact m3 k hk k (by simp[hk']) rfl
   ·rintro k hk k' hk' rfl;refine n3 k hk k ?_ rfl;simp only[pA]at hk' ⊢;rcases hk' with(hk'|hk')|hk'
    ·exact .inr (.inl (.inl hk'))
    ·exact .inl hk'
    ·exact .inr (.inr hk')
  have hsizes:∀j,A.sizes ((es.set i z).take j)=A.sizes (es.take j):=by
   intro j;rw[A.sizes_eq,A.sizes_eq];congr 1;apply gX;intro k;simp only[gT,pV,rG];split
   ·split
    ·rename_i hik;subst hik;split
     ·rw[hy];simp[hsz]
     ·rename_i hlt;exact absurd (p8.1 hy).1 hlt
    ·rfl
   ·rfl
  have hgetset:∀(j:Nat) (u:A),(es.set i z)[j]?=some u->∃u':A,es[j]?=some u'/\u.size=u'.size:=by
   intro j u hj;rw[rG]at hj;split at hj
   ·rename_i hij;subst hij;split at hj
    ·simp only[Option.some.injEq]at hj;subst hj;exact⟨y,hy,hsz⟩
    ·cases hj
   ·exact⟨u,hj,rfl⟩
  have ih:=zgD (place:=place) (ps:=ps) (vs:=vs) (es:=es.set i z) (l:=c1++cz++c2) (F:=G1++F1++G2) (G:=F2) hset hnod q2
   (λp hp'=>by
    obtain⟨y',hy',h1,h2,h3⟩:=hp p (by simp[hp']);by_cases hij:i=p.1
    ·refine⟨z,?_,?_,h2,h3⟩
     ·rw[<-hij,gW (p8.1 hy).1]
     ·rw[h1,hsz];rw[<-hij,hy]at hy';simp only[Option.some.injEq]at hy';rw[<-hy']
    ·exact⟨y',by rw[gK hij];exact hy',h1,h2,h3⟩)
   (λj u hj hex=>by obtain⟨u',hu',hus⟩:=hgetset j u hj;rw[hsizes,hus];refine hpl j u' hu' ?_;obtain⟨p,hp1,hp2⟩:=hex;exact⟨p,by simp[hp1],hp2⟩)
  obtain⟨l',F',r1,r2,r3,r4⟩:=ih;refine⟨l',F',?_,by simpa only[z5i] using r2,r3,?_⟩
  ·simp only[gM,List.zip_cons_cons,Instr.fill,hpi,hcl,rg];have hcond:(decide (cz.length≠y.size) || decide (A.sizes (es.take i)+cz.length > (c1++ci++c2).length))=false:=by
    have h1:cz.length=y.size:=by rw[z1.len];exact hsz
    have h2:A.sizes (es.take i)+cz.length<=(c1++ci++c2).length:=by rw[<-hl1,hlen];simp
    simp[h1];rw[<-h1];simpa using h2
   rw[hcond];simp only[gG,if_false];have hfold:Array.foldl (λcs x=>cs.setIfInBounds (A.sizes (List.take i es)+x.2) x.1) (c1++ci++c2).toArray cz.toArray.zipIdx=(c1++cz++c2).toArray:=by rw[<-Array.foldl_toList];simp only[Array.toList_zipIdx];rw[zfc (A.sizes (List.take i es)) cz 0,mY,<-hl1];exact zkv c1 ci c2 cz hlen
   rw[hfold];exact r1
  ·intro k hk;have:=r4 k hk;simp only[pA]at this ⊢;rcases this with h|(h|h)|h
   ·exact .inl (.inl h)
   ·exact .inr (.inl (.inl h))
   ·exact .inl (.inr h)
   ·exact .inr (.inr h)
def z9Q (es:List A)(ps:List (Nat×A)):Bool :=
 ps.all λp=>match es[p.1]? with|some y=>p.2.size==y.size&&(p.2.isAgg || p.2.size==1) && !(match p.2 with|.tup _=>true|_=>false)|none=>false
theorem zbY {es:List A}{ps:List (Nat×A)}(h:z9Q es ps=true):∀p∈ps,∃y,es[p.1]?=some y/\p.2.size=y.size/\(p.2.isAgg=true\/p.2.size=1)/\(∀fs,p.2≠.tup fs):=by
 intro p hp;have:=gJ.1 h p hp;split at this
 ·rename_i y hy;simp only[pJ,beq_iff_eq,mI]at this;refine⟨y,hy,this.1.1,this.1.2,?_⟩;intro fs hf;rw[hf]at this;simp at this
 ·cases this
def qZ (tt:TT)(n:Fr)(dst:Option Nat)(t len:Nat)(ps:List (Nat×Operand)):SM Unit :=
 match tt t with
 | some ⟨.slice e,_,_,_,_⟩=>
  match tt e with
  | some i=>
   match i.zero with
   | some z=>do
    let xs <-takes (ps.map λp=>(p.2,e)) tt
    if z9Q (List.replicate len z) ((ps.map (·.1)).zip xs)=true/\len*i.size<=16777216/\len<=lim then
     wrT n dst (.own (.osl i.size true (z5i (List.replicate len z) ((ps.map (·.1)).zip xs))))
    else zu
   | none=>zu
  | none=>zu
 | _=>zu
theorem z2s:∀(ps:List (Nat×A)) (es:List A),(z5i es ps).length=es.length
 | [],_=>rfl
 |(i,a)::ps,es=>by simp[z5i,z2s ps]
theorem z9j:∀{ps:List (Operand×Nat)} {st:St} {xs:List A} {R:List Nat} {U:List (Nat×Ent)},takes ps tt st=some (xs,R,U)->xs.length=ps.length
 | [],st,xs,R,U,e=>by obtain⟨rfl,_,_⟩:=zy e;rfl
 |(x,t)::ps,st,xs,R,U,e=>by simp only[takes]at e;obtain⟨y,R1,U1,R2,U2,h1,e1,rfl,rfl⟩:=bind_some e;obtain⟨z,R3,U3,R4,U4,h3,e2,rfl,rfl⟩:=bind_some e1;obtain⟨bs,R5,U5,R6,U6,h5,e3,rfl,rfl⟩:=bind_some e2;obtain⟨rfl,_,_⟩:=zy e3;simp[z9j h5]
theorem z3v {z:A}{sz len i:Nat}(hz:z.size=sz)(hi:i<=len):A.sizes ((List.replicate len z).take i)=i*sz:=by rw[List.take_replicate,mH hi,A.sizes_const (sz:=sz) (λx hx=>by rw[mR hx];exact hz),mN]
theorem zbp {t len e:Nat}{f:TypeInfo}  (ht:P.underlying t=some (.slice e))(hi:P.info? e=some f)(hz:f.zero=some zv)(hlim:len*f.size<=16777216){parts:Array (Nat×Value)}{arr:Array Value}
  (hf:Instr.fill (λi=>some (i*f.size,f.size)) (madeCells zv.cells (len*f.size)) parts.toList=some arr) (w:World) :
  (Instr.buildSlice t len parts).run P w=.ok (.slice (some ⟨w.heap.size,0,none⟩) len len) (w.alloc (.cells arr e)):=by
 have hlim':¬(16777216<len*f.size):=by omega
 by_cases h0:len*f.size=0
 ·have hm:madeCells zv.cells (len*f.size)=#[]:=by rw[h0];simp[madeCells]
  rw[hm]at hf;simp[Instr.buildSlice,run_underlying ht,Go.sizeOf,typeInfo,hi,h0,Array.range_zero',hf,newRow]
 ·unfold madeCells at hf;simp[Instr.buildSlice,run_underlying ht,Go.sizeOf,typeInfo,hi,hlim',h0,zeroValue,hz,hf,newRow]
theorem z1o {P:Program}  (hT:wy P tt)(h:Sim C S Fp [] st a w)  {t len:Nat}  (ho:o.op=.buildSlice t len ps){u:Unit}{R:List Nat}{U:List (Nat×Ent)}
  (e:qZ tt C.n o.dst t len ps.toList st=some (u,R,U)):qO P C o a w (zh U st):=by
 unfold qZ at e;cases ht:tt t with
 | none=>simp only[ht]at e;exact(z7 e).elim
 | some it=>
  obtain⟨kd,a1,a2,a3,a4⟩:=it;cases kd with
  | slice el=>
   simp only[ht]at e;have hel:P.underlying t=some (.slice el):=(hT _ _ ht).kind;cases hi:tt el with
   | none=>simp only[hi]at e;exact(z7 e).elim
   | some i=>
    simp only[hi]at e;cases hz:i.zero with
    | none=>simp only[hz]at e;exact(z7 e).elim
    | some z=>
     simp only[hz]at e;obtain⟨f,f1,f2,f3,f4⟩:=(hT _ _ hi).info;obtain⟨zv,v1,v2,v3⟩:=f4 z hz;have hzs:zv.cells.size=f.size:=by have:=(v3 (λ_ _=>none) #[]).len;rw[v2,<-f2]at this;simpa using this
     obtain⟨xs,R1,U1,R2,U2,h1,e1,rfl,rfl⟩:=bind_some e;have hxl:=z9j h1;obtain⟨Fp',G,g1,g2⟩:=zcJ h h1;rw[zB];split at e1
     ·rename_i hcond;obtain⟨hok,hlim,hlen0⟩:=hcond;have hps:=zbY hok;have hmap2:((ps.toList.map (·.1)).zip xs).map (·.2)=xs:=List.map_snd_zip (by rw[hxl];simp);have hmap1:((ps.toList.map (·.1)).zip xs).map (·.1)=ps.toList.map (·.1):=rp (by rw[hxl];simp);have hc0:=Jz (v3 S w.heap) len;have hGn:=g1.xn;rw[hU]at hGn;obtain⟨l',F',r1,r2,r3,r4⟩:=zgD (h:=w.heap) (place:=λi=>some (i*f.size,f.size)) hc0 (by simpa using hGn) (by rw[hmap2];exact g2) hps (by intro j y hj _;have hj':=p8.1 hj;obtain⟨hjl,hjz⟩:=hj';simp only[mN]at hjl;simp only[List.getElem_replicate]at hjz;subst hjz;rw[z3v (sz:=f.size) (by rw[v2,f2]) (by omega),v2,f2])
      have hszs:∀x∈z5i (List.replicate len z) ((ps.toList.map (·.1)).zip xs),x.size=i.size:=by
       have gen:∀(qs:List (Nat×A)) (es:List A),(∀x∈es,x.size=i.size)->(∀q∈qs,q.2.size=i.size)->∀x∈z5i es qs,x.size=i.size:=by
        intro qs;induction qs with
        | nil=>intro es h1 _ x hx;exact h1 x hx
        | cons q qs ih=>
         intro es h1 h2;simp only[z5i];refine ih _ (λx hx=>?_) (λq' hq'=>h2 q' (by simp[hq']));rcases List.mem_or_eq_of_mem_set hx with hx|rfl
         ·exact h1 x hx
         ·exact h2 _ (by simp)
       refine gen _ _ (λx hx=>by rw[mR hx];exact v2) (λq hq=>?_);obtain⟨y,hy,hs,_⟩:=hps q hq;rw[hs];have:=pO hy;rw[mR this];exact v2
      have hlen':l'.length=len*i.size:=by rw[r2.len,A.sizes_const hszs,z2s,mN]
      have hsub:Sim C S Fp' (F' ++ []) (zh U1 st) a w:=g1.mem g1.below (λ_ _ _ h=>h) g1.still.cell g1.sbase (λt' k hk=>⟨rfl,(g1.free t' k hk).2.1⟩) (by simpa using r3)
       (λt' k hk=>g1.xd t' k (by have:=r4 k (by simpa using hk);simpa using this)) (λk hk=>g1.xb k (by have:=r4 k (by simpa using hk);simpa using this))
      have hsl:(z5i (List.replicate len z) ((ps.toList.map (·.1)).zip xs)).length=len:=by rw[z2s,mN]
      have hmx:len<=maxLen:=by unfold maxLen;have:len<=4294967296:=hlen0;omega
      obtain⟨k1,k2,k3⟩:=zgg hsub r2 r3 el (sz:=i.size) (c:=len) (t:=true) (λ_=>hsl.symm) (by omega) hmx hszs (arr:=l'.toArray) (by simp[hlen']) (by rw[hsl,<-hlen'];simp) _ rfl;obtain⟨Fp'',hs⟩:=Kc k1 e1 k2 k3;refine zr ?_ hs;have hfill:Instr.fill (λi=>some (i*f.size,f.size)) (madeCells zv.cells (len*f.size)) (ps.toList.map λx=>(x.1,a.eval x.2))=some l'.toArray:=by
       rw[hmap1]at r1;have e1:(ps.toList.map (·.1)).zip ((ps.toList.map λp=>(p.2,el)).map λp=>a.eval p.1)=ps.toList.map λx=>(x.1,a.eval x.2):=by rw[mO,List.zip_map'];rfl
       rw[e1]at r1;have e2:madeCells zv.cells (len*f.size)=(List.replicate len zv.cells.toList).flatten.toArray:=by have:=z43 zv.cells len len (pC _);rw[hzs,nH (by simp[madeCells])]at this;rw[<-this]
       rw[e2];exact r1
      have hpl:(ps.map λx=>match x with|(i,x)=>(i,a.eval x)).toList=ps.toList.map λx=>(x.1,a.eval x.2):=by simp
      have hrun:=zbp (P:=P) hel f1 v1 (by rw[f2];exact hlim) (parts:=ps.map λx=>match x with|(i,x)=>(i,a.eval x)) (by rw[hpl];exact hfill) w;simp only[execOp,ho,Sem.run_bind,hrun,Result.andThen_ok,Sem.run_pure];simp[y8,hsl]
     ·exact(z7 e1).elim
  | _=>simp only[ht]at e;exact(z7 e).elim
def Jm (tt:TT)(t:Nat)(i:Nat):Option (Nat×Nat) :=
 match tt t with
 | some ⟨.struct offs,_,_,_,_⟩=>offs[i]?
 | some ⟨.array _ e,_,_,_,_⟩=>(tt e).map λj=>(i*j.size,j.size)
 | _=>none
def zhl (tt:TT)(t:Nat)(zs:List A)(ps:List (Nat×A)):Bool :=
 ps.all λp=>match zs[p.1]? with|some y=>Jm tt t p.1==some (A.sizes (zs.take p.1),y.size)|none=>false
def z9Y:TK->Bool
 | .struct _=>true
 | _=>false
def z7S (tt:TT)(n:Fr)(dst:Option Nat)(t:Nat)(ps:List (Nat×Operand)):SM Unit :=
 match tt t with
 | some i=>
  match i.zero with
  | some (.agg zs)=>do
   let xs <-takes (ps.map λp=>(p.2,0)) tt
   if z9Q zs ((ps.map (·.1)).zip xs)=true/\zhl tt t zs ((ps.map (·.1)).zip xs)=true/\i.kind.isAgg=true/\((Jm tt t 0).isSome=true\/z9Y i.kind=true) then
    wrT n dst (mkT (.agg (z5i zs ((ps.map (·.1)).zip xs))))
   else zu
  | _=>zu
 | none=>zu
theorem zhb {α β:Type}{g:α->Sem β}{q:α->β}:∀(l:List α),(∀x∈l,∀w,(g x).run P w=.ok (q x) w)->∀w,(l.mapM g).run P w=.ok (l.map q) w
 | [],_,w=>by simp
 | x::l,h,w=>by have ih:=zhb l (λx hx=>h x (by simp[hx])) w;rw[List.mapM_cons,Sem.run_bind,h x (by simp) w];simp only[Result.andThen_ok,Sem.run_bind,ih,Sem.run_pure,gM]
theorem zk1 {f:Field}{i:TypeInfo}(h:P.info? f.type=some i)(w:World):(do pure (f.offset,<-Go.sizeOf f.type):Sem (Nat×Nat)).run P w=.ok (f.offset,P.cellsOf f.type) w:=by simp[Go.sizeOf,typeInfo,h,Program.cellsOf]
theorem zk3 (hT:wy P tt)  {i:TI}(ht:tt t=some i)(hag:i.kind.isAgg=true){f:TypeInfo}  (hi:P.info? t=some f)(hz:f.zero=some zv){parts:Array (Nat×Value)}{arr:Array Value}
  (hf:Instr.fill (Jm tt t) zv.cells parts.toList=some arr) (hne:(Jm tt t 0).isSome=true\/∃offs,i.kind=.struct offs) (w:World) :
  (Instr.build t parts).run P w=.ok (.agg arr) w:=by
 have hk:=(hT _ _ ht).kind;cases hkd:i.kind with
 | struct offs=>
  rw[hkd]at hk;obtain⟨fields,g1,g2,g3⟩:=hk;have hpl:Jm tt t=λj=>(fields.map λf=>(f.offset,P.cellsOf f.type))[j]?:=by funext j;unfold Jm;obtain⟨kd,a1,a2,a3,a4⟩:=i;simp only at hkd;subst hkd;simp only[ht];rw[<-g2];simp
  have hm:∀w,(fields.mapM (λf=>do pure (f.offset,<-Go.sizeOf f.type):Field->Sem (Nat×Nat))).run P w=.ok (fields.map λf=>(f.offset,P.cellsOf f.type)) w:=by intro w;rw[Array.mapM_eq_mapM_toList,Sem.run_map,zhb fields.toList (λf hf w=>zk1 (g3 f hf).choose_spec w)];simp only[Result.andThen_ok];congr 1;apply Array.ext';simp
  rw[hpl]at hf;have hzv:∀w,(zeroValue t).run P w=.ok zv w:=λw=>by simp[zeroValue,typeInfo,hi,hz]
  unfold Instr.build;rw[Sem.run_bind,hzv];simp only[Result.andThen_ok];rw[Sem.run_bind,run_underlying g1];simp only[Result.andThen_ok];rw[Sem.run_bind,hm];simp only[Result.andThen_ok,hf];rfl
 | array m e=>
  rw[hkd]at hk;have g1:P.underlying t=some (.array m e):=hk;obtain⟨kd,a1,a2,a3,a4⟩:=i;simp only at hkd;subst hkd;cases he:tt e with
  | none=>
   rcases hne with h|⟨_,h⟩
   ·simp[Jm,ht,he]at h
   ·cases h
  | some j=>
   have hpl:Jm tt t=λk=>some (k*j.size,j.size):=by funext k;simp[Jm,ht,he]
   rw[hpl]at hf;have hzv:∀w,(zeroValue t).run P w=.ok zv w:=λw=>by simp[zeroValue,typeInfo,hi,hz]
   unfold Instr.build;rw[Sem.run_bind,hzv];simp only[Result.andThen_ok];rw[Sem.run_bind,run_underlying g1];simp only[Result.andThen_ok];rw[Sem.run_bind,YF hT he];simp only[Result.andThen_ok,hf];rfl
 | _=>rw[hkd]at hag;simp[TK.isAgg]at hag
theorem zpu {P:Program}  (hT:wy P tt)(h:Sim C S Fp [] st a w)    (ho:o.op=.build t ps){u:Unit}{R:List Nat}{U:List (Nat×Ent)}
  (e:z7S tt C.n o.dst t ps.toList st=some (u,R,U)):qO P C o a w (zh U st):=by
 unfold z7S at e;cases ht:tt t with
 | none=>simp only[ht]at e;exact(z7 e).elim
 | some i=>
  simp only[ht]at e;cases hz:i.zero with
  | none=>simp only[hz]at e;exact(z7 e).elim
  | some z=>
   cases z with
   | agg zs=>
    simp only[hz]at e;obtain⟨f,f1,f2,f3,f4⟩:=(hT _ _ ht).info;obtain⟨zv,v1,v2,v3⟩:=f4 _ hz;obtain⟨xs,R1,U1,R2,U2,h1,e1,rfl,rfl⟩:=bind_some e;have hxl:=z9j h1;obtain⟨Fp',G,g1,g2⟩:=zcJ h h1;rw[zB];split at e1
    ·rename_i hcond;obtain⟨hok,hpl,hag,hne⟩:=hcond;have hps:=zbY hok;have hmap2:((ps.toList.map (·.1)).zip xs).map (·.2)=xs:=List.map_snd_zip (by rw[hxl];simp);have hmap1:((ps.toList.map (·.1)).zip xs).map (·.1)=ps.toList.map (·.1):=rp (by rw[hxl];simp);have hc0:zZ S w.heap zs zv.cells.toList []:=by have:=v3 S w.heap;simpa only[zU] using this
     have hGn:=g1.xn;rw[hU]at hGn;obtain⟨l',F',r1,r2,r3,r4⟩:=zgD (h:=w.heap) (place:=Jm tt t) hc0 (by simpa using hGn) (by rw[hmap2];exact g2) hps (by intro j y hj hex;obtain⟨p,hp1,hp2⟩:=hex;have:=gJ.1 hpl p hp1;rw[hp2,hj]at this;simpa using this)
     have hsub:Sim C S Fp' (F' ++ []) (zh U1 st) a w:=g1.mem g1.below (λ_ _ _ h=>h) g1.still.cell g1.sbase (λt' k hk=>⟨rfl,(g1.free t' k hk).2.1⟩) (by simpa using r3)
      (λt' k hk=>g1.xd t' k (by have:=r4 k (by simpa using hk);simpa using this)) (λk hk=>g1.xb k (by have:=r4 k (by simpa using hk);simpa using this))
     obtain⟨Fp'',hs⟩:=z8Y hsub e1 (v:=.agg l'.toArray) (.inr ⟨l',by simp only[zU];exact r2,r3,rfl⟩);refine zr ?_ hs;have e2:(ps.toList.map (·.1)).zip ((ps.toList.map λp=>(p.2,0)).map λp=>a.eval p.1)=ps.toList.map λx=>(x.1,a.eval x.2):=by rw[mO,List.zip_map'];rfl
     rw[hmap1,e2]at r1;have hpl2:(ps.map λx=>match x with|(i,x)=>(i,a.eval x)).toList=ps.toList.map λx=>(x.1,a.eval x.2):=by simp
     have hrun:=zk3 (P:=P) hT ht hag f1 v1 (parts:=ps.map λx=>match x with|(i,x)=>(i,a.eval x)) (by rw[hpl2];exact r1) (hne.imp id (λh=>by
      unfold z9Y at h;split at h
      ·rename_i offs hk;exact⟨offs,hk⟩
      ·cases h)) w
     simp only[execOp,ho,Sem.run_bind,hrun,Result.andThen_ok,Sem.run_pure]
    ·exact(z7 e1).elim
   | _=>simp only[hz]at e;exact(z7 e).elim
end
variable {S:zo}{w:World}{sz:Nat}{cs:List Value}{p:Option Addr}{xs:List A}
section
variable {C:Ctx}{S:zo}{Fp:Nat->List Nat}{X:List Nat}{st:St}{a:Act}{w:World}
theorem zcY:∀{xs ys:List A} {cs:List Value},yK S (xs++ys) cs->∃c1 c2,cs=c1++c2/\yK S xs c1/\yK S ys c2
 | [],ys,cs,h=>⟨[],cs,rfl,by simp[yK],h⟩
 | x::xs,ys,cs,h=>by simp only[gQ,yK]at h;obtain⟨c1,c2,rfl,h1,h2⟩:=h;obtain⟨d1,d2,rfl,e1,e2⟩:=zcY h2;refine⟨c1++d1,d2,by simp,?_,e2⟩;simp only[yK];exact⟨c1,d1,rfl,h1,e1⟩
theorem zo8 {sz:Nat}(h:yK S xs cs)(hs:∀x∈xs,x.size=sz){l k:Nat}(hl:l<=xs.length):∃ds,yK S ((xs.drop l).take k) ds/\∀j v,ds[j]?=some v->cs[l*sz+j]?=some v:=by
 rw[<-mD l xs]at h;obtain⟨c1,c2,rfl,h1,h2⟩:=zcY h;rw[<-mD k (xs.drop l)]at h2;obtain⟨d1,d2,rfl,e1,e2⟩:=zcY h2;refine⟨d1,e1,λj v hj=>?_⟩;have hc1:c1.length=l*sz:=by rw[h1.len,A.sizes_const (sz:=sz) (λx hx=>hs x (gC hx)),pU,mH hl]
 rw[<-hc1,pF (by omega),mT,pG (p8.1 hj).1];exact hj
def bound (dflt:Nat):Option Operand->SM Nat
 | none=>pure dflt
 | some x=>do
  let t <-opnd x;let v <-val t;match v with
  | .atom (.int _ j)=>if 0<=j then pure j.toNat else zu
  | _=>zu
theorem z3n (h:Sim C S Fp X st a w){dflt n:Nat}{x:Option Operand}   (e:bound dflt x st=some (n,R,U)) :
  U=[]/\((x=none/\n=dflt)\/∃o k j,x=some o/\a.eval o=.int k j/\0<=j/\n=j.toNat):=by
 cases x with
 | none=>obtain⟨rfl,rfl,rfl⟩:=zy e;exact⟨rfl,.inl ⟨rfl,rfl⟩⟩
 | some o=>
  simp only[bound]at e;obtain⟨t,R1,U1,R2,U2,h1,e1,rfl,rfl⟩:=bind_some e;obtain⟨rfl,hx⟩:=zK h h1;obtain⟨v,R3,U3,R4,U4,h3,e2,rfl,rfl⟩:=bind_some e1;obtain⟨rfl,qv⟩:=jD h hx h3;cases v with
  | atom vv=>
   cases vv with
   | int k j=>
    simp only at e2;split at e2
    ·rename_i hj;obtain⟨rfl,rfl,rfl⟩:=zy e2;exact⟨rfl,.inr ⟨o,k,j,rfl,(zD.1 qv).1,hj,rfl⟩⟩
    ·exact(z7 e2).elim
   | _=>exact(z7 e2).elim
  | _=>exact(z7 e2).elim
def z7I (x:Option Value)(dflt n:Nat):Prop:=(x=none/\n=dflt)\/∃k j,x=some (.int k j)/\0<=j/\n=j.toNat
theorem zk4 {k:IntKind}{j:Int}{y:Nat}{code:BoundsCode}(h0:0<=j)(h1:j.toNat<=y):(Instr.sliceBound (.int k j) y code).run P w=.ok j.toNat w:=by have:0<=j/\j<=(y:Int):=⟨h0,by omega⟩;simp[Instr.sliceBound,asIntOf,this]
theorem Vq {t e:Nat}   (he:P.underlying t=some (.slice e))(hsz:(sizeOf e).run P w=.ok sz w){p:Option Addr}{len c:Nat}{lo hi mx:Option Value}{l h m:Nat}
  (b1:z7I lo 0 l) (b2:z7I hi len h) (b3:z7I mx c m) (h1:l<=h) (h2:h<=m) (h3:m<=c) (hm:mx.isSome=true->hi.isSome=true) :
  (Instr.sliceAt t (.slice p len c) lo hi mx).run P w=.ok (.slice (if m=l then p else p.map (·.add (l*sz))) (h - l) (m - l)) w:=by
 have hb:(Instr.sliceBounds true len c lo hi mx).run P w=.ok (l,h,m) w:=by
  rcases b1 with⟨rfl,rfl⟩|⟨k1,j1,rfl,p1,rfl⟩ <;> rcases b2 with⟨rfl,rfl⟩|⟨k2,j2,rfl,p2,rfl⟩ <;> rcases b3 with⟨rfl,rfl⟩|⟨k3,j3,rfl,p3,rfl⟩ <;>
   first
    |(simp at hm;done)
    |(simp[Instr.sliceBounds,zk4, *];done)
 unfold Instr.sliceAt;simp only[Sem.run_bind,run_underlying he,Result.andThen_ok,Instr.slice,hb,hsz,Sem.run_pure]
def sliceO (tt:TT)(n:Fr)(dst:Option Nat)(t:Nat)(x:Operand)(lo hi mx:Option Operand):SM Unit:=do
 let y <-opnd x;match y with
 | .d (.sl sz tg xs)=>
  if wx tt t=some sz then do
   let l <-bound 0 lo;let h <-bound xs.length hi;match mx with
   | none=>if l<=h/\h<=xs.length then wrT n dst (.d (.sl sz (tg&&h==xs.length) ((xs.drop l).take (h - l)))) else zu
   | some _=>do
    let m <-bound 0 mx
    if l<=h/\h<=m/\m<=xs.length/\hi.isSome=true then wrT n dst (.d (.sl sz (m==h) ((xs.drop l).take (h - l)))) else zu
  else zu
 | _=>zu
theorem z3o {dflt n:Nat}{x:Option Operand}(h:(x=none/\n=dflt)\/∃o k j,x=some o/\a.eval o=.int k j/\0<=j/\n=j.toNat):z7I (x.map a.eval) dflt n:=by
 rcases h with⟨rfl,rfl⟩|⟨o,k,j,rfl,e,h0,rfl⟩
 ·exact .inl ⟨rfl,rfl⟩
 ·exact .inr ⟨k,j,by simp[e],h0,rfl⟩
theorem zhg {m l h:Nat}{tg':Bool}(h4:∀x∈xs,x.size=sz)(h5:xs=[]\/∃b o l,p=some ⟨b,o,none⟩/\yK S xs l/\zbH S b o l)(h1:l<=h)(h2:h<=xs.length)(hm:h<=m)(htg:tg'=true->m=h) :
  wh S (.sl sz tg' ((xs.drop l).take (h - l))) (.slice (if m=l then p else p.map (·.add (l*sz))) (h - l) (m - l)):=by
 simp only[wh];have hlen:((xs.drop l).take (h - l)).length=h - l:=by rw[pU,List.length_drop];omega
 refine⟨[_],?_,rfl⟩;simp only[Rep,hlen];refine⟨_,m - l,rfl,λq=>by rw[htg q],by omega,λx hx=>h4 x (List.mem_of_mem_drop (gC hx)),?_⟩;by_cases hz:h=l
 ·left;apply mU;rw[hlen];omega
 ·right;rcases h5 with rfl|⟨b,o,L,rfl,r2,r3⟩
  ·simp at h2;omega
  ·obtain⟨ds,d1,d2⟩:=zo8 (k:=h - l) r2 h4 (l:=l) (by omega);rw[if_neg (by omega)];refine⟨b,o+l*sz,ds,by simp[Addr.add_lit],d1,λj v hj=>?_⟩;have:=r3 _ v (d2 j v hj);rw[<-Nat.add_assoc]at this;exact this
theorem znA {P:Program}  (hT:wy P tt)(h:Sim C S Fp [] st a w)   {x:Operand}{lo hi mx:Option Operand}(ho:o.op=.slice t x lo hi mx)    (e:sliceO tt C.n o.dst t x lo hi mx st=some (u,R,U)):qO P C o a w (zh U st):=by
 unfold sliceO at e;obtain⟨y,R1,U1,R2,U2,h1,e1,rfl,rfl⟩:=bind_some e;obtain⟨rfl,hx⟩:=zK h h1;simp only[zh,p9]at e1 ⊢;cases y with
 | d z=>
  cases z with
  | sl sz tg xs=>
   simp only at e1;split at e1
   ·rename_i hel;obtain⟨l,R3,U3,R4,U4,h3,e2,rfl,rfl⟩:=bind_some e1;obtain⟨rfl,b1⟩:=z3n h h3;simp only[zh,p9]at e2 ⊢;obtain⟨hh,R5,U5,R6,U6,h5,e3,rfl,rfl⟩:=bind_some e2;obtain⟨rfl,b2⟩:=z3n h h5;simp only[zh,p9]at e3 ⊢;obtain⟨el,he,hsz⟩:=uk hT hel w;have hx':wh S (.sl sz tg xs) (a.eval x):=hx;simp only[wh]at hx';obtain⟨cs,r1,r2⟩:=hx';simp only[Rep]at r1;obtain⟨p,c,rfl,r3,r4,r5,r6⟩:=r1;have ev:a.eval x=.slice p xs.length c:=r2;cases mx with
    | none=>
     simp only at e3;split at e3
     ·rename_i hc;have hrun:=Vq (P:=P) (w:=w) he hsz (p:=p) (m:=c) (z3o b1) (z3o b2) (.inl ⟨rfl,rfl⟩) hc.1 (by omega) (pC c) (by simp);obtain⟨Fp',hs⟩:=wP h e3 (x:=.d _) (zhg (m:=c) r5 r6 hc.1 hc.2 (by omega) (by intro q;simp only[pJ,beq_iff_eq]at q;rw[r3 q.1,q.2]))
      exact zr (by simp[execOp,ho,ev,hrun]) hs
     ·exact(z7 e3).elim
    | some mo=>
     obtain⟨m,R7,U7,R8,U8,h7,e4,rfl,rfl⟩:=bind_some e3;obtain⟨rfl,b3⟩:=z3n h h7;simp only[zh,p9]at e4 ⊢;split at e4
     ·rename_i hc;have b3':z7I ((some mo).map a.eval) c m:=by
       rcases b3 with⟨q,_⟩|⟨o,k,j,q,q2,q3,q4⟩
       ·cases q
       ·cases q;exact .inr ⟨k,j,by simp[q2],q3,q4⟩
      have hrun:=Vq (P:=P) (w:=w) he hsz (p:=p) (z3o b1) (z3o b2) b3' hc.1 hc.2.1 (by omega) (by intro _;simpa using hc.2.2.2);obtain⟨Fp',hs⟩:=wP h e4 (x:=.d _) (zhg (m:=m) r5 r6 hc.1 (by omega) hc.2.1 (by intro q;simpa using q));exact zr (by simp only[gH]at hrun;simp[execOp,ho,ev,hrun]) hs
     ·exact(z7 e4).elim
   ·exact(z7 e1).elim
  | _=>exact(z7 e1).elim
 | _=>exact(z7 e1).elim
end
theorem A.looses_eq (as_:List A):A.looses as_=as_.map A.loose:=by
 induction as_ with
 | nil=>rfl
 | cons a as_ ih=>simp[A.looses,ih]
theorem A.looses_length (as_:List A):(A.looses as_).length=as_.length:=by rw[A.looses_eq,gD]
mutual
theorem A.size_loose:∀(a:A),a.loose.size=a.size
 | .agg fs=>by simp only[A.loose,A.size];exact A.sizes_looses fs
 | .tup _=>rfl
 | .sl _ _ _=>rfl
 | .osl _ _ _=>rfl
 | .sptr _=>rfl
 | .dop _=>rfl
 | .box _=>rfl
 | .fn _ _=>rfl
 | .atom _=>rfl
 | .dead _=>rfl
 | .opq _=>rfl
theorem A.sizes_looses:∀(as_:List A),A.sizes (A.looses as_)=A.sizes as_
 | []=>rfl
 | a::as_=>by simp only[A.looses,A.sizes,A.size_loose a,A.sizes_looses as_]
end
variable {as_:List A}
theorem z7N (h:∀x∈as_,x.size=sz):∀x∈A.looses as_,x.size=sz:=by intro x hx;rw[A.looses_eq,pW]at hx;obtain⟨y,hy,rfl⟩:=hx;rw[A.size_loose];exact h y hy
theorem zgs (h:∀c∈as_,c.size=1/\∀fs,c≠.agg fs):∀c∈A.looses as_,c.size=1/\∀fs,c≠.agg fs:=by intro x hx;rw[A.looses_eq,pW]at hx;obtain⟨y,hy,rfl⟩:=hx;obtain⟨h1,h2⟩:=h y hy;refine⟨by rw[A.size_loose];exact h1,?_⟩;intro fs he;cases y <;> simp[A.loose]at he;exact h2 _ rfl
mutual
theorem Rep.loose:∀{a:A} {cs:List Value},Rep S a cs->Rep S a.loose cs
 | .agg fs,_,r=>by simp only[A.loose,Rep]at r ⊢;exact yK.loose r
 | .atom _,_,r=>r
 | .fn f caps,_,r=>by simp only[A.loose,Rep]at r ⊢;obtain⟨vs,r1,r2,r3⟩:=r;exact⟨vs,yK.loose r1,zgs r2,r3⟩
 | .sl sz t xs,_,r=>by
  simp only[A.loose,Rep]at r ⊢;obtain⟨p,c,r1,_,r3,r4,r5⟩:=r;refine⟨p,c,by rw[A.looses_length];exact r1,by simp,by rw[A.looses_length];exact r3,z7N r4,?_⟩;rcases r5 with rfl|⟨b,o,l,q1,q2,q3⟩
  ·exact .inl rfl
  ·exact .inr ⟨b,o,l,q1,yK.loose q2,q3⟩
 | .sptr x,_,r=>by simp only[A.loose,Rep]at r ⊢;obtain⟨b,o,l,r1,r2,r3⟩:=r;exact⟨b,o,l,r1,Rep.loose r2,r3⟩
 | .dop _,_,r=>r
 | .tup _,_,r=>by simp only[Rep]at r
 | .osl _ _ _,_,r=>by simp only[Rep]at r
 | .box _,_,r=>by simp only[Rep]at r
 | .dead _,_,r=>by simp only[Rep]at r
 | .opq _,_,r=>by simp only[Rep]at r
theorem yK.loose:∀{as_:List A} {cs:List Value},yK S as_ cs->yK S (A.looses as_) cs
 | [],_,r=>r
 | a::as_,_,r=>by simp only[A.looses,yK]at r ⊢;obtain⟨c1,c2,rfl,r1,r2⟩:=r;exact⟨c1,c2,rfl,Rep.loose r1,yK.loose r2⟩
end
mutual
theorem zU.loose:∀{a:A} {cs:List Value} {F:List Nat},zU S h a cs F->zU S h a.loose cs F
 | .osl sz t es,_,_,r=>by
  simp only[A.loose,zU]at r ⊢;obtain⟨p,c,r1,_,r3,r4,r5,r6⟩:=r;refine⟨p,c,by rw[A.looses_length];exact r1,by simp,by rw[A.looses_length];exact r3,r4,z7N r5,?_⟩;rcases r6 with⟨rfl,q⟩|⟨b,arr,ty,l,F',q1,q2,q3,q4,q5,q6⟩
  ·exact .inl ⟨rfl,q⟩
  ·exact .inr ⟨b,arr,ty,l,F',q1,q2,q3,by rw[A.looses_length];exact q4,zZ.loose q5,q6⟩
 | .box x,_,_,r=>by simp only[A.loose,zU]at r ⊢;obtain⟨b,ty,l,F',r1,r2,r3,r4⟩:=r;exact⟨b,ty,l,F',r1,r2,zU.loose r3,r4⟩
 | .agg fs,_,_,r=>by simp only[A.loose,zU]at r ⊢;exact zZ.loose r
 | .dead _,_,_,r=>r
 | .opq _,_,_,r=>r
 | .atom _,_,_,r=>r
 | .fn f caps,_,_,r=>by simp only[zU]at r;have:=Rep.loose r.1;simp only[A.loose]at this ⊢;simp only[zU];exact⟨this,r.2⟩
 | .sl sz t xs,_,_,r=>by simp only[zU]at r;have:=Rep.loose r.1;simp only[A.loose]at this ⊢;simp only[zU];exact⟨this,r.2⟩
 | .sptr x,_,_,r=>by simp only[zU]at r;have:=Rep.loose r.1;simp only[A.loose]at this ⊢;simp only[zU];exact⟨this,r.2⟩
 | .dop _,_,_,r=>r
 | .tup _,_,_,r=>by simp only[zU]at r
theorem zZ.loose:∀{as_:List A} {cs:List Value} {F:List Nat},zZ S h as_ cs F->zZ S h (A.looses as_) cs F
 | [],_,_,r=>r
 | a::as_,_,_,r=>by simp only[A.looses,zZ]at r ⊢;obtain⟨c1,c2,F1,F2,e1,e2,r1,r2⟩:=r;exact⟨c1,c2,F1,F2,e1,e2,zU.loose r1,zZ.loose r2⟩
end
theorem z9f (a:A)(cs:List Value):y8 a.loose cs=y8 a cs:=by cases a <;> rfl
variable {v:Value}
theorem qa.loose {a:A}  (h:qa S a v):qa S a.loose v :=
 let ⟨cs,h1,h2⟩:=h;⟨cs,h1.loose,by rw[z9f];exact h2⟩
theorem wh.loose {a:A}  (h:wh S a v):wh S a.loose v:=by
 cases a with
 | tup fs=>
  simp only[A.loose,wh]at h ⊢;obtain⟨vs,e,h⟩:=h;refine⟨vs,e,?_⟩;clear e;induction fs generalizing vs with
  | nil=>exact h
  | cons f fs ih=>
   cases vs with
   | nil=>exact h.elim
   | cons v vs=>exact⟨h.1.loose,ih vs h.2⟩
 | _=>exact qa.repV (qa.loose (by simpa only[wh] using h))
variable {F:List Nat}
theorem Has.loose {a:A}   (q:Has S h a v F):Has S h a.loose v F:=by
 rcases q with⟨q,rfl⟩|⟨cs,q1,q2,q3⟩
 ·exact .inl ⟨q.loose,rfl⟩
 ·exact .inr ⟨cs,q1.loose,q2,by rw[z9f];exact q3⟩
theorem QI.loose:∀{as_:List A} {vs:List Value} {F:List Nat},QI S h as_ vs F->QI S h (as_.map A.loose) vs F
 | [],[],_,q=>q
 | _::_,_::_,_,q=>by obtain⟨F1,F2,e,q1,q2⟩:=q;exact⟨F1,F2,e,q1.loose,q2.loose⟩
 | [],_::_,_,q=>q.elim
 | _::_,[],_,q=>q.elim
variable {vs:List Value}
theorem QI.norm {ls:List A}   (ctr:Ctr)(k:Nat)(q:QI S h ls vs F):QI S h (ctr.norm k ls) vs F:=by
 unfold Ctr.norm;split
 ·exact q
 ·exact q.loose
theorem Has.grow {S S':zo}  {a:A}   (q:Has S h a v F)(hS:∀b o u,S b o=some u->S' b o=some u)(hF:∀k∈F,∀o,S k o=none->S' k o=none):Has S' h a v F:=by
 rcases q with⟨q,rfl⟩|⟨cs,q1,q2,q3⟩
 ·exact .inl ⟨q.mono hS,rfl⟩
 ·exact .inr ⟨cs,q1.frame hS (λk hk=>⟨rfl,λo=>hF k hk o ((q1.own k hk).2.1 o)⟩),q2,q3⟩
theorem JH:∀{as_:List A} {vs:List Value},UR (qa S) as_ vs->QI S h as_ vs []
 | [],[],_=>rfl
 | _::_,_::_,q=>⟨[],[],rfl,.inl ⟨q.1.repV,rfl⟩,JH q.2⟩
 | [],_::_,q=>q.elim
 | _::_,[],q=>q.elim
theorem QI.append:∀{as_:List A} {vs:List Value} {F:List Nat} {bs:List A} {us:List Value},QI S h as_ vs F->QI S h bs us []->QI S h (as_++bs) (vs++us) F
 | [],[],_,_,_,q,q'=>by rw[show _=[] from q];exact q'
 | _::_,_::_,_,_,_,q,q'=>by obtain⟨F1,F2,e,q1,q2⟩:=q;exact⟨F1,F2,e,q1,q2.append q'⟩
 | [],_::_,_,_,_,q,_=>q.elim
 | _::_,[],_,_,_,q,_=>q.elim
section
variable {C:Ctx}{S:zo}{Fp:Nat->List Nat}{st:St}{a:Act}{w:World}
theorem z1b {y:A}     (ho:z8P y=true)(hc:zU S h y cs F):cs=[y8 y cs]:=by
 have hl:=hc.len;cases y <;> simp[z8P]at ho
 all_goals
  simp only[A.size]at hl;obtain⟨u,rfl⟩:=mG.1 hl;rfl
theorem z3j {y:A}(h:z8P y=true):y.plain=true:=by cases y <;> first|rfl|exact h|(simp[z8P]at h)
theorem zsf (h:Sim C S Fp [] st a w){r:Nat}{p:List Q5}{er ec:Nat}  (hx:XJ w.heap st (Act.tv a) r p er ec v){y x0:A}   (e:look r p er ec st=some (y,R,U))(ht:(st r).t=.own x0)(hy:z8P y=true) :
  ∃F cs,zU S w.heap y cs F/\v=y8 y cs/\F.Nodup /\
   ∀(S':zo) (w':World) (y':A) (G F':List Nat),z8P y'=true->UQ (λk=>w.heap.size<=k\/k∈F) w w'->(∀b o u,S b o=some u->S' b o=some u)->(∀b o,b<w.heap.size->b∉F->S' b o=S b o)->xu S' w' ->
    Has S' w'.heap y' v G->(F' ++ G).Nodup->(∀k∈F' ++ G,w.heap.size<=k\/k∈F) ->
    ∃Fp',Sim C S' Fp' (F' ++ []) (upd st r ⟨.own (JN p x0 y'),(st r).er,(st r).ec+1⟩) a w':=by
 obtain⟨_,q⟩:=z2H h hx e;have hr:=h.ent r;unfold wv at hr;simp only[ht]at hr;refine q.elim ?_ (λq=>by have q1:=q.1;rw[ht]at q1;cases q1);rintro⟨x,cs,F,q1,q2,q3,q4,q5,q6,q7,q8⟩;rw[ht]at q1;cases q1;obtain⟨cs',c1,c2,c3⟩:=hr;have common:∀(F:List Nat),(∀k∈F,k∈Fp r)->∀(S':zo) (w':World) (G F':List Nat),UQ (λk=>w.heap.size<=k\/k∈F) w w'->(∀b o,b<w.heap.size->b∉F->S' b o=S b o)->(∀k∈F' ++ G,w.heap.size<=k\/k∈F) ->
   UQ C.M C.w0 w'/\(∀b o,¬C.M b->S' b o=C.S0 b o)/\(∀t k,t≠r->k∈Fp t->w'.heap[k]?=w.heap[k]?/\∀o,S' k o=none)/\(∀k∈F' ++ G,C.M k)/\(∀t k,t≠r->k∈F' ++ G->k∉Fp t):=by
  intro F hF S' w' G F' b1 b3 b7;have hM:∀k,(w.heap.size<=k\/k∈F)->C.M k:=λk hk=>hk.elim (λhk=>h.mine k (pE h.base_le hk)) (λhk=>h.base r k (hF k hk));have hno:∀t k,t≠r->k∈Fp t->¬(w.heap.size<=k\/k∈F):=by
   rintro t k htr hk (hq|hq)
   ·have:=(h.free t k hk).1;omega
   ·exact htr (h.disj t r k hk (hF k hq))
  refine⟨h.below.trans (b1.mono hM),?_,?_,λk hk=>hM k (b7 k hk),λt k htr hk hkt=>hno t k htr hkt (b7 k hk)⟩
  ·intro b o hb;rcases pH b w.heap.size with hlt|hge
   ·rw[b3 b o hlt (λhF=>hb (hM b (.inr hF)))];exact h.sbase b o hb
   ·exact absurd (hM b (.inl hge)) hb
  ·intro t k htr hk;refine⟨b1.block k (hno t k htr hk),λo=>?_⟩;rw[b3 k o (h.free t k hk).1 (λhF=>hno t k htr hk (.inr hF))];exact(h.free t k hk).2.1 o
 have notup:∀{y':A},z8P y'=true->∀fs,y'≠.tup fs:=by rintro y' hy' fs rfl;simp[z8P]at hy'
 by_cases hp:p=[]
 ·subst hp;simp only[vQ,Option.some.injEq]at q4;subst q4;have hv:v=Act.tv a r:=by
   have:=hx.2.2;simp only[ht]at this;rcases this q2 (.inl trivial) with⟨_,hv⟩|⟨ho,_⟩
   ·exact hv
   ·simp[z2C]at ho
  refine⟨F,cs,q5,q6,q8,?_⟩;intro S' w' y' G F' hy' b1 b2 b3 b4 b5 b6 b7;obtain⟨k1,k2,k3,k4,k5⟩:=common F q7 S' w' G F' b1 b3 b7;obtain⟨cz,z1,z2,z3⟩:=b5.cells (notup hy');rw[pM]at b6;refine⟨z2j Fp r G,?_⟩;refine h.change r (.own (JN [] x0 y')) _ _ G k1 b2 b4 k2 k3 ⟨⟨cz,by simpa only[JN] using z1,z2,by simp only[JN];rw[<-hv];exact z3⟩,x0,ht⟩ (.inl ⟨x0,ht⟩) (pC _) (gB _)
   (λt k htr hk=>k5 t k htr (by simp[hk])) (λk hk=>k4 k (by simp[hk])) (by simpa using b6.1) (λt k htr hk=>k5 t k htr (by simp at hk;simp[hk])) (λk hk hk'=>b6.2.2 k (by simpa using hk) k hk' rfl) (λk hk=>k4 k (by simp at hk;simp[hk]))
 ·have hx3:=hx.2.2;simp only[ht]at hx3;rcases hx3 q2 q3 with⟨hp',_⟩|⟨ho,y2,b,o,csa,g1,g2,g3,g4,g5⟩
  ·exact absurd hp' hp
  rw[q4]at g1;simp only[Option.some.injEq]at g1;subst g1;obtain⟨b',o',arr,ty,csy,Fy,f1,f2,f3,f4,f5,f6,f7,f8,f9⟩:=UI p c1 c2 hp (by rintro i q rfl;simp[z2C]at ho) q4;rw[c3,f1]at g2;simp only[Option.some.injEq,Prod.mk.injEq]at g2;obtain⟨rfl,rfl⟩:=g2;have hcs:=QB f4 f2 f3 g3 g4;subst hcs;refine⟨Fy,csa,f4,g5,f8,?_⟩;intro S' w' y' G F' hy' b1 b2 b3 b4 b5 b6 b7;obtain⟨k1,k2,k3,k4,k5⟩:=common Fy f7 S' w' G F' b1 b3 b7;obtain⟨cz,z1,z2,z3⟩:=b5.cells (notup hy');have hcz:cz=csa:=by rw[z1b hy' z1,z1b hy f4,<-z3,<-g5]
  subst hcz;rw[pM]at b6;have hkeep:∀k,k∈Fp r->k∉Fy->w'.heap[k]?=w.heap[k]?:=λk hk hky=>b1.block k (by
   rintro(hq|hq)
   ·have:=(h.free r k hk).1;omega
   ·exact hky hq)
  obtain⟨F0',d1,d2,d3⟩:=f9 S' w'.heap y' cz G b2 rfl z1 z2 (λk hk hky o=>by rw[b3 k o (h.free r k hk).1 hky];exact(h.free r k hk).2.1 o) (λk hk hky _=>hkeep k hk hky) (by rw[Jo f3,hkeep _ f6 f5];exact f2)
   (λk hk hk0=>(b7 k (by simp[hk])).elim (λhq=>absurd (h.free r k hk0).1 (by omega)) id)
  have hF0:∀k∈F0',C.M k:=λk hk=>(d3 k).1 hk |>.elim (λhk=>h.base r k hk.1) (λhk=>k4 k (by simp[hk]))
  refine⟨z2j Fp r F0',?_⟩;refine h.change r (.own (JN p x0 y')) _ _ F0' k1 b2 b4 k2 k3 ⟨⟨cs',d1,d2,by rw[z6B ho];exact c3⟩,x0,ht⟩ (.inl ⟨x0,ht⟩) (pC _) (gB _) ?_ hF0 (by simpa using b6.1) (λt k htr hk=>k5 t k htr (by simp at hk;simp[hk])) ?_ (λk hk=>k4 k (by simp at hk;simp[hk]))
  ·intro t k htr hk hk';rcases(d3 k).1 hk with hk|hk
   ·exact htr (h.disj t r k hk' hk.1)
   ·exact k5 t k htr (by simp[hk]) hk'
  ·intro k hk hk';have hk:k∈F':=by simpa using hk
   rcases(d3 k).1 hk' with hk2|hk2
   ·rcases b7 k (by simp[hk]) with hq|hq
    ·have:=(h.free r k hk2.1).1;omega
    ·exact hk2.2 hq
   ·exact b6.2.2 k hk k hk2 rfl
end
def V5 (P:Program)(k:Nat)(args:List A)(r:A):Prop :=
 (∃fn,P.funcs[k]?=some fn/\(fn.name == "runtime.NumGoroutine")=false/\fn.body.isNone=false) /\
 ∀(S:zo) (w:World) (vs:List Value) (F:List Nat),xu S w->QI S w.heap args vs F->F.Nodup->Calls P k vs.toArray w λe w'=>
  ∃v S' F',e=.returned v/\UQ (λk=>w.heap.size<=k\/k∈F) w w'/\(∀b o u,S b o=some u->S' b o=some u)/\(∀b o,b<w.heap.size->b∉F->S' b o=S b o)/\xu S' w'/\Has S' w'.heap r v F'/\F'.Nodup /\
   ∀k∈F',w.heap.size<=k\/k∈F
def zxb (P:Program)(k i:Nat)(ls:List A)(r y':A):Prop :=
 (∃fn,P.funcs[k]?=some fn/\(fn.name == "runtime.NumGoroutine")=false/\fn.body.isNone=false) /\
 ∀(S:zo) (w:World) (vs:List Value) (F:List Nat),xu S w->QI S w.heap ls vs F->F.Nodup->Calls P k vs.toArray w λe w'=>
  ∃v u S' F' G,e=.returned v/\vs[i]?=some u/\UQ (λk=>w.heap.size<=k\/k∈F) w w'/\(∀b o u,S b o=some u->S' b o=some u)/\(∀b o,b<w.heap.size->b∉F->S' b o=S b o)/\xu S' w'/\Has S' w'.heap r v F'/\Has S' w'.heap y' u G /\
   (F' ++ G).Nodup/\∀k∈F' ++ G,w.heap.size<=k\/k∈F
def zaV (P:Program)(ext:Fr->Oper->Option (SM Unit)):Prop :=
 (∀(C:Ctx) (S:zo) (Fp:Nat->List Nat) (st:St) (a:Act) (w:World) (o:Oper) (m:SM Unit) (u:Unit) (R:List Nat) (U:List (Nat×Ent)),ext C.n o=some m->Sim C S Fp [] st a w->m st=some (u,R,U)->qO P C o a w (zh U st)) /\
 ∀(n:Fr) (o:Oper) (m:SM Unit),ext n o=some m->∀(st st':St) (u:Unit) (R:List Nat) (U:List (Nat×Ent)),m st=some (u,R,U)->(∀k∈R,st' k=st k)->m st'=some (u,R,U)
theorem zaV.none (P:Program):zaV P (λ_ _=>.none):=⟨λ_ _ _ _ _ _ _ _ _ _ _ h=>(by cases h),λ_ _ _ h=>(by cases h)⟩
def zF (P:Program)(ctr:Ctr):Prop:=(∀k args r,ctr.run k args=some r->V5 P k args r)/\(∀k i ls r y,ctr.lend k=some i->ctr.runL k ls=some (r,y)->zxb P k i ls r y)/\zaV P ctr.ext
theorem zF.withE {c:Ctr}(h:zF P c){e:Fr->Oper->Option (SM Unit)}(he:zaV P e):zF P (c.withE e):=⟨h.1,h.2.1,he⟩
mutual
theorem A.shut_isD:∀{a:A},a.isD=true->a.shut=a
 | .agg fs,h=>by simp only[A.isD]at h;simp only[A.shut,A.shuts_areD h]
 | .atom _,_=>rfl
 | .fn _ _,_=>rfl
 | .sl _ _ _,_=>rfl
 | .sptr _,_=>rfl
 | .dop _,_=>rfl
 | .tup _,h=>by simp[A.isD]at h
 | .osl _ _ _,h=>by simp[A.isD]at h
 | .box _,h=>by simp[A.isD]at h
 | .dead _,h=>by simp[A.isD]at h
 | .opq _,h=>by simp[A.isD]at h
theorem A.shuts_areD:∀{as_:List A},A.areD as_=true->A.shuts as_=as_
 | [],_=>rfl
 | a::as_,h=>by simp only[A.areD,pJ]at h;simp only[A.shuts,A.shut_isD h.1,A.shuts_areD h.2]
end
theorem z6y (a:A)(cs:List Value):y8 a.shut cs=y8 a cs:=by cases a <;> rfl
variable {Fp:Nat->List Nat}{ctr:Ctr}{a:Act}{k:Nat}{st:St}{fn:Func}{args:Array Operand}{tys:Array TypeId}{caps:Array Operand}{f:Operand}
section
variable {C:Ctx}{S:zo}{Fp:Nat->List Nat}{X:List Nat}{st:St}{a:Act}{w:World}
def yf (S:zo)(h:Array Obj)(F:List Nat):zo:=λb o=>if b∈F then yj h b o else S b o
theorem zeN (tt:TT)(t:Nat)(z:A):Jq tt t z=z\/(z=.atom (.slice none 0 0)/\∃sz,Jq tt t z=.osl sz true []):=by
 unfold Jq;split
 ·split
  ·split
   ·exact .inr ⟨rfl,_,rfl⟩
   ·exact .inl rfl
  ·exact .inl rfl
 ·exact .inl rfl
theorem z2F (h:Sim C S Fp X st a w)  {r:Nat}(hF:∀k∈F,k∈Fp r) :
  (∀b o u,S b o=some u->yf S w.heap F b o=some u)/\(∀b o v,yf S w.heap F b o=some v->yj w.heap b o=some v)/\(∀b o,¬C.M b->yf S w.heap F b o=C.S0 b o) /\
  (∀k,k∉F->∀o,yf S w.heap F k o=S k o):=by
 refine⟨?_,?_,?_,?_⟩
 ·intro b o u hs;unfold yf;split
  ·rename_i hb;rw[(h.free r b (hF b hb)).2.1]at hs;cases hs
  ·exact hs
 ·intro b o v hs;unfold yf at hs;split at hs
  ·exact hs
  ·exact h.still b o v hs
 ·intro b o hb;unfold yf;split
  ·rename_i hb';exact absurd (h.base r b (hF b hb')) hb
  ·exact h.sbase b o hb
 ·intro k hk o;unfold yf;rw[if_neg hk]
theorem z5g (h:Sim C S Fp X st a w)   {x:T}  (hx:TOk S w.heap st (Act.tv a) x v){y:A}   (e:shutT tt t x st=some (y,R,U)) :
  ∃S' Fp',Sim C S' Fp' X (zh U st) a w/\(∀b o u,S b o=some u->S' b o=some u)/\(∀k∈X,∀o,S k o=none->S' k o=none)/\qa S' y v:=by
 cases x with
 | d z=>
  by_cases hz:∃fs,z=.tup fs
  ·obtain⟨fs,rfl⟩:=hz;exact(z7 (st:=st) e).elim
  ·have hz':∀fs,z≠.tup fs:=λfs he=>hz ⟨fs,he⟩;have e':(pure (Jq tt t z).shut:SM A) st=some (y,R,U):=by cases z <;> first|exact e|exact absurd rfl (hz' _)
   obtain⟨rfl,rfl,rfl⟩:=zy e';refine⟨S,Fp,h,λ_ _ _ h=>h,λ_ _ _ h=>h,?_⟩;have hr1:qa S z v:=by have hx':wh S z v:=hx;cases z <;> simp only[wh]at hx' <;> first|exact hx'|exact absurd rfl (hz' _)
   rcases zeN tt t z with hn|⟨rfl,sz,hn⟩
   ·rw[hn];obtain⟨cs,r,ev⟩:=hr1;rw[A.shut_isD r.isD];exact⟨cs,r,ev⟩
   ·rw[hn];have ev:=(xY.1 hr1).1;subst ev;exact⟨[.slice none 0 0],by simp only[A.shut,A.shuts,Rep];exact⟨none,0,rfl,λ_=>rfl,pC _,by simp,.inl trivial⟩,rfl⟩
 | als r p er ec=>
  simp only[shutT]at e;obtain⟨z,R1,U1,R2,U2,h1,e1,rfl,rfl⟩:=bind_some e;obtain⟨rfl,q⟩:=z2H h hx h1;simp only[zh,p9]at e1 ⊢;by_cases hd:z.isD=true
  ·rw[if_pos hd]at e1;obtain⟨rfl,rfl,rfl⟩:=zy e1;refine⟨S,Fp,h,λ_ _ _ h=>h,λ_ _ _ h=>h,?_⟩;rcases q with⟨x,cs,F,_,_,_,_,q5,q6,_⟩|⟨_,_,_,_,q5⟩
   ·exact⟨cs,(q5.isD hd).1,q6⟩
   ·exact q5.rep1 hd
  ·rw[if_neg hd]at e1;by_cases hl:z.live=true
   ·rw[if_pos hl]at e1;obtain⟨en,R3,U3,R4,U4,h3,e2,rfl,rfl⟩:=bind_some e1;obtain⟨rfl,rfl,rfl⟩:=yl h3;simp only[zh,p9]at e2 ⊢;rcases q with⟨x,cs,F,q1,q2,q3,q4,q5,q6,q7,q8⟩|⟨q1,_⟩
    ·simp only[q1]at e2;obtain⟨m1,m2,m3,m4⟩:=z2F h q7;have hrep:Rep (yf S w.heap F) z.shut cs:=q5.shut m1 hl (λk hk o=>by unfold yf;rw[if_pos hk]);have hoth:∀t k,t≠r->k∈Fp t->w.heap[k]?=w.heap[k]?/\∀o,yf S w.heap F k o=none:=by intro t k ht hk;refine⟨rfl,λo=>?_⟩;rw[m4 k (λhF=>ht (h.disj t r k hk (q7 k hF)))];exact(h.free t k hk).2.1 o
     have hr:=h.ent r;unfold wv at hr;simp only[q1]at hr;by_cases hp:p=[]
     ·rw[if_pos hp]at e2;obtain⟨u5,R5,U5,R6,U6,h5,h6,rfl,rfl⟩:=bind_some e2;obtain⟨rfl,rfl⟩:=wO h5;obtain⟨rfl,rfl,rfl⟩:=zy h6;subst hp;have hv:v=Act.tv a r:=by
       have:=hx.2.2;simp only[q1]at this;rcases this q2 (.inl trivial) with⟨_,hv⟩|⟨ho,_⟩
       ·exact hv
       ·simp[z2C]at ho
      refine⟨yf S w.heap F,z2j Fp r [],?_,m1,λk hk o hn=>by rw[m4 k (λhF=>h.xd r k hk (q7 k hF))];exact hn,⟨cs,hrep,by rw[z6y];exact q6⟩⟩;simp only[hU,zh];exact h.change r (.d z.shut) _ _ [] h.below m1 m2 m3 hoth ⟨qa.repV ⟨cs,hrep,by rw[z6y,<-q6,hv]⟩,rfl⟩ (.inl ⟨x,q1⟩) (pC _) (gB _) (by simp) (by simp) h.xn (λt k _ hk=>h.xd t k hk) (by simp) h.xb
     ·rw[if_neg hp]at e2;obtain⟨u5,R5,U5,R6,U6,h5,h6,rfl,rfl⟩:=bind_some e2;obtain⟨rfl,rfl⟩:=wO h5;obtain⟨rfl,rfl,rfl⟩:=zy h6;obtain⟨cs',c1,c2,c3⟩:=hr;have hx3:=hx.2.2;simp only[q1]at hx3;rcases hx3 q2 q3 with⟨hp',_⟩|⟨ho,y',b,o,csa,g1,g2,g3,g4,g5⟩
      ·exact absurd hp' hp
      rw[q4]at g1;simp only[Option.some.injEq]at g1;subst g1;obtain⟨b',o',arr,ty,csy,Fy,f1,f2,f3,f4,f5,f6,f7,f8,f9⟩:=UI p c1 c2 hp (by rintro i q rfl;simp[z2C]at ho) q4;rw[c3,f1]at g2;simp only[Option.some.injEq,Prod.mk.injEq]at g2;obtain⟨rfl,rfl⟩:=g2;have hcs:=QB f4 f2 f3 g3 g4;subst hcs;obtain⟨n1,n2,n3,n4⟩:=z2F h f7;have hrep2:Rep (yf S w.heap Fy) z.shut csa:=f4.shut n1 hl (λk hk o=>by unfold yf;rw[if_pos hk]);obtain⟨F0',d1,d2,d3⟩:=f9 (yf S w.heap Fy) w.heap z.shut csa [] n1 rfl (hrep2.conc _) (by simp) (λk hk hky o=>by rw[n4 k hky];exact(h.free r k hk).2.1 o) (λ_ _ _ _=>rfl) (by rw[Jo f3];exact f2) (by simp);refine⟨yf S w.heap Fy,z2j Fp r F0',?_,n1,λk hk o hn=>by rw[n4 k (λhF=>h.xd r k hk (f7 k hF))];exact hn,⟨csa,hrep2,by rw[z6y];exact g5⟩⟩;simp only[hU,zh];have hoth2:∀t k,t≠r->k∈Fp t->w.heap[k]?=w.heap[k]?/\∀o,yf S w.heap Fy k o=none:=by intro t k ht hk;refine⟨rfl,λo=>?_⟩;rw[n4 k (λhF=>ht (h.disj t r k hk (f7 k hF)))];exact(h.free t k hk).2.1 o
      refine h.change r (.own (JN p x z.shut)) _ _ F0' h.below n1 n2 n3 hoth2 ⟨⟨cs',d1,d2,by rw[z6B ho];exact c3⟩,x,q1⟩ (.inl ⟨x,q1⟩) (pC _) (gB _) ?_ ?_ h.xn (λt k _ hk=>h.xd t k hk) ?_ h.xb
      ·intro t k ht hk hk';rcases(d3 k).1 hk with hk|hk
       ·exact ht (h.disj t r k hk' hk.1)
       ·simp at hk
      ·intro k hk;rcases(d3 k).1 hk with hk|hk
       ·exact h.base r k hk.1
       ·simp at hk
      ·intro k hk hk';rcases(d3 k).1 hk' with hk'|hk'
       ·exact h.xd r k hk hk'.1
       ·simp at hk'
    ·simp only[q1]at e2;exact(z7 e2).elim
   ·rw[if_neg hl]at e1;exact(z7 e1).elim
 | gone=>exact hx.elim
 | own _=>exact hx.elim
 | ptr _ _ _ _=>exact(z7 (st:=st) e).elim
theorem vV:∀{as_:List (Operand×Nat)} {S:zo} {Fp:Nat->List Nat} {st:St},Sim C S Fp X st a w->∀{xs:List A} {R:List Nat} {U:List (Nat×Ent)},shutArgs tt as_ st=some (xs,R,U) ->
  ∃S' Fp',Sim C S' Fp' X (zh U st) a w/\(∀b o u,S b o=some u->S' b o=some u)/\(∀k∈X,∀o,S k o=none->S' k o=none)/\UR (qa S') xs (as_.map λp=>a.eval p.1)
 | [],S,Fp,st,h,xs,R,U,e=>by obtain⟨rfl,rfl,rfl⟩:=zy e;exact⟨S,Fp,h,λ_ _ _ h=>h,λ_ _ _ h=>h,trivial⟩
 |(x,t)::as_,S,Fp,st,h,xs,R,U,e=>by simp only[shutArgs]at e;obtain⟨y,R1,U1,R2,U2,h1,e1,rfl,rfl⟩:=bind_some e;obtain⟨rfl,hx⟩:=zK h h1;obtain⟨z,R3,U3,R4,U4,h3,e2,rfl,rfl⟩:=bind_some e1;simp only[zh,p9]at h3 e2 ⊢;obtain⟨S1,Fp1,g1,g2,g4,g3⟩:=z5g h hx h3;obtain⟨bs,R5,U5,R6,U6,h5,e3,rfl,rfl⟩:=bind_some e2;obtain⟨S2,Fp2,k1,k2,k4,k3⟩:=vV g1 h5;obtain⟨rfl,rfl,rfl⟩:=zy e3;refine⟨S2,Fp2,?_,λb o u hs=>k2 b o u (g2 b o u hs),λk hk o hn=>k4 k hk o (g4 k hk o hn),g3.mono k2,k3⟩;rw[hU,zB];exact k1
mutual
theorem Rep.flat {S S':zo}:∀{r:A} {cs:List Value},r.flat=true->Rep S r cs->Rep S' r cs
 | .atom _,_,_,h=>by simpa only[Rep] using h
 | .agg fs,_,f,h=>by simp only[A.flat]at f;simp only[Rep]at h ⊢;exact yK.flat f h
 | .tup _,_,_,h=>by simp only[Rep]at h
 | .fn _ _,_,f,_=>by simp[A.flat]at f
 | .sl _ _ _,_,f,_=>by simp[A.flat]at f
 | .sptr _,_,f,_=>by simp[A.flat]at f
 | .dop _,_,f,_=>by simp[A.flat]at f
 | .osl _ _ _,_,f,_=>by simp[A.flat]at f
 | .box _,_,f,_=>by simp[A.flat]at f
 | .dead _,_,f,_=>by simp[A.flat]at f
 | .opq _,_,f,_=>by simp[A.flat]at f
theorem yK.flat {S S':zo}:∀{rs:List A} {cs:List Value},A.flats rs=true->yK S rs cs->yK S' rs cs
 | [],_,_,h=>by simpa only[yK] using h
 | r::rs,_,f,h=>by simp only[A.flats,pJ]at f;simp only[yK]at h ⊢;obtain⟨c1,c2,e,h1,h2⟩:=h;exact⟨c1,c2,e,Rep.flat f.1 h1,yK.flat f.2 h2⟩
end
theorem wh.flat {S S':zo}{r:A}  (f:r.flat=true)(h:wh S r v):wh S' r v:=by
 have one:∀{r:A} {v:Value},r.flat=true->qa S r v->qa S' r v:=λf h=>let ⟨cs,h1,h2⟩:=h;⟨cs,h1.flat f,h2⟩;cases r with
 | tup fs=>
  simp only[wh]at h ⊢;obtain⟨vs,e,h⟩:=h;refine⟨vs,e,?_⟩;simp only[A.flat]at f;clear e;induction fs generalizing vs with
  | nil=>cases vs <;> simp_all [UR]
  | cons x fs ih=>
   cases vs with
   | nil=>exact h.elim
   | cons u vs=>simp only[A.flats,pJ]at f;exact⟨one f.1 h.1,ih f.2 vs h.2⟩
 | _=>simp only[wh]at h ⊢;exact one f h
theorem z2x {caps:List A}:∀{vs:List Value},yK S caps vs->(∀c∈caps,c.size=1/\∀fs,c≠.agg fs)->UR (qa S) caps vs:=by
 induction caps with
 | nil=>intro vs h _;simp only[yK]at h;subst h;trivial
 | cons c caps ih=>
  intro vs h hc;simp only[yK]at h;obtain⟨c1,c2,rfl,h1,h2⟩:=h;obtain⟨hs,hna⟩:=hc c (by simp);have hl:c1.length=1:=by rw[h1.len,hs]
  obtain⟨u,rfl⟩:=mG.1 hl;refine⟨⟨[u],h1,?_⟩,ih h2 (λc hc'=>hc c (by simp[hc']))⟩;cases c <;> first|rfl|exact absurd rfl (hna _)
theorem UR.append {α β:Type}{R:α->β->Prop}:∀{as_:List α} {bs:List β} {cs:List α} {ds:List β},UR R as_ bs->UR R cs ds->UR R (as_++cs) (bs++ds)
 | [],[],_,_,_,h=>h
 | _::_,_::_,_,_,h,h'=>⟨h.1,h.2.append h'⟩
 | [],_::_,_,_,h,_=>h.elim
 | _::_,[],_,_,h,_=>h.elim
theorem z9N:∀{as_:List (Bool×Operand×Nat)} {S:zo} {Fp:Nat->List Nat} {X:List Nat} {st:St},Sim C S Fp X st a w->∀{xs:List A} {R:List Nat} {U:List (Nat×Ent)},passArgs tt as_ st=some (xs,R,U) ->
  ∃S' Fp' G,Sim C S' Fp' (G++X) (zh U st) a w/\(∀b o u,S b o=some u->S' b o=some u)/\(∀k∈X,∀o,S k o=none->S' k o=none)/\QI S' w.heap xs (as_.map λp=>a.eval p.2.1) G
 | [],S,Fp,X,st,h,xs,R,U,e=>by obtain⟨rfl,rfl,rfl⟩:=zy e;exact⟨S,Fp,[],h,λ_ _ _ h=>h,λ_ _ _ h=>h,rfl⟩
 |(g,x,t)::as_,S,Fp,X,st,h,xs,R,U,e=>by
  simp only[passArgs]at e;obtain⟨y,R1,U1,R2,U2,h1,e1,rfl,rfl⟩:=bind_some e;obtain⟨rfl,hx⟩:=zK h h1;obtain⟨z,R3,U3,R4,U4,h3,e2,rfl,rfl⟩:=bind_some e1;simp only[zh,p9]at h3 e2 ⊢;obtain⟨bs,R5,U5,R6,U6,h5,e3,rfl,rfl⟩:=bind_some e2;have one:∃S1 Fp1 F,Sim C S1 Fp1 (F++X) (zh U3 st) a w/\(∀b o u,S b o=some u->S1 b o=some u)/\(∀k∈X,∀o,S k o=none->S1 k o=none)/\Has S1 w.heap z (a.eval x) F:=by
   split at h3
   ·obtain⟨Fp1,F,g1,g2⟩:=z0N h hx h3;exact⟨S,Fp1,F,g1,λ_ _ _ h=>h,λ_ _ _ h=>h,g2⟩
   ·obtain⟨S1,Fp1,g1,g2,g3,g4⟩:=z5g h hx h3;exact⟨S1,Fp1,[],g1,g2,g3,.inl ⟨g4.repV,rfl⟩⟩
  obtain⟨S1,Fp1,F,g1,g2,g3,g4⟩:=one;obtain⟨S2,Fp2,G,k1,k2,k3,k4⟩:=z9N g1 h5;obtain⟨rfl,rfl,rfl⟩:=zy e3;refine⟨S2,Fp2,G++F,?_,λb o u hs=>k2 b o u (g2 b o u hs),λk hk o hn=>k3 k (by simp[hk]) o (g3 k hk o hn),F,G,rfl,g4.grow k2 (λk hk o hn=>k3 k (by simp[hk]) o hn),k4⟩;rw[hU,zB,pL];exact k1
theorem QI.nil:∀{as_:List A} {vs:List Value} {F:List Nat},QI S h as_ vs F->as_.length=vs.length
 | [],[],_,_=>rfl
 | _::_,_::_,_,q=>by obtain⟨F1,F2,e,q1,q2⟩:=q;simp[q2.nil]
 | [],_::_,_,q=>q.elim
 | _::_,[],_,q=>q.elim
theorem Sim.called {S S':zo}    {w w':World}{F F':List Nat}(h:Sim C S Fp (F++[]) st a w)(b1:UQ (λk=>w.heap.size<=k\/k∈F) w w')(b2:∀b o u,S b o=some u->S' b o=some u)
  (b3:∀b o,b<w.heap.size->b∉F->S' b o=S b o) (b4:xu S' w') (b6:F'.Nodup) (b7:∀k∈F',w.heap.size<=k\/k∈F):Sim C S' Fp (F' ++ []) st a w':=by
 have hM:∀k,(w.heap.size<=k\/k∈F)->C.M k:=λk hk=>hk.elim (λhk=>h.mine k (pE h.base_le hk)) (λhk=>h.xb k (by simp[hk]));have hno:∀t k,k∈Fp t->¬(w.heap.size<=k\/k∈F):=by
  rintro t k hk (hq|hq)
  ·have:=(h.free t k hk).1;omega
  ·exact h.xd t k (by simp[hq]) hk
 refine h.mem (h.below.trans (b1.mono hM)) b2 b4 ?_ ?_ (by simpa using b6) ?_ ?_
 ·intro b o hb;rcases pH b w.heap.size with hlt|hge
  ·rw[b3 b o hlt (λhF=>hb (hM b (.inr hF)))];exact h.sbase b o hb
  ·exact absurd (hM b (.inl hge)) hb
 ·intro t k hk;refine⟨b1.block k (hno t k hk),λo=>?_⟩;rw[b3 k o (h.free t k hk).1 (λhF=>hno t k hk (.inr hF))];exact(h.free t k hk).2.1 o
 ·intro t k hk hkt;exact hno t k hkt (b7 k (by simpa using hk))
 ·intro k hk;exact hM k (b7 k (by simpa using hk))
mutual
theorem zU.flatRep:∀{r:A} {cs:List Value} {F:List Nat},r.flat=true->zU S h r cs F->Rep S r cs
 | .atom _,_,_,_,q=>by simp only[zU]at q;exact q.1
 | .agg fs,_,_,f,q=>by simp only[A.flat]at f;simp only[zU]at q;simp only[Rep];exact zZ.flatReps f q
 | .tup fs,_,_,_,q=>by simp only[zU]at q
 | .fn _ _,_,_,f,_=>by simp[A.flat]at f
 | .sl _ _ _,_,_,f,_=>by simp[A.flat]at f
 | .sptr _,_,_,f,_=>by simp[A.flat]at f
 | .dop _,_,_,f,_=>by simp[A.flat]at f
 | .osl _ _ _,_,_,f,_=>by simp[A.flat]at f
 | .box _,_,_,f,_=>by simp[A.flat]at f
 | .dead _,_,_,f,_=>by simp[A.flat]at f
 | .opq _,_,_,f,_=>by simp[A.flat]at f
theorem zZ.flatReps:∀{rs:List A} {cs:List Value} {F:List Nat},A.flats rs=true->zZ S h rs cs F->yK S rs cs
 | [],_,_,_,q=>by simp only[zZ]at q;simp only[yK];exact q.1
 | r::rs,_,_,f,q=>by simp only[A.flats,pJ]at f;simp only[zZ]at q;obtain⟨c1,c2,F1,F2,e1,e2,q1,q2⟩:=q;simp only[yK];exact⟨c1,c2,e1,zU.flatRep f.1 q1,zZ.flatReps f.2 q2⟩
end
def zlX (tt:TT)(ctr:Ctr)(n:Fr)(dst:Option Nat)(f:Operand)(as_:List (Operand×Nat)):SM Unit:=do
 let tf <-opnd f;let vf <-val tf
 callA tt ctr n dst vf as_
theorem z3b (h1:P.funcs[k]?=some fn)(h2:(fn.name == "runtime.NumGoroutine")=false)(h3:fn.body.isNone=false)(args:Array Value)(w:World):(callFunc k args).run P w=.ok (.enter k args) w:=by simp only[callFunc,Sem.run_bind,program,Sem.run,Result.andThen_ok,h1,h2,h3,gG,if_false,Sem.run_pure]
theorem zhJ {y:A}   (hy:Has S h y v F){zs:List A}{us:List Value}(hz:UR (qa S) zs us):∀{xs:List A} {ts:List Value},UR (qa S) xs ts->QI S h (xs++y::zs) (ts++v::us) F
 | [],[],_=>⟨F,[],by simp,hy,JH hz⟩
 | _::_,_::_,q=>⟨[],F,by simp,.inl ⟨q.1.repV,rfl⟩,zhJ hy hz q.2⟩
 | [],_::_,q=>q.elim
 | _::_,[],q=>q.elim
theorem zgv {tt:TT}  (hC:zF P ctr)(h:Sim C S Fp [] st a w){o:Oper}{k i:Nat}{caps:List A}{vs:List Value}{ops:List (Operand×Nat)}(hld:ctr.lend k=some i){u:Unit}{R:List Nat}{U:List (Nat×Ent)}
  (e:lendA tt ctr C.n o.dst k i caps ops st=some (u,R,U)) {vals:List Value} (hvals:ops.map (λp=>a.eval p.1)=vals) (k1:yK S caps vs) (k2:∀c∈caps,c.size=1/\∀fs,c≠.agg fs)
  (hrun:∀fn,P.funcs[k]?=some fn->(fn.name == "runtime.NumGoroutine")=false->fn.body.isNone=false->∀(rd:Option Nat) (m:Nat) (K:Act->World->Prop) (Q:Exit->Act->World->Prop),
   CallsIn (fen rd) (m - 1) P k (vals++vs).toArray w (fun
    | .returned v,w''=>K (a.put o.dst v) w''
    | .panicked chain,w''=>Q (.panic chain) a w''
    | .outgrown,_=>LetsOut Q)->o.wpIn (fen rd) m P a w K Q):qO P C o a w (zh U st):=by
 unfold lendA at e;cases hop:ops[i]? with
 | none=>simp only[hop]at e;exact(z7 e).elim
 | some q=>
  obtain⟨x,t⟩:=q;simp only[hop]at e;obtain⟨xs,R1,U1,R2,U2,e1,e2,rfl,rfl⟩:=bind_some e;obtain⟨S1,Fp1,g1,g2,_,g3⟩:=vV h e1;obtain⟨zs,R3,U3,R4,U4,e3,e4,rfl,rfl⟩:=bind_some e2;obtain⟨S2,Fp2,j1,j2,_,j3⟩:=vV g1 e3;obtain⟨tx,R5,U5,R6,U6,e5,e6,rfl,rfl⟩:=bind_some e4;obtain⟨rfl,hx⟩:=zK j1 e5;rw[zB,zB];simp only[zh,p9]at e6 ⊢;cases tx with
  | als r p er ec=>
   obtain⟨y,R7,U7,R8,U8,e7,e8,rfl,rfl⟩:=bind_some e6;obtain⟨en,R9,U9,R10,U10,e9,e10,rfl,rfl⟩:=bind_some e8;obtain⟨rfl,_⟩:=z2H j1 hx e7;obtain⟨rfl,rfl,rfl⟩:=yl e9;simp only[zh,p9]at e10 ⊢;cases ht:(zh U3 (zh U1 st) r).t with
   | own x0=>
    simp only[ht]at e10;split at e10
    ·rename_i hy;cases hr:ctr.runL k (ctr.norm k (xs++y::zs++caps)) with
     | none=>simp only[hr]at e10;exact(z7 e10).elim
     | some q=>
      obtain⟨res,y'⟩:=q;simp only[hr]at e10;split at e10
      ·rename_i hy';obtain⟨F,cs,c1,c2,c3,c4⟩:=zsf j1 hx e7 ht hy;obtain⟨⟨fn,f1,f2,f3⟩,hcall⟩:=hC.2.1 k i _ _ _ hld hr;have hcaps:=z2x (k1.mono (λb o u hs=>j2 b o u (g2 b o u hs))) k2;have hlt:=(p8.1 hop);obtain⟨hil,hix⟩:=hlt;have hsplit:vals=(ops.take i).map (λp=>a.eval p.1)++a.eval x::(ops.drop (i+1)).map (λp=>a.eval p.1):=by
        rw[<-hvals]
        conv=>lhs;rw[<-mD i ops,mB hil,hix]
        simp
       have hH:QI S2 w.heap (xs++y::zs++caps) (vals++vs) F:=by rw[hsplit];exact(zhJ (.inr ⟨cs,c1,c3,c2⟩) j3 (g3.mono λ_ _ q=>q.mono j2)).append (JH hcaps)
       have hC1:=hcall S2 w _ F j1.still (hH.norm ctr k) c3;intro rd m K Q hK;refine hrun fn f1 f2 f3 rd m K Q (CallsIn.mono (z0x hC1 rd (m - 1)) ?_);rintro en w' ⟨v,u',S',F',G,rfl,b0,b1,b2,b3,b4,b5,b6,b7,b8⟩;show K (a.put o.dst v) w';have hui:u'=a.eval x:=by
        have hl:i=((ops.take i).map (λp=>a.eval p.1)).length:=by simp;omega
        rw[hsplit,pL,pF (by omega)]at b0;rw[show i - ((ops.take i).map (λp=>a.eval p.1)).length=0 from by omega]at b0;simpa using b0.symm
       subst hui;obtain⟨Fp',hs'⟩:=c4 S' w' y' G F' hy' b1 b2 b3 b4 b6 b7 b8;obtain⟨u1,R11,U11,R12,U12,e11,e12,rfl,rfl⟩:=bind_some e10;obtain⟨rfl,rfl⟩:=wO e11;simp only[zh]at e12;rw[zB]at hK;simp only[zh]at hK;obtain⟨Fp'',hs''⟩:=z8Y hs' e12 b5;exact hK _ _ _ _ hs''
      ·exact(z7 e10).elim
    ·exact(z7 e10).elim
   | gone=>simp only[ht]at e10;exact(z7 e10).elim
   | d _=>simp only[ht]at e10;exact(z7 e10).elim
   | als _ _ _ _=>simp only[ht]at e10;exact(z7 e10).elim
   | ptr _ _ _ _=>simp only[ht]at e10;exact(z7 e10).elim
  | gone=>exact(z7 e6).elim
  | d _=>exact(z7 e6).elim
  | own _=>exact(z7 e6).elim
  | ptr _ _ _ _=>exact(z7 e6).elim
theorem zsJ {P:Program}{tt:TT}  (hC:zF P ctr)(h:Sim C S Fp [] st a w)  {f:Operand}{args:Array Operand}{tys:Array TypeId}(ho:o.op=.call { callee:=.value f,args:=args,argTypes:=tys })(hsz:args.size=tys.size){u:Unit}{R:List Nat}{U:List (Nat×Ent)}
  (e:zlX tt ctr C.n o.dst f (args.toList.zip tys.toList) st=some (u,R,U)):qO P C o a w (zh U st):=by
 unfold zlX at e;obtain⟨tf,R1,U1,R2,U2,h1,e1,rfl,rfl⟩:=bind_some e;obtain⟨rfl,hx⟩:=zK h h1;obtain⟨vf,R3,U3,R4,U4,h3,e2,rfl,rfl⟩:=bind_some e1;obtain⟨rfl,qf⟩:=jD h hx h3;simp only[zh,p9]at e2 ⊢;cases vf with
 | fn k caps=>
  simp only[callA]at e2;simp only[wh]at qf;obtain⟨cf,q1,q2⟩:=qf;simp only[Rep]at q1;obtain⟨vs,k1,k2,rfl⟩:=q1;have ef:a.eval f=.func (.func k) #[] vs.toArray:=q2;have hmapargs:(args.toList.zip tys.toList).map (λp=>a.eval p.1)=(args.map a.eval).toList:=by
   have:(args.toList.zip tys.toList).map (λp=>a.eval p.1)=((args.toList.zip tys.toList).map (·.1)).map a.eval:=by rw[mO];rfl
   rw[this,rp (by simp[hsz])];simp
  have hexec:∀fn,P.funcs[k]?=some fn->(fn.name == "runtime.NumGoroutine")=false->fn.body.isNone=false->(execOp a.eval o).run P w=.ok (.enter k ((args.map a.eval).toList++vs).toArray) w:=by intro fn c1 c2 c3;have hc:=z3b (P:=P) c1 c2 c3 (args.map a.eval++vs.toArray) w;simp only[execOp,ho,resolve,ef,Deferred.ofValue,Sem.run_bind,Sem.run_pure,Result.andThen_ok,invoke,nL];rw[hc];congr 2;apply Array.ext';simp
  cases hld:ctr.lend k with
  | some i=>
   simp only[hld]at e2;exact zgv hC h hld e2 hmapargs k1 k2 (by intro fn c1 c2 c3 rd m K Q hcall;refine⟨λ_ _=>trivial,?_⟩;rw[Uw (hexec fn c1 c2 c3) (by simp),Oper.uponIn_enter];exact⟨λh=>(by cases h),hcall⟩)
  | none=>
  simp only[hld]at e2;split at e2
  ·obtain⟨xs,R5,U5,R6,U6,h5,e3,rfl,rfl⟩:=bind_some e2;have hg:∃U',shutArgs tt (args.toList.zip tys.toList) st=some (xs,R5,U')/\U5=[]:=by
    unfold ghost at h5;cases hs:shutArgs tt (args.toList.zip tys.toList) st with
    | none=>simp[hs]at h5
    | some q=>obtain⟨q1,q2,q3⟩:=q;simp only[hs,Option.some.injEq,Prod.mk.injEq]at h5;obtain⟨rfl,rfl,rfl⟩:=h5;exact⟨q3,rfl,rfl⟩
   obtain⟨U',hs,rfl⟩:=hg;simp only[zh,p9]at e3 ⊢;cases hr:ctr.run k (ctr.norm k (xs++caps)) with
   | none=>simp only[hr]at e3;exact(z7 e3).elim
   | some r=>
    simp only[hr]at e3;obtain⟨⟨fn,c1,c2,c3⟩,hcall⟩:=hC.1 k _ r hr;obtain⟨S1,Fp1,g1,g2,_,g3⟩:=vV h hs;have hcaps:=z2x (k1.mono g2) k2;rw[hmapargs]at g3;have hC1:=hcall S1 w _ [] g1.still ((JH (g3.append hcaps)).norm ctr k) (by simp);intro rd m K Q hK;refine⟨λ_ _=>trivial,?_⟩;rw[Uw (hexec fn c1 c2 c3) (by simp),Oper.uponIn_enter];refine⟨λh=>(by cases h),CallsIn.mono (z0x hC1 rd (m - 1)) ?_⟩;rintro en w' ⟨v,S',F',rfl,b1,b2,b3,b4,b5,b6,b7⟩;show K (a.put o.dst v) w';have hold:∀k,k<w.heap.size->w'.heap[k]?=w.heap[k]?:=λk hk=>b1.block k (by simp;omega);by_cases hfl:r.flat=true
    ·rw[if_pos hfl]at e3;have hm:Sim C S Fp [] st a w':=h.mem (h.below.trans (b1.mono (λk hk=>h.mine k (pE h.base_le (by simpa using hk))))) (λ_ _ _ h=>h) (λb o v hs=>by rw[vD (hold b (h.still_lt hs))];exact h.still b o v hs) h.sbase
      (λt k hk=>⟨hold k (h.free t k hk).1,(h.free t k hk).2.1⟩) (by simp) (by simp) (by simp)
     have b5':wh S' r v:=by
      rcases b5 with⟨q,_⟩|⟨cs,q4,_,q6⟩
      ·exact q
      ·exact qa.repV ⟨cs,q4.flatRep hfl,q6⟩
     obtain⟨Fp',hs'⟩:=wP hm e3 (x:=.d r) (b5'.flat hfl);exact hK _ _ _ _ hs'
    ·rw[if_neg hfl]at e3;obtain⟨ys,R7,U7,R8,U8,h7,e4,rfl,rfl⟩:=bind_some e3;rw[hs]at h7;simp only[Option.some.injEq,Prod.mk.injEq]at h7;obtain⟨rfl,rfl,rfl⟩:=h7;rw[zB]at hK;obtain⟨Fp',hs'⟩:=z8Y (Sim.called (F:=[]) g1 b1 b2 b3 b4 b6 b7) e4 b5;exact hK _ _ _ _ hs'
  ·split at e2
   ·rename_i hlen;obtain⟨xs,R5,U5,R6,U6,h5,e3,rfl,rfl⟩:=bind_some e2;cases hr:ctr.run k (ctr.norm k (xs++caps)) with
    | none=>simp only[hr]at e3;exact(z7 e3).elim
    | some r=>
     simp only[hr]at e3;obtain⟨⟨fn,c1,c2,c3⟩,hcall⟩:=hC.1 k _ r hr;obtain⟨S1,Fp1,G,g1,g2,_,g3⟩:=z9N h h5;have hcaps:=z2x (k1.mono g2) k2;have hmap2:((ctr.gives k).zip (args.toList.zip tys.toList)).map (λp=>a.eval p.2.1)=(args.map a.eval).toList:=by
      have:((ctr.gives k).zip (args.toList.zip tys.toList)).map (λp=>a.eval p.2.1)=(((ctr.gives k).zip (args.toList.zip tys.toList)).map (·.2)).map (λp=>a.eval p.1):=by rw[mO];rfl
      rw[this,List.map_snd_zip (by omega),hmapargs]
     rw[hmap2]at g3;have hGn:=g1.xn;rw[hU]at hGn;have hC1:=hcall S1 w _ G g1.still ((g3.append (JH hcaps)).norm ctr k) hGn;intro rd m K Q hK;refine⟨λ_ _=>trivial,?_⟩;rw[Uw (hexec fn c1 c2 c3) (by simp),Oper.uponIn_enter];refine⟨λh=>(by cases h),CallsIn.mono (z0x hC1 rd (m - 1)) ?_⟩;rintro en w' ⟨v,S',F',rfl,b1,b2,b3,b4,b5,b6,b7⟩;show K (a.put o.dst v) w';rw[zB]at hK;obtain⟨Fp',hs'⟩:=z8Y (g1.called b1 b2 b3 b4 b6 b7) e3 b5;exact hK _ _ _ _ hs'
   ·exact(z7 e2).elim
 | _=>exact(z7 (st:=st) e2).elim
def z6H:A->Bool
 | .atom _|.sptr _|.dop _|.sl _ _ _|.fn _ _=>true
 | _=>false
def z2G (tt:TT)(n:Fr)(dst:Option Nat)(f:Nat)(caps:List Operand):SM Unit:=do
 let xs <-shutArgs tt (caps.map λx=>(x,0))
 if xs.all z6H=true then wrT n dst (.d (.fn f xs)) else zu
theorem zat:∀{xs:List A} {vs:List Value},UR (qa S) xs vs->(∀c∈xs,c.size=1/\∀fs,c≠.agg fs)->yK S xs vs
 | [],[],_,_=>by simp[yK]
 | x::xs,v::vs,h,hc=>by
  obtain⟨⟨cs,h1,h2⟩,h3⟩:=h;obtain⟨hs,hna⟩:=hc x (by simp);have hl:cs.length=1:=by rw[h1.len,hs]
  obtain⟨u,rfl⟩:=mG.1 hl;have hv:v=u:=by rw[h2];cases x <;> first|rfl|exact absurd rfl (hna _)
  subst hv;simp only[yK];exact⟨[v],vs,rfl,h1,zat h3 (λc hc'=>hc c (by simp[hc']))⟩
 | [],_::_,h,_=>h.elim
 | _::_,[],h,_=>h.elim
theorem zgq (h:Sim C S Fp [] st a w)  {f:Nat}  (ho:o.op=.makeFunc (.func f) #[] caps)    (e:z2G tt C.n o.dst f caps.toList st=some (u,R,U)):qO P C o a w (zh U st):=by
 unfold z2G at e;obtain⟨xs,R1,U1,R2,U2,h1,e1,rfl,rfl⟩:=bind_some e;obtain⟨S1,Fp1,g1,g2,_,g3⟩:=vV h h1;rw[zB];split at e1
 ·rename_i hall;have hc:∀c∈xs,c.size=1/\∀fs,c≠.agg fs:=by intro c hc;have:=gJ.1 hall c hc;cases c <;> simp_all [z6H,A.size]
  have hmap:(caps.toList.map λx=>(x,0)).map (λp=>a.eval p.1)=(caps.map a.eval).toList:=by simp[mO,Function.comp_def]
  rw[hmap]at g3;obtain⟨Fp',hs⟩:=wP g1 e1 (x:=.d (.fn f xs)) (v:=.func (.func f) #[] (caps.map a.eval)) (by simp only[TOk,wh];refine⟨[.func (.func f) #[] (caps.map a.eval)],?_,rfl⟩;simp only[Rep];exact⟨(caps.map a.eval).toList,zat g3 hc,hc,by rw[Array.toArray_toList]⟩)
  exact zr (by simp[execOp,ho,Instr.makeFunc]) hs
 ·exact(z7 e1).elim
end
def stepO (tt:TT)(ctr:Ctr)(n:Fr)(o:Oper):SM Unit :=
 match o.op with
 | .move x=>zkL n o.dst x
 | .assign x=>z6W tt n o.dst o.type x
 | .binOp op xt x y _=>zfm tt n o.dst op xt x y
 | .unOp op _ x=>zjn n o.dst op x
 | .convert s t x=>ziV tt n o.dst s t x
 | .pick c x y=>zge n o.dst c x y
 | .extract x i=>z3l n o.dst x i
 | .nilCheck x=>nilCheckO n o.dst x
 | .slice t x lo hi mx=>sliceO tt n o.dst t x lo hi mx
 | .load t x=>ziJ tt n o.dst t x
 | .store t x v=>zec tt o.dst t x v
 | .fieldAddr t x i=>z0v tt n o.dst t i x
 | .indexAddr t x i=>z0s tt n o.dst t x i
 | .alloc t=>zfv tt n o.dst t
 | .box t x=>ztI tt n o.dst t x
 | .makeSlice t l c=>XX tt n o.dst t l c
 | .buildSlice t len ps=>qZ tt n o.dst t len ps.toList
 | .build t ps=>z7S tt n o.dst t ps.toList
 | .makeFunc (.func f) ⟨[]⟩ caps=>z2G tt n o.dst f caps.toList
 | .call ⟨.builtin .len,⟨[x]⟩,⟨[t]⟩⟩=>zvF tt n o.dst t x
 | .call ⟨.builtin .cap,⟨[x]⟩,⟨[t]⟩⟩=>zwc tt n o.dst t x
 | .call ⟨.builtin .append,⟨[s,x]⟩,⟨[t,t']⟩⟩=>if t=t' then z6X tt n o.dst t s x else zu
 | .call ⟨.value f,args,tys⟩=>if args.size=tys.size then zlX tt ctr n o.dst f (args.toList.zip tys.toList) else zu
 | _=>zu
variable {ops:Array Oper}{α:Type}{rd:Option Nat}{m:Nat}
section
variable {C:Ctx}{S:zo}{Fp:Nat->List Nat}{X:List Nat}{st:St}{a:Act}{w:World}
theorem zcN (hT:wy P tt)(hC:zF P ctr)(h:Sim C S Fp [] st a w)     (e:stepO tt ctr C.n o st=some (u,R,U)):qO P C o a w (zh U st):=by
 unfold stepO at e;cases ho:o.op with
 | move x=>simp only[ho]at e;exact zrY h ho e
 | assign x=>simp only[ho]at e;exact zm8 h ho e
 | binOp op xt x y yt=>simp only[ho]at e;exact zpw hT h ho e
 | unOp op xt x=>simp only[ho]at e;exact zqL h ho e
 | convert s t x=>simp only[ho]at e;exact zsD hT h ho e
 | pick c x y=>simp only[ho]at e;exact zrT h ho e
 | extract x i=>simp only[ho]at e;exact ziR h ho e
 | nilCheck x=>simp only[ho]at e;exact zgj h ho e
 | slice t x lo hi mx=>simp only[ho]at e;exact znA hT h ho e
 | load t x=>simp only[ho]at e;exact zkZ hT h ho e
 | store t x v=>simp only[ho]at e;exact znt hT h ho e
 | fieldAddr t x i=>simp only[ho]at e;exact zff hT h ho e
 | indexAddr t x i=>simp only[ho]at e;exact zf4 hT h ho e
 | alloc t=>simp only[ho]at e;exact zpF hT h ho e
 | box t x=>simp only[ho]at e;exact zwd h ho e
 | makeSlice t l c=>simp only[ho]at e;exact z7M hT h ho e
 | buildSlice t len ps=>simp only[ho]at e;exact z1o hT h ho e
 | build t ps=>simp only[ho]at e;exact zpu hT h ho e
 | makeFunc fn first caps=>
  cases fn with
  | func f=>
   obtain⟨l⟩:=first;cases l with
   | nil=>simp only[ho]at e;exact zgq h ho e
   | cons _ _=>simp only[ho]at e;exact(z7 e).elim
  | _=>simp only[ho]at e;exact(z7 e).elim
 | call c=>
  obtain⟨callee,⟨args⟩,⟨tys⟩⟩:=c;cases callee with
  | value f=>
   simp only[ho]at e;split at e
   ·rename_i hsz;exact zsJ hC h ho hsz e
   ·exact(z7 e).elim
  | invoke r m=>simp only[ho]at e;exact(z7 e).elim
  | builtin b=>
   cases b with
   | len=>rcases args with _|⟨x,_|⟨y,l⟩⟩ <;> rcases tys with _|⟨t,_|⟨t',l'⟩⟩ <;> simp only[ho]at e <;> first|exact(z7 e).elim|exact zvE hT h ho e
   | cap=>rcases args with _|⟨x,_|⟨y,l⟩⟩ <;> rcases tys with _|⟨t,_|⟨t',l'⟩⟩ <;> simp only[ho]at e <;> first|exact(z7 e).elim|exact zwb hT h ho e
   | append=>
    rcases args with _|⟨x,_|⟨y,_|⟨z,l⟩⟩⟩ <;> rcases tys with _|⟨t,_|⟨t',_|⟨t'',l'⟩⟩⟩ <;> simp only[ho]at e <;> first|exact(z7 e).elim|skip
    split at e
    ·rename_i ht;subst ht;exact zmc hT h ho e
    ·exact(z7 e).elim
   | _=>simp only[ho]at e;exact(z7 e).elim
 | _=>simp only[ho]at e;exact(z7 e).elim
def stepX (tt:TT)(ctr:Ctr)(n:Fr)(o:Oper):SM Unit :=
 match ctr.ext n o with
 | some m=>m
 | none=>stepO tt ctr n o
theorem zh1 (hT:wy P tt)(hC:zF P ctr)(h:Sim C S Fp [] st a w)     (e:stepX tt ctr C.n o st=some (u,R,U)):qO P C o a w (zh U st):=by
 unfold stepX at e;cases hm:ctr.ext C.n o with
 | some m=>simp only[hm]at e;exact hC.2.2.1 _ _ _ _ _ _ _ _ _ _ _ hm h e
 | none=>simp only[hm]at e;exact zcN hT hC h e
def stepG (tt:TT)(ctr:Ctr)(n:Fr)(ops:Array Oper)(o:Oper):SM Unit :=
 match o.guard with
 | none=>stepX tt ctr n o
 | some (j,want)=>
  match (ops[j]?).bind (·.dst) with
  | some g=>do
   let e <-rdE g;match e.t with
   | .d (.atom (.bool b))=>if b=want then stepX tt ctr n o else wrT n o.dst (.d (.tup []))
   | .d (.tup [])=>wrT n o.dst (.d (.tup []))
   | _=>zu
  | none=>zu
def zAx (P:Program)(C:Ctx)(ops:Array Oper)(o:Oper)(a:Act)(w:World)(st':St):Prop :=
 ∀(r:Option Nat) (m:Nat) (K:Act->World->Prop) (Q:Exit->Act->World->Prop),(∀S Fp a' w',Sim C S Fp [] st' a' w'->K a' w') ->
  if Region.wanted o (yielded ops a.tmps) then o.wpIn (fen r) m P a w K Q else(∀f,o.about P w a.eval=some f->(fen r).fn f)/\K (a.put o.dst undef) w
theorem zeF (h:Sim C S Fp [] st a w){dst:Option Nat}    (e:wrT C.n dst (.d (.tup [])) st=some (u,R,U)):∃Fp',Sim C S Fp' [] (zh U st) (a.put dst undef) w:=by
 rcases zcn e with⟨rfl,rfl⟩|⟨k,rfl,hk,rfl⟩
 ·exact⟨Fp,h⟩
 ·exact⟨_,h.put hk (.d (.tup [])) [] undef (by simp only[wv,and_true];exact⟨[],rfl,trivial⟩) (by simp) (by simp) (by simp) (by simp) (by simp) (by simp)⟩
theorem zcQ (hT:wy P tt)(hC:zF P ctr)(h:Sim C S Fp [] st a w)      (e:stepG tt ctr C.n ops o st=some (u,R,U)):zAx P C ops o a w (zh U st):=by
 unfold stepG at e;cases hg:o.guard with
 | none=>simp only[hg]at e;intro rd m K Q hK;simp only[Region.wanted,hg,if_true];exact zh1 hT hC h e rd m K Q hK
 | some q=>
  obtain⟨j,want⟩:=q;simp only[hg]at e;cases hd:(ops[j]?).bind (·.dst) with
  | none=>simp only[hd]at e;exact(z7 e).elim
  | some g=>
   simp only[hd]at e;obtain⟨en,R1,U1,R2,U2,h1,e1,rfl,rfl⟩:=bind_some e;obtain⟨rfl,rfl,rfl⟩:=yl h1;simp only[zh,p9]at e1 ⊢;have hent:=h.ent g;unfold wv at hent;cases ht:(st g).t with
   | d y=>
    simp only[ht]at e1 hent;cases y with
    | atom vv=>
     cases vv with
     | bool b=>
      simp only at e1;have hv:=(zD.1 hent.1).1;have hy:yielded ops a.tmps j=some b:=by
       unfold yielded;rw[hd];simp only[Option.bind_some];have:a.tmps[g]?=some (.bool b):=by
        unfold Act.tv at hv;rw[gE]at hv;cases hx:a.tmps[g]? with
        | none=>rw[hx]at hv;simp[undef]at hv
        | some u=>rw[hx]at hv;simp at hv;rw[hv]
       rw[this]
      intro rd m K Q hK;simp only[Region.wanted,hg,hy];by_cases hb:b=want
      ·rw[if_pos hb]at e1;rw[if_pos (by simp[hb])];exact zh1 hT hC h e1 rd m K Q hK
      ·rw[if_neg hb]at e1;rw[if_neg (by simpa using hb)];obtain⟨Fp',hs⟩:=zeF h e1;exact⟨λ_ _=>trivial,hK _ _ _ _ hs⟩
     | _=>exact(z7 e1).elim
    | tup fs=>
     cases fs with
     | nil=>
      simp only at e1;obtain⟨vs,hv,hvs⟩:=hent.1;have hvs0:vs=[]:=by cases vs <;> first|rfl|exact hvs.elim
      subst hvs0;have hy:yielded ops a.tmps j=none:=by
       unfold yielded;rw[hd];simp only[Option.bind_some];unfold Act.tv at hv;rw[gE]at hv;cases hx:a.tmps[g]? with
       | none=>rfl
       | some u=>rw[hx]at hv;simp at hv;rw[hv]
      intro rd m K Q hK;simp only[Region.wanted,hg,hy];rw[if_neg (by simp)];obtain⟨Fp',hs⟩:=zeF h e1;exact⟨λ_ _=>trivial,hK _ _ _ _ hs⟩
     | cons _ _=>exact(z7 e1).elim
    | _=>exact(z7 e1).elim
   | _=>simp only[ht]at e1;exact(z7 e1).elim
def runL (tt:TT)(ctr:Ctr)(n:Fr)(ops:Array Oper):List Oper->St->Option St
 | [],st=>some st
 | o::os,st=>
  match stepG tt ctr n ops o st with
  | some (_,_,U)=>runL tt ctr n ops os (zh U st)
  | none=>none
theorem zk5 {rd:Option Nat}{m:Nat}    (hT:wy P tt)(hC:zF P ctr)  {Q:Exit->Act->World->Prop}:∀(l:List Oper) {st st':St} {S:zo} {Fp:Nat->List Nat} {a:Act} {w:World},Sim C S Fp [] st a w->runL tt ctr C.n ops l st=some st' ->
  (∀S Fp a' w',Sim C S Fp [] st' a' w'->Q .normal a' w')->wpListIn (fen rd) m P ops Q l a w
 | [],st,st',S,Fp,a,w,h,e,hQ=>by simp only[runL,Option.some.injEq]at e;subst e;exact hQ _ _ _ _ h
 | o::os,st,st',S,Fp,a,w,h,e,hQ=>by
  simp only[runL]at e;cases hs:stepG tt ctr C.n ops o st with
  | none=>simp[hs]at e
  | some q=>obtain⟨u,R,U⟩:=q;simp only[hs]at e;refine wpListIn_step λK hK=>?_;exact zcQ hT hC h hs rd m K Q λS' Fp' a' w' h'=>hK _ _ (zk5 hT hC os h' e hQ)
def Loc (m:SM α):Prop:=∀st st' a R U,m st=some (a,R,U)->(∀k∈R,st' k=st k)->m st'=some (a,R,U)
theorem z7T (us:List (Nat×Ent)){st st':St}  (h:st' k=st k):zh us st' k=zh us st k:=by
 induction us generalizing st st' with
 | nil=>exact h
 | cons u us ih=>
  simp only[zh];refine ih ?_;unfold upd;split
  ·rfl
  ·exact h
theorem Loc.bind {α β:Type}{m:SM α}{f:α->SM β}(h1:Loc m)(h2:∀a,Loc (f a)):Loc (m >>= f):=by intro st st' b R U e hR;obtain⟨a,R1,U1,R2,U2,q1,q2,rfl,rfl⟩:=bind_some e;have k1:=h1 st st' a R1 U1 q1 (λk hk=>hR k (by simp[hk]));have k2:=h2 a _ (zh U1 st') b R2 U2 q2 (λk hk=>z7T U1 (hR k (by simp[hk])));show SM.bind m f st'=_;unfold SM.bind;rw[k1];simp only[k2]
theorem Loc.pure (a:α):Loc (Pure.pure a:SM α):=by intro st st' b R U e _;obtain⟨rfl,rfl,rfl⟩:=zy e;rfl
theorem Loc.fail:Loc (zu:SM α):=by intro st st' b R U e _;exact(z7 e).elim
theorem Loc.rdE (k:Nat):Loc (rdE k):=by intro st st' b R U e h;obtain⟨rfl,rfl,rfl⟩:=yl e;simp[Go.Own.rdE,h k (by simp)]
theorem Loc.wrE (k:Nat)(x:Ent):Loc (wrE k x):=by intro st st' b R U e _;obtain⟨rfl,rfl⟩:=wO e;rfl
theorem Loc.ofO (x:Option α):Loc (ofO x):=by intro st st' b R U e _;obtain⟨h,rfl,rfl⟩:=kQ e;simp[Go.Own.ofO,h]
theorem Loc.ghost {m:SM α}(h:Loc m):Loc (ghost m):=by
 intro st st' b R U e hR;unfold Go.Own.ghost at e ⊢;cases hs:m st with
 | none=>simp[hs]at e
 | some q=>obtain⟨q1,q2,q3⟩:=q;simp only[hs,Option.some.injEq,Prod.mk.injEq]at e;obtain⟨rfl,rfl,rfl⟩:=e;rw[h st st' _ _ _ hs hR]
end
theorem Loc.opnd (x:Operand):Loc (opnd x):=by
 cases x <;> simp only[Go.Own.opnd]
 ·refine Loc.bind (Loc.rdE _) λe=>?_;split <;> first|exact Loc.pure _|exact Loc.fail
 ·split <;> first|exact Loc.pure _|exact Loc.fail
 ·first|exact Loc.fail|(split <;> first|exact Loc.pure _|exact Loc.fail)
 ·exact Loc.pure _
theorem Loc.look (r:Nat)(p:List Q5)(er ec:Nat):Loc (look r p er ec):=by
 unfold Go.Own.look;refine Loc.bind (Loc.rdE _) λe=>?_;split
 ·split <;> first|exact Loc.ofO _|exact Loc.fail
 ·split <;> first|exact Loc.pure _|exact Loc.fail
 ·exact Loc.fail
theorem Loc.lookP (r:Nat)(p:List Q5)(er ec:Nat):Loc (lookP r p er ec):=by
 unfold Go.Own.lookP;refine Loc.bind (Loc.rdE _) λe=>?_;split
 ·split <;> first|exact Loc.ofO _|exact Loc.fail
 ·exact Loc.fail
theorem Loc.val (x:T):Loc (val x):=by
 unfold Go.Own.val;split
 ·exact Loc.pure _
 ·refine Loc.bind (Loc.look _ _ _ _) λy=>?_;split <;> first|exact Loc.pure _|exact Loc.fail
 ·exact Loc.fail
theorem Loc.take (x:T):Loc (take x):=by
 unfold Go.Own.take;split
 ·exact Loc.pure _
 ·refine Loc.bind (Loc.look _ _ _ _) λy=>?_;split
  ·exact Loc.pure _
  ·split
   ·refine Loc.bind (Loc.rdE _) λe=>?_;split
    ·split
     ·exact Loc.bind (Loc.wrE _ _) λ_=>Loc.pure _
     ·exact Loc.bind (Loc.wrE _ _) λ_=>Loc.pure _
    ·exact Loc.fail
   ·exact Loc.fail
 ·exact Loc.fail
theorem Loc.takeC (tt:TT)(t:Nat)(x:T):Loc (takeC tt t x):=Loc.bind (Loc.take x) λ_=>Loc.pure _
theorem Loc.wrT (n:Fr)(dst:Option Nat)(x:T):Loc (wrT n dst x):=by
 unfold Go.Own.wrT;split
 ·exact Loc.pure _
 ·split
  ·exact Loc.bind (Loc.rdE _) λ_=>Loc.wrE _ _
  ·exact Loc.fail
theorem Loc.ptrOf (x:T):Loc (ptrOf x):=by
 unfold Go.Own.ptrOf;split
 ·exact Loc.pure _
 ·exact Loc.pure _
 ·refine Loc.bind (Loc.rdE _) λe=>Loc.bind (Loc.look _ _ _ _) λy=>?_;split <;> first|exact Loc.pure _|exact Loc.fail
 ·exact Loc.fail
theorem Loc.peek (x:T):Loc (peek x):=by
 unfold Go.Own.peek;split
 ·exact Loc.pure _
 ·exact Loc.look _ _ _ _
 ·exact Loc.fail
theorem Loc.shutT (tt:TT)(t:Nat)(x:T):Loc (shutT tt t x):=by
 unfold Go.Own.shutT;split
 ·exact Loc.fail
 ·exact Loc.pure _
 ·refine Loc.bind (Loc.look _ _ _ _) λy=>?_;split
  ·exact Loc.pure _
  ·split
   ·refine Loc.bind (Loc.rdE _) λe=>?_;split
    ·split
     ·exact Loc.bind (Loc.wrE _ _) λ_=>Loc.pure _
     ·exact Loc.bind (Loc.wrE _ _) λ_=>Loc.pure _
    ·exact Loc.fail
   ·exact Loc.fail
 ·exact Loc.fail
theorem Loc.shutArgs (tt:TT):∀as_,Loc (shutArgs tt as_)
 | []=>Loc.pure _
 |(x,t)::as_=>Loc.bind (Loc.opnd x) λ_=>Loc.bind (Loc.shutT tt t _) λ_=>Loc.bind (Loc.shutArgs tt as_) λ_=>Loc.pure _
theorem Loc.takes (tt:TT):∀ps,Loc (takes ps tt)
 | []=>Loc.pure _
 |(x,t)::ps=>Loc.bind (Loc.opnd x) λ_=>Loc.bind (Loc.takeC tt t _) λ_=>Loc.bind (Loc.takes tt ps) λ_=>Loc.pure _
theorem Loc.ite {c:Prop}[Decidable c]{x y:SM α}(h1:Loc x)(h2:Loc y):Loc (if c then x else y):=by split <;> assumption
theorem Loc.loadA (tt:TT)(n:Fr)(dst:Option Nat)(t:Nat)(x:T):Loc (loadA tt n dst t x):=by
 unfold Go.Own.loadA;refine Loc.bind (Loc.ptrOf x) λq=>?_;split
 ·exact Loc.ite (Loc.wrT _ _ _) Loc.fail
 ·exact Loc.bind (Loc.lookP _ _ _ _) λy=>Loc.ite (Loc.ite (Loc.wrT _ _ _) (Loc.wrT _ _ _)) Loc.fail
theorem Loc.storeA (tt:TT)(t:Nat)(x v:T):Loc (storeA tt t x v):=by
 unfold Go.Own.storeA;refine Loc.bind (Loc.ptrOf x) λq=>?_;split
 ·exact Loc.fail
 ·refine Loc.bind (Loc.takeC _ _ _) λy=>Loc.bind (Loc.rdE _) λe=>?_;split
  ·refine Loc.ite ?_ Loc.fail;split
   ·exact Loc.ite (Loc.wrE _ _) Loc.fail
   ·exact Loc.fail
  ·exact Loc.fail
theorem Loc.fieldAddrA (tt:TT)(n:Fr)(dst:Option Nat)(t i:Nat)(x:T):Loc (fieldAddrA tt n dst t i x):=by
 unfold Go.Own.fieldAddrA;refine Loc.bind (Loc.ptrOf x) λq=>?_;split
 ·split
  ·exact Loc.ite (Loc.wrT _ _ _) Loc.fail
  ·exact Loc.fail
 ·exact Loc.fail
 ·refine Loc.bind (Loc.lookP _ _ _ _) λy=>?_;split
  ·exact Loc.ite (Loc.wrT _ _ _) Loc.fail
  ·exact Loc.fail
theorem Loc.indexAddrA (tt:TT)(n:Fr)(dst:Option Nat)(t:Nat)(x:T)(i:A):Loc (indexAddrA tt n dst t x i):=by
 unfold Go.Own.indexAddrA;split
 ·split
  ·refine Loc.ite ?_ Loc.fail;split
   ·exact Loc.wrT _ _ _
   ·exact Loc.fail
  ·refine Loc.bind (Loc.rdE _) λe=>Loc.bind (Loc.look _ _ _ _) λy=>?_;split
   ·exact Loc.ite (Loc.wrT _ _ _) Loc.fail
   ·refine Loc.ite ?_ Loc.fail;split
    ·exact Loc.wrT _ _ _
    ·exact Loc.fail
   ·exact Loc.fail
  ·exact Loc.fail
 ·exact Loc.fail
theorem Loc.indexArrA (tt:TT)(n:Fr)(dst:Option Nat)(t:Nat)(x:T)(i:A):Loc (indexArrA tt n dst t x i):=by
 unfold Go.Own.indexArrA;split
 ·refine Loc.bind (Loc.ptrOf x) λq=>?_;split
  ·split
   ·exact Loc.ite (Loc.wrT _ _ _) Loc.fail
   ·exact Loc.fail
  ·exact Loc.fail
  ·refine Loc.bind (Loc.lookP _ _ _ _) λy=>?_;split
   ·exact Loc.ite (Loc.wrT _ _ _) Loc.fail
   ·exact Loc.fail
 ·exact Loc.fail
theorem Loc.appendA (tt:TT)(n:Fr)(dst:Option Nat)(t:Nat)(s x:T):Loc (appendA tt n dst t s x):=by
  unfold Go.Own.appendA;split
  · split
    · refine Loc.bind (Loc.peek _) λy=>?_;split
      all_goals first
        | exact Loc.fail
        | (refine Loc.ite (Loc.bind (Loc.takeC _ _ _) λz=>?_) Loc.fail
           split
           · exact Loc.ite (Loc.wrT _ _ _) Loc.fail
           · exact Loc.ite (Loc.wrT _ _ _) Loc.fail
           · exact Loc.fail)
    · exact Loc.fail
  · exact Loc.fail
theorem Loc.appendOwnA (tt:TT)(n:Fr)(dst:Option Nat)(t:Nat)(s x:Operand):Loc (appendOwnA tt n dst t s x):=by
 unfold Go.Own.appendOwnA;split
 ·split
  ·refine Loc.ite ?_ Loc.fail;refine Loc.bind (Loc.opnd _) λ_=>Loc.bind (Loc.take _) λy=>Loc.bind (Loc.opnd _) λ_=>Loc.bind (Loc.takeC _ _ _) λz=>?_;split
   ·exact Loc.ite (Loc.wrT _ _ _) Loc.fail
   ·exact Loc.fail
  ·exact Loc.fail
 ·exact Loc.fail
theorem Loc.passArgs (tt:TT):∀(as_:List (Bool×Operand×Nat)),Loc (passArgs tt as_)
 | []=>Loc.pure _
 |(g,x,t)::as_=>Loc.bind (Loc.opnd x) λy=>Loc.bind (Loc.ite (Loc.takeC tt t y) (Loc.shutT tt t y)) λ_=>Loc.bind (Loc.passArgs tt as_) λ_=>Loc.pure _
theorem Loc.lendA (tt:TT)(ctr:Ctr)(n:Fr)(dst:Option Nat)(k i:Nat)(caps:List A)(ops:List (Operand×Nat)):Loc (lendA tt ctr n dst k i caps ops):=by
 unfold Go.Own.lendA;split
 ·refine Loc.bind (Loc.shutArgs tt _) λxs=>Loc.bind (Loc.shutArgs tt _) λzs=>Loc.bind (Loc.opnd _) λtx=>?_;split
  ·refine Loc.bind (Loc.look _ _ _ _) λy=>Loc.bind (Loc.rdE _) λe=>?_;split
   ·refine Loc.ite ?_ Loc.fail;split
    ·exact Loc.ite (Loc.bind (Loc.wrE _ _) λ_=>Loc.wrT _ _ _) Loc.fail
    ·exact Loc.fail
   ·exact Loc.fail
  ·exact Loc.fail
 ·exact Loc.fail
theorem Loc.callA (tt:TT)(ctr:Ctr)(n:Fr)(dst:Option Nat)(f:A)(as_:List (Operand×Nat)):Loc (callA tt ctr n dst f as_):=by
 unfold Go.Own.callA;split
 ·split
  ·exact Loc.lendA _ _ _ _ _ _ _ _
  refine Loc.ite (Loc.bind (Loc.shutArgs tt as_).ghost λxs=>?_) (Loc.ite (Loc.bind (Loc.passArgs tt _) λxs=>?_) Loc.fail)
  ·split
   ·exact Loc.ite (Loc.wrT _ _ _) (Loc.bind (Loc.shutArgs tt as_) λ_=>Loc.wrT _ _ _)
   ·exact Loc.fail
  ·split
   ·exact Loc.wrT _ _ _
   ·exact Loc.fail
 ·exact Loc.fail
theorem Loc.nilCheckO (n:Fr)(dst:Option Nat)(x:Operand):Loc (nilCheckO n dst x):=by
 unfold Go.Own.nilCheckO;refine Loc.bind (Loc.opnd _) λy=>?_;split
 ·exact Loc.wrT _ _ _
 ·refine Loc.bind (Loc.ptrOf _) λq=>?_;split
  ·exact Loc.wrT _ _ _
  ·exact Loc.bind (Loc.lookP _ _ _ _) λ_=>Loc.wrT _ _ _
theorem Loc.bound (dflt:Nat)(x:Option Operand):Loc (bound dflt x):=by
 cases x with
 | none=>exact Loc.pure _
 | some x=>
  refine Loc.bind (Loc.opnd _) λt=>Loc.bind (Loc.val _) λv=>?_;split
  ·exact Loc.ite (Loc.pure _) Loc.fail
  ·exact Loc.fail
theorem Loc.sliceO (tt:TT)(n:Fr)(dst:Option Nat)(t:Nat)(x:Operand)(lo hi mx:Option Operand):Loc (sliceO tt n dst t x lo hi mx):=by
 unfold Go.Own.sliceO;refine Loc.bind (Loc.opnd _) λy=>?_;split
 ·refine Loc.ite (Loc.bind (Loc.bound _ _) λl=>Loc.bind (Loc.bound _ _) λh=>?_) Loc.fail;split
  ·exact Loc.ite (Loc.wrT _ _ _) Loc.fail
  ·exact Loc.bind (Loc.bound _ _) λm=>Loc.ite (Loc.wrT _ _ _) Loc.fail
 ·exact Loc.fail
theorem Loc.stepO (tt:TT)(ctr:Ctr)(n:Fr)(o:Oper):Loc (stepO tt ctr n o):=by
 unfold Go.Own.stepO;split
 ·exact Loc.bind (Loc.opnd _) λ_=>Loc.wrT _ _ _
 ·unfold z6W;refine Loc.bind (Loc.opnd _) λy=>?_;split
  ·exact Loc.wrT _ _ _
  ·exact Loc.bind (Loc.takeC _ _ _) λ_=>Loc.wrT _ _ _
 ·exact Loc.bind (Loc.opnd _) λ_=>Loc.bind (Loc.val _) λ_=>Loc.bind (Loc.opnd _) λ_=>Loc.bind (Loc.val _) λ_=>Loc.bind (Loc.ofO _) λ_=>Loc.wrT _ _ _
 ·exact Loc.bind (Loc.opnd _) λ_=>Loc.bind (Loc.val _) λ_=>Loc.bind (Loc.ofO _) λ_=>Loc.wrT _ _ _
 ·unfold ziV;refine Loc.bind (Loc.opnd _) λ_=>Loc.bind (Loc.val _) λv=>?_;split
  ·split
   ·split
    ·exact Loc.wrT _ _ _
    ·exact Loc.fail
   ·exact Loc.fail
  ·exact Loc.fail
 ·unfold zge;refine Loc.bind (Loc.opnd _) λ_=>Loc.bind (Loc.val _) λv=>?_;split
  ·exact Loc.bind (Loc.opnd _) λ_=>Loc.wrT _ _ _
  ·exact Loc.bind (Loc.opnd _) λ_=>Loc.wrT _ _ _
  ·exact Loc.fail
 ·unfold z3l;refine Loc.bind (Loc.opnd _) λt=>?_;split
  ·split
   ·exact Loc.wrT _ _ _
   ·exact Loc.fail
  ·exact Loc.fail
 ·exact Loc.nilCheckO _ _ _
 ·exact Loc.sliceO _ _ _ _ _ _ _ _
 ·exact Loc.bind (Loc.opnd _) λ_=>Loc.loadA _ _ _ _ _
 ·exact Loc.ite (Loc.bind (Loc.opnd _) λ_=>Loc.bind (Loc.opnd _) λ_=>Loc.storeA _ _ _ _) Loc.fail
 ·exact Loc.bind (Loc.opnd _) λ_=>Loc.fieldAddrA _ _ _ _ _ _
 ·exact Loc.bind (Loc.opnd _) λ_=>Loc.bind (Loc.opnd _) λ_=>Loc.bind (Loc.val _) λ_=>Loc.ite (Loc.indexArrA _ _ _ _ _ _) (Loc.indexAddrA _ _ _ _ _ _)
 ·exact Loc.bind (Loc.ofO _) λ_=>Loc.bind (Loc.ofO _) λ_=>Loc.wrT _ _ _
 ·unfold ztI;refine Loc.bind (Loc.opnd _) λ_=>Loc.bind (Loc.takeC _ _ _) λz=>?_;split
  ·exact Loc.fail
  ·exact Loc.ite (Loc.wrT _ _ _) Loc.fail
 ·unfold XX;refine Loc.bind (Loc.opnd _) λ_=>Loc.bind (Loc.val _) λvl=>Loc.bind (Loc.opnd _) λ_=>Loc.bind (Loc.val _) λvc=>?_;split
  ·split
   ·split
    ·split
     ·exact Loc.ite (Loc.wrT _ _ _) Loc.fail
     ·exact Loc.fail
    ·exact Loc.fail
   ·exact Loc.fail
  ·exact Loc.fail
 ·unfold qZ;split
  ·split
   ·split
    ·exact Loc.bind (Loc.takes _ _) λ_=>Loc.ite (Loc.wrT _ _ _) Loc.fail
    ·exact Loc.fail
   ·exact Loc.fail
  ·exact Loc.fail
 ·unfold z7S;split
  ·split
   ·exact Loc.bind (Loc.takes _ _) λ_=>Loc.ite (Loc.wrT _ _ _) Loc.fail
   ·exact Loc.fail
  ·exact Loc.fail
 ·exact Loc.bind (Loc.shutArgs _ _) λ_=>Loc.ite (Loc.wrT _ _ _) Loc.fail
 ·exact Loc.bind (Loc.opnd _) λ_=>Loc.bind (Loc.peek _) λ_=>Loc.bind (Loc.ofO _) λ_=>Loc.ite (Loc.wrT _ _ _) Loc.fail
 ·exact Loc.bind (Loc.opnd _) λ_=>Loc.bind (Loc.peek _) λ_=>Loc.bind (Loc.ofO _) λ_=>Loc.ite (Loc.wrT _ _ _) Loc.fail
 ·refine Loc.ite ?_ Loc.fail;unfold z6X;refine Loc.bind (Loc.opnd _) λ_=>Loc.bind (Loc.opnd _) λ_=>Loc.bind (Loc.peek _) λy=>?_;split
  ·exact Loc.ite (Loc.appendA _ _ _ _ _ _) (Loc.appendOwnA _ _ _ _ _ _)
  ·exact Loc.appendA _ _ _ _ _ _
 ·exact Loc.ite (Loc.bind (Loc.opnd _) λ_=>Loc.bind (Loc.val _) λ_=>Loc.callA _ _ _ _ _ _) Loc.fail
 ·exact Loc.fail
theorem Loc.stepX (hC:zF P ctr)(tt:TT)(n:Fr)(o:Oper):Loc (stepX tt ctr n o):=by
 unfold Go.Own.stepX;cases hm:ctr.ext n o with
 | some m=>exact λst st' a R U=>hC.2.2.2 n o m hm st st' a R U
 | none=>exact Loc.stepO _ _ _ _
theorem Loc.stepG (hC:zF P ctr)(tt:TT)(n:Fr)(ops:Array Oper)(o:Oper):Loc (stepG tt ctr n ops o):=by
 unfold Go.Own.stepG;split
 ·exact Loc.stepX hC _ _ _
 ·split
  ·refine Loc.bind (Loc.rdE _) λe=>?_;split
   ·exact Loc.ite (Loc.stepX hC _ _ _) (Loc.wrT _ _ _)
   ·exact Loc.wrT _ _ _
   ·exact Loc.fail
  ·exact Loc.fail
abbrev Log:=List Nat×List (Nat×Ent)
def zqj (tt:TT)(ctr:Ctr)(n:Fr)(ops:Array Oper):List Oper->St->Option (List Log×St)
 | [],st=>some ([],st)
 | o::os,st=>
  match stepG tt ctr n ops o st with
  | some (_,R,U)=>
   match zqj tt ctr n ops os (zh U st) with
   | some (l,st')=>some ((R,U)::l,st')
   | none=>none
  | none=>none
def zsR (acc:List Nat)(o:Oper):Nat:=o.after.toList.foldl (λs e=>if Region.binds .any e=true then s ||| 2 ^ e.on ||| acc.getD e.on 0 else s) 0
def zfu:List Oper->List Nat->List Nat
 | [],acc=>acc
 | o::os,acc=>zfu os (acc++[zsR acc o])
def zpq (R W R' W':List Nat):Bool:=W.any (λk=>W'.contains k || R'.contains k) || R.any (λk=>W'.contains k)
def zlJ (ops:List Oper):Bool:=ops.zipIdx.all λp=>p.1.after.toList.all λe=>!Region.binds .any e || e.on<p.2
def zhB (l:Log):List Nat×List Nat:=(l.1,l.2.map (·.1))
def za8 (ops:List Oper)(logs:List (List Nat×List Nat)):Bool :=
 zlJ ops&&(List.range ops.length).all λj=>(List.range j).all λi=>!(zpq (logs.getD i ([],[])).1 (logs.getD i ([],[])).2 (logs.getD j ([],[])).1 (logs.getD j ([],[])).2) ||((zfu ops []).getD j 0).testBit i
def z6p (k:Nat)(us:List (Nat×Ent)):List (Nat×Ent):=us.filter λu=>u.1==k
theorem zas (us:List (Nat×Ent))(st:St)(k:Nat):zh us st k=zh (z6p k us) st k:=by
 induction us generalizing st with
 | nil=>rfl
 | cons u us ih=>
  simp only[zh,z6p,List.filter_cons];by_cases h:u.1=k
  ·simp only[h,beq_self_eq_true,if_true,zh];exact ih _
  ·have:(u.1==k)=false:=by simpa using h
   simp only[this,gG,if_false];rw[ih];exact z7T _ (Q6 _ _ (nX h))
theorem z47 {us vs:List (Nat×Ent)}(st:St)  (h:z6p k us=z6p k vs):zh us st k=zh vs st k:=by rw[zas us,zas vs,h]
theorem z1h (k:Nat)(us vs:List (Nat×Ent)):z6p k (us++vs)=z6p k us++z6p k vs:=by simp[z6p]
def Xe (L:Nat->Bool):Nat->List Log->List (Nat×Ent)
 | _,[]=>[]
 | i,l::ls=>(if L i then l.2 else [])++Xe L (i+1) ls
theorem z9M {L L':Nat->Bool}:∀(ls:List Log) (o:Nat),(∀j,o<=j->L j=L' j)->Xe L o ls=Xe L' o ls
 | [],_,_=>rfl
 | l::ls,o,h=>by simp only[Xe,h o (pC _),z9M ls (o+1) (λj hj=>h j (by omega))]
theorem z1D {L L':Nat->Bool}{k:Nat}:∀(ls:List Log) (o:Nat),(∀j l,ls[j]?=some l->z6p k l.2≠[]->L (o+j)=L' (o+j))->z6p k (Xe L o ls)=z6p k (Xe L' o ls)
 | [],_,_=>rfl
 | l::ls,o,h=>by
  have ih:=z1D (L:=L) (L':=L') (k:=k) ls (o+1) (λj l hj hne=>by
   have:=h (j+1) l (by simpa using hj) hne;have e:o+(j+1)=o+1+j:=by omega
   rw[e]at this;exact this)
  simp only[Xe,z1h];rw[ih];congr 1;by_cases hne:z6p k l.2=[]
  ·have h0:z6p k ([]:List (Nat×Ent))=[]:=rfl;split <;> split <;> first|rfl|rw[hne,h0]
  ·have h0:=h 0 l rfl hne;simp only[mY]at h0;rw[h0]
theorem zd3:∀(ls:List Log) (o i:Nat),Xe (λj=>decide (j<i)) o ls=((ls.take (i - o)).map (·.2)).flatten
 | [],o,i=>by simp[Xe]
 | l::ls,o,i=>by
  simp only[Xe,zd3 ls (o+1) i];by_cases h:o<i
  ·rw[show i - o=(i - (o+1))+1 from by omega];simp[h]
  ·rw[show i - o=0 from by omega,show i - (o+1)=0 from by omega];simp[h]
variable {L:Nat->Bool}
theorem zbW:∀(ls:List Log) (o:Nat),(∀j l,ls[j]?=some l->L (o+j)=true->z6p k l.2=[])->z6p k (Xe L o ls)=[]
 | [],_,_=>rfl
 | l::ls,o,h=>by
  simp only[Xe,z1h];rw[zbW ls (o+1) (λj l hj hL=>h (j+1) l (by simpa using hj) (by rwa[show o+(j+1)=o+1+j from by omega]))];split
  ·rename_i hL;rw[h 0 l rfl (by simpa using hL)];rfl
  ·rfl
theorem zeH {k i:Nat}(hi:L i=false):∀(ls:List Log) (o:Nat),o<=i->∀{li:Log},ls[i - o]?=some li ->
  (z6p k li.2=[]\/∀j l,ls[j]?=some l->i<o+j->L (o+j)=true->z6p k l.2=[]) ->
  z6p k (Xe (λj=>L j || j==i) o ls)=z6p k (Xe L o ls)++z6p k li.2
 | [],_,_,_,e,_=>by simp at e
 | l::ls,o,ho,li,e,h=>by
  simp only[Xe,z1h];by_cases hoi:o=i
  ·subst hoi;rw[nW]at e;simp only[rA,Option.some.injEq]at e;subst e;have hc:Xe (λj=>L j || j==o) (o+1) ls=Xe L (o+1) ls:=z9M ls (o+1) (λj hj=>by
    have:(j==o)=false:=by simp;omega
    simp[this])
   rw[hc];simp only[hi,nQ,beq_self_eq_true,if_true,gG,if_false];rcases h with h|h
   ·have h0:z6p k ([]:List (Nat×Ent))=[]:=rfl;rw[h,h0,hU]
   ·rw[zbW ls (o+1) (λj l hj hL=>h (j+1) l (by simpa using hj) (by omega) (by rwa[show o+(j+1)=o+1+j from by omega]))];simp[z6p]
  ·have hlt:o<i:=by omega
   rw[show i - o=(i - (o+1))+1 from by omega,rz]at e;have ih:=zeH hi ls (o+1) (by omega) e (h.imp id (λh j l hj hij hL=>h (j+1) l (by simpa using hj) (by omega) (by rwa[show o+(j+1)=o+1+j from by omega])));rw[ih,<-pL];have:(o==i)=false:=by simpa using hoi
   simp[this]
variable {n:Fr}
theorem z6J:∀{l:List Oper} {st st':St} {logs:List Log},zqj tt ctr n ops l st=some (logs,st') ->
  logs.length=l.length/\st'=zh ((logs.map (·.2)).flatten) st /\
  ∀i o,l[i]?=some o->∃li,logs[i]?=some li/\stepG tt ctr n ops o (zh (((logs.take i).map (·.2)).flatten) st)=some ((),li.1,li.2)
 | [],st,st',logs,e=>by simp only[zqj,Option.some.injEq,Prod.mk.injEq]at e;obtain⟨rfl,rfl⟩:=e;exact⟨rfl,rfl,λi o h=>by simp at h⟩
 | o::os,st,st',logs,e=>by
  simp only[zqj]at e;cases hs:stepG tt ctr n ops o st with
  | none=>simp[hs]at e
  | some q=>
   obtain⟨u,R,U⟩:=q;simp only[hs]at e;cases hl:zqj tt ctr n ops os (zh U st) with
   | none=>simp[hl]at e
   | some q=>
    obtain⟨ls,s2⟩:=q;simp only[hl,Option.some.injEq,Prod.mk.injEq]at e;obtain⟨rfl,rfl⟩:=e;obtain⟨h1,h2,h3⟩:=z6J hl;refine⟨by simp[h1],by rw[h2];simp[zB],?_⟩;intro i o' hi;cases i with
    | zero=>simp at hi;subst hi;exact⟨(R,U),rfl,by simpa[zh] using hs⟩
    | succ i=>simp at hi;obtain⟨li,q1,q2⟩:=h3 i o' hi;refine⟨li,by simpa using q1,?_⟩;simpa[zB] using q2
theorem zme {acc:List Nat}  {i:Nat}(h:(zsR acc o).testBit i=true):∃e∈o.after.toList,Region.binds .any e=true/\(e.on=i\/(acc.getD e.on 0).testBit i=true):=by
 have gen:∀(l:List Edge) (s:Nat),(l.foldl (λs e=>if Region.binds .any e=true then s ||| 2 ^ e.on ||| acc.getD e.on 0 else s) s).testBit i=true->s.testBit i=true\/∃e∈l,Region.binds .any e=true/\(e.on=i\/(acc.getD e.on 0).testBit i=true):=by
  intro l;induction l with
  | nil=>intro s h;exact .inl h
  | cons e l ih=>
   intro s h;simp only[rc]at h;rcases ih _ h with h|⟨e',h1,h2⟩
   ·split at h
    ·rename_i hb;rw[Nat.testBit_or,Nat.testBit_or,Nat.testBit_two_pow]at h;simp only[mI,decide_eq_true_eq]at h;rcases h with(h|h)|h
     ·exact .inl h
     ·exact .inr ⟨e,by simp,hb,.inl h⟩
     ·exact .inr ⟨e,by simp,hb,.inr h⟩
    ·exact .inl h
   ·exact .inr ⟨e',by simp[h1],h2⟩
 rcases gen _ 0 h with h|h
 ·simp at h
 ·exact h
theorem z4z {ops:List Oper}  (hcl:∀j o,ops[j]?=some o->L j=true->∀e∈o.after.toList,Region.binds .any e=true->L e.on=true) :
  ∀(l:List Oper) (acc:List Nat) (done:List Oper),ops=done++l->acc.length=done.length ->
   (∀j i,(acc.getD j 0).testBit i=true->L j=true->L i=true)->∀j i,((zfu l acc).getD j 0).testBit i=true->L j=true->L i=true
 | [],acc,done,_,_,h=>by simpa[zfu] using h
 | o::os,acc,done,e,hl,h=>by
  simp only[zfu];refine z4z hcl os (acc++[zsR acc o]) (done++[o]) (by simp[e]) (by simp[hl]) ?_;intro j i hb hL;rw[rS]at hb;by_cases hj:j<acc.length
  ·rw[pG hj,<-rS]at hb;exact h j i hb hL
  ·by_cases hj2:j=acc.length
   ·subst hj2;rw[pF (by omega)]at hb;simp only[nW,rA,gA]at hb;obtain⟨ed,h1,h2,h3⟩:=zme hb;have hLe:=hcl acc.length o (by rw[e,hl,pF (by omega)];simp) hL ed h1 h2;rcases h3 with h3|h3
    ·rw[<-h3];exact hLe
    ·exact h _ _ h3 hLe
   ·rw[pQ (by simp;omega)]at hb;simp at hb
theorem z4v {R W R' W':List Nat}(h:zpq R W R' W'=false):(∀k∈W,k∉W'/\k∉R')/\∀k∈R,k∉W':=by
 unfold zpq at h;rw[Bool.or_eq_false_iff]at h;obtain⟨h1,h2⟩:=h;rw[List.any_eq_false]at h1 h2;refine⟨λk hk=>?_,λk hk=>?_⟩
 ·have:=h1 k hk;simp only[mI,nU,not_or]at this;exact this
 ·have:=h2 k hk;simpa using this
theorem zgB {us:List (Nat×Ent)}(h:z6p k us≠[]):k∈us.map (·.1):=by
 cases hf:z6p k us with
 | nil=>exact absurd hf h
 | cons u l=>
  have hm:u∈z6p k us:=by rw[hf];simp
  unfold z6p at hm;rw[mE]at hm;have:u.1=k:=by simpa using hm.2
  exact pW.2 ⟨u,hm.1,this⟩
section
variable {C:Ctx}
def zl7 (n:Nat)(listed:Array Bool):Nat:=((List.range n).filter λi=>!listed.getD i true).length
theorem zeZ {n:Nat}{listed:Array Bool}{i:Nat}(hi:i<n)(hl:listed.getD i true=false):zl7 n (listed.setIfInBounds i true)<zl7 n listed:=by
 unfold zl7;have hsize:i<listed.size:=by
  rcases pH i listed.size with h|h
  ·exact h
  ·simp[gE,r9 h]at hl
 have hget:∀j,(listed.setIfInBounds i true).getD j true=if j=i then true else listed.getD j true:=by
  intro j;simp only[gE,r7];by_cases h:i=j
  ·subst h;simp[hsize]
  ·simp[h,nX h]
 have h1:((List.range n).filter λj=>!(listed.setIfInBounds i true).getD j true)=((List.range n).filter λj=>!listed.getD j true).filter (λj=>j != i):=by
  rw[List.filter_filter];congr 1;funext j;rw[hget];by_cases h:j=i
  ·simp[h]
  ·simp[h]
 rw[h1];have hm:i∈(List.range n).filter λj=>!listed.getD j true:=by rw[mE];exact⟨gU.2 hi,by simp[hl]⟩
 have:=List.length_filter_lt_length_iff_exists (p:=λj=>j != i) (l:=(List.range n).filter λj=>!listed.getD j true);exact this.2 ⟨i,hm,by simp⟩
theorem zsB {rd:Option Nat}{m:Nat}    (hT:wy P tt)(hC:zF P ctr){ops:Array Oper}{Q:Exit->Act->World->Prop}{st0 st':St}{logs:List Log}(hlog:zqj tt ctr C.n ops ops.toList st0=some (logs,st'))
  (hok:za8 ops.toList (logs.map zhB)=true) (hQ:∀S Fp a' w',Sim C S Fp [] st' a' w'->Q .normal a' w') :
  ∀(z1O:Nat) (listed:Array Bool) (a:Act) (w:World),zl7 ops.size listed<=z1O ->
   (∀j o,ops[j]?=some o->listed.getD j true=true->∀e∈o.after.toList,Region.binds .any e=true->listed.getD e.on true=true) ->
   (∃S Fp,Sim C S Fp [] (zh (Xe (λj=>listed.getD j true) 0 logs) st0) a w)->wpAnyIn (fen rd) m P .any ops Q z1O listed a w:=by
 obtain⟨hlen,hst',hsteps⟩:=z6J hlog;unfold za8 at hok;rw[pJ]at hok;obtain⟨hedges,hpairs⟩:=hok;have hpair:∀i j li lj,i<j->logs[i]?=some li->logs[j]?=some lj->zpq li.1 (li.2.map (·.1)) lj.1 (lj.2.map (·.1))=false\/((zfu ops.toList []).getD j 0).testBit i=true:=by
  intro i j li lj hij h1 h2;have hj:j<ops.toList.length:=by rw[<-hlen];exact(p8.1 h2).1
  have:=gJ.1 (gJ.1 hpairs j (gU.2 hj)) i (gU.2 hij);simp only[rS,gT,h1,h2,gH,gA,zhB,mI,rH]at this;exact this
 have hedge:∀j o,ops.toList[j]?=some o->∀e∈o.after.toList,Region.binds .any e=true->e.on<j:=by intro j o hj e he hb;unfold zlJ at hedges;have:=gJ.1 (gJ.1 hedges (o,j) (by rw[List.mem_zipIdx_iff_getElem?];exact hj)) e he;simpa[hb] using this
 have hall:∀(listed:Array Bool) (a:Act) (w:World),(∀j,j<ops.size->listed.getD j true=true)->(∃S Fp,Sim C S Fp [] (zh (Xe (λj=>listed.getD j true) 0 logs) st0) a w)->Q .normal a w:=by
  intro listed a w hl hS;obtain⟨S,Fp,hS⟩:=hS;have:zh (Xe (λj=>listed.getD j true) 0 logs) st0=st':=by
   rw[hst'];have h1:Xe (λj=>listed.getD j true) 0 logs=Xe (λj=>decide (j<logs.length)) 0 logs:=by
    have gen:∀(ls:List Log) (o:Nat),(∀j,j<ls.length->listed.getD (o+j) true=true)->(∀j,j<ls.length->o+j<logs.length)->Xe (λj=>listed.getD j true) o ls=Xe (λj=>decide (j<logs.length)) o ls:=by
     intro ls;induction ls with
     | nil=>intro o _ _;rfl
     | cons l ls ih=>intro o h1 h2;have a1:=h1 0 (by simp);have a2:=h2 0 (by simp);simp only[mY]at a1 a2;simp only[Xe,a1,a2,decide_true,if_true];rw[ih (o+1) (λj hj=>by have:=h1 (j+1) (by simpa using hj);rwa[show o+1+j=o+(j+1) from by omega]) (λj hj=>by have:=h2 (j+1) (by simpa using hj);omega)]
    refine gen logs 0 (λj hj=>?_) (λj hj=>by omega);rw[gN];exact hl j (by rw[<-rU,<-hlen];exact hj)
   rw[h1,zd3];simp
  rw[this]at hS;exact hQ _ _ _ _ hS
 have hready_none:∀(listed:Array Bool),Region.ready .any ops listed=[]->∀j,j<ops.size->listed.getD j true=true:=by
  intro listed hr j;induction j using Nat.strongRecOn with
  | _ j ih=>
   intro hj;cases hl:listed.getD j true with
   | true=>rfl
   | false=>
    exfalso;have:j∈Region.ready .any ops listed:=by
     unfold Region.ready;rw[mE];refine⟨gU.2 hj,?_⟩;rw[hl];simp only[mM,rD,gS hj,gH,gA,Array.all_eq_true_iff_forall_mem];intro e he;by_cases hb:Region.binds .any e=true
     ·have hlt:=hedge j ops[j] (by simp[hj]) e (by simpa using he) hb;have:=ih e.on hlt (by omega);rw[gE]at this ⊢;have hsz:e.on<listed.size:=by
       rcases pH e.on listed.size with h|h
       ·exact h
       ·exfalso;have hjs:j<listed.size:=by
         rcases pH j listed.size with h'|h'
         ·exact h'
         ·simp[gE,r9 h']at hl
        omega
      rw[gS hsz]at this ⊢;simp only[gA]at this ⊢;simp[this]
     ·simp[hb]
    rw[hr]at this;cases this
 intro z1O;induction z1O with
 | zero=>
  intro listed a w hfuel hcl hS;have hl:∀j,j<ops.size->listed.getD j true=true:=by
   intro j hj;cases hx:listed.getD j true with
   | true=>rfl
   | false=>have:=zeZ hj hx;omega
  refine⟨?_,hall listed a w hl hS⟩;unfold Region.ready;rw[List.filter_eq_nil_iff];intro j hj;rw[hl j (gU.1 hj)];simp
 | succ z1O ih=>
  intro listed a w hfuel hcl hS;refine⟨λhr=>hall listed a w (hready_none listed hr) hS,?_⟩;intro i hi;unfold Region.ready at hi;rw[mE]at hi;obtain⟨hi1,hi2⟩:=hi;have hin:i<ops.size:=gU.1 hi1;simp only[pJ,rH,gS hin,gH,gA,Array.all_eq_true_iff_forall_mem]at hi2;obtain⟨hil,hdeps⟩:=hi2;have hoi:ops.toList[i]?=some ops[i]:=by simp[hin]
  obtain⟨li,hli,hstep⟩:=hsteps i ops[i] hoi;have hsz:i<listed.size:=by
   rcases pH i listed.size with h|h
   ·exact h
   ·simp[gE,r9 h]at hil
  have hdep:∀e∈ops[i].after.toList,Region.binds .any e=true->listed.getD e.on true=true:=by
   intro e he hb;have:=hdeps e (by simpa using he);simp only[hb,gP,nQ]at this;rw[gE]at this ⊢;cases hx:listed[e.on]? with
   | none=>rfl
   | some b=>simpa[hx] using this
  have hanc:∀j k,((zfu ops.toList []).getD j 0).testBit k=true->listed.getD j true=true->listed.getD k true=true :=
   z4z (L:=λj=>listed.getD j true) (ops:=ops.toList) (λj o hj hL e he hb=>hcl j o (by simpa using hj) hL e he hb) ops.toList [] [] (by simp) rfl (by simp)
  have hanci:∀k,((zfu ops.toList []).getD i 0).testBit k=true->k≠i->listed.getD k true=true:=by
   intro k hk hki;have:=z4z (L:=λj=>listed.getD j true || j==i) (ops:=ops.toList) (λj o hj hL e he hb=>by
    simp only[mI,beq_iff_eq]at hL ⊢;rcases hL with hL|rfl
    ·exact .inl (hcl j o (by simpa using hj) hL e he hb)
    ·rw[hoi]at hj;simp only[Option.some.injEq]at hj;subst hj;exact .inl (hdep e he hb)) ops.toList [] [] (by simp) rfl (by simp) i k hk (by simp)
   simpa[hki] using this
  have hreads:∀k∈li.1,zh (Xe (λj=>listed.getD j true) 0 logs) st0 k=zh (((logs.take i).map (·.2)).flatten) st0 k:=by
   intro k hk;rw[show((logs.take i).map (·.2)).flatten=Xe (λj=>decide (j<i)) 0 logs from by rw[zd3];simp];refine z47 st0 (z1D logs 0 ?_);intro j lj hj hne;rw[gN];have hkj:=zgB hne;rcases nD j i with hlt|rfl|hgt
   ·have:listed.getD j true=true:=by
     rcases hpair j i lj li hlt hj hli with hc|hb
     ·exact absurd hk ((z4v hc).1 k hkj).2
     ·exact hanci j hb (by omega)
    simp[hlt,this]
   ·simp[hil]
   ·have:listed.getD j true=false:=by
     cases hx:listed.getD j true with
     | false=>rfl
     | true=>
      rcases hpair i j li lj hgt hli hj with hc|hb
      ·exact absurd hkj ((z4v hc).2 k hk)
      ·have:=hanc j i hb hx;rw[hil]at this;cases this
    rw[this];simp;omega
  have hstepL:=Loc.stepG hC tt C.n ops ops[i] _ _ _ _ _ hstep hreads;have hget:∀j,(listed.setIfInBounds i true).getD j true=(listed.getD j true || j==i):=by
   intro j;simp only[gE,r7];by_cases h:i=j
   ·subst h;simp[hsz]
   ·have:(j==i)=false:=by simp;exact nX h
    simp[h,this]
  have hnext:zh li.2 (zh (Xe (λj=>listed.getD j true) 0 logs) st0)=zh (Xe (λj=>(listed.setIfInBounds i true).getD j true) 0 logs) st0:=by
   rw[<-zB];funext k;refine z47 st0 ?_;rw[show(λj=>(listed.setIfInBounds i true).getD j true)=λj=>(λj=>listed.getD j true) j || j==i from funext hget,z1h];refine(zeH (L:=λj=>listed.getD j true) hil logs 0 (pT _) (li:=li) (by simpa using hli) ?_).symm;by_cases hke:z6p k li.2=[]
   ·exact .inl hke
   ·right;intro j lj hj hij hL;rw[gN]at hij hL;have hki:=zgB hke;rcases hpair i j li lj hij hli hj with hc|hb
    ·have:=((z4v hc).1 k hki).1;cases hf:z6p k lj.2 with
     | nil=>rfl
     | cons u us=>exact absurd (zgB (by rw[hf];simp)) this
    ·have:=hanc j i hb hL;rw[hil]at this;cases this
  obtain⟨S,Fp,hS⟩:=hS;have hgood:=zcQ hT hC hS hstepL rd m (wpAnyIn (fen rd) m P .any ops Q z1O (listed.setIfInBounds i true)) Q (λS' Fp' a' w' h'=>by
   refine ih _ a' w' (by have:=zeZ hin hil;omega) ?_ ⟨S',Fp',by rw[<-hnext];exact h'⟩;intro j o hj hL e he hb;rw[hget]at hL ⊢;simp only[mI,beq_iff_eq]at hL ⊢;rcases hL with hL|rfl
   ·exact .inl (hcl j o hj hL e he hb)
   ·rw[gS hin]at hj;simp only[Option.some.injEq]at hj;subst hj;exact .inl (hdep e he hb))
  unfold wpOpIn;rw[gS hin];exact hgood
end
def zfa:Ent:=⟨.gone,0,0⟩
def ofL:List (Nat×T)->St
 | [],_=>zfa
 | p::L,t=>if t=p.1 then⟨p.2,0,0⟩ else ofL L t
theorem zoo (k:Nat)(x:T)(L:List (Nat×T)):ofL ((k,x)::L) k=⟨x,0,0⟩:=by simp[ofL]
theorem zvo {k t:Nat}(x:T)(L:List (Nat×T))(h:t≠k):ofL ((k,x)::L) t=ofL L t:=by simp[ofL,h]
def zj9 (live:List Nat)(st:St)(k:Nat):T :=
 match (st k).t with
 | .d a=>.d a
 | .own a=>.own a
 | .als r p er ec=>if er=(st r).er/\ec=(st r).ec/\r∈live then .als r p 0 0 else .gone
 | .ptr r p er ec=>if er=(st r).er/\ec=(st r).ec/\r∈live then .ptr r p 0 0 else .gone
 | .gone=>.gone
def canon (live:List Nat)(st:St):St:=ofL (live.map λk=>(k,zj9 live st k))
theorem zkD (f:Nat->T):∀(l:List Nat) (t:Nat),ofL (l.map λk=>(k,f k)) t=if t∈l then⟨f t,0,0⟩ else zfa
 | [],t=>by simp[ofL]
 | k::l,t=>by
  simp only[gM,ofL,zkD f l t];by_cases h:t=k
  ·simp[h]
  ·simp[h]
theorem Qv (live:List Nat)(st:St)(t:Nat):canon live st t=if t∈live then⟨zj9 live st t,0,0⟩ else zfa:=zkD _ live t
section
variable {C:Ctx}{S:zo}{Fp:Nat->List Nat}{X:List Nat}{st:St}{a:Act}{w:World}
theorem Sim.canonF (h:Sim C S Fp [] st a w)(live:List Nat):∃Fp',Sim C S Fp' [] (canon live st) a w/\∀t k,k∈Fp' t->k∈Fp t:=by
 refine⟨λt=>if t∈live then(match (st t).t with|.own _=>Fp t|_=>[]) else [],?_,?_⟩
 rotate_left
 ·intro t k hk;dsimp only at hk;split at hk
  ·split at hk
   ·exact hk
   ·simp at hk
  ·simp at hk
 refine { size:=h.size,pin:=h.pin,defers:=h.defers,below:=h.below,mine:=h.mine,still:=h.still,sinc:=h.sinc,sbase:=h.sbase,ent:=?_,disj:=?_,base:=?_,xn:=by simp,xd:=by simp,xb:=by simp }
 ·intro t;rw[Qv];by_cases ht:t∈live
  ·simp only[ht,if_true];have q:=h.ent t;unfold wv zj9 at *;cases htt:(st t).t with
   | gone=>rfl
   | d x=>simp only[htt]at q ⊢;exact⟨q.1,trivial⟩
   | own x=>simp only[htt]at q ⊢;exact q
   | als r p er ec=>
    simp only[htt]at q ⊢;by_cases hc:er=(st r).er/\ec=(st r).ec/\r∈live
    ·simp only[if_pos hc];obtain⟨h1,h2,h3⟩:=hc;refine⟨trivial,?_⟩;obtain⟨q1,q2,q3⟩:=q.2;unfold XJ;rw[Qv];simp only[h3,if_true];refine⟨pC _,pC _,?_⟩;unfold zj9;cases hr:(st r).t with
     | own x=>simp only[hr]at q3 ⊢;exact λ_ _=>q3 h1.symm (.inr h2.symm)
     | d x=>simp only[hr]at q3 ⊢;exact λ_ hp=>q3 h1.symm hp
     | gone=>trivial
     | als u _ e1 e2=>
      by_cases hd:e1=(st u).er/\e2=(st u).ec/\u∈live
      ·simp only[if_pos hd]
      ·simp only[if_neg hd]
     | ptr u _ e1 e2=>
      by_cases hd:e1=(st u).er/\e2=(st u).ec/\u∈live
      ·simp only[if_pos hd]
      ·simp only[if_neg hd]
    ·simp only[if_neg hc]
   | ptr r p er ec=>
    simp only[htt]at q ⊢;by_cases hc:er=(st r).er/\ec=(st r).ec/\r∈live
    ·simp only[if_pos hc];obtain⟨h1,h2,h3⟩:=hc;refine⟨trivial,?_⟩;obtain⟨q1,q2,q3⟩:=q.2;unfold Xj;rw[Qv];simp only[h3,if_true];refine⟨pC _,pC _,?_⟩;unfold zj9;cases hr:(st r).t with
     | own x=>simp only[hr]at q3 ⊢;exact λ_ _=>q3 h1.symm h2.symm
     | d x=>trivial
     | gone=>trivial
     | als u _ e1 e2=>
      by_cases hd:e1=(st u).er/\e2=(st u).ec/\u∈live
      ·simp only[if_pos hd]
      ·simp only[if_neg hd]
     | ptr u _ e1 e2=>
      by_cases hd:e1=(st u).er/\e2=(st u).ec/\u∈live
      ·simp only[if_pos hd]
      ·simp only[if_neg hd]
    ·simp only[if_neg hc]
  ·simp only[ht,if_false];rfl
 ·intro t u k ht hu;split at ht
  ·split at hu
   ·split at ht
    ·split at hu
     ·exact h.disj t u k ht hu
     ·simp at hu
    ·simp at ht
   ·simp at hu
  ·simp at ht
 ·intro t k ht;split at ht
  ·split at ht
   ·exact h.base t k ht
   ·simp at ht
  ·simp at ht
theorem Sim.canon (h:Sim C S Fp [] st a w)(live:List Nat):∃Fp',Sim C S Fp' [] (canon live st) a w :=
 let ⟨Fp',h1,_⟩:=h.canonF live;⟨Fp',h1⟩
end
structure zbI (C:Ctx)(rd:Option Nat):Prop where
 nodup:C.df.Nodup
 df:∀D∈C.df,¬C.M D/\C.w0.heap[D]?=some (.deferred (some []))
 rd:∀L,rd=some L->¬C.M L/\∃q,C.w0.heap[L]?=some (.loop q)
structure Q8 (df:List Nat)(M:Nat->Prop)(df':List Nat)(Fp:Nat->List Nat)(w:World):Prop where
 nodup:df'.Nodup
 ent:∀D∈df',w.heap[D]?=some (.deferred (some []))
 off:∀D∈df',∀t,D∉Fp t
 old:∀D∈df',D∈df\/M D
def zmy (n:Fr)(df:List Nat)(w0:World)(S0:zo)(M:Nat->Prop)(Q:Exit->St->Prop)(ex:Exit)(a:Act)(w:World):Prop :=
 ∃df' st S Fp,Sim ⟨n,df',w0,S0,M⟩ S Fp [] st a w/\Q8 df M df' Fp w/\Q ex st
def AWP (P:Program)(n:Fr)(c:Code)(st:St)(Q:Exit->St->Prop):Prop :=
 ∀(rd:Option Nat) (m:Nat) (df:List Nat) (w0:World) (S0:zo) (M:Nat->Prop) S Fp a w,zbI ⟨n,df,w0,S0,M⟩ rd->Sim ⟨n,df,w0,S0,M⟩ S Fp [] st a w ->
  c.wpIn (fen rd) m P (zmy n df w0 S0 M Q) a w
variable {Q:Exit->St->Prop}{C:Ctx}{X:List Nat}{ex:Exit}
section
variable {n:Fr}{df df' df2:List Nat}{w0:World}{S0:zo}{M:Nat->Prop}{S S2:zo}{Fp Fp2:Nat->List Nat}{st st2:St}{a a2:Act}{w w2:World}{rd:Option Nat}
theorem zbI.post (h:zbI ⟨n,df,w0,S0,M⟩ rd)(hs:Sim ⟨n,df,w0,S0,M⟩ S Fp [] st a w):Q8 df M df Fp w :=
 ⟨h.nodup,λD hD=>(hs.below.block D (h.df D hD).1).trans (h.df D hD).2,λD hD t ht=>(h.df D hD).1 (hs.base t D ht),λ_ hD=>.inl hD⟩
theorem zbI.fin (h:zbI ⟨n,df,w0,S0,M⟩ rd)(hs:Sim ⟨n,df,w0,S0,M⟩ S Fp [] st a w)(hq:Q ex st):zmy n df w0 S0 M Q ex a w :=
 ⟨df,st,S,Fp,hs,h.post hs,hq⟩
def zbX (Fp:Nat->List Nat)(w:World):Nat->Prop:=λk=>w.heap.size<=k\/∃t,k∈Fp t
theorem z3h (hs:Sim ⟨n,df',w0,S0,M⟩ S Fp [] st a w):∀k,zbX Fp w k->M k
 | _,.inl hk=>hs.mine _ (pE hs.below.size hk)
 | k,.inr ⟨t,hk⟩=>hs.base t k hk
theorem Sim.ownM_far (h:Sim C S Fp X st a w):∀g x,zp6 g=some x->¬zbX Fp w g:=by
 rintro g x e (hk|⟨t,hk⟩)
 ·have:=h.still.blk.lt e;omega
 ·exact h.still.blk.ne ((h.free t g hk).2.1 0) x e
theorem Sim.rebase (hs:Sim ⟨n,df',w0,S0,M⟩ S Fp [] st a w):Sim ⟨n,df',w,S,zbX Fp w⟩ S Fp [] st a w:={
 size:=hs.size
 pin:=hs.pin
 defers:=hs.defers
 below:=UQ.refl _ _
 mine:=⟨λ_ hk=>.inl hk,hs.ownM_far⟩
 still:=hs.still
 sinc:=λ_ _ _ q=>q
 sbase:=λ_ _ _=>rfl
 ent:=hs.ent
 disj:=hs.disj
 base:=λt _ hk=>.inr ⟨t,hk⟩
 xn:=by simp
 xd:=by simp
 xb:=by simp }
theorem zbI.rebase (h:zbI ⟨n,df,w0,S0,M⟩ rd)(hs:Sim ⟨n,df',w0,S0,M⟩ S Fp [] st a w)(hd:Q8 df M df' Fp w):zbI ⟨n,df',w,S,zbX Fp w⟩ rd:={
 nodup:=hd.nodup
 df:=λD hD=>⟨by
  rintro(hk|⟨t,hk⟩)
  ·have:=(pK.1 (hd.ent D hD)).1;omega
  ·exact hd.off D hD t hk,hd.ent D hD⟩
 rd:=λL hL=>by
  obtain⟨h1,q,h2⟩:=h.rd L hL;refine⟨?_,q,(hs.below.block L h1).trans h2⟩;rintro(hk|⟨t,hk⟩)
  ·have q1:L<w0.heap.size:=(pK.1 h2).1;have q2:w0.heap.size<=w.heap.size:=hs.below.size;omega
  ·exact h1 (hs.base t L hk) }
theorem Sim.unbase (hs:Sim ⟨n,df',w0,S0,M⟩ S Fp [] st a w)(h2:Sim ⟨n,df2,w,S,zbX Fp w⟩ S2 Fp2 [] st2 a2 w2):Sim ⟨n,df2,w0,S0,M⟩ S2 Fp2 [] st2 a2 w2:={
 size:=h2.size
 pin:=h2.pin
 defers:=h2.defers
 below:=hs.below.trans (h2.below.mono (z3h hs))
 mine:=hs.mine
 still:=h2.still
 sinc:=λb o v q=>h2.sinc _ _ _ (hs.sinc _ _ _ q)
 sbase:=λb o hb=>(h2.sbase b o (λhk=>hb (z3h hs b hk))).trans (hs.sbase b o hb)
 ent:=h2.ent
 disj:=h2.disj
 base:=λt k hk=>z3h hs k (h2.base t k hk)
 xn:=by simp
 xd:=by simp
 xb:=by simp }
theorem Q8.trans (hs:Sim ⟨n,df',w0,S0,M⟩ S Fp [] st a w)(hd:Q8 df M df' Fp w)(h2:Q8 df' (zbX Fp w) df2 Fp2 w2):Q8 df M df2 Fp2 w2 :=
 ⟨h2.nodup,h2.ent,h2.off,λD hD=>(h2.old D hD).elim (hd.old D) λhk=>.inr (z3h hs D hk)⟩
theorem zmy.trans (hs:Sim ⟨n,df',w0,S0,M⟩ S Fp [] st a w)(hd:Q8 df M df' Fp w)(h:zmy n df' w S (zbX Fp w) Q ex a2 w2):zmy n df w0 S0 M Q ex a2 w2:=by obtain⟨df2,st2,S2,Fp2,h1,h2,h3⟩:=h;exact⟨df2,st2,S2,Fp2,hs.unbase h1,hd.trans hs h2,h3⟩
theorem zmy.next {Q Q':Exit->St->Prop}{ex ex':Exit}(h:zmy n df w0 S0 M Q ex a w)(hq:∀st,Q ex st->Q' ex' st):zmy n df w0 S0 M Q' ex' a w:=by obtain⟨df',st,S,Fp,h1,h2,h3⟩:=h;exact⟨df',st,S,Fp,h1,h2,hq _ h3⟩
end
def zbl (next:St->Prop)(Q:Exit->St->Prop):Exit->St->Prop
 | .normal,st=>next st
 | e,st=>Q e st
def z1I (id:Nat)(Q:Exit->St->Prop):Exit->St->Prop
 | .exit id',st=>if id'=id then Q .normal st else Q (.exit id') st
 | e,st=>Q e st
variable {M:Nat->Prop}{x y:Code}{c:Operand}{w0:World}{id:Nat}{df df':List Nat}{S0:zo}{K:St->Prop}
section
variable {P:Program}{n:Fr}{st:St}{Q:Exit->St->Prop}
theorem AWP.mono {c:Code}{Q':Exit->St->Prop}(h:AWP P n c st Q)(hq:∀e st,Q e st->Q' e st):AWP P n c st Q' :=
 λrd m df w0 S0 M S Fp a w hc hs=>wpIn_mono (h rd m df w0 S0 M S Fp a w hc hs) λ_ _ _ hp=>hp.next (hq _)
theorem AWP.go {c:Code}{df df':List Nat}{w0:World}{S0:zo}{M:Nat->Prop}{S:zo}{Fp:Nat->List Nat}{a:Act}{w:World}{rd:Option Nat}{m:Nat}(h:AWP P n c st Q)
  (hc:zbI ⟨n,df,w0,S0,M⟩ rd) (hs:Sim ⟨n,df',w0,S0,M⟩ S Fp [] st a w) (hd:Q8 df M df' Fp w):c.wpIn (fen rd) m P (zmy n df w0 S0 M Q) a w :=
 wpIn_mono (h rd m df' w S (zbX Fp w) S Fp a w (hc.rebase hs hd) hs.rebase) λ_ _ _ hp=>hp.trans hs hd
theorem AWP.seq (h:AWP P n x st (zbl (λst'=>AWP P n y st' Q) Q)):AWP P n (.seq x y) st Q:=by
 intro rd m df w0 S0 M S Fp a w hc hs;refine wpIn_seq (wpIn_mono (h rd m df w0 S0 M S Fp a w hc hs) ?_);intro e a' w' hp;cases e with
 | normal=>obtain⟨df',st',S',Fp',h1,h2,h3⟩:=hp;exact AWP.go h3 hc h1 h2
 | _=>exact hp.next λ_ q=>q
theorem AWP.skip (h:Q .normal st):AWP P n .skip st Q:=λ_ _ _ _ _ _ _ _ _ _ hc hs=>wpIn_skip (hc.fin hs h)
theorem AWP.exit (h:Q (.exit id) st):AWP P n (.exit id) st Q:=λ_ _ _ _ _ _ _ _ _ _ hc hs=>wpIn_exit (hc.fin hs h)
theorem AWP.ret (h:Q .ret st):AWP P n .ret st Q:=λ_ _ _ _ _ _ _ _ _ _ hc hs=>wpIn_ret (hc.fin hs h)
theorem AWP.block {c:Code}(h:AWP P n c st (z1I id Q)):AWP P n (.block id c) st Q:=by
 intro rd m df w0 S0 M S Fp a w hc hs;refine wpIn_block (wpIn_mono (h rd m df w0 S0 M S Fp a w hc hs) ?_);intro e a' w' hp;cases e with
 | exit id'=>
  simp only[Exit.inBlock];split
  ·exact hp.next λ_ q=>by simpa only[z1I,if_pos ‹id'=id›] using q
  ·exact hp.next λ_ q=>by simpa only[z1I,if_neg ‹¬id'=id›] using q
 | _=>exact hp.next λ_ q=>q
def zfj (st:St):Operand->Option Bool
 | .tmp t=>match (st t).t with|.d (.atom (.bool b))=>some b|_=>none
 | .const (.bool b)=>some b
 | _=>none
theorem zpp (h:Sim C S Fp X st a w)  {b:Bool}(e:zfj st c=some b):a.eval c=.bool b:=by
 unfold zfj at e;split at e
 ·rename_i t;split at e
  ·rename_i b' ht;simp only[Option.some.injEq]at e;subst e;have:=h.ent t;unfold wv at this;simp only[ht]at this;exact(zD.1 this.1).1
  ·cases e
 ·simp only[Option.some.injEq]at e;subst e;rfl
 ·cases e
theorem AWP.cond {b:Bool}(hb:zfj st c=some b)(h1:b=true->AWP P n x st Q)(h2:b=false->AWP P n y st Q):AWP P n (.cond c x y) st Q:=by
 intro rd m df w0 S0 M S Fp a w hc hs;refine wpIn_cond (zpp hs hb) ?_;cases b
 ·exact h2 rfl rd m df w0 S0 M S Fp a w hc hs
 ·exact h1 rfl rd m df w0 S0 M S Fp a w hc hs
theorem AWP.canon (live:List Nat){c:Code}(h:AWP P n c (canon live st) Q):AWP P n c st Q:=by intro rd m df w0 S0 M S Fp a w hc hs;obtain⟨Fp',hs'⟩:=hs.canon live;exact h rd m df w0 S0 M S Fp' a w hc hs'
theorem Sim.canonD (h:Sim ⟨n,df',w0,S0,M⟩ S Fp [] st a w)(hd:Q8 df M df' Fp w)(live:List Nat) :
  ∃Fp',Sim ⟨n,df',w0,S0,M⟩ S Fp' [] (Own.canon live st) a w/\Q8 df M df' Fp' w:=by
 obtain⟨Fp',h1,h2⟩:=h.canonF live;exact⟨Fp',h1,hd.nodup,hd.ent,λD hD t ht=>hd.off D hD t (h2 t D ht),hd.old⟩
theorem AWP.loop {c:Code}(live:List Nat)(I:Nat->St->Prop)(n0:Nat)(h0:I n0 (Own.canon live st))
  (round:∀k st,I k st->AWP P n c st (zbl (λst'=>∃k',k' < k/\I k' (Own.canon live st')) Q)):AWP P n (.loop c) st Q:=by
 intro rd m df w0 S0 M S Fp a w hc hs;obtain⟨Fp0,hs0,hd0⟩:=hs.canonD (hc.post hs) live;refine wpIn_loop_ghost (λk a w=>∃df' st S Fp,Sim ⟨n,df',w0,S0,M⟩ S Fp [] st a w/\Q8 df M df' Fp w/\I k st) n0 ⟨df,_,S,Fp0,hs0,hd0,h0⟩ ?_;rintro k a w ⟨df1,st1,S1,Fp1,hs1,hd1,h1⟩;refine wpIn_mono (AWP.go (round k st1 h1) hc hs1 hd1) ?_;intro e a' w' hp;cases e with
 | normal=>obtain⟨df',st',S',Fp',q1,q2,k',hk,hI⟩:=hp;obtain⟨Fp2,hs2,hd2⟩:=q1.canonD q2 live;exact⟨k',hk,df',_,S',Fp2,hs2,hd2,hI⟩
 | _=>exact hp.next λ_ q=>q
def zbr (m:SM α)(st:St)(R W:List Nat)(K:α->St->List Nat->List Nat->Prop):Prop :=
 match m st with
 | some (x,r,u)=>K x (zh u st) (R++r) (W++u.map (·.1))
 | none=>False
def zmu (tt:TT)(ctr:Ctr)(n:Fr)(ops:Array Oper):List Oper->St->(St->Prop)->Prop
 | [],st,K=>K st
 | o::os,st,K=>zbr (stepG tt ctr n ops o) st [] [] λ_ st' _ _=>zmu tt ctr n ops os st' K
def zfi (tt:TT)(ctr:Ctr)(n:Fr)(ops:Array Oper):List Oper->St->List (List Nat×List Nat)->(St->Prop)->Prop
 | [],st,logs,K=>za8 ops.toList logs=true/\K st
 | o::os,st,logs,K=>zbr (stepG tt ctr n ops o) st [] [] λ_ st' R W=>zfi tt ctr n ops os st' (logs++[(R,W)]) K
theorem zcT:∀(l:List Oper) (st:St),zmu tt ctr n ops l st K->∃st',runL tt ctr n ops l st=some st'/\K st'
 | [],st,h=>⟨st,rfl,h⟩
 | o::os,st,h=>by
  simp only[zmu,zbr]at h;cases hs:stepG tt ctr n ops o st with
  | none=>simp[hs]at h
  | some q=>obtain⟨x,r,u⟩:=q;simp only[hs]at h;obtain⟨st',h1,h2⟩:=zcT os _ h;exact⟨st',by simp only[runL,hs];exact h1,h2⟩
theorem zfh:∀(l:List Oper) (st:St) (logs:List (List Nat×List Nat)),zfi tt ctr n ops l st logs K->∃ls st',zqj tt ctr n ops l st=some (ls,st')/\za8 ops.toList (logs++ls.map zhB)=true/\K st'
 | [],st,logs,h=>⟨[],st,rfl,by simpa using h.1,h.2⟩
 | o::os,st,logs,h=>by
  simp only[zfi,zbr]at h;cases hs:stepG tt ctr n ops o st with
  | none=>simp[hs]at h
  | some q=>obtain⟨x,r,u⟩:=q;simp only[hs,p9]at h;obtain⟨ls,st',h1,h2,h3⟩:=zfh os _ _ h;exact⟨(r,u)::ls,st',by simp only[zqj,hs,h1],by simpa[zhB,pL] using h2,h3⟩
theorem AWP.region (hT:wy P tt)(hC:zF P ctr)   (h:zmu tt ctr n ops ops.toList st (λst'=>Q .normal st')):AWP P n (.region id ops false) st Q:=by intro rd m df w0 S0 M S Fp a w hc hs;obtain⟨st',h1,h2⟩:=zcT _ _ h;exact wpIn_region_list (zk5 (C:=⟨n,df,w0,S0,M⟩) hT hC ops.toList hs h1 λS' Fp' a' w' h'=>hc.fin h' h2)
theorem AWP.drawn (hT:wy P tt)(hC:zF P ctr)(hm:P.follows .mixedOrders=true)   (h:zfi tt ctr n ops ops.toList st [] (λst'=>Q .normal st')):AWP P n (.region id ops true) st Q:=by
 intro rd m df w0 S0 M S Fp a w hc hs;obtain⟨ls,st',h1,h2,h3⟩:=zfh _ _ _ h;refine wpIn_region_any hm (zsB (C:=⟨n,df,w0,S0,M⟩) hT hC h1 (by simpa using h2) (λS' Fp' a' w' h'=>hc.fin h' h3) ops.size _ a _ ?_ ?_ ?_)
 ·unfold zl7;exact pE (mS _ _) (by simp)
 ·intro j o hj hl;exfalso;have:j<ops.size:=(pK.1 hj).1;simp[gE,this]at hl
 ·refine⟨S,Fp,?_⟩;have hk:Xe (λj=>(Array.replicate ops.size false).getD j true) 0 ls=[]:=by
   have hlen:=(z6J h1).1;have gen:∀(ls:List Log) (o:Nat),o+ls.length<=ops.size->Xe (λj=>(Array.replicate ops.size false).getD j true) o ls=[]:=by
    intro ls;induction ls with
    | nil=>intro o _;rfl
    | cons l ls ih=>
     intro o ho;simp only[gI]at ho;have:o<ops.size:=by omega
     simp only[Xe];rw[ih (o+1) (by omega)];have hf:(Array.replicate ops.size false).getD o true=false:=by simp[gE,this]
     simp only[hf,gG,if_false,hU]
   exact gen ls 0 (by rw[hlen];simp)
  rw[hk];exact hs.drew
end
def ini (as_:List A):St:=λt=>match as_[t]? with|some a=>⟨mkT a,0,0⟩|none=>zfa
def zhG:Nat->List A->List (Nat×T)
 | _,[]=>[]
 | i,a::as_=>(i,mkT a)::zhG (i+1) as_
theorem zc7 (as_:List A):ini as_=ofL (zhG 0 as_):=by
 have gen:∀(as_:List A) (i t:Nat),ofL (zhG i as_) t=if i<=t then(match as_[t - i]? with|some a=>⟨mkT a,0,0⟩|none=>zfa) else zfa:=by
  intro as_;induction as_ with
  | nil=>intro i t;simp[zhG,ofL]
  | cons a as_ ih=>
   intro i t;simp only[zhG,ofL];by_cases h:t=i
   ·subst h;simp
   ·rw[if_neg h,ih];by_cases h1:i<=t
    ·have h2:i+1<=t:=by omega
     simp only[h1,h2,if_true];rw[show t - i=(t - (i+1))+1 from by omega,rz]
    ·have h2:¬i+1<=t:=by omega
     simp only[h1,h2,if_false]
 funext t;rw[gen];simp[ini]
def ztF (tt:TT)(keep:Bool):List Nat->SM A
 | [t]=>do
  let e <-rdE t;match e.t with
  | .d (.tup _)=>zu
  | .d a=>pure a
  | .own a=>if keep=true then pure a else do
    let xs <-shutArgs tt [(.tmp t,0)];match xs with
    | [x]=>pure x
    | _=>zu
  | _=>zu
 | []=>pure (.tup [])
 | [t,u]=>do
  let xs <-shutArgs tt [(.tmp t,0),(.tmp u,0)]
  pure (.tup xs)
 | [t,u,v]=>do
  let xs <-shutArgs tt [(.tmp t,0),(.tmp u,0),(.tmp v,0)]
  pure (.tup xs)
 | [t,u,v,x]=>do
  let xs <-shutArgs tt [(.tmp t,0),(.tmp u,0),(.tmp v,0),(.tmp x,0)]
  pure (.tup xs)
 | _=>zu
def zzo (tv:Nat->Value):List Nat->Value
 | [t]=>tv t
 | ts=>.tuple (ts.map tv).toArray
variable {ts:List Nat}
section
variable {C:Ctx}{S:zo}{Fp:Nat->List Nat}{X:List Nat}{st:St}{a:Act}{w:World}
theorem zg4 {P:Program}   (hr:fn.results=(ts.map ResultVar.tmp).toArray)(hl:ts.length<=4)(a:Act)(w:World) :
  (results fn a.tmps).run P w=.ok (zzo (Act.tv a) ts) w:=by
 unfold results;rw[hr];rcases ts with _|⟨t,_|⟨u,_|⟨v,_|⟨x,_|⟨y,l⟩⟩⟩⟩⟩ <;> first|(simp[Act.tv,zzo];done)|(simp at hl;done)
theorem zrL {keep:Bool}  (h:Sim C S Fp [] st a w){x:A}   (e:ztF tt keep ts st=some (x,R,U)) :
  ts.length<=4/\∃S' F',(∀b o u,S b o=some u->S' b o=some u)/\(∀b o,¬C.M b->S' b o=C.S0 b o)/\xu S' w/\Has S' w.heap x (zzo (Act.tv a) ts) F'/\F'.Nodup/\∀k∈F',C.M k:=by
 have many:∀(us:List Nat) {x:A} {R:List Nat} {U:List (Nat×Ent)},(do let xs <-shutArgs tt (us.map λt=>(Operand.tmp t,0));pure (A.tup xs):SM A) st=some (x,R,U) ->
   ∃S' F',(∀b o u,S b o=some u->S' b o=some u)/\(∀b o,¬C.M b->S' b o=C.S0 b o)/\xu S' w/\Has S' w.heap x (.tuple (us.map (Act.tv a)).toArray) F'/\F'.Nodup/\∀k∈F',C.M k:=by
  intro us x R U e;obtain⟨xs,R1,U1,R2,U2,h1,e1,rfl,rfl⟩:=bind_some e;obtain⟨rfl,rfl,rfl⟩:=zy e1;obtain⟨S1,Fp1,g1,g2,_,g3⟩:=vV h h1;have hm:(us.map λt=>(Operand.tmp t,0)).map (λp=>a.eval p.1)=us.map (Act.tv a):=by rw[mO];rfl
  rw[hm]at g3;refine⟨S1,[],g2,g1.sbase,g1.still,.inl ⟨?_,rfl⟩,by simp,by simp⟩;simp only[wh];exact⟨_,rfl,g3⟩
 rcases ts with _|⟨t,_|⟨u,_|⟨v,_|⟨y,_|⟨z,l⟩⟩⟩⟩⟩
 ·obtain⟨rfl,rfl,rfl⟩:=zy e;refine⟨by simp,S,[],λ_ _ _ h=>h,h.sbase,h.still,.inl ⟨?_,rfl⟩,by simp,by simp⟩;simp only[wh];exact⟨[],rfl,trivial⟩
 ·refine⟨by simp,?_⟩;simp only[ztF]at e;obtain⟨en,R1,U1,R2,U2,h1,e1,rfl,rfl⟩:=bind_some e;obtain⟨rfl,rfl,rfl⟩:=yl h1;simp only[zh]at e1;have q:=h.ent t;unfold wv at q;cases ht:(st t).t with
  | d y=>
   simp only[ht]at e1 q;by_cases hy:∃fs,y=.tup fs
   ·obtain⟨fs,rfl⟩:=hy;exact(z7 e1).elim
   ·have e2:(pure y:SM A) st=some (x,R2,U2):=by cases y <;> first|exact e1|exact absurd ⟨_,rfl⟩ hy
    obtain⟨rfl,rfl,rfl⟩:=zy e2;exact⟨S,[],λ_ _ _ h=>h,h.sbase,h.still,.inl ⟨q.1,rfl⟩,by simp,by simp⟩
  | own y=>
   simp only[ht]at e1 q;split at e1
   ·obtain⟨rfl,rfl,rfl⟩:=zy e1;exact⟨S,Fp t,λ_ _ _ h=>h,h.sbase,h.still,.inr (by obtain⟨cs,q1,q2,q3⟩:=q;exact⟨cs,q1,q2,q3⟩),(by obtain⟨cs,q1,q2,q3⟩:=q;exact q2),h.base t⟩
   ·obtain⟨xs,R3,U3,R4,U4,h3,e2,rfl,rfl⟩:=bind_some e1;obtain⟨S1,Fp1,g1,g2,_,g3⟩:=vV h h3;rcases xs with _|⟨x1,_|⟨x2,l⟩⟩
    ·exact(z7 e2).elim
    ·obtain⟨rfl,rfl,rfl⟩:=zy e2;exact⟨S1,[],g2,g1.sbase,g1.still,.inl ⟨g3.1.repV,rfl⟩,by simp,by simp⟩
    ·exact(z7 e2).elim
  | gone=>simp only[ht]at e1;exact(z7 e1).elim
  | als _ _ _ _=>simp only[ht]at e1;exact(z7 e1).elim
  | ptr _ _ _ _=>simp only[ht]at e1;exact(z7 e1).elim
 ·exact⟨by simp,many [t,u] e⟩
 ·exact⟨by simp,many [t,u,v] e⟩
 ·exact⟨by simp,many [t,u,v,y] e⟩
 ·exact(z7 (st:=st) e).elim
end
theorem zf8:∀{as_:List A} {vs:List Value} {F:List Nat},QI S h as_ vs F->∀k∈F,S k 0=none
 | [],[],F,q,k,hk=>by have e:F=[]:=q;subst e;simp at hk
 | _::_,_::_,F,⟨F1,F2,e,q1,q2⟩,k,hk=>by
  subst e;rcases pA.1 hk with hk|hk
  ·exact zf8 q2 k hk
  ·rcases q1 with⟨_,rfl⟩|⟨cs,c1,_⟩
   ·simp at hk
   ·exact(c1.own k hk).2.1 0
 | [],_::_,_,q,_,_=>q.elim
 | _::_,[],_,q,_,_=>q.elim
theorem zc8:∀{as_:List A} {vs:List Value} {F:List Nat},QI S h as_ vs F->F.Nodup ->
  ∃f:Nat->List Nat,(∀j y,as_[j]?=some y->∃v,vs[j]?=some v/\Has S h y v (f j))/\(∀j,as_[j]?=none->f j=[])/\(∀j k,k∈f j->k∈F)/\(∀i j k,k∈f i->k∈f j->i=j)
 | [],[],F,_,_=>⟨λ_=>[],by simp,by simp,by simp,by simp⟩
 | a::as_,v::vs,F,q,hn=>by
  obtain⟨F1,F2,rfl,q1,q2⟩:=q;rw[pM]at hn;obtain⟨f,f1,f2,f3,f4⟩:=zc8 q2 hn.1;refine⟨λj=>match j with|0=>F1|j+1=>f j,?_,?_,?_,?_⟩
  ·intro j y hj;cases j with
   | zero=>simp at hj;subst hj;exact⟨v,by simp,q1⟩
   | succ j=>simp at hj;obtain⟨u,h1,h2⟩:=f1 j y hj;exact⟨u,by simpa using h1,h2⟩
  ·intro j hj;cases j with
   | zero=>simp at hj
   | succ j=>simp at hj;exact f2 j (by simpa using hj)
  ·intro j k hk;cases j with
   | zero=>exact pA.2 (.inr hk)
   | succ j=>exact pA.2 (.inl (f3 j k hk))
  ·intro i j k hi hj;cases i with
   | zero=>
    cases j with
    | zero=>rfl
    | succ j=>exact absurd rfl (hn.2.2 k (f3 j k hj) k hi)
   | succ i=>
    cases j with
    | zero=>exact absurd rfl (hn.2.2 k (f3 i k hi) k hj)
    | succ j=>rw[f4 i j k hi hj]
 | [],_::_,_,q,_=>q.elim
 | _::_,[],_,q,_=>q.elim
theorem zlm (hpin:∀i u,(i,u)∈n.pin->vs[i]?=some u)(hS:xu S w)(hq:QI S w.heap as_ vs F)(hF:F.Nodup)(hn:as_.length<=n.size) :
  ∃Fp,Sim ⟨n,[],w,S,λk=>w.heap.size<=k\/k∈F⟩ S Fp [] (ini as_) { tmps:=vs.toArray++Array.replicate (n.size - vs.toArray.size) undef,defers:=[] } w:=by
 obtain⟨f,f1,f2,f3,f4⟩:=zc8 hq hF;have hl:=hq.nil;have htv:∀t v,vs[t]?=some v->Act.tv { tmps:=vs.toArray++Array.replicate (n.size - vs.toArray.size) undef,defers:=[] } t=v:=by intro t v h1;have hlt:=(p8.1 h1).1;simp only[Act.tv,gE];rw[nR (by simpa using hlt)];simp[h1]
 refine⟨f,{ size:=by simp;omega,pin:=λi u hi=>htv i _ (hpin i u hi),defers:=rfl,below:=UQ.refl _ _,mine:=⟨λk hk=>.inl hk,by
   rintro g x e (hk|hk)
   ·have:=hS.blk.lt e;omega
   ·exact hS.blk.ne (zf8 hq g hk) x e⟩,still:=hS,sinc:=λ_ _ _ h=>h,sbase:=λ_ _ _=>rfl,ent:=?_,disj:=f4,base:=λt k hk=>.inr (f3 t k hk),xn:=by simp,xd:=by simp,xb:=by simp }⟩
 intro t;unfold ini;cases ht:as_[t]? with
 | none=>rw[f2 t ht];rfl
 | some y=>
  obtain⟨v,h1,h2⟩:=f1 t y ht;have hv:Act.tv { tmps:=vs.toArray++Array.replicate (n.size - vs.toArray.size) undef,defers:=[] } t=v:=by have hlt:=(p8.1 h1).1;simp only[Act.tv,gE];rw[nR (by simpa using hlt)];simp[h1]
  rw[hv];dsimp only
  unfold wv;rcases h2.mkT with⟨e,q1,q2⟩|⟨e,q⟩
  ·simp only[e];exact⟨q1,q2⟩
  ·simp only[e];exact q
theorem Sim.shutD (h:Sim C S Fp [] st a w){D:Nat}{o o':Obj}(hM:C.M D)(hD:w.heap[D]?=some o)(hc:∀i,yj w.heap D i=none)(hF:∀t,D∉Fp t):Sim C S Fp [] st a (w.putObj D o'):=by
 have hlt:=(pK.1 hD).1;refine h.mem (h.below.trans ⟨rfl,rfl,rfl,pC _,by simp[World.putObj],λk hk=>World.putObj_heap_other (by rintro rfl;exact hk hM)⟩) (λ_ _ _ q=>q) ?_ h.sbase ?_ (by simp) (by simp) (by simp)
 ·intro b i v q;have q2:=h.still b i v q;have hne:b≠D:=by rintro rfl;rw[hc]at q2;cases q2
  unfold yj at q2 ⊢;rw[World.putObj_heap_other hne];exact q2
 ·intro t k hk;have hne:k≠D:=by rintro rfl;exact hF t hk
  exact⟨World.putObj_heap_other hne,(h.free t k hk).2.1⟩
theorem z5z {D i:Nat}{x:Option (List Deferred)}(hD:h[D]?=some (.deferred x)):yj h D i=none:=by unfold yj;rw[hD]
theorem zl9 {F:Fence}{m:Nat}  {tmps:Array Value}{R:Ending->World->Prop}      (hres:∀w,Sim C S Fp [] st a w->∃v,(results fn tmps).run P w=.ok v w/\R (.returned v) w) :
  ∀(Ds:List Nat) (w:World),Sim C S Fp [] st a w->Ds.Nodup->(∀D∈Ds,C.M D/\w.heap[D]?=some (.deferred (some []))/\∀t,D∉Fp t)->LeavesInM F m P fn tmps R (Ds.map zs6) .returning w
 | [],w,h,_,_=>hres w h
 | D::Ds,w,h,hn,hd=>by rw[pY]at hn;obtain⟨h1,h2,h3⟩:=hd D (by simp);refine⟨by simp,.inl ⟨D,_,rfl,run_takeDeferred h2,zl9 hres Ds _ (h.shutD h1 h2 (λi=>z5z h2) h3) hn.2 ?_⟩⟩;intro D' hD';obtain⟨q1,q2,q3⟩:=hd D' (by simp[hD']);refine⟨q1,?_,q3⟩;rw[World.putObj_heap_other (by rintro rfl;exact hn.1 hD')];exact q2
variable {body:Code}
theorem z6M {n:Fr}   {args:List A}{Q:Exit->St->Prop}{R:World->Ending->World->Prop}{S:zo}{w:World}{vs:List Value}{F:List Nat}(hf:P.funcs[k]?=some fn)(hb:fn.body=some body)
  (hn:n.size=fn.ntmps) (hpin:∀i u,(i,u)∈n.pin->vs[i]?=some u) (ha:args.length<=fn.ntmps) (hS:xu S w) (hq:QI S w.heap args vs F) (hF:F.Nodup)
  (h:AWP P n body (ini args) Q)
  (hQ:∀ex st',Q ex st'->(ex=.normal\/ex=.ret)/\∀df S' Fp' a' w',Sim ⟨n,df,w,S,λk=>w.heap.size<=k\/k∈F⟩ S' Fp' [] st' a' w'->∃v,(results fn a'.tmps).run P w'=.ok v w'/\R w (.returned v) w'):Calls P k vs.toArray w (R w):=by
 refine(callsIn_wide (n:=0)).1 (callsIn_of_wp_marks hf hb trivial ?_ rfl);obtain⟨Fp,hs⟩:=zlm (n:=n) hpin hS hq hF (by rw[hn];exact ha);rw[hn]at hs;refine wpIn_mono (h none 0 [] w S _ S Fp _ w ⟨by simp,by simp,by simp⟩ hs) ?_;rintro ex a' w' ⟨df',st',S',Fp',h1,h2,h3⟩;obtain⟨hx,hQ⟩:=hQ _ _ h3;have fin:LeavesInM Fence.wide 0 P fn a'.tmps (R w) a'.defers .returning w':=by rw[h1.defers];exact zl9 (C:=⟨n,df',w,S,λk=>w.heap.size<=k\/k∈F⟩) (λw2 hw2=>hQ _ _ _ _ _ hw2) df' w' h1 h2.nodup λD hD=>⟨(h2.old D hD).elim (λq=>by simp at q) id,h2.ent D hD,h2.off D hD⟩
 rcases hx with rfl|rfl
 ·exact fin
 ·exact fin
section
variable {α β:Type}{st:St}{R W:List Nat}
theorem z9x (x:α)(K:α->St->List Nat->List Nat->Prop):zbr (pure x:SM α) st R W K=K x st R W:=by show(K x (zh [] st) (R++[]) (W++[].map _))=_;simp[zh]
theorem zev (m:SM α)(f:α->SM β)(K:β->St->List Nat->List Nat->Prop):zbr (m >>= f) st R W K=zbr m st R W (λx st' R' W'=>zbr (f x) st' R' W' K):=by
 show(match SM.bind m f st with|some (x,r,u)=>K x (zh u st) (R++r) (W++u.map Prod.fst)|none=>False)=_;unfold SM.bind zbr;cases m st with
 | none=>rfl
 | some q=>
  obtain⟨x,r,u⟩:=q;dsimp only
  cases f x (zh u st) with
  | none=>rfl
  | some q=>obtain⟨y,r',u'⟩:=q;simp[zB,pL]
theorem zhc (k:Nat)(K:Ent->St->List Nat->List Nat->Prop):zbr (rdE k) st R W K=K (st k) st (R++[k]) W:=by show K (st k) (zh [] st) (R++[k]) (W++[].map _)=_;simp[zh]
theorem znY (k:Nat)(e:Ent)(K:Unit->St->List Nat->List Nat->Prop):zbr (wrE k e) st R W K=K () (upd st k e) R (W++[k]):=by show K () (zh [(k,e)] st) (R++[]) (W++[(k,e)].map _)=_;simp[zh]
theorem zes (x:α)(K:α->St->List Nat->List Nat->Prop):zbr (ofO (some x)) st R W K=K x st R W:=z9x x K
theorem zet (K:α->St->List Nat->List Nat->Prop):zbr (ofO none) st R W K=False:=rfl
theorem zeu (K:α->St->List Nat->List Nat->Prop):zbr (zu:SM α) st R W K=False:=rfl
theorem zbP (m:SM α)(K:α->St->List Nat->List Nat->Prop):zbr (ghost m) st R W K=zbr m st R W (λx _ R' _=>K x st R' W):=by
 unfold zbr ghost;cases m st with
 | none=>rfl
 | some q=>obtain⟨x,r,u⟩:=q;simp[zh]
end
section
variable {tt:TT}{ctr:Ctr}{n:Fr}{ops:Array Oper}{st:St}
theorem znO (K:St->Prop):zmu tt ctr n ops [] st K=K st:=rfl
theorem zjS (o:Oper)(os:List Oper)(K:St->Prop):zmu tt ctr n ops (o::os) st K=zbr (stepG tt ctr n ops o) st [] [] λ_ st' _ _=>zmu tt ctr n ops os st' K:=rfl
theorem ziT (o:Oper)(os:List Oper)(logs:List (List Nat×List Nat))(K:St->Prop):zfi tt ctr n ops (o::os) st logs K=zbr (stepG tt ctr n ops o) st [] [] λ_ st' R W=>zfi tt ctr n ops os st' (logs++[(R,W)]) K:=rfl
theorem zin (d:Option Nat)(op:Op)(t:Nat)(pos:String)(af:Array Edge):stepG tt ctr.plain n ops ⟨d,op,t,pos,af,none⟩=stepO tt ctr.plain n ⟨d,op,t,pos,af,none⟩:=rfl
theorem zfY (e:Fr->Oper->Option (SM Unit))(d:Option Nat)(op:Op)(t:Nat)(pos:String)(af:Array Edge):stepG tt (ctr.withE e) n ops ⟨d,op,t,pos,af,none⟩=(match e n ⟨d,op,t,pos,af,none⟩ with|some m=>m|none=>stepO tt (ctr.withE e) n ⟨d,op,t,pos,af,none⟩):=rfl
theorem zkq:ctr.plain.run=ctr.run:=rfl
theorem zgd:ctr.plain.gives=ctr.gives:=rfl
theorem zkr:ctr.plain.raw=ctr.raw:=rfl
theorem ziC:ctr.plain.lend=ctr.lend:=rfl
theorem ziB:ctr.plain.runL=ctr.runL:=rfl
theorem zjg (e:Fr->Oper->Option (SM Unit)):(ctr.withE e).run=ctr.run:=rfl
theorem zfC (e:Fr->Oper->Option (SM Unit)):(ctr.withE e).gives=ctr.gives:=rfl
theorem zjh (e:Fr->Oper->Option (SM Unit)):(ctr.withE e).raw=ctr.raw:=rfl
theorem zi8 (e:Fr->Oper->Option (SM Unit)):(ctr.withE e).lend=ctr.lend:=rfl
theorem zi7 (e:Fr->Oper->Option (SM Unit)):(ctr.withE e).runL=ctr.runL:=rfl
section
variable (d:Option Nat)(t:Nat)(pos:String)(af:Array Edge)(g:Option (Nat×Bool))
theorem zik (x:Operand):stepO tt ctr n ⟨d,.move x,t,pos,af,g⟩=zkL n d x:=rfl
theorem zed (x:Operand):stepO tt ctr n ⟨d,.assign x,t,pos,af,g⟩=z6W tt n d t x:=rfl
theorem zfW (op:BinOp)(xt yt:Nat)(x y:Operand):stepO tt ctr n ⟨d,.binOp op xt x y yt,t,pos,af,g⟩=zfm tt n d op xt x y:=rfl
theorem zii (op:UnOp)(xt:Nat)(x:Operand):stepO tt ctr n ⟨d,.unOp op xt x,t,pos,af,g⟩=zjn n d op x:=rfl
theorem zcP (s u:Nat)(x:Operand):stepO tt ctr n ⟨d,.convert s u x,t,pos,af,g⟩=ziV tt n d s u x:=rfl
theorem zij (c x y:Operand):stepO tt ctr n ⟨d,.pick c x y,t,pos,af,g⟩=zge n d c x y:=rfl
theorem zcO (x:Operand)(i:Nat):stepO tt ctr n ⟨d,.extract x i,t,pos,af,g⟩=z3l n d x i:=rfl
theorem zbm (x:Operand):stepO tt ctr n ⟨d,.nilCheck x,t,pos,af,g⟩=nilCheckO n d x:=rfl
theorem zfU (u:Nat)(x:Operand)(lo hi mx:Option Operand):stepO tt ctr n ⟨d,.slice u x lo hi mx,t,pos,af,g⟩=sliceO tt n d u x lo hi mx:=rfl
theorem zil (u:Nat)(x:Operand):stepO tt ctr n ⟨d,.load u x,t,pos,af,g⟩=ziJ tt n d u x:=rfl
theorem zfT (u:Nat)(x v:Operand):stepO tt ctr n ⟨d,.store u x v,t,pos,af,g⟩=zec tt d u x v:=rfl
theorem z9p (u:Nat)(x:Operand)(i:Nat):stepO tt ctr n ⟨d,.fieldAddr u x i,t,pos,af,g⟩=z0v tt n d u i x:=rfl
theorem z9o (u:Nat)(x i:Operand):stepO tt ctr n ⟨d,.indexAddr u x i,t,pos,af,g⟩=z0s tt n d u x i:=rfl
theorem zfX (u:Nat):stepO tt ctr n ⟨d,.alloc u,t,pos,af,g⟩=zfv tt n d u:=rfl
theorem zjy (u:Nat)(x:Operand):stepO tt ctr n ⟨d,.box u x,t,pos,af,g⟩=ztI tt n d u x:=rfl
theorem z9n (u:Nat)(l c:Operand):stepO tt ctr n ⟨d,.makeSlice u l c,t,pos,af,g⟩=XX tt n d u l c:=rfl
theorem z89 (u len:Nat)(ps:List (Nat×Operand)):stepO tt ctr n ⟨d,.buildSlice u len ⟨ps⟩,t,pos,af,g⟩=qZ tt n d u len ps:=rfl
theorem zfV (u:Nat)(ps:List (Nat×Operand)):stepO tt ctr n ⟨d,.build u ⟨ps⟩,t,pos,af,g⟩=z7S tt n d u ps:=rfl
theorem zbn (f:Nat)(caps:List Operand):stepO tt ctr n ⟨d,.makeFunc (.func f) ⟨[]⟩ ⟨caps⟩,t,pos,af,g⟩=z2G tt n d f caps:=rfl
theorem zjw (x:Operand)(u:Nat):stepO tt ctr n ⟨d,.call ⟨.builtin .len,⟨[x]⟩,⟨[u]⟩⟩,t,pos,af,g⟩=zvF tt n d u x:=rfl
theorem zjx (x:Operand)(u:Nat):stepO tt ctr n ⟨d,.call ⟨.builtin .cap,⟨[x]⟩,⟨[u]⟩⟩,t,pos,af,g⟩=zwc tt n d u x:=rfl
theorem zee (s x:Operand)(u:Nat):stepO tt ctr n ⟨d,.call ⟨.builtin .append,⟨[s,x]⟩,⟨[u,u]⟩⟩,t,pos,af,g⟩=z6X tt n d u s x:=if_pos rfl
theorem zim (f:Operand)(xs:List Operand)(us:List Nat)(h:xs.length=us.length):stepO tt ctr n ⟨d,.call ⟨.value f,⟨xs⟩,⟨us⟩⟩,t,pos,af,g⟩=zlX tt ctr n d f (xs.zip us):=if_pos h
end
theorem zok (k:Nat):opnd (.tmp k)=(do
  let e <-rdE k;match e.t with
  | .own _=>pure (.als k [] e.er e.ec)
  | .gone=>zu
  | T=>pure T):=rfl
theorem zom (k:IntKind)(v:Int):opnd (.const (.int k v))=pure (.d (.atom (.int k v))):=rfl
theorem zkA (b:Bool):opnd (.const (.bool b))=pure (.d (.atom (.bool b))):=rfl
theorem zol:opnd (.const (.slice none 0 0))=pure (.d (.atom (.slice none 0 0))):=rfl
theorem zkz (f:Nat):opnd (.func f)=pure (.d (.fn f [])):=rfl
@[congr] theorem zyG {P:Program}{n:Fr}{c:Code}{st st':St}{Q:Exit->St->Prop}(h:st=st'):AWP P n c st Q=AWP P n c st' Q:=by rw [h]
theorem ze7 (K:St->Prop)(Q:Exit->St->Prop)(st:St):zbl K Q .normal st=K st:=rfl
theorem zie (K:St->Prop)(Q:Exit->St->Prop)(id:Nat)(st:St):zbl K Q (.exit id) st=Q (.exit id) st:=rfl
theorem zjo (K:St->Prop)(Q:Exit->St->Prop)(st:St):zbl K Q .ret st=Q .ret st:=rfl
theorem zgG (id:Nat)(Q:Exit->St->Prop)(st:St):z1I id Q (.exit id) st=Q .normal st:=by simp[z1I]
theorem zm2 {id id':Nat}(Q:Exit->St->Prop)(st:St)(h:id'≠id):z1I id Q (.exit id') st=Q (.exit id') st:=by simp[z1I,h]
theorem zdq (id:Nat)(Q:Exit->St->Prop)(st:St):z1I id Q .normal st=Q .normal st:=rfl
theorem ziZ (id:Nat)(Q:Exit->St->Prop)(st:St):z1I id Q .ret st=Q .ret st:=rfl
theorem zzy {a:A}(h:a.isD=true):mkT a=.d a:=by
 unfold mkT;split
 ·rfl
 ·rw[if_pos h]
theorem zs0 (fs:List A):mkT (.tup fs)=.d (.tup fs):=rfl
theorem zs1 (sz:Nat)(t:Bool)(es:List A):mkT (.osl sz t es)=.own (.osl sz t es):=rfl
theorem zs2 (x:A):mkT (.box x)=.own (.box x):=rfl
theorem zs3 (fs:List A):mkT (.agg fs)=if A.areD fs=true then .d (.agg fs) else .own (.agg fs):=rfl
theorem zvw (sz:Nat)(t:Bool)(xs:List A):mkT (.sl sz t xs)=.d (.sl sz t xs):=rfl
theorem zos (v:Value):mkT (.atom v)=.d (.atom v):=rfl
theorem zvx (f:Nat)(caps:List A):mkT (.fn f caps)=.d (.fn f caps):=rfl
theorem zor (x:A):mkT (.sptr x)=.d (.sptr x):=rfl
theorem zp1 (v:Value):A.isD (.atom v)=true:=rfl
theorem zvQ (f:Nat)(caps:List A):A.isD (.fn f caps)=true:=rfl
theorem zsl (fs:List A):A.isD (.agg fs)=A.areD fs:=rfl
theorem zsh (fs:List A):A.isD (.tup fs)=false:=rfl
theorem zvP (sz:Nat)(t:Bool)(xs:List A):A.isD (.sl sz t xs)=true:=rfl
theorem zoZ (x:A):A.isD (.sptr x)=true:=rfl
theorem zsi (sz:Nat)(t:Bool)(es:List A):A.isD (.osl sz t es)=false:=rfl
theorem zsk (x:A):A.isD (.box x)=false:=rfl
theorem zp0 (n:Nat):A.isD (.dead n)=false:=rfl
theorem zsj (n:Opq):A.isD (.opq n)=false:=rfl
theorem zjL (v:Value):A.size (.atom v)=1:=rfl
theorem zrm (f:Nat)(caps:List A):A.size (.fn f caps)=1:=rfl
theorem znG (fs:List A):A.size (.agg fs)=A.sizes fs:=rfl
theorem znC (fs:List A):A.size (.tup fs)=0:=rfl
theorem zrl (sz:Nat)(t:Bool)(xs:List A):A.size (.sl sz t xs)=1:=rfl
theorem zjJ (x:A):A.size (.sptr x)=1:=rfl
theorem znD (sz:Nat)(t:Bool)(es:List A):A.size (.osl sz t es)=1:=rfl
theorem znF (x:A):A.size (.box x)=1:=rfl
theorem zjK (n:Nat):A.size (.dead n)=n:=rfl
theorem znE (n:Opq):A.size (.opq n)=1:=rfl
theorem zl4 (v:Value):A.live (.atom v)=true:=rfl
theorem zsc (f:Nat)(caps:List A):A.live (.fn f caps)=true:=rfl
theorem zoM (fs:List A):A.live (.agg fs)=A.lives fs:=rfl
theorem zoI (fs:List A):A.live (.tup fs)=false:=rfl
theorem zsb (sz:Nat)(t:Bool)(xs:List A):A.live (.sl sz t xs)=true:=rfl
theorem zl2 (x:A):A.live (.sptr x)=true:=rfl
theorem zoJ (sz:Nat)(t:Bool)(es:List A):A.live (.osl sz t es)=A.lives es:=rfl
theorem zoL (x:A):A.live (.box x)=x.live:=rfl
theorem zl3 (n:Nat):A.live (.dead n)=false:=rfl
theorem zoK (n:Opq):A.live (.opq n)=false:=rfl
theorem zjP (v:Value):A.shut (.atom v)=.atom v:=rfl
theorem zro (f:Nat)(caps:List A):A.shut (.fn f caps)=.fn f caps:=rfl
theorem znM (fs:List A):A.shut (.agg fs)=.agg (A.shuts fs):=rfl
theorem znI (fs:List A):A.shut (.tup fs)=.tup fs:=rfl
theorem zrn (sz:Nat)(t:Bool)(xs:List A):A.shut (.sl sz t xs)=.sl sz t xs:=rfl
theorem zjN (x:A):A.shut (.sptr x)=.sptr x:=rfl
theorem znJ (sz:Nat)(t:Bool)(es:List A):A.shut (.osl sz t es)=.sl sz t (A.shuts es):=rfl
theorem znL (x:A):A.shut (.box x)=.sptr x.shut:=rfl
theorem zjO (n:Nat):A.shut (.dead n)=.dead n:=rfl
theorem znK (n:Opq):A.shut (.opq n)=.opq n:=rfl
theorem ziG (v:Value):A.loose (.atom v)=.atom v:=rfl
theorem zoC (f:Nat)(caps:List A):A.loose (.fn f caps)=.fn f (A.looses caps):=rfl
theorem zkY (fs:List A):A.loose (.agg fs)=.agg (A.looses fs):=rfl
theorem zkU (fs:List A):A.loose (.tup fs)=.tup (A.looses fs):=rfl
theorem zoB (sz:Nat)(t:Bool)(xs:List A):A.loose (.sl sz t xs)=.sl sz false (A.looses xs):=rfl
theorem ziE (x:A):A.loose (.sptr x)=.sptr x.loose:=rfl
theorem zkV (sz:Nat)(t:Bool)(es:List A):A.loose (.osl sz t es)=.osl sz false (A.looses es):=rfl
theorem zkX (x:A):A.loose (.box x)=.box x.loose:=rfl
theorem ziF (n:Nat):A.loose (.dead n)=.dead n:=rfl
theorem zkW (n:Opq):A.loose (.opq n)=.opq n:=rfl
theorem ziN (v:Value):A.isAgg (.atom v)=false:=rfl
theorem zp3 (f:Nat)(caps:List A):A.isAgg (.fn f caps)=false:=rfl
theorem zlj (fs:List A):A.isAgg (.agg fs)=true:=rfl
theorem zlf (fs:List A):A.isAgg (.tup fs)=false:=rfl
theorem zp2 (sz:Nat)(t:Bool)(xs:List A):A.isAgg (.sl sz t xs)=false:=rfl
theorem ziL (x:A):A.isAgg (.sptr x)=false:=rfl
theorem zlg (sz:Nat)(t:Bool)(es:List A):A.isAgg (.osl sz t es)=false:=rfl
theorem zli (x:A):A.isAgg (.box x)=false:=rfl
theorem ziM (n:Nat):A.isAgg (.dead n)=false:=rfl
theorem zlh (n:Opq):A.isAgg (.opq n)=false:=rfl
theorem zsu (f:Nat)(caps:List A):A.flat (.fn f caps)=false:=rfl
theorem zpf (fs:List A):A.flat (.agg fs)=A.flats fs:=rfl
theorem zpa (fs:List A):A.flat (.tup fs)=A.flats fs:=rfl
theorem zst (sz:Nat)(t:Bool)(xs:List A):A.flat (.sl sz t xs)=false:=rfl
theorem zly (x:A):A.flat (.sptr x)=false:=rfl
theorem zpb (sz:Nat)(t:Bool)(es:List A):A.flat (.osl sz t es)=false:=rfl
theorem zpe (x:A):A.flat (.box x)=false:=rfl
theorem zlz (n:Nat):A.flat (.dead n)=false:=rfl
theorem zpc (n:Opq):A.flat (.opq n)=false:=rfl
theorem zpC:A.areD []=true:=rfl
theorem zmb (a:A)(l:List A):A.areD (a::l)=(a.isD&&A.areD l):=rfl
theorem zjI:A.sizes []=0:=rfl
theorem zir (a:A)(l:List A):A.sizes (a::l)=(a.size+A.sizes l):=rfl
theorem zl1:A.lives []=true:=rfl
theorem ziK (a:A)(l:List A):A.lives (a::l)=(a.live&&A.lives l):=rfl
theorem zjM:A.shuts []=[]:=rfl
theorem zis (a:A)(l:List A):A.shuts (a::l)=(a.shut::A.shuts l):=rfl
theorem ziD:A.looses []=[]:=rfl
theorem zgr (a:A)(l:List A):A.looses (a::l)=(a.loose::A.looses l):=rfl
theorem zlx:A.flats []=true:=rfl
theorem ziO (a:A)(l:List A):A.flats (a::l)=(a.flat&&A.flats l):=rfl
theorem zpd (k:IntKind)(z:Int):A.flat (.atom (.int k z))=true:=rfl
theorem zlA (b:Bool):A.flat (.atom (.bool b))=true:=rfl
theorem ziP (p:Option Addr)(l c:Nat):A.flat (.atom (.slice p l c))=false:=rfl
theorem zlV (live:List Nat)(st:St):canon live st=ofL (live.map λk=>(k,zj9 live st k)):=rfl
attribute [go_sem ↓] z9x zev zhc zes zet zeu zbP znO zjS ziT zin zfY zik zed zfW zii zcP zij zcO zbm zfU zil zfT z9p z9o zfX zjy
 z9n z89 zfV zbn zjw zjx zee zok zom zkA zol zkz ze7 zie zjo zgG zdq ziZ
attribute [go_sem] z9x zev zhc zes zet zeu zbP znY uT Q6 zoo zvo zm2 zim
attribute [go_sem] zlV zj9 zzy zs0 zs1 zs2 zs3 zvw zos zvx zor zp1 zvQ zsl zsh zvP zoZ zsi zsk zp0 zsj zjL zrm znG znC zrl zjJ znD znF zjK znE zl4 zsc zoM zoI zsb zl2 zoJ zoL zl3 zoK zjP zro znM znI zrn zjN znJ znL zjO znK ziG zoC zkY zkU zoB ziE zkV zkX ziF zkW ziN zp3 zlj zlf zp2 ziL zlg zli ziM zlh zsu zpf zpa zst zly zpb zpe zlz zpc zpC zmb zjI zir zl1 ziK zjM zis ziD zgr zlx ziO zpd zlA ziP
attribute [go_sem] zkq zgd zkr ziC ziB zjg zfC zjh zi8 zi7
attribute [go_sem] Ctr.norm zkL z6W zfm zjn ziV zge z3l ziJ zec z0v z0s zfv ztI XX qZ z7S z2G zvF zwc z6X zlX
 look lookP val Jq take takeC wrT Fr.ok zqx zll unA qY ptrOf TK.isAgg Ym loadA storeA z4u fieldAddrA wx indexAddrA zft XI indexArrA lenOf zlU jF peek appendA shutT shutArgs passArgs callA takes z5i sliceO bound nilCheckO lendA z8P vQ JN zfj ztF
end
section
variable {P:Program}{n:Fr}{st:St}{Q:Exit->St->Prop}{tt:TT}{ctr:Ctr}
theorem AWP.nextC (live:List Nat)  (h:∀K:St->Prop,(∀st',AWP P n y (Own.canon live st') Q->K st')->AWP P n x st (zbl K Q)):AWP P n (.seq x y) st Q :=
 AWP.seq (h _ λ_ q=>AWP.canon live q)
theorem AWP.condT (hb:zfj st c=some true)(h:AWP P n x st Q):AWP P n (.cond c x y) st Q:=AWP.cond hb (λ_=>h) (λh=>by cases h)
theorem AWP.condF (hb:zfj st c=some false)(h:AWP P n y st Q):AWP P n (.cond c x y) st Q:=AWP.cond hb (λh=>by cases h) (λ_=>h)
end
def zj5 (E:St->Prop):Exit->St->Prop
 | .normal,st=>E st
 | .ret,st=>E st
 | _,_=>False
theorem zo5 (E:St->Prop)(st:St):zj5 E .ret st=E st:=rfl
theorem zg8 (E:St->Prop)(st:St):zj5 E .normal st=E st:=rfl
attribute [go_sem ↓] zo5 zg8
def ze6 (r:Nat×Option Nat):ResultVar:=match r.2 with|none=>.tmp r.1|some t=>.cell r.1 t
def WQ (tt:TT):List (Nat×Option Nat)->List A->Option (List A)
 | [],[]=>some []
 |(_,none)::rs,x::xs=>(WQ tt rs xs).map (x :: ·)
 |(_,some t)::rs,.sptr y::xs=>if Ym tt t y=true then(WQ tt rs xs).map (y :: ·) else none
 | _,_=>none
def zv9 (tt:TT)(rs:List (Nat×Option Nat)):SM A:=do
 let xs <-shutArgs tt (rs.map λr=>(.tmp r.1,0));match WQ tt rs xs with
 | some [y]=>pure y
 | some ys=>pure (.tup ys)
 | none=>zu
theorem z0Z (g:α->Sem Value):∀(l:List α) (vs:List Value) (acc:Array Value),UR (λr v=>(g r).run P w=.ok v w) l vs->(l.foldlM (λbs a=>bs.push <$> g a) acc).run P w=.ok (acc++vs.toArray) w
 | [],[],acc,_=>by simp
 | r::l,v::vs,acc,h=>by
  rw[List.foldlM_cons,Sem.run_bind];have:(acc.push <$> g r:Sem (Array Value)).run P w=.ok (acc.push v) w:=by rw[map_eq_pure_bind,Sem.run_bind,h.1];simp
  rw[this,Result.andThen_ok,z0Z g l vs _ h.2];simp
 | [],_::_,_,h=>h.elim
 | _::_,[],_,h=>h.elim
variable {rs:List (Nat×Option Nat)}
section
variable {C:Ctx}{S:zo}{Fp:Nat->List Nat}{X:List Nat}{st:St}{a:Act}{w:World}
theorem z5u (hT:wy P tt)  (hS:xu S w):∀{rs:List (Nat×Option Nat)} {xs ys:List A},WQ tt rs xs=some ys->UR (qa S) xs (rs.map λr=>Act.tv a r.1) ->
  ∃vs,UR (qa S) ys vs/\UR (λr v=>((λr:ResultVar=>match r with|.tmp t=>(pure (a.tmps.getD t undef):Sem Value)|.cell b t=>do loadVar t (<-asAddr (a.tmps.getD b undef))) r).run P w=.ok v w) (rs.map ze6) vs
 | [],[],ys,e,_=>by simp only[WQ,Option.some.injEq]at e;subst e;exact⟨[],trivial,trivial⟩
 |(t,none)::rs,x::xs,ys,e,h=>by simp only[WQ,pZ]at e;obtain⟨zs,e,rfl⟩:=e;obtain⟨vs,h1,h2⟩:=z5u hT hS e h.2;exact⟨Act.tv a t::vs,⟨h.1,h1⟩,by simp only[ze6];exact Sem.run_pure ..,h2⟩
 |(t,some ty)::rs,x::xs,ys,e,h=>by
  cases x with
  | sptr y=>
   simp only[WQ]at e;split at e
   ·rename_i hf;rw[pZ]at e;obtain⟨zs,e,rfl⟩:=e;obtain⟨vs,h1,h2⟩:=z5u hT hS e h.2;obtain⟨cs,q1,q2⟩:=h.1;simp only[Rep]at q1;obtain⟨b,o,l,rfl,r1,r2⟩:=q1;refine⟨y8 y l::vs,⟨⟨l,r1,rfl⟩,h1⟩,?_,h2⟩;simp only[ze6];have hv:a.tmps.getD t undef=.pointer (some ⟨b,o,none⟩):=q2;rw[hv];simp only[asAddr,Sem.run_bind,Sem.run_pure,Result.andThen_ok];exact Vr hT hf r1.len (λj u hj=>hS _ _ _ (r2 j u hj))
   ·cases e
  | _=>simp[WQ]at e
 | [],_::_,_,e,_=>by simp[WQ]at e
 |(_,none)::_,[],_,e,_=>by simp[WQ]at e
 |(_,some _)::_,[],_,e,_=>by simp[WQ]at e
theorem zrK {P:Program}  (hT:wy P tt)   (hr:fn.results=(rs.map ze6).toArray)(h:Sim C S Fp [] st a w){x:A}   (e:zv9 tt rs st=some (x,R,U)) :
  ∃v S',(results fn a.tmps).run P w=.ok v w/\(∀b o u,S b o=some u->S' b o=some u)/\(∀b o,¬C.M b->S' b o=C.S0 b o)/\xu S' w/\wh S' x v:=by
 unfold zv9 at e;obtain⟨xs,R1,U1,R2,U2,h1,e1,rfl,rfl⟩:=bind_some e;obtain⟨S1,Fp1,g1,g2,_,g3⟩:=vV h h1;have hm:(rs.map λr=>(Operand.tmp r.1,0)).map (λp=>a.eval p.1)=rs.map (λr=>Act.tv a r.1):=by rw[mO];rfl
 rw[hm]at g3;cases hg:WQ tt rs xs with
 | none=>simp only[hg]at e1;exact(z7 e1).elim
 | some ys=>
  obtain⟨vs,q1,q2⟩:=z5u (P:=P) hT g1.still hg g3;have hrun:(results fn a.tmps).run P w=.ok (if h:vs.toArray.size=1 then vs.toArray[0] else .tuple vs.toArray) w:=by unfold results;rw[hr,Array.mapM_eq_foldlM,List.foldlM_toArray,Sem.run_bind];have:=z0Z (P:=P) (w:=w) _ _ vs #[] q2;rw[nL]at this;exact(congrArg (λr=>Result.andThen r (λq w'=>Sem.run P (pure (if h:q.size=1 then q[0] else Value.tuple q)) w')) this).trans rfl
  simp only[hg]at e1;refine⟨_,S1,hrun,g2,g1.sbase,g1.still,?_⟩;rcases ys with _|⟨y,_|⟨y2,l⟩⟩
  ·obtain⟨rfl,rfl,rfl⟩:=zy e1;cases vs with
   | nil=>simp only[wh];exact⟨[],rfl,trivial⟩
   | cons _ _=>exact q1.elim
  ·obtain⟨rfl,rfl,rfl⟩:=zy e1;rcases vs with _|⟨v,_|⟨v2,l⟩⟩
   ·exact q1.elim
   ·exact q1.1.repV
   ·exact q1.2.elim
  ·obtain⟨rfl,rfl,rfl⟩:=zy e1;rcases vs with _|⟨v,_|⟨v2,l2⟩⟩
   ·exact q1.elim
   ·exact q1.2.elim
   ·simp only[wh];exact⟨v::v2::l2,by simp,q1⟩
end
def zz5:List A->A
 | [x]=>x
 | ys=>.tup ys
section
variable {C:Ctx}{S:zo}{Fp:Nat->List Nat}{X:List Nat}{st:St}{a:Act}{w:World}
theorem zer {P:Program}  (hT:wy P tt)   (hr:fn.results=(rs.map ze6).toArray)  (hS:xu S w){xs ys:List A}(hg:WQ tt rs xs=some ys)(h3:UR (qa S) xs (rs.map λr=>Act.tv a r.1)) :
  ∃v,(results fn a.tmps).run P w=.ok v w/\wh S (zz5 ys) v:=by
 obtain⟨vs,q1,q2⟩:=z5u (P:=P) hT hS hg h3;refine⟨if h:vs.toArray.size=1 then vs.toArray[0] else .tuple vs.toArray,?_,?_⟩
 ·unfold results;rw[hr,Array.mapM_eq_foldlM,List.foldlM_toArray,Sem.run_bind];have:=z0Z (P:=P) (w:=w) _ _ vs #[] q2;rw[nL]at this;exact(congrArg (λr=>Result.andThen r (λq w'=>Sem.run P (pure (if h:q.size=1 then q[0] else Value.tuple q)) w')) this).trans rfl
 ·rcases ys with _|⟨y,_|⟨y2,l⟩⟩
  ·cases vs with
   | nil=>simp only[wh];exact⟨[],rfl,trivial⟩
   | cons _ _=>exact q1.elim
  ·rcases vs with _|⟨v,_|⟨v2,l⟩⟩
   ·exact q1.elim
   ·exact q1.1.repV
   ·exact q1.2.elim
  ·rcases vs with _|⟨v,_|⟨v2,l2⟩⟩
   ·exact q1.elim
   ·exact q1.2.elim
   ·simp only[wh];exact⟨v::v2::l2,by simp,q1⟩
end
structure zN where
 α:Type
 k:Nat
 raw:Bool
 gives:List Bool
 enc:α->List A
 pre:α->Prop
 f:α->A
 inj:∀x y,enc x=enc y->pre x->pre y->f x=f y
structure Ctr.Has (c:Ctr)(s:zN):Prop where
 run:∀x,s.pre x->c.run s.k (s.enc x)=some (s.f x)
 gives:c.gives s.k=s.gives
 raw:c.raw s.k=s.raw
 lend:c.lend s.k=none
def zN.Ok (P:Program)(s:zN):Prop:=∀x,s.pre x->V5 P s.k (s.enc x) (s.f x)
open Classical in
noncomputable def Ctr.add (c:Ctr)(s:zN):Ctr:={
 run:=λk as_=>if k=s.k then(if h:∃x,s.enc x=as_/\s.pre x then some (s.f h.choose) else none) else c.run k as_
 gives:=λk=>if k=s.k then s.gives else c.gives k
 raw:=λk=>if k=s.k then s.raw else c.raw k
 lend:=λk=>if k=s.k then none else c.lend k
 runL:=c.runL }
theorem Ctr.add_has (c:Ctr)(s:zN):(c.add s).Has s:={
 run:=λx hx=>by have h:∃y,s.enc y=s.enc x/\s.pre y:=⟨x,rfl,hx⟩;simp only[Ctr.add,if_true,dif_pos h,Option.some.injEq];exact s.inj _ _ h.choose_spec.1 h.choose_spec.2 hx
 gives:=by simp[Ctr.add]
 raw:=by simp[Ctr.add]
 lend:=by simp[Ctr.add] }
theorem Ctr.Has.add {c:Ctr}{s t:zN}(h:c.Has t)(hk:t.k≠s.k):(c.add s).Has t:={
 run:=λx hx=>by simp only[Ctr.add,if_neg hk];exact h.run x hx
 gives:=by simp only[Ctr.add,if_neg hk];exact h.gives
 raw:=by simp only[Ctr.add,if_neg hk];exact h.raw
 lend:=by simp only[Ctr.add,if_neg hk];exact h.lend }
theorem Ctr.add_ok {c:Ctr}{s:zN}(hc:zF P c)(hs:s.Ok P):zF P (c.add s):=by
 refine⟨?_,?_,zaV.none P⟩
 ·intro k as_ r e;simp only[Ctr.add]at e;split at e
  ·rename_i hk;split at e
   ·rename_i h;simp only[Option.some.injEq]at e;subst e hk;have q:=hs _ h.choose_spec.2;rw[h.choose_spec.1]at q;exact q
   ·cases e
  ·exact hc.1 _ _ _ e
 ·intro k i ls r y e1 e2;simp only[Ctr.add]at e1 e2;split at e1
  ·cases e1
  ·exact hc.2.1 _ _ _ _ _ e1 e2
def z3y:Ctr:={ run:=λ_ _=>none,gives:=λ_=>[] }
theorem zgE (P:Program):zF P z3y:=⟨λ_ _ _ h=>(by cases h),λ_ _ _ _ _ h _=>(by cases h),zaV.none P⟩
noncomputable def zsC:List zN->Ctr
 | []=>z3y
 | s::l=>(zsC l).add s
def zp (P:Program):List zN->Prop
 | []=>True
 | s::l=>(∀c,zF P c->(∀t∈l,c.Has t)->s.Ok P)/\(∀t∈l,t.k≠s.k)/\zp P l
theorem zhP:∀{l:List zN},zp P l->zF P (zsC l)/\∀t∈l,(zsC l).Has t
 | [],_=>⟨zgE P,λ_ h=>by cases h⟩
 | s::l,h=>by
  obtain⟨h1,h2⟩:=zhP h.2.2;refine⟨Ctr.add_ok h1 (h.1 _ h1 h2),λt ht=>?_⟩;rcases pD.1 ht with rfl|ht
  ·exact Ctr.add_has _ _
  ·exact(h2 t ht).add (h.2.1 t ht)
theorem ziU {l:List zN}(h:zp P l){s:zN}(hs:s∈l):s.Ok P:=by intro x hx;obtain⟨h1,h2⟩:=zhP h;exact h1.1 _ _ _ ((h2 s hs).run x hx)
abbrev I (x:Int):A:=.atom (.int .i64 x)
abbrev B (x:Bool):A:=.atom (.bool x)
theorem zc1 (f:α->A)(l:List α):A.looses (l.map f)=l.map λx=>(f x).loose:=by rw[A.looses_eq,mO];rfl
theorem z9q (f:α->A):∀(l:List α),A.shuts (l.map f)=l.map λx=>(f x).shut
 | []=>rfl
 | x::l=>by simp[A.shuts,z9q f l]
theorem zdC (f:α->A):∀(l:List α),(∀x,(f x).isD=true)->A.areD (l.map f)=true
 | [],_=>rfl
 | x::l,h=>by simp[A.areD,h x,zdC f l h]
theorem z9T (f:α->A):∀(l:List α),(∀x,(f x).live=true)->A.lives (l.map f)=true
 | [],_=>rfl
 | x::l,h=>by simp[A.lives,h x,z9T f l h]
theorem Has.frame {S S':zo}{h h':Array Obj}(hS:∀b o v,S b o=some v->S' b o=some v){a:A}   (q:Has S h a v F)(hF:∀k∈F,h'[k]?=h[k]?/\∀o,S' k o=none):Has S' h' a v F:=by
 rcases q with⟨q,rfl⟩|⟨cs,q1,q2,q3⟩
 ·exact .inl ⟨q.mono hS,rfl⟩
 ·exact .inr ⟨cs,q1.frame hS hF,q2,q3⟩
theorem Has.own {a:A}   (q:Has S h a v F):∀k∈F,k<h.size/\∀o,S k o=none:=by
 rcases q with⟨_,rfl⟩|⟨cs,q1,_,_⟩
 ·simp
 ·exact λk hk=>⟨(q1.own k hk).1,(q1.own k hk).2.1⟩
theorem zhK {a:A}   (hd:a.isD=true)(q:Has S h a v F):qa S a v/\F=[]:=by
 rcases q with⟨q,e⟩|⟨cs,q1,q2,q3⟩
 ·exact⟨q.rep1 hd,e⟩
 ·obtain⟨r,e⟩:=q1.isD hd;exact⟨⟨cs,r,q3⟩,e⟩
theorem zdF {α β:Type}{R:α->β->Prop}:∀{l:List α} {m:List β},UR R l m->l.length=m.length
 | [],[],_=>rfl
 | _::_,_::_,q=>by simp[zdF q.2]
 | [],_::_,q=>q.elim
 | _::_,[],q=>q.elim
theorem z8V {α β:Type}{R:α->β->Prop}:∀{l:List α} {m:List β} {l':List α} {m':List β},UR R l m->UR R l' m'->UR R (l++l') (m++m')
 | [],[],_,_,_,q=>q
 | _::_,_::_,_,_,p,q=>⟨p.1,z8V p.2 q⟩
 | [],_::_,_,_,q,_=>q.elim
 | _::_,[],_,_,q,_=>q.elim
def z4T:List (Nat×Value)->Nat->Option Value
 | [],_=>none
 | p::ps,k=>if p.1=k then some p.2 else z4T ps k
theorem ZQ:∀{ps:List (Nat×Value)} {k:Nat} {v:Value},z4T ps k=some v->(k,v)∈ps
 | p::ps,k,v,h=>by
  simp only[z4T]at h;split at h
  ·rename_i e;simp only[Option.some.injEq]at h;subst e;subst h;exact rF
  ·exact nF _ (ZQ h)
def refT (tt:TT)(n:Fr)(ty:Nat)(x:T):SM A :=
 match x with
 | .als r p er ec=>
  match z4T n.pin r with
  | some v=>do
   let e <-rdE r;match e.t with
   | .own x=>if p=[]/\e.er=er/\z8P x=true then pure (.atom v) else shutT tt ty (.als r p er ec)
   | _=>shutT tt ty (.als r p er ec)
  | none=>shutT tt ty (.als r p er ec)
 | x=>shutT tt ty x
def refArgs (tt:TT)(n:Fr):List (Operand×Nat)->SM (List A)
 | []=>pure []
 |(x,t)::as_=>do
  let y <-opnd x;let a <-refT tt n t y;let bs <-refArgs tt n as_
  pure (a::bs)
def lentA (n:Fr)(s:Nat):SM (Value×A) :=
 match z4T n.pin s with
 | some v=>do
  let e <-rdE s;match e.t with
  | .own x=>
   if z8P x=true then do
    wrE s ⟨.own (.dead 1),e.er,e.ec+1⟩
    pure (v,x)
   else zu
  | _=>zu
 | none=>zu
def lentsA (n:Fr):List Nat->SM (List (Value×A))
 | []=>pure []
 | s::ss=>do
  let q <-lentA n s;let r <-lentsA n ss
  pure (q::r)
def backA (s:Nat)(y:A):SM Unit:=do
 let e <-rdE s;match e.t with
 | .own (.dead _)=>if z8P y=true then wrE s ⟨.own y,e.er,e.ec+1⟩ else zu
 | _=>zu
def backsA:List Nat->List A->SM Unit
 | [],[]=>pure ()
 | s::ss,y::ys=>do
  backA s y
  backsA ss ys
 | _,_=>zu
def zCk (P:Program)(fvv:Value)(avs:List Value)(w:World)(R:Value->World->Prop):Prop :=
 (∃k caps fn,fvv=.func (.func k) #[] caps/\P.funcs[k]?=some fn/\(fn.name == "runtime.NumGoroutine")=false/\fn.body.isNone=false/\Calls P k (avs.toArray++caps) w (λe w'=>∃v,e=.returned v/\R v w')) \/
 (∃L q,fvv=.func (.yield L) #[] #[]/\w.heap[L]?=some (.loop q)/\avs.length=q.params.size /\
  ∀rd m,RoundIn (fen rd) m P L q.fn ((q.params.zip avs.toArray).foldl (λtmps (t,a)=>tmps.setIfInBounds t a) q.tmps) q.assign q.body w (λe w'=>∃v,e=.returned v/\R v w'))
def Yr (P:Program)(f:A)(args:List A)(ls:List (Value×A))(r:A)(ys:List A):Prop :=
 ∀(S:zo) (w:World) (fv:Value) (vs:List Value) (F:List Nat),xu S w->qa S f fv->UR (qa S) args vs->QI S w.heap (ls.map (·.2)) (ls.map (·.1)) F->F.Nodup ->
  zCk P fv vs w λv w'=>∃S' F' G,UQ (λk=>w.heap.size<=k\/k∈F) w w'/\(∀b o u,S b o=some u->S' b o=some u)/\(∀b o,b<w.heap.size->b∉F->S' b o=S b o)/\xu S' w'/\Has S' w'.heap r v F'/\QI S' w'.heap ys (ls.map (·.1)) G /\
   (G++F').Nodup/\∀k∈G++F',w.heap.size<=k\/k∈F
def lentQ (tt:TT)(tab:A->List A->List (Value×A)->Option (A×List A))(n:Fr)(dst:Option Nat)(f:Operand)(as_:List (Operand×Nat))(L:List Nat):SM Unit:=do
 let fs <-refArgs tt n [(f,0)];let xs <-refArgs tt n as_;let ls <-lentsA n L;match fs with
 | [fa]=>
  match tab fa xs ls with
  | some (r,ys)=>do
   backsA L ys
   wrT n dst (mkT r)
  | none=>zu
 | _=>zu
section
variable {C:Ctx}{S:zo}{Fp:Nat->List Nat}{X:List Nat}{st:St}{a:Act}{w:World}
theorem zrP (h:Sim C S Fp X st a w)   {x:T}  (hx:TOk S w.heap st (Act.tv a) x v){y:A}   (e:refT tt C.n t x st=some (y,R,U)) :
  ∃S' Fp',Sim C S' Fp' X (zh U st) a w/\(∀b o u,S b o=some u->S' b o=some u)/\qa S' y v:=by
 have other:shutT tt t x st=some (y,R,U)->∃S' Fp',Sim C S' Fp' X (zh U st) a w/\(∀b o u,S b o=some u->S' b o=some u)/\qa S' y v:=λe=>by obtain⟨S',Fp',h1,h2,_,h3⟩:=z5g h hx e;exact⟨S',Fp',h1,h2,h3⟩
 cases x with
 | als r p er ec=>
  simp only[refT]at e;have oth:∀{y:A} {R:List Nat} {U:List (Nat×Ent)},shutT tt t (.als r p er ec) st=some (y,R,U)->∃S' Fp',Sim C S' Fp' X (zh U st) a w/\(∀b o u,S b o=some u->S' b o=some u)/\qa S' y v:=λe=>by obtain⟨S',Fp',h1,h2,_,h3⟩:=z5g h hx e;exact⟨S',Fp',h1,h2,h3⟩
  cases hu:z4T C.n.pin r with
  | none=>simp only[hu]at e;exact other e
  | some u=>
  simp only[hu]at e;obtain⟨en,R1,U1,R2,U2,h1,e1,rfl,rfl⟩:=bind_some e;obtain⟨rfl,rfl,rfl⟩:=yl h1;simp only[zh,p9]at e1 ⊢;cases ht:(st r).t with
  | own x0=>
   simp only[ht]at e1;split at e1
   ·rename_i hc;obtain⟨rfl,rfl,rfl⟩:=zy e1;obtain⟨rfl,hc1,hc2⟩:=hc;refine⟨S,Fp,h,λ_ _ _ q=>q,?_⟩;have hr:=h.ent r;unfold wv at hr;simp only[ht]at hr;obtain⟨cs,c1,c2,c3⟩:=hr;have hv:v=Act.tv a r:=by
     have:=hx.2.2;simp only[ht]at this;rcases this hc1 (.inl trivial) with⟨_,hv⟩|⟨ho,_⟩
     ·exact hv
     ·simp[z2C]at ho
    have hp:Act.tv a r=u:=h.pin r u (ZQ hu);rw[xY];refine⟨hv.trans hp,?_⟩;have hcs:=z1b hc2 c1;have:=c1.one1 (z3j hc2) (y8 x0 cs) (by have q:=rB (y8 x0 cs);rwa[<-hcs]at q);rw[<-hp,c3];exact this
   ·exact oth e1
  | gone=>simp only[ht]at e1;exact oth e1
  | d _=>simp only[ht]at e1;exact oth e1
  | als _ _ _ _=>simp only[ht]at e1;exact oth e1
  | ptr _ _ _ _=>simp only[ht]at e1;exact oth e1
 | d z=>exact other e
 | own _=>exact hx.elim
 | gone=>exact hx.elim
 | ptr _ _ _ _=>exact other e
theorem YG:∀{bs:List (Operand×Nat)} {S:zo} {Fp:Nat->List Nat} {st:St},Sim C S Fp X st a w->∀{xs:List A} {R:List Nat} {U:List (Nat×Ent)},refArgs tt C.n bs st=some (xs,R,U) ->
  ∃S' Fp',Sim C S' Fp' X (zh U st) a w/\(∀b o u,S b o=some u->S' b o=some u)/\UR (qa S') xs (bs.map λp=>a.eval p.1)
 | [],S,Fp,st,h,xs,R,U,e=>by obtain⟨rfl,rfl,rfl⟩:=zy e;exact⟨S,Fp,h,λ_ _ _ q=>q,trivial⟩
 |(x,t)::bs,S,Fp,st,h,xs,R,U,e=>by simp only[refArgs]at e;obtain⟨y,R1,U1,R2,U2,h1,e1,rfl,rfl⟩:=bind_some e;obtain⟨rfl,hx⟩:=zK h h1;simp only[zh,p9]at e1 ⊢;obtain⟨z,R3,U3,R4,U4,h3,e2,rfl,rfl⟩:=bind_some e1;obtain⟨S1,Fp1,g1,g2,g3⟩:=zrP h hx h3;obtain⟨zs,R5,U5,R6,U6,h5,e3,rfl,rfl⟩:=bind_some e2;obtain⟨S2,Fp2,k1,k2,k3⟩:=YG g1 h5;obtain⟨rfl,rfl,rfl⟩:=zy e3;rw[hU,zB];exact⟨S2,Fp2,k1,λb o u q=>k2 _ _ _ (g2 _ _ _ q),g3.mono k2,k3⟩
theorem zoT (h:Sim C S Fp X st a w){s:Nat}{q:Value×A}   (e:lentA C.n s st=some (q,R,U)) :
  ∃Fp' F,Sim C S Fp' (F++X) (zh U st) a w/\Has S w.heap q.2 q.1 F/\Act.tv a s=q.1:=by
 simp only[lentA]at e;cases hu:z4T C.n.pin s with
 | none=>simp only[hu]at e;exact(z7 e).elim
 | some u=>
 simp only[hu]at e;obtain⟨en,R1,U1,R2,U2,h1,e1,rfl,rfl⟩:=bind_some e;obtain⟨rfl,rfl,rfl⟩:=yl h1;simp only[zh,p9]at e1 ⊢;cases ht:(st s).t with
 | own x=>
  simp only[ht]at e1;split at e1
  ·rename_i ho;obtain⟨u5,R5,U5,R6,U6,h5,h6,rfl,rfl⟩:=bind_some e1;obtain⟨rfl,rfl⟩:=wO h5;obtain⟨rfl,rfl,rfl⟩:=zy h6;simp only[hU,zh];have hr:=h.ent s;unfold wv at hr;simp only[ht]at hr;obtain⟨cs,c1,c2,c3⟩:=hr;have hp:Act.tv a s=u:=h.pin s u (ZQ hu);have hcs:=z1b ho c1;have hone:(y8 x cs).oneCell'=true:=c1.one1 (z3j ho) _ (by have q:=rB (y8 x cs);rwa[<-hcs]at q);refine⟨z2j Fp s [],Fp s,?_,.inr ⟨cs,c1,c2,by rw[<-hp];exact c3⟩,hp⟩;refine h.change s (.own (.dead 1)) _ _ [] h.below (λ_ _ _ q=>q) h.still.cell h.sbase (λt k _ hk=>⟨rfl,(h.free t k hk).2.1⟩) ⟨⟨[Act.tv a s],?_,List.nodup_nil,rfl⟩,x,ht⟩ (.inl ⟨x,ht⟩) (pC _) (gB _) (by simp) (by simp) ?_ ?_ (by simp) ?_
   ·simp only[zU];refine⟨rfl,?_,trivial⟩;intro v hv;simp only[pD,pX,or_false]at hv;rw[hv,c3];exact hone
   ·rw[pM];exact⟨c2,h.xn,λk hk k' hk' e=>h.xd s k' hk' (e ▸ hk)⟩
   ·intro t k hts hk;rcases pA.1 hk with hk|hk
    ·exact λhk'=>hts (h.disj t s k hk' hk)
    ·exact h.xd t k hk
   ·intro k hk;rcases pA.1 hk with hk|hk
    ·exact h.base s k hk
    ·exact h.xb k hk
  ·exact(z7 e1).elim
 | gone=>simp only[ht]at e1;exact(z7 e1).elim
 | d _=>simp only[ht]at e1;exact(z7 e1).elim
 | als _ _ _ _=>simp only[ht]at e1;exact(z7 e1).elim
 | ptr _ _ _ _=>simp only[ht]at e1;exact(z7 e1).elim
theorem z9U:∀{L:List Nat} {Fp:Nat->List Nat} {X:List Nat} {st:St},Sim C S Fp X st a w->∀{ls:List (Value×A)} {R:List Nat} {U:List (Nat×Ent)},lentsA C.n L st=some (ls,R,U) ->
  ∃Fp' F,Sim C S Fp' (F++X) (zh U st) a w/\QI S w.heap (ls.map (·.2)) (ls.map (·.1)) F/\ls.map (·.1)=L.map (Act.tv a)
 | [],Fp,X,st,h,ls,R,U,e=>by obtain⟨rfl,rfl,rfl⟩:=zy e;exact⟨Fp,[],h,rfl,rfl⟩
 | s::L,Fp,X,st,h,ls,R,U,e=>by simp only[lentsA]at e;obtain⟨q,R1,U1,R2,U2,h1,e1,rfl,rfl⟩:=bind_some e;obtain⟨Fp1,F1,g1,g2,g3⟩:=zoT h h1;obtain⟨zs,R5,U5,R6,U6,h5,e3,rfl,rfl⟩:=bind_some e1;obtain⟨Fp2,F2,k1,k2,k3⟩:=z9U g1 h5;obtain⟨rfl,rfl,rfl⟩:=zy e3;rw[hU,zB];exact⟨Fp2,F2++F1,by rw[pL];exact k1,⟨F1,F2,rfl,g2,k2⟩,by simp[k3,g3]⟩
theorem zpx (h:Sim C S Fp (F++X) st a w){s:Nat}{y:A}(hy:Has S w.heap y (Act.tv a s) F)    (e:backA s y st=some (u,R,U)):∃Fp',Sim C S Fp' X (zh U st) a w:=by
 simp only[backA]at e;obtain⟨en,R1,U1,R2,U2,h1,e1,rfl,rfl⟩:=bind_some e;obtain⟨rfl,rfl,rfl⟩:=yl h1;simp only[zh,p9]at e1 ⊢;have gone:(∀m,(st s).t≠.own (.dead m))->∃Fp',Sim C S Fp' X (zh U2 st) a w:=λhne=>by
  cases ht:(st s).t with
  | own x=>cases x <;> simp only[ht]at e1 <;> first|exact(z7 e1).elim|exact absurd ht (hne _)
  | _=>simp only[ht]at e1;exact(z7 e1).elim
 by_cases hm:∃m,(st s).t=.own (.dead m)
 ·obtain⟨m,ht⟩:=hm;simp only[ht]at e1;split at e1
  ·rename_i ho;obtain⟨rfl,rfl⟩:=wO e1;simp only[zh];have hx:=h.xn;rw[pM]at hx;have notup:∀fs,y≠.tup fs:=by rintro fs rfl;simp[z8P]at ho
   obtain⟨cz,z1,z2,z3⟩:=hy.cells notup;refine⟨z2j Fp s F,?_⟩;exact h.change s (.own y) _ _ F h.below (λ_ _ _ q=>q) h.still.cell h.sbase (λt k _ hk=>⟨rfl,(h.free t k hk).2.1⟩) ⟨⟨cz,z1,z2,z3⟩,_,ht⟩ (.inl ⟨_,ht⟩) (pC _) (gB _)
    (λt k _ hk=>h.xd t k (by simp[hk])) (λk hk=>h.xb k (by simp[hk])) hx.2.1 (λt k _ hk=>h.xd t k (by simp[hk])) (λk hk hk'=>hx.2.2 k hk' k hk rfl) (λk hk=>h.xb k (by simp[hk]))
  ·exact(z7 e1).elim
 ·exact gone λm he=>hm ⟨m,he⟩
theorem zfr:∀{L:List Nat} {ys:List A} {F X:List Nat} {Fp:Nat->List Nat} {st:St},Sim C S Fp (F++X) st a w->QI S w.heap ys (L.map (Act.tv a)) F->∀{u:Unit} {R:List Nat} {U:List (Nat×Ent)},backsA L ys st=some (u,R,U) ->
  ∃Fp',Sim C S Fp' X (zh U st) a w
 | [],[],F,X,Fp,st,h,hy,u,R,U,e=>by obtain⟨rfl,rfl,rfl⟩:=zy e;have:F=[]:=hy;subst this;exact⟨Fp,h⟩
 | s::L,y::ys,F,X,Fp,st,h,hy,u,R,U,e=>by
  simp only[backsA]at e;obtain⟨q,R1,U1,R2,U2,h1,e1,rfl,rfl⟩:=bind_some e;obtain⟨F1,F2,rfl,y1,y2⟩:=hy;have hperm:Sim C S Fp (F1++(F2++X)) st a w:={ h with
   xn:=by
    have:=h.xn;rw[pL]at this;rw[pM]at this ⊢;obtain⟨p1,p2,p3⟩:=this;rw[pM]at p2 ⊢;obtain⟨p4,p5,p6⟩:=p2;refine⟨p4,⟨p1,p5,λk hk k' hk'=>p3 k hk k' (by simp[hk'])⟩,λk hk k' hk'=>?_⟩;rcases pA.1 hk' with q|q
    ·exact λe=>p3 k' q k (by simp[hk]) e.symm
    ·exact p6 k hk k' q
   xd:=λt k hk=>h.xd t k (by simp only[pA]at hk ⊢;rcases hk with hk|hk|hk <;> simp[hk])
   xb:=λk hk=>h.xb k (by simp only[pA]at hk ⊢;rcases hk with hk|hk|hk <;> simp[hk]) }
  obtain⟨Fp1,g1⟩:=zpx hperm y1 h1;rw[zB];exact zfr (by simpa using g1) y2 e1
 | [],_::_,_,_,_,_,_,_,_,_,_,e=>(z7 e).elim
 | _::_,[],_,_,_,_,_,_,_,_,_,e=>(z7 e).elim
theorem zqB {P:Program}  {a:Act}{w:World}{f:Operand}{args:Array Operand}{tys:Array TypeId}(ho:o.op=.call { callee:=.value f,args:=args,argTypes:=tys }){R:Value->World->Prop}(h:zCk P (a.eval f) (args.map a.eval).toList w R)(rd:Option Nat)(m:Nat)(K:Act->World->Prop)
  (Q:Exit->Act->World->Prop) (hK:∀v w',R v w'->K (a.put o.dst v) w'):o.wpIn (fen rd) m P a w K Q:=by
 rcases h with⟨k,caps,fn,h1,h2,h3,h4,h5⟩|⟨L,q,h1,h2,h3,h4⟩
 ·have hexec:(execOp a.eval o).run P w=.ok (.enter k ((args.map a.eval).toList.toArray++caps)) w:=by have hc:=z3b (P:=P) h2 h3 h4 (args.map a.eval++caps) w;simp only[execOp,ho,resolve,h1,Deferred.ofValue,Sem.run_bind,Sem.run_pure,Result.andThen_ok,invoke,nL];rw[hc]
  refine⟨λ_ _=>trivial,?_⟩;rw[Uw hexec (by simp),Oper.uponIn_enter];refine⟨λh=>(by cases h),CallsIn.mono (z0x h5 rd (m - 1)) ?_⟩;rintro e w' ⟨v,rfl,hr⟩;exact hK v w' hr
 ·have hexec:(execOp a.eval o).run P w=.ok (.round L q.fn ((q.params.zip (args.map a.eval).toList.toArray).foldl (λtmps (t,a)=>tmps.setIfInBounds t a) q.tmps) q.assign q.body) w:=by have hy:=run_yield (P:=P) (args:=args.map a.eval) h2 (by simpa using h3);simp only[execOp,ho,resolve,h1,Deferred.ofValue,Sem.run_bind,Sem.run_pure,Result.andThen_ok,invoke,nL];rw[hy]
  refine⟨λ_ _=>trivial,?_⟩;rw[Uw hexec (by simp),Oper.uponIn_round];refine⟨λh=>(by cases h),(h4 rd (m - 1)).mono ?_⟩;rintro e w' ⟨v,rfl,hr⟩;exact hK v w' hr
theorem Sim.lentCall (h:Sim C S Fp (X++[]) st a w){S':zo}{w':World}{Y:List Nat}(b1:UQ (λk=>w.heap.size<=k\/k∈X) w w')(b2:∀b o u,S b o=some u->S' b o=some u)(b3:∀b o,b<w.heap.size->b∉X->S' b o=S b o)(b4:xu S' w')
  (b5:Y.Nodup) (b6:∀k∈Y,w.heap.size<=k\/k∈X):Sim C S' Fp Y st a w':=by
 rw[hU]at h;have hM:∀k,(w.heap.size<=k\/k∈X)->C.M k:=λk hk=>hk.elim (λhk=>h.mine k (pE h.base_le hk)) (λhk=>h.xb k hk);have hno:∀t k,k∈Fp t->¬(w.heap.size<=k\/k∈X):=by
  rintro t k hk (hq|hq)
  ·have:=(h.free t k hk).1;omega
  ·exact h.xd t k hq hk
 refine h.mem (h.below.trans (b1.mono hM)) b2 b4 ?_ ?_ b5 (λt k hk hkt=>hno t k hkt (b6 k hk)) (λk hk=>hM k (b6 k hk))
 ·intro b o hb;rcases pH b w.heap.size with hlt|hge
  ·rw[b3 b o hlt (λhF=>hb (hM b (.inr hF)))];exact h.sbase b o hb
  ·exact absurd (hM b (.inl hge)) hb
 ·intro t k hk;refine⟨b1.block k (hno t k hk),λo=>?_⟩;rw[b3 k o (h.free t k hk).1 (λhF=>hno t k hk (.inr hF))];exact(h.free t k hk).2.1 o
theorem zoQ {tt:TT}{tab:A->List A->List (Value×A)->Option (A×List A)}(htab:∀f xs ls r ys,tab f xs ls=some (r,ys)->Yr P f xs ls r ys)(h:Sim C S Fp [] st a w){op:Oper}{f:Operand}{args:Array Operand}{tys:Array TypeId}{L:List Nat}
  (ho:op.op=.call { callee:=.value f,args:=args,argTypes:=tys }) (hsz:args.size=tys.size) {u:Unit} {R:List Nat} {U:List (Nat×Ent)}
  (e:lentQ tt tab C.n op.dst f (args.toList.zip tys.toList) L st=some (u,R,U)):qO P C op a w (zh U st):=by
 unfold lentQ at e;obtain⟨fs,R1,U1,R2,U2,e1,e2,rfl,rfl⟩:=bind_some e;obtain⟨S1,Fp1,g1,g2,g3⟩:=YG h e1;obtain⟨xs,R3,U3,R4,U4,e3,e4,rfl,rfl⟩:=bind_some e2;obtain⟨S2,Fp2,j1,j2,j3⟩:=YG g1 e3;obtain⟨ls,R5,U5,R6,U6,e5,e6,rfl,rfl⟩:=bind_some e4;obtain⟨Fp3,F,k1,k2,k3⟩:=z9U j1 e5;rw[zB,zB,zB];have hmapargs:(args.toList.zip tys.toList).map (λp=>a.eval p.1)=(args.map a.eval).toList:=by
  have:(args.toList.zip tys.toList).map (λp=>a.eval p.1)=((args.toList.zip tys.toList).map (·.1)).map a.eval:=by rw[mO];rfl
  rw[this,rp (by simp[hsz])];simp
 rw[hmapargs]at j3;rcases fs with _|⟨fa,_|⟨f2,fs⟩⟩
 ·exact g3.elim
 ·simp only at e6;cases hr:tab fa xs ls with
  | none=>simp only[hr]at e6;exact(z7 e6).elim
  | some q=>
   obtain⟨r,ys⟩:=q;simp only[hr]at e6;have hF:F.Nodup:=by simpa using k1.xn
   have hact:=htab _ _ _ _ _ hr S2 w (a.eval f) _ F j1.still (g3.1.mono j2) j3 k2 hF;intro rd m K Q hK;refine zqB ho hact rd m K Q ?_;rintro v w' ⟨S',F',G,b1,b2,b3,b4,b5,b6,b7,b8⟩;have hs':=k1.lentCall b1 b2 b3 b4 b7 b8;obtain⟨u1,R11,U11,R12,U12,e11,e12,rfl,rfl⟩:=bind_some e6;rw[k3]at b6;obtain⟨Fp4,m1⟩:=zfr (F:=G) (X:=F') hs' b6 e11;rw[zB]at hK;obtain⟨Fp5,m2⟩:=z8Y (X:=[]) (by simpa using m1) e12 b5;exact hK _ _ _ _ m2
 ·exact g3.2.elim
end
theorem Loc.refT (tt:TT)(n:Fr)(t:Nat)(x:T):Loc (refT tt n t x):=by
 unfold Go.Own.refT;split
 ·split
  ·refine Loc.bind (Loc.rdE _) λe=>?_;split
   ·exact Loc.ite (Loc.pure _) (Loc.shutT _ _ _)
   ·exact Loc.shutT _ _ _
  ·exact Loc.shutT _ _ _
 ·exact Loc.shutT _ _ _
theorem Loc.refArgs (tt:TT)(n:Fr):∀bs,Loc (refArgs tt n bs)
 | []=>Loc.pure _
 |(x,t)::bs=>Loc.bind (Loc.opnd x) λ_=>Loc.bind (Loc.refT tt n t _) λ_=>Loc.bind (Loc.refArgs tt n bs) λ_=>Loc.pure _
theorem Loc.lentA (n:Fr)(s:Nat):Loc (lentA n s):=by
 unfold Go.Own.lentA;split
 ·refine Loc.bind (Loc.rdE _) λe=>?_;split
  ·exact Loc.ite (Loc.bind (Loc.wrE _ _) λ_=>Loc.pure _) Loc.fail
  ·exact Loc.fail
 ·exact Loc.fail
theorem Loc.lentsA (n:Fr):∀L,Loc (lentsA n L)
 | []=>Loc.pure _
 | s::L=>Loc.bind (Loc.lentA n s) λ_=>Loc.bind (Loc.lentsA n L) λ_=>Loc.pure _
theorem Loc.backA (s:Nat)(y:A):Loc (backA s y):=by
 unfold Go.Own.backA;refine Loc.bind (Loc.rdE _) λe=>?_;split
 ·exact Loc.ite (Loc.wrE _ _) Loc.fail
 ·exact Loc.fail
theorem Loc.backsA:∀L ys,Loc (backsA L ys)
 | [],[]=>Loc.pure _
 | s::L,y::ys=>Loc.bind (Loc.backA s y) λ_=>Loc.backsA L ys
 | [],_::_=>Loc.fail
 | _::_,[]=>Loc.fail
theorem Loc.lentQ (tt:TT)(tab:A->List A->List (Value×A)->Option (A×List A))(n:Fr)(dst:Option Nat)(f:Operand)(bs:List (Operand×Nat))(L:List Nat):Loc (lentQ tt tab n dst f bs L):=by
 unfold Go.Own.lentQ;refine Loc.bind (Loc.refArgs _ _ _) λfs=>Loc.bind (Loc.refArgs _ _ _) λxs=>Loc.bind (Loc.lentsA _ _) λls=>?_;split
 ·split
  ·exact Loc.bind (Loc.backsA _ _) λ_=>Loc.wrT _ _ _
  ·exact Loc.fail
 ·exact Loc.fail
def z1i (tt:TT)(tab:A->List A->List (Value×A)->Option (A×List A))(d:Nat)(L:List Nat)(n:Fr)(o:Oper):Option (SM Unit) :=
 match o.op with
 | .call ⟨.value f,args,tys⟩=>if o.dst=some d/\args.size=tys.size then some (lentQ tt tab n o.dst f (args.toList.zip tys.toList) L) else none
 | _=>none
theorem zcb {tab:A->List A->List (Value×A)->Option (A×List A)}(htab:∀f xs ls r ys,tab f xs ls=some (r,ys)->Yr P f xs ls r ys)(d:Nat)(L:List Nat):zaV P (z1i tt tab d L):=by
 refine⟨?_,?_⟩
 ·intro C S Fp st a w o m u R U e h h2;unfold z1i at e;split at e
  ·rename_i t' args tys ho;split at e
   ·rename_i hc;simp only[Option.some.injEq]at e;subst e;exact zoQ htab h ho hc.2 h2
   ·cases e
  ·cases e
 ·intro n o m e;unfold z1i at e;split at e
  ·split at e
   ·simp only[Option.some.injEq]at e;subst e;exact λst st' a R U=>Loc.lentQ _ _ _ _ _ _ _ st st' a R U
   ·cases e
  ·cases e
def mkQ (tt:TT)(n:Fr)(dst:Option Nat)(f:Nat)(caps:List Operand):SM Unit:=do
 let xs <-refArgs tt n (caps.map λx=>(x,0))
 if xs.all z6H=true then wrT n dst (.d (.fn f xs)) else zu
section
variable {C:Ctx}{S:zo}{Fp:Nat->List Nat}{X:List Nat}{st:St}{a:Act}{w:World}
theorem zvy (h:Sim C S Fp [] st a w)  {f:Nat}  (ho:o.op=.makeFunc (.func f) #[] caps)    (e:mkQ tt C.n o.dst f caps.toList st=some (u,R,U)):qO P C o a w (zh U st):=by
 unfold mkQ at e;obtain⟨xs,R1,U1,R2,U2,h1,e1,rfl,rfl⟩:=bind_some e;obtain⟨S1,Fp1,g1,g2,g3⟩:=YG h h1;rw[zB];split at e1
 ·rename_i hall;have hc:∀c∈xs,c.size=1/\∀fs,c≠.agg fs:=by intro c hc;have:=gJ.1 hall c hc;cases c <;> simp_all [z6H,A.size]
  have hmap:(caps.toList.map λx=>(x,0)).map (λp=>a.eval p.1)=(caps.map a.eval).toList:=by simp[mO,Function.comp_def]
  rw[hmap]at g3;obtain⟨Fp',hs⟩:=wP g1 e1 (x:=.d (.fn f xs)) (v:=.func (.func f) #[] (caps.map a.eval)) (by simp only[TOk,wh];refine⟨[.func (.func f) #[] (caps.map a.eval)],?_,rfl⟩;simp only[Rep];exact⟨(caps.map a.eval).toList,zat g3 hc,hc,by rw[Array.toArray_toList]⟩)
  exact zr (by simp[execOp,ho,Instr.makeFunc]) hs
 ·exact(z7 e1).elim
end
theorem Loc.mkQ (tt:TT)(n:Fr)(dst:Option Nat)(f:Nat)(caps:List Operand):Loc (mkQ tt n dst f caps):=by unfold Go.Own.mkQ;exact Loc.bind (Loc.refArgs _ _ _) λ_=>Loc.ite (Loc.wrT _ _ _) Loc.fail
def ziS (tt:TT)(n:Fr)(o:Oper):Option (SM Unit) :=
 match o.op with
 | .makeFunc (.func f) ⟨[]⟩ caps=>some (mkQ tt n o.dst f caps.toList)
 | _=>none
theorem zpm (P:Program)(tt:TT):zaV P (ziS tt):=by
 refine⟨?_,?_⟩
 ·intro C S Fp st a w o m u R U e h h2;unfold ziS at e;split at e
  ·rename_i f caps ho;simp only[Option.some.injEq]at e;subst e;exact zvy h ho h2
  ·cases e
 ·intro n o m e;unfold ziS at e;split at e
  ·simp only[Option.some.injEq]at e;subst e;exact λst st' a R U=>Loc.mkQ _ _ _ _ _ st st' a R U
  ·cases e
def z1C (l:List A):List Nat->List A->List A
 | i::is,x::xs=>(z1C l is xs).set i x
 | _,_=>l
theorem z6C (l:List A):∀(is:List Nat) (xs:List A),(z1C l is xs).length=l.length
 | [],_=>rfl
 | _::_,[]=>rfl
 | i::is,x::xs=>by simp[z1C,z6C l is xs]
theorem zei (l:List A)  : ∀{is:List Nat} {xs:List A},k∉is->(z1C l is xs)[k]?=l[k]?
 | [],_,_=>rfl
 | _::_,[],_=>rfl
 | i::is,x::xs,h=>by simp only[pD,not_or]at h;simp only[z1C];rw[gK (nX h.1)];exact zei l h.2
theorem zhI {x:A}{F1:List Nat}(hx:Has S h x v F1):∀{l:List A} {vs:List Value} {F:List Nat} {p:Nat},QI S h l vs F->l[p]?=some (.atom v)->∃F',QI S h (l.set p x) vs F'/\F'.Perm (F1++F)/\vs[p]?=some v
 | [],vs,F,p,_,e=>by simp at e
 | y::l,[],F,p,q,_=>q.elim
 | y::l,u::vs,F,0,⟨G1,G2,hF,q1,q2⟩,e=>by simp only[rA,Option.some.injEq]at e;subst e;obtain⟨r1,rfl⟩:=zhK (by rfl) q1;have hu:u=v:=(xY.1 r1).1;subst hu;subst hF;exact⟨G2++F1,⟨F1,G2,rfl,hx,q2⟩,by simpa using List.perm_append_comm,by simp⟩
 | y::l,u::vs,F,p+1,⟨G1,G2,hF,q1,q2⟩,e=>by obtain⟨F',h1,h2,h3⟩:=zhI hx q2 (p:=p) (by simpa using e);subst hF;refine⟨F' ++ G1,⟨G1,F',rfl,q1,h1⟩,?_,by simpa using h3⟩;rw[<-pL];exact h2.append_right G1
theorem za3 {base:List A}  (hb:UR (qa S) base vs):∀{is:List Nat} {xs:List A} {vals:List Value} {F:List Nat},is.Nodup->is.map (λi=>base[i]?)=vals.map (λv=>some (.atom v))->QI S h xs vals F ->
  ∃F',QI S h (z1C base is xs) vs F'/\F'.Perm F/\is.map (λi=>vs[i]?)=vals.map some
 | [],[],[],F,_,_,q=>⟨[],JH hb,by rw[show F=[] from q],rfl⟩
 | [],_::_,[],F,_,_,q=>q.elim
 | [],_,_::_,F,_,e,_=>by simp at e
 | _::_,_,[],F,_,e,_=>by simp at e
 | _::_,[],_::_,F,_,_,q=>q.elim
 | i::is,x::xs,v::vals,F,hn,e,⟨F1,F2,hF,q1,q2⟩=>by simp only[gM,List.cons.injEq]at e;rw[pY]at hn;obtain⟨F',h1,h2,h3⟩:=za3 hb hn.2 e.2 q2;obtain⟨F'',g1,g2,g3⟩:=zhI q1 h1 (p:=i) (by rw[zei _ hn.1];exact e.1);subst hF;exact⟨F'',g1,g2.trans ((h2.append_left F1).trans List.perm_append_comm),by simp[g3,h3]⟩
def z7L:List Nat->SM (List A)
 | []=>pure []
 | s::ss=>do
  let e <-rdE s;match e.t with
  | .own y=>do
   let ys <-z7L ss
   pure (y::ys)
  | _=>zu
def zw3 (tt:TT)(rs:List (Nat×Option Nat))(is:List Nat):SM (A×List A):=do
 let xs <-shutArgs tt (rs.map λr=>(.tmp r.1,0));let ys <-z7L is;match WQ tt rs xs with
 | some zs=>pure (zz5 zs,ys)
 | none=>zu
theorem zeJ (h:Sim C S Fp [] st a w):∀{is:List Nat} {ys:List A} {R:List Nat} {U:List (Nat×Ent)},is.Nodup->z7L is st=some (ys,R,U) ->
  U=[]/\∃G,QI S w.heap ys (is.map (Act.tv a)) G/\G.Nodup/\∀k∈G,∃t∈is,k∈Fp t
 | [],ys,R,U,_,e=>by obtain⟨rfl,rfl,rfl⟩:=zy e;exact⟨rfl,[],rfl,List.nodup_nil,by simp⟩
 | s::is,ys,R,U,hn,e=>by
  rw[pY]at hn;simp only[z7L]at e;obtain⟨en,R1,U1,R2,U2,h1,e1,rfl,rfl⟩:=bind_some e;obtain⟨rfl,rfl,rfl⟩:=yl h1;simp only[zh,p9]at e1 ⊢;cases ht:(st s).t with
  | own y=>
   simp only[ht]at e1;obtain⟨zs,R3,U3,R4,U4,h3,e3,rfl,rfl⟩:=bind_some e1;obtain⟨rfl,G,g1,g2,g3⟩:=zeJ h hn.2 h3;obtain⟨rfl,rfl,rfl⟩:=zy e3;have hr:=h.ent s;unfold wv at hr;simp only[ht]at hr;obtain⟨cs,c1,c2,c3⟩:=hr;refine⟨rfl,G++Fp s,⟨Fp s,G,rfl,.inr ⟨cs,c1,c2,c3⟩,g1⟩,?_,?_⟩
   ·rw[pM];refine⟨g2,c2,?_⟩;rintro k hk k' hk' rfl;obtain⟨t,ht1,ht2⟩:=g3 k hk;exact hn.1 (h.disj t s k ht2 hk' ▸ ht1)
   ·intro k hk;rcases pA.1 hk with hk|hk
    ·obtain⟨t,ht1,ht2⟩:=g3 k hk;exact⟨t,by simp[ht1],ht2⟩
    ·exact⟨s,by simp,hk⟩
  | gone=>simp only[ht]at e1;exact(z7 e1).elim
  | d _=>simp only[ht]at e1;exact(z7 e1).elim
  | als _ _ _ _=>simp only[ht]at e1;exact(z7 e1).elim
  | ptr _ _ _ _=>simp only[ht]at e1;exact(z7 e1).elim
variable {β γ:Type}
theorem zfA {i:β}{u:γ}{g:β->Option γ}:∀{is:List β} {vals:List γ},is.map g=vals.map some->(i,u)∈is.zip vals->g i=some u
 | [],_,_,h=>by simp at h
 | _::_,[],_,h=>by simp at h
 | j::is,v::vals,e,h=>by
  simp only[gM,List.cons.injEq]at e;simp only[List.zip_cons_cons,pD,Prod.mk.injEq]at h;rcases h with⟨rfl,rfl⟩|h
  ·exact e.1
  ·exact zfA e.2 h
theorem z1c:∀{xs:List β} {ys:List γ},xs.length=ys.length->(xs.zip ys).map (·.1)=xs
 | [],[],_=>rfl
 | _::_,_::_,h=>by simp[z1c (by simpa using h)]
 | [],_::_,h=>by simp at h
 | _::_,[],h=>by simp at h
theorem z4o:∀{xs:List β} {ys:List γ},xs.length=ys.length->(xs.zip ys).map (·.2)=ys
 | [],[],_=>rfl
 | _::_,_::_,h=>by simp[z4o (by simpa using h)]
 | [],_::_,h=>by simp at h
 | _::_,[],h=>by simp at h
variable {ys:List A}
theorem z9V {P:Program}     {rs:List (Nat×Option Nat)}(is:List Nat){args caps xs:List A}{vals:List Value}{r:A}{ys:List A}(hT:wy P tt)(hf:P.funcs[k]?=some fn)(hnm:(fn.name == "runtime.NumGoroutine")=false)(hb:fn.body=some body)
  (hr:fn.results=(rs.map ze6).toArray) (ha:(args++caps).length<=fn.ntmps) (hn:is.Nodup) (hbase:is.map (λi=>(args++caps)[i]?)=vals.map (λv=>some (.atom v))) (hl:xs.length=vals.length)
  (h:AWP P ⟨fn.ntmps,is.zip vals⟩ body (ini (z1C (args++caps) is xs)) (λex st=>(ex=.normal\/ex=.ret)/\∃R U,zw3 tt rs is st=some ((r,ys),R,U))):Yr P (.fn k caps) args (vals.zip xs) r ys:=by
 intro S w fv vs F hS hfv havs hls hF;rw[z1c hl.symm,z4o hl.symm]at hls;obtain⟨cs0,hfv,rfl⟩:=hfv;simp only[Rep]at hfv;obtain⟨us,k1,k2,rfl⟩:=hfv;have hcaps:=z2x k1 k2;obtain⟨F1,p1,p2,p3⟩:=za3 (z8V havs hcaps) hn hbase hls;refine .inl ⟨k,us.toArray,fn,rfl,hf,hnm,by rw[hb];rfl,?_⟩;have hw:=z6M (n:=⟨fn.ntmps,is.zip vals⟩) (R:=λw e w'=>∃v,e=.returned v/\∃S' F' G,UQ (λk=>w.heap.size<=k\/k∈F) w w'/\(∀b o u,S b o=some u->S' b o=some u)/\(∀b o,b<w.heap.size->b∉F->S' b o=S b o)/\xu S' w'/\Has S' w'.heap r v F' /\
   QI S' w'.heap ys ((vals.zip xs).map (·.1)) G/\(G++F').Nodup/\∀k∈G++F',w.heap.size<=k\/k∈F) hf hb rfl (λi u hi=>zfA p3 hi) (by rw[z6C];exact ha) hS p1 (p2.nodup_iff.2 hF) h ?_
 ·simpa using hw
 rintro ex st' ⟨hx,R,U,h3⟩;refine⟨hx,?_⟩;intro df S' Fp' a' w' h1;unfold zw3 at h3;obtain⟨zs,R1,U1,R2,U2,e1,e2,rfl,rfl⟩:=bind_some h3;obtain⟨S1,Fp1,g1,g2,_,g3⟩:=vV h1 e1;obtain⟨qs,R3,U3,R4,U4,e3,e4,rfl,rfl⟩:=bind_some e2;obtain⟨rfl,G,m1,m2,m3⟩:=zeJ g1 hn e3;have hm:(rs.map λr=>(Operand.tmp r.1,0)).map (λp=>a'.eval p.1)=rs.map (λr=>Act.tv a' r.1):=by rw[mO];rfl
 rw[hm]at g3;cases hg:WQ tt rs zs with
 | none=>simp only[hg]at e4;exact(z7 e4).elim
 | some os=>
  obtain⟨v,hres,hrep⟩:=zer (P:=P) hT hr g1.still hg g3;simp only[hg]at e4;obtain⟨e5,_,_⟩:=zy e4;cases e5;have hval:is.map (Act.tv a')=(vals.zip xs).map (·.1):=by
   rw[z1c hl.symm];have hlen:is.length=vals.length:=by simpa using congrArg List.length hbase
   refine gX λj=>?_;rw[gT];cases hj:is[j]? with
   | none=>have:=rh.1 hj;rw[pQ (by omega)];rfl
   | some i=>
    obtain⟨hj1,hj2⟩:=p8.1 hj;have hj3:j<vals.length:=by omega
    rw[p7 hj3];have:(i,vals[j])∈is.zip vals:=by refine gL.2 ⟨j,?_⟩;rw[List.getElem?_zip_eq_some];exact⟨hj,p7 hj3⟩
    exact congrArg some (g1.pin i _ this)
  rw[hval]at m1;have hMF:∀k,(w.heap.size<=k\/k∈F1)->(w.heap.size<=k\/k∈F):=λk hk=>hk.imp id λq=>p2.mem_iff.1 q;refine⟨v,hres,v,rfl,S1,[],G,g1.below.mono hMF,g1.sinc,?_,g1.still,.inl ⟨hrep,rfl⟩,m1,by simpa using m2,?_⟩
  ·intro b o hb' hbF;exact g1.sbase b o (by rintro(hq|hq) <;> first|omega|exact hbF (p2.mem_iff.1 hq))
  ·intro k hk;obtain⟨t,_,ht⟩:=m3 k (by simpa using hk);exact hMF k (g1.base t k ht)
def T.plain:T->Bool
 | .gone|.d _|.own _=>true
 | _=>false
theorem wv.frame {S S':zo}{h h':Array Obj}{st st':St}{tv tv':Nat->Value}  {e:Ent}  (hp:e.t.plain=true)(q:wv S h st tv F e v)(hS:∀b o u,S b o=some u->S' b o=some u)(hF:∀k∈F,h'[k]?=h[k]?/\∀o,S' k o=none):wv S' h' st' tv' F e v:=by
 unfold wv at q ⊢;cases ht:e.t with
 | gone=>simpa only[ht] using q
 | d x=>simp only[ht]at q ⊢;exact⟨q.1.mono hS,q.2⟩
 | own x=>simp only[ht]at q ⊢;obtain⟨cs,q1,q2,q3⟩:=q;exact⟨cs,q1.frame hS hF,q2,q3⟩
 | als r p er ec=>rw[ht]at hp;simp[T.plain]at hp
 | ptr r p er ec=>rw[ht]at hp;simp[T.plain]at hp
theorem wv.owns {tv:Nat->Value}  {e:Ent}  (hp:e.t.plain=true)(q:wv S h st tv F e v):∀k∈F,k<h.size/\∀o,S k o=none:=by
 unfold wv at q;cases ht:e.t with
 | gone=>simp only[ht]at q;subst q;simp
 | d x=>simp only[ht]at q;obtain⟨_,rfl⟩:=q;simp
 | own x=>simp only[ht]at q;obtain⟨cs,q1,_,_⟩:=q;exact λk hk=>⟨(q1.own k hk).1,(q1.own k hk).2.1⟩
 | als r p er ec=>rw[ht]at hp;simp[T.plain]at hp
 | ptr r p er ec=>rw[ht]at hp;simp[T.plain]at hp
def ziI (l:Nat)(rec:Loop)(tv:Nat->Value)(st:St)(hp:∀t,(st t).t.plain=true)(i:Nat):Opq:={
 holds:=λS h u F=>u=.func (.yield l) #[] #[]/\h[l]?=some (.loop rec)/\(∀o,S l o=none)/\∃Fp:Nat->List Nat,(∀t,wv S h st tv (Fp t) (st t) (tv t))/\(∀t u k,k∈Fp t->k∈Fp u->t=u)/\(∀t,l∉Fp t)/\∀k,k∈F↔k=l\/∃t,k∈Fp t
 one:=λq=>.inl (by rw[q.1];rfl)
 frame:=λhS hF ⟨q1,q2,q3,Fp,q4,q5,q6,q7⟩=>⟨q1,(hF l ((q7 l).2 (.inl rfl))).1.trans q2,(hF l ((q7 l).2 (.inl rfl))).2,Fp,λt=>(q4 t).frame (hp t) hS (λk hk=>hF k ((q7 k).2 (.inr ⟨t,hk⟩))),q5,q6,q7⟩
 own:=λ⟨q1,q2,q3,Fp,q4,q5,q6,q7⟩ k hk=>by
  rcases(q7 k).1 hk with rfl|⟨t,ht⟩
  ·exact⟨(pK.1 q2).1,q3⟩
  ·exact(q4 t).owns (hp t) k ht
 idx:=i }
variable {l:Nat}
theorem Sim.putFar {df:List Nat}         (h:Sim ⟨n,df,w0,S0,M⟩ S Fp [] st a w)  (o:Obj)(hl:l<w.heap.size)(hS:∀o,S l o=none)(hF:∀t,l∉Fp t) :
  Sim ⟨n,df,w.putObj l o,S,zbX Fp w⟩ S Fp [] st a (w.putObj l o):=by
 have hne:∀{b o v},S b o=some v->b≠l:=by rintro b o v q rfl;rw[hS]at q;cases q
 have hw:Sim ⟨n,df,w.putObj l o,S,zbX Fp w⟩ S Fp [] st a w->Sim ⟨n,df,w.putObj l o,S,zbX Fp w⟩ S Fp [] st a (w.putObj l o):=λh=>h.mem (UQ.refl _ _) (λ_ _ _ q=>q) (λb i v q=>by have q2:=h.still b i v q;unfold yj at q2 ⊢;rw[World.putObj_heap_other (hne q)];exact q2) (λ_ _ _=>rfl) (λt k hk=>⟨World.putObj_heap_other (by rintro rfl;exact hF t hk),(h.free t k hk).2.1⟩) (by simp) (by simp) (by simp)
 refine { size:=h.size,pin:=h.pin,defers:=h.defers,below:=UQ.refl _ _,mine:=⟨λk hk=>.inl (by simpa[World.putObj] using hk),h.ownM_far⟩,still:=?_,sinc:=λ_ _ _ q=>q,sbase:=λ_ _ _=>rfl,ent:=?_,disj:=h.disj,base:=λt k hk=>.inr ⟨t,hk⟩,xn:=by simp,xd:=by simp,xb:=by simp }
 ·refine⟨?_,h.still.gok,h.still.blk.of (λ_ _ _ q=>q) λg x e=>World.putObj_heap_other (by rintro rfl;exact h.still.blk.ne (hS 0) x e)⟩;intro b i v q;have q2:=h.still b i v q;unfold yj at q2 ⊢;rw[World.putObj_heap_other (hne q)];exact q2
 ·intro t;have q:=h.ent t;unfold wv at q ⊢;have hk:∀t,∀k∈Fp t,(w.putObj l o).heap[k]?=w.heap[k]?/\∀i,S k i=none:=λt k hk=>⟨World.putObj_heap_other (by rintro rfl;exact hF t hk),(h.free t k hk).2.1⟩;cases ht:(st t).t with
  | gone=>simpa only[ht] using q
  | d x=>simpa only[ht] using q
  | own x=>simp only[ht]at q ⊢;obtain⟨cs,q1,q2,q3⟩:=q;exact⟨cs,q1.frame (λ_ _ _ q=>q) (hk t),q2,q3⟩
  | als r p er ec=>simp only[ht]at q ⊢;exact⟨q.1,q.2.frame (h.ent r) (λk q=>(hk r k q).1)⟩
  | ptr r p er ec=>simp only[ht]at q ⊢;exact⟨q.1,q.2.frame (h.ent r) (λk q=>(hk r k q).1)⟩
def zeI:St->List Nat->List A->St
 | st,p::ps,y::ys=>zeI (upd st p ⟨.d y,0,0⟩) ps ys
 | st,_,_=>st
def K1 (T:Array Value)(t:Nat):Value:=T.getD t undef
theorem zq8:∀{ps:List Nat} {ys:List A} {vs:List Value} {T:Array Value} {st:St},UR (qa S) ys vs->ps.length=ys.length->(∀t,(st t).t.plain=true)->(∀t,wv S h st (K1 T) (Fp t) (st t) (K1 T t))->(∀p∈ps,p<T.size/\Fp p=[]) ->
  (∀t,(zeI st ps ys t).t.plain=true)/\(∀t,wv S h (zeI st ps ys) (K1 ((ps.zip vs).foldl (λtmps (t,a)=>tmps.setIfInBounds t a) T)) (Fp t) (zeI st ps ys t) (K1 ((ps.zip vs).foldl (λtmps (t,a)=>tmps.setIfInBounds t a) T) t)) /\
  ((ps.zip vs).foldl (λtmps (t,a)=>tmps.setIfInBounds t a) T).size=T.size/\∀t,t∉ps->K1 ((ps.zip vs).foldl (λtmps (t,a)=>tmps.setIfInBounds t a) T) t=K1 T t
 | [],[],[],T,st,_,_,hp,hs,_=>⟨hp,hs,rfl,λ_ _=>rfl⟩
 | p::ps,y::ys,v::vs,T,st,hy,hl,hp,hs,hT=>by
  have hset:∀t,K1 (T.setIfInBounds p v) t=if t=p then v else K1 T t:=by
   intro t;unfold K1;by_cases e:t=p
   ·subst e;have:=(hT t (by simp)).1;simp[gE,this]
   ·simp[gE,Array.getElem?_setIfInBounds_ne (nX e),e]
  have hp1:∀t,(upd st p ⟨.d y,0,0⟩ t).t.plain=true:=by
   intro t;unfold upd;split
   ·rfl
   ·exact hp t
  obtain⟨r1,r2,r3,r4⟩:=zq8 (T:=T.setIfInBounds p v) (st:=upd st p ⟨.d y,0,0⟩) hy.2 (by simpa using hl) hp1 (by
   intro t;rw[hset];by_cases e:t=p
   ·subst e;rw[uT];simp only[if_true,wv];exact⟨hy.1.repV,(hT t (by simp)).2⟩
   ·rw[Q6 _ _ e,if_neg e];exact(hs t).frame (hp t) (λ_ _ _ q=>q) (λk hk=>⟨rfl,((hs t).owns (hp t) k hk).2⟩)) (λq hq=>by simpa using hT q (by simp[hq]))
  refine⟨r1,r2,?_,?_⟩
  ·simpa using r3
  ·intro t ht;simp only[pD,not_or]at ht;have:=r4 t ht.2;rw[hset,if_neg ht.1]at this;exact this
 | [],_::_,_,_,_,_,h,_,_,_=>by simp at h
 | _::_,[],_,_,_,_,h,_,_,_=>by simp at h
 | _,[],_::_,_,_,h,_,_,_,_=>h.elim
 | _,_::_,[],_,_,h,_,_,_,_=>h.elim
def zle:Exit->Option (Option Code)
 | .normal=>some none
 | .ret=>some (some .ret)
 | .exit id=>some (some (.exit id))
 | .goto t=>some (some (.goto t))
 | _=>none
theorem zlq {o:Opq}   (q:Has S h (.opq o) v F):o.holds S h v F:=by
 rcases q with⟨q,_⟩|⟨cs,q1,_,q3⟩
 ·simp only[wh]at q;obtain⟨cs,q,_⟩:=q;simp[Rep]at q
 ·simp only[zU]at q1;obtain⟨u,rfl,q1⟩:=q1;have:v=u:=q3;rw[this];exact q1
theorem zky {o:Opq}   (q:o.holds S h v F)(hF:F.Nodup):Has S h (.opq o) v F :=
 .inr ⟨[v],by simp only[zU];exact⟨v,rfl,q⟩,hF,rfl⟩
theorem zma (T:Array Value)(ds:List Deferred):Act.tv ⟨T,ds⟩=K1 T:=rfl
theorem zhp (h:Sim C S Fp [] st a w):∀{live:List Nat},live.Nodup->(∀t,l∉Fp t)->(l::live.flatMap Fp).Nodup:=by
 intro live hn hl;rw[pY];refine⟨by simp only[gY,not_exists,not_and];exact λt _=>hl t,?_⟩;induction live with
 | nil=>simp
 | cons t live ih=>
  rw[pY]at hn;rw[nY,pM];refine⟨?_,ih hn.2,?_⟩
  ·have q:=h.ent t;unfold wv at q;cases ht:(st t).t with
   | gone=>simp only[ht]at q;rw[q];simp
   | d x=>simp only[ht]at q;rw[q.2];simp
   | own x=>simp only[ht]at q;obtain⟨_,_,q,_⟩:=q;exact q
   | als r p er ec=>simp only[ht]at q;rw[q.1];simp
   | ptr r p er ec=>simp only[ht]at q;rw[q.1];simp
  ·rintro k hk k' hk' rfl;obtain⟨u,hu1,hu2⟩:=gY.1 hk';exact hn.1 (h.disj t u k hk hu2 ▸ hu1)
theorem zo1 {P:Program}{n:Fr}{l:Nat}{rec:Loop}{ps:List Nat}{ys:List A}{st0 st1:St}{i i2:Nat}{live:List Nat}{jc:Option Code}(hp0:∀t,(st0 t).t.plain=true)(hp1:∀t,(st1 t).t.plain=true)
  (hready:rec.state=.ready) (hparams:rec.params=ps.toArray) (hsize:rec.tmps.size=n.size) (hpin:∀j u,(j,u)∈n.pin->K1 rec.tmps j=u) (hlive:∀t∈live,(t,K1 rec.tmps t)∈n.pin) (hnd:live.Nodup)
  (hps:∀p∈ps,p<n.size/\(st0 p).t=.gone/\pinned n.pin p=false) (hlen:ps.length=ys.length)
  (h:AWP P n rec.assign (zeI st0 ps ys) (λe st=>e=.normal/\AWP P n rec.body st (λex st2=>zle ex=some jc/\canon live st2=st1))) :
  Yr P (.atom (.func (.yield l) #[] #[])) ys [(.func (.yield l) #[] #[],.opq (ziI l rec (K1 rec.tmps) st0 hp0 i))] (.atom (.bool jc.isNone))
   [.opq (ziI l { rec with state:=if jc.isNone then .ready else .done,pending:=jc } (K1 rec.tmps) st1 hp1 i2)]:=by
 intro S w fv vs F hS hfv havs hls hF;obtain⟨rfl,_⟩:=xY.1 hfv;obtain⟨F1,F2,hFe,hls,hnil⟩:=hls;have hF2:F2=[]:=hnil;subst hF2;simp only[p9]at hFe;subst hFe;obtain⟨_,q2,q3,Fp,q4,q5,q6,q7⟩:=zlq hls;have hlenv:vs.length=ps.length:=by rw[hlen];exact(zdF havs).symm
 refine .inr ⟨l,rec,rfl,q2,by rw[hparams];simp[hlenv],?_⟩;intro rd m;refine roundIn_of_wpIn (F:=fen rd) trivial ?_;have hinr:(fen rd).inRound l=fen (some l):=rfl;rw[hinr];have hT0:(rec.params.zip vs.toArray).foldl (λtmps (t,a)=>tmps.setIfInBounds t a) rec.tmps=(ps.zip vs).foldl (λtmps (t,a)=>tmps.setIfInBounds t a) rec.tmps:=by rw[<-Array.foldl_toList,Array.toList_zip,hparams]
 rw[hT0];have hgone:∀p∈ps,p<rec.tmps.size/\Fp p=[]:=by intro p hp;obtain⟨a1,a2,_⟩:=hps p hp;refine⟨by rw[hsize];exact a1,?_⟩;have:=q4 p;unfold wv at this;simpa only[a2] using this
 obtain⟨r1,r2,r3,r4⟩:=zq8 (T:=rec.tmps) havs hlen hp0 q4 hgone;have hl:l<w.heap.size:=(pK.1 q2).1;have hFps:∀t k,k∈Fp t->k<w.heap.size/\∀o,S k o=none:=λt=>(q4 t).owns (hp0 t);have hnl:¬zbX Fp w l:=by
  rintro(hk|⟨t,hk⟩)
  ·omega
  ·exact q6 t hk
 have hs0:Sim ⟨n,[],w,S,zbX Fp w⟩ S Fp [] (zeI st0 ps ys) ⟨(ps.zip vs).foldl (λtmps (t,a)=>tmps.setIfInBounds t a) rec.tmps,[]⟩ w:=by
  refine { size:=by rw[r3];exact hsize,pin:=?_,defers:=rfl,below:=UQ.refl _ _,mine:=⟨λk hk=>.inl hk,by
   rintro g x e (hk|⟨t,hk⟩)
   ·have:=hS.blk.lt e;omega
   ·exact hS.blk.ne ((hFps t g hk).2 0) x e⟩,still:=hS,sinc:=λ_ _ _ q=>q,sbase:=λ_ _ _=>rfl,ent:=r2,disj:=q5,base:=λt k hk=>.inr ⟨t,hk⟩,xn:=by simp,xd:=by simp,xb:=by simp }
  intro j u hj;rw[zma,r4 j ?_]
  ·exact hpin j u hj
  ·intro hjp;have:=(hps j hjp).2.2;rw[z6G hj]at this;cases this
 refine wpIn_mono (h (some l) m [] w S (zbX Fp w) S Fp _ w ⟨by simp,by simp,by rintro L hL;cases hL;exact⟨hnl,rec,q2⟩⟩ hs0) ?_;rintro e1 a1 w1 ⟨df1,sta,S1,Fp1,s1,d1,rfl,h2⟩;have hb1:w1.heap[l]?=some (.loop rec):=(s1.below.block l hnl).trans q2;refine⟨_,run_beginRound hb1 hready,?_⟩;have hS1l:∀o,S1 l o=none:=λo=>(s1.sbase l o hnl).trans (q3 o);have hF1l:∀t,l∉Fp1 t:=λt hk=>hnl (s1.base t l hk);have hl1:l<w1.heap.size:=(pK.1 hb1).1;have s2:=s1.putFar (.loop { rec with state:=.busy }) hl1 hS1l hF1l;have hb2:(w1.putObj l (.loop { rec with state:=.busy })).heap[l]?=some (.loop { rec with state:=.busy }):=World.putObj_heap_same hl1;have hnl1:¬zbX Fp1 w1 l:=by
  rintro(hk|⟨t,hk⟩)
  ·omega
  ·exact hF1l t hk
 refine wpIn_mono (h2 (some l) m df1 _ S1 (zbX Fp1 w1) S1 Fp1 a1 _ ⟨d1.nodup,?_,by rintro L hL;cases hL;exact⟨hnl1,_,hb2⟩⟩ s2) ?_
 ·intro D hD;have hD1:=d1.ent D hD;refine⟨?_,?_⟩
  ·rintro(hk|⟨t,hk⟩)
   ·have:=(pK.1 hD1).1;omega
   ·exact d1.off D hD t hk
  ·show(w1.putObj l _).heap[D]?=_;rw[World.putObj_heap_other (by rintro rfl;rw[hb1]at hD1;cases hD1)];exact hD1
 rintro e2 a2 w3 ⟨df2,stb,S2,Fp2,s3,d2,hj,hcan⟩;obtain⟨Fp3,s4⟩:=s3.canon live;rw[hcan]at s4;have hb3:w3.heap[l]?=some (.loop { rec with state:=.busy }):=(s3.below.block l hnl1).trans hb2;have hl3:l<w3.heap.size:=(pK.1 hb3).1;have hS2l:∀o,S2 l o=none:=λo=>(s3.sbase l o hnl1).trans (hS1l o);have hF3l:∀t,l∉Fp3 t:=λt hk=>hnl1 (s4.base t l hk);have hsub:∀k,zbX Fp w k->(w.heap.size<=k\/k∈F):=λk hk=>hk.imp id λ⟨t,ht⟩=>(q7 k).2 (.inr ⟨t,ht⟩);have hsub1:∀k,zbX Fp1 w1 k->(w.heap.size<=k\/k∈F):=λk hk=>hsub k (z3h s1 k hk);have hlF:l∈F:=(q7 l).2 (.inl rfl);have hk1:UQ (λk=>w.heap.size<=k\/k∈F) w w3:=by have z1:=s1.below.mono hsub;have z2:UQ (λk=>w.heap.size<=k\/k∈F) w1 (w1.putObj l (.loop { rec with state:=.busy })):=⟨rfl,rfl,rfl,pC _,by simp[World.putObj],λk hk=>World.putObj_heap_other (by rintro rfl;exact hk (.inr hlF))⟩;exact(z1.trans z2).trans (s3.below.mono hsub1)
 have hfin:∃v w',(Instr.endRound l jc).run P w3=.ok v w'/\∃v',Ending.returned v=.returned v'/\∃S' F' G,UQ (λk=>w.heap.size<=k\/k∈F) w w'/\(∀b o u,S b o=some u->S' b o=some u)/\(∀b o,b<w.heap.size->b∉F->S' b o=S b o)/\xu S' w'/\Has S' w'.heap (.atom (.bool jc.isNone)) v' F' /\
   QI S' w'.heap [.opq (ziI l { rec with state:=if jc.isNone then .ready else .done,pending:=jc } (K1 rec.tmps) st1 hp1 i2)] [.func (.yield l) #[] #[]] G/\(G++F').Nodup/\∀k∈G++F',w.heap.size<=k\/k∈F:=by
  refine⟨_,_,run_endRound jc hb3,_,rfl,S2,[],l::live.flatMap Fp3,?_,λb o u q=>s3.sinc _ _ _ (s1.sinc _ _ _ q),?_,?_,.inl ⟨zD.2 ⟨rfl,rfl⟩,rfl⟩,?_,?_,?_⟩
  ·exact hk1.trans ⟨rfl,rfl,rfl,pC _,by simp[World.putObj],λk hk=>World.putObj_heap_other (by rintro rfl;exact hk (.inr hlF))⟩
  ·intro b o hb hbF;have hn0:¬zbX Fp w b:=λhk=>(hsub b hk).elim (λq=>by omega) hbF;have hn1:¬zbX Fp1 w1 b:=λhk=>hn0 (z3h s1 b hk);exact(s3.sbase b o hn1).trans (s1.sbase b o hn0)
  ·refine⟨?_,s3.still.gok,s3.still.blk.of (λ_ _ _ q=>q) λg x e=>World.putObj_heap_other (by rintro rfl;exact s3.still.blk.ne (hS2l 0) x e)⟩;intro b o u hu;have hne:b≠l:=by rintro rfl;rw[hS2l]at hu;cases hu
   have:=s3.still b o u hu;unfold yj at this ⊢;rw[World.putObj_heap_other hne];exact this
  ·refine⟨l::live.flatMap Fp3,[],rfl,zky ⟨rfl,World.putObj_heap_same hl3,hS2l,Fp3,?_,s4.disj,hF3l,?_⟩ ?_,rfl⟩
   ·intro t;have q:=s4.ent t;have hent:wv S2 w3.heap st1 (Act.tv a2) (Fp3 t) (st1 t) (K1 rec.tmps t):=by
     by_cases ht:t∈live
     ·have:=s4.pin t _ (hlive t ht);rwa[this]at q
     ·have hg:st1 t=zfa:=by rw[<-hcan,Qv,if_neg ht]
      rw[hg]at q ⊢;exact q
    exact hent.frame (hp1 t) (λ_ _ _ q=>q) (λk hk=>⟨World.putObj_heap_other (by rintro rfl;exact hF3l t hk),(s4.free t k hk).2.1⟩)
   ·intro k;simp only[pD,gY];constructor
    ·rintro(rfl|⟨t,_,ht⟩)
     ·exact .inl rfl
     ·exact .inr ⟨t,ht⟩
    ·rintro(rfl|⟨t,ht⟩)
     ·exact .inl rfl
     ·refine .inr ⟨t,?_,ht⟩;apply gO;intro hn;have hg:st1 t=zfa:=by rw[<-hcan,Qv,if_neg hn]
      have q:=s4.ent t;rw[hg]at q;have:Fp3 t=[]:=q;rw[this]at ht;simp at ht
   ·exact zhp s4 hnd hF3l
  ·simpa using zhp s4 hnd hF3l
  ·intro k hk;simp only[hU,pD,gY]at hk;rcases hk with rfl|⟨t,_,ht⟩
   ·exact .inr hlF
   ·exact hsub1 k (s4.base t k ht)
 cases e2 with
 | normal=>cases hj;exact hfin
 | ret=>cases hj;exact hfin
 | exit id=>cases hj;exact hfin
 | goto t=>cases hj;exact hfin
 | panic _=>cases hj
 | outgrown=>cases hj
theorem z4k {P:Program}  {L:Nat}{q:Loop}(h:w.heap[L]?=some (.loop q))(fn:FuncId)(tmps:Array Value)(ps:Array Tmp)(assign body:Code) :
  (Instr.enterLoop fn tmps ps assign body (some L)).run P w =
   .ok (w.heap.size,[]) (w.alloc (.loop { state:=.ready,pending:=none,fn,tmps,params:=ps,assign,body,defers:=q.defers })):=by
 unfold Instr.enterLoop;simp only[Sem.run_bind,run_getLoop h,run_newObj_alloc,Result.andThen,Sem.run_pure]
theorem World.alloc_old (o:Obj)(h:k<w.heap.size):(w.alloc o).heap[k]?=w.heap[k]?:=by show(w.heap.push o)[k]?=_;rw[mA,if_neg (by omega)]
theorem Sim.newObj (h:Sim C S Fp [] st a w)(o:Obj):Sim C S Fp [] st a (w.alloc o):=by
 refine h.mem (h.below.alloc (h.mine _ h.below.size) o) (λ_ _ _ q=>q) ?_ h.sbase ?_ (by simp) (by simp) (by simp)
 ·intro b i v q;have q2:=h.still b i v q;have hlt:=h.still_lt q;unfold yj at q2 ⊢;rw[World.alloc_old o hlt];exact q2
 ·intro t k hk;exact⟨World.alloc_old o (h.free t k hk).1,(h.free t k hk).2.1⟩
theorem zw2 {P:Program}  {df:List Nat}        {w:World}  (hc:zbI ⟨n,df,w0,S0,M⟩ rd)(h:Sim ⟨n,df,w0,S0,M⟩ S Fp [] st a w)(hd:Q8 df M df Fp w)(fn:FuncId)(ps:Array Tmp)(assign body:Code) :
  ∃df' wA dq,(Instr.enterLoop fn a.tmps ps assign body (fen rd).round).run P w=.ok (wA.heap.size,(df'.map zs6).take (df'.length - df.length)) (wA.alloc (.loop { state:=.ready,pending:=none,fn,tmps:=a.tmps,params:=ps,assign,body,defers:=dq })) /\
   Sim ⟨n,df',w0,S0,M⟩ S Fp [] st { a with defers:=(df'.map zs6).take (df'.length - df.length)++a.defers } wA/\Q8 df M df' Fp wA:=by
 cases rd with
 | none=>
  refine⟨w.heap.size::df,w.alloc (.deferred (some [])),w.heap.size,?_,?_,?_⟩
  ·have:=run_enterLoop_outer (P:=P) (w:=w) fn a.tmps ps assign body;simp only[World.size_alloc,gM,gI,show df.length+1 - df.length=1 by omega,ru,List.take_zero];exact this
  ·have h1:=h.newObj (.deferred (some []));exact { h1 with defers:=by simp[h.defers,show df.length+1 - df.length=1 by omega,zs6] }
  ·have hlt:∀D∈df,D<w.heap.size:=λD hD=>(pK.1 (hd.ent D hD)).1;refine⟨?_,?_,?_,?_⟩
   ·rw[pY];exact⟨λq=>by have:=hlt _ q;omega,hd.nodup⟩
   ·intro D hD;rcases pD.1 hD with rfl|hD
    ·exact World.alloc_heap_new w _
    ·rw[World.alloc_old _ (hlt D hD)];exact hd.ent D hD
   ·intro D hD t ht;rcases pD.1 hD with rfl|hD
    ·have:=(h.free t _ ht).1;omega
    ·exact hd.off D hD t ht
   ·intro D hD;rcases pD.1 hD with rfl|hD
    ·exact .inr (h.mine _ h.below.size)
    ·exact .inl hD
 | some L=>
  obtain⟨h1,q,h2⟩:=hc.rd L rfl;have h3:w.heap[L]?=some (.loop q):=(h.below.block L h1).trans h2;refine⟨df,w,q.defers,?_,?_,hd⟩
  ·rw[nW,List.take_zero];exact z4k h3 fn a.tmps ps assign body
  ·rw[nW,List.take_zero];exact h
def zzQ (st:St):Operand->Option A
 | .tmp t=>match (st t).t with|.d a=>some a|_=>none
 | _=>none
def zBx (P:Program)(n:Fr)(st:St)(Q:Exit->St->Prop):Option Code->Prop
 | none=>Q .normal st
 | some c=>AWP P n c st Q
end Go.Own

namespace Go.Ex
open Go.Own (A zo yj Rep zbH)
inductive EK where
 | int (k:IntKind)
 | bool
 | str
 | slice (e:Nat)
 | ptr (e:Nat)
 | struct (fs:List (Nat×Nat))
 | array (n e:Nat)
 | map (k e:Nat)
 | func
 | iface
 | other
structure EI where
 kind:EK
 size:Nat
 bytes:Nat
 zero:Option (List Value)
 eqn:Bool
def EK.isAgg:EK->Bool
 | .struct _|.array _ _=>true
 | _=>false
def w7:List Value->List Value->Option Bool
 | [],[]=>some true
 | .int k a::xs,.int k' b::ys=>if k=k' then(w7 xs ys).map λr=>(a==b)&&r else none
 | .bool a::xs,.bool b::ys=>(w7 xs ys).map λr=>(a==b)&&r
 | .string a::xs,.string b::ys=>(w7 xs ys).map λr=>(a==b)&&r
 | _,_=>none
def zdK:List Value->List Value->Bool
 | [],[]=>true
 | .int _ _::zs,.int _ _::vs=>zdK zs vs
 | .bool _::zs,.bool _::vs=>zdK zs vs
 | .string _::zs,.string _::vs=>zdK zs vs
 | _,_=>false
def zzM (i:EI)(vs:List Value):Bool :=
 match i.zero with
 | some z=>zdK z vs
 | none=>false
end Go.Ex
