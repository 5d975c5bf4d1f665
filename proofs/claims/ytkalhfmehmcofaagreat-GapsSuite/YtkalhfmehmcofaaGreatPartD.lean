/- -/
import Derived.Test.YtkalhfmehmcofaaGreatPartC
noncomputable section
set_option linter.unusedVariables false
set_option linter.defProp false
set_option linter.unusedSimpArgs false
namespace Go.Own
def LeP (xs ys:List A):Prop:=∀S vs,Xg (wX S) xs vs->Xg (wX S) ys vs
def zj1 (tt:TT)(n:Fr)(dst:TD)(f:Operand)(aL:List (Operand×Nat))(x:Operand)(aR:List (Operand×Nat))(s:Nat)(fa:A)(xl xr:List A)(z z' r:A):SM Unit :=
 Zi tt n [(f,0)]>>=λfs=>Zi tt n aL>>=λxs=>Zi tt n aR>>=λzs=>wP x>>=λtx=>rdE s>>=λe=>
 kR (fs=[fa]/\LeP xs xl/\LeP zs xr/\tx=.als s [.deref] e.er e.ec/\e.t=.own (.box z)) (wrE s ⟨.own (.box (.dead 1)),e.er,e.ec+1⟩>>=λ_=>wrE s ⟨.own (.box z'),e.er,e.ec+2⟩>>=λ_=>wrT n dst (mkT r))
variable {P:Program}{v:Value}{tt:TT}{tys:Array TypeId}{args:Array Operand}{op:Oper}{xl xr:List A}{fa z z' r:A}
section
variable {C:Ctx}{S:zf}{Fp:Nat->TC}{st:St}{a:Act}{w:World}
def zc6 {z:A}(h:z7a z=true):z.size=1:=by cases z<;>simp_all [z7a,A.size]
def zdt {s er ec:Nat}{z:A}{v:Value}{b:Nat}{ty:TypeId}{l:TE}(ht:(st s).t=.own (.box z))(h1:(st s).er=er)(h2:(st s).ec=ec)(hz:z7a z=true)(hv:Act.tv a s=.pointer (some ⟨b,0,none⟩))(hb:w.heap[b]?=some (.cells l.toArray ty (0,0)))(hl:l=[zL z l])
  (h:jS w.heap st (Act.tv a) s [.deref] er ec v):v=zL z l:=by
 have ⟨_,_,hm⟩:=h;simp only[ht]at hm;rcases hm h1 (.inr h2) with⟨q,_⟩|⟨_,y2,b2,o2,cs2,k1,k2,k3,k4,k5⟩
 ·cases q
 simp only[wR,Option.some.injEq]at k1;subst k1;rw[hv]at k2;simp only[wg,z1e,Option.some.injEq,Prod.mk.injEq]at k2;obtain⟨rfl,rfl⟩:=k2;have hs:z.size=1:=zc6 hz;rw[hs]at k3;match cs2,k3 with
 |[u],_=>
  have hu:=k4 0 u rfl;unfold zU at hu;rw[hb]at hu;have h0:l.toArray[0+0]?=some (zL z l):=by rw[rW];exact congrArg (λq:TE=>q[0]?) hl
  have hu':l.toArray[0+0]?=some u:=hu;rw[h0]at hu';cases hu';rw[k5];exact(congrArg (zL z) hl).symm
def zfR {P:Program}{tt:TT}(h:Sim C S Fp [] st a w){op:Oper}{f x:Operand}{args:Array Operand}{tys:Array TypeId}{aL aR:List (Operand×Nat)}{tx0 s:Nat}{fa z z' r:A}{xl xr:List A}(hz:z7a z=true)(hz':z7a z'=true)
  (hl:∀v,xS P fa (xl ++ .atom v::xr) [(v,z)] r [z'])
  (ho:op.op=.call { callee:=.value f,args:=args,argTypes:=tys }) (hsz:args.size=tys.size) (hargs:args.toList.zip tys.toList=aL++(x,tx0)::aR) {u:Unit} {R:TC} {U:List (Nat×Ent)}
  (e:zj1 tt C.n op.dst f aL x aR s fa xl xr z z' r st=some (u,R,U)):vd P C op a w (zh U st):=by
 unfold zj1 at e;obtain⟨fs,R1,U1,R2,U2,e1,e2,rfl,rfl⟩:=bind_some e;obtain⟨S1,Fp1,g1,g2,g3⟩:=wZ h e1;obtain⟨xs,R3,U3,R4,U4,e3,e4,rfl,rfl⟩:=bind_some e2;obtain⟨S2,Fp2,j1,j2,j3⟩:=wZ g1 e3;obtain⟨zs,R5,U5,R6,U6,e5,e6,rfl,rfl⟩:=bind_some e4;obtain⟨S3,Fp3,q1,q2,q3⟩:=wZ j1 e5;rw[zp,zp,zp];generalize zh U5 (zh U3 (zh U1 st))=s3 at q1 e6⊢;obtain⟨tx,_,hx,e8⟩:=bR (zy q1) e6;obtain⟨_,e10⟩:=bD e8;obtain⟨⟨rfl,hxl,hxr,rfl,ht⟩,e0⟩:=bM e10;obtain⟨u1,R11,U11,R12,U12,e11,e12,rfl,rfl⟩:=bind_some e0;cases e11;obtain⟨u2,R13,U13,R14,U14,e13,e14,rfl,rfl⟩:=bind_some e12;cases e13;simp only[zh,gX,mA]at e14⊢;have hr:=q1.ent s;unfold yO at hr;simp only[ht]at hr;obtain⟨cs,c1,c2,c3⟩:=hr;have c1':=c1;simp only[zD]at c1';obtain⟨b,ty,l,F',rfl,hb,ci,hFs,hSb⟩:=c1';rw[hFs]at c2;have hvs:Act.tv a s=.pointer (some ⟨b,0,none⟩):=c3;have hl1:=WX hz ci;have hone:(zL z l).oneCell'=true:=ci.one1 (JJ hz) _ (by have q:=sB (zL z l);rwa[<-hl1]at q);have hev:a.eval x=zL z l:=zdt ht rfl rfl hz hvs hb hl1 hx;obtain⟨hbF,hFn⟩:=gA.1 c2;have hbs:b∈Fp3 s:=by rw[hFs];exact re
 have hFsub:∀k∈F',k∈Fp3 s:=λk hk=>by rw[hFs];exact mY _ hk
 have hblt:b<w.heap.size:=(q1.free s b hbs).1;have hs4:Sim C S3 (VT Fp3 s [b]) F' (upd s3 s ⟨.own (.box (.dead 1)),(s3 s).er,(s3 s).ec+1⟩) a w:=by
  refine q1.change s (.own (.box (.dead 1))) _ _ [b] q1.below (λ_ _ _ q=>q) q1.still.cell q1.sbase (λt k _ hk=>⟨rfl,(q1.free t k hk).2.1⟩) ⟨⟨_,?_,ς,c3⟩,_,ht⟩ (.inl ⟨_,ht⟩) (pF _) (gH _) ?_ ?_ hFn ?_ ?_ ?_
  ·simp only[zD];refine⟨b,ty,l,[],rfl,hb,⟨by rw[hl1];rfl,λu hu=>?_,rfl⟩,rfl,hSb⟩;rw[hl1]at hu;rw[pK.1 hu];exact hone
  ·intro t k hts hk hk';rw[pK.1 hk]at hk';exact hts (q1.disj t s b hk' hbs)
  ·intro k hk;rw[pK.1 hk];exact q1.base s b hbs
  ·exact λt k hts hk hk'=>hts (q1.disj t s k hk' (hFsub k hk))
  ·intro k hk hk';rw[pK.1 hk']at hk;exact hbF hk
  exact λk hk=>q1.base s k (hFsub k hk)
 have hmap:(args.map a.eval).toList=(aL.map λp=>a.eval p.1)++a.eval x::(aR.map λp=>a.eval p.1):=by
  have h1:(args.toList.zip tys.toList).map (λp=>a.eval p.1)=(args.map a.eval).toList:=by
   have:(args.toList.zip tys.toList).map (λp=>a.eval p.1)=((args.toList.zip tys.toList).map (·.1)).map a.eval:=by rw[mP];rfl
   rw[this,rT (by simp[hsz])];simp
  rw[<-h1,hargs];simp
 have hact:=hl (zL z l) S3 w (a.eval f) ((args.map a.eval).toList) F' hs4.still ((g3.1.mono j2).mono q2)
  (by rw[hmap,hev];exact z2m (hxl _ _ (j3.mono λ_ _ q=>q.mono q2)) ⟨yI.2 ⟨rfl,hone⟩,hxr _ _ q3⟩)
  ⟨F',[],rfl,.inr ⟨l,ci,hFn,rfl⟩,rfl⟩ hFn
 intro rd m K Q hK;refine zaj ho hact rd m K Q ?_;rintro v' w' ⟨S',F2,G,b1,b2,b3,b4,b5,b6,b7,b8⟩;have hs':Sim C S' (VT Fp3 s [b]) (G++F2) (upd s3 s ⟨.own (.box (.dead 1)),(s3 s).er,(s3 s).ec+1⟩) a w':=(show Sim C S3 (VT Fp3 s [b]) (F' ++ []) _ a w by rw[gC];exact hs4).lentCall b1 b2 b3 b4 b7 b8;obtain⟨G1,G2,hG,b9,b10⟩:=b6;have hG2:G2=[]:=b10;subst hG2;rw[mA]at hG;subst hG;have notup:∀fs,z'≠.tup fs:=by rintro fs rfl;simp[z7a]at hz'
 obtain⟨cz,z1,z2,z3⟩:=b9.cells notup;have hcz:=WX hz' z1;have hczl:cz=l:=by rw[hcz,hl1];exact congrArg (λq=>[q]) z3.symm
 subst hczl;have hnb:¬(w.heap.size<=b\/b∈F'):=by
  rintro(q|q)
  ·omega
  exact hbF q
 have hbG:b∉G:=λhk=>hnb (b8 b (rf _ hk));have hheap:=b1.block b hnb;have hu4:(upd s3 s ⟨.own (.box (.dead 1)),(s3 s).er,(s3 s).ec+1⟩ s).t=.own (.box (.dead 1)):=by rw[xV]
 obtain⟨xn1,xn2,xn3⟩:=pU.1 b7;have hub:b∈VT Fp3 s [b] s:=by unfold VT;rw[if_pos rfl];exact pK.2 rfl
 have hs5:Sim C S' (VT (VT Fp3 s [b]) s (b::G)) F2 (upd (upd s3 s ⟨.own (.box (.dead 1)),(s3 s).er,(s3 s).ec+1⟩) s ⟨.own (.box z'),(s3 s).er,(s3 s).ec+2⟩) a w':=by
  refine hs'.change s (.own (.box z')) _ _ (b::G) hs'.below (λ_ _ _ q=>q) hs'.still.cell hs'.sbase (λt k _ hk=>⟨rfl,(hs'.free t k hk).2.1⟩) ⟨⟨[.pointer (some ⟨b,0,none⟩)],?_,gA.2 ⟨hbG,xn1⟩,hvs⟩,_,hu4⟩ (.inl ⟨_,hu4⟩) ?_ ?_ ?_ ?_ xn2 ?_ ?_ ?_
  ·simp only[zD];exact⟨b,ty,cz,G,rfl,by rw[hheap];exact hb,z1,rfl,λo=>by rw[b3 b o hblt hbF];exact hSb o⟩
  ·rw[xV];exact pF _
  ·rw[xV];exact gH _
  ·intro t k hts hk hk';rcases pG.1 hk with rfl|hk
   ·exact hts (hs'.disj t s _ hk' hub)
   exact hs'.xd t k (rf _ hk) hk'
  ·intro k hk;rcases pG.1 hk with rfl|hk
   ·exact hs'.base s _ hub
   exact hs'.xb k (rf _ hk)
  ·exact λt k hts hk=>hs'.xd t k (rY _ hk)
  ·intro k hk hk';rcases pG.1 hk' with rfl|hk'
   ·exact hs'.xd s _ (rY _ hk) hub
   exact xn3 k hk' k hk rfl
  exact λk hk=>hs'.xb k (rY _ hk)
 obtain⟨Fp5,m2⟩:=z4k (X:=[]) (ξ hs5) e14 b5;exact hK _ _ _ _ m2
end
def zpU (d i:Nat)(o:Oper):Option (Operand×List (Operand×Nat)×Operand×List (Operand×Nat)):=match o.op with
 |.call ⟨.value f,args,tys⟩=>if o.dst=some d/\args.size=tys.size then(match (args.toList.zip tys.toList).drop i with|(x,_)::aR=>some (f,(args.toList.zip tys.toList).take i,x,aR)|[]=>none) else none
 |_=>none
def zba (tt:TT)(s i:Nat)   (hz:z7a z=true)(hz':z7a z'=true)(hl:∀v,xS P fa (xl ++ .atom v::xr) [(v,z)] r [z'])(d:Nat):XH P:={
 e n o:=(zpU d i o).map λb=>zj1 tt n o.dst b.1 b.2.1 b.2.2.1 b.2.2.2 s fa xl xr z z' r
 ok e0 h e:=by
  obtain⟨b,hp,rfl⟩:=pZ.1 e0;unfold zpU at hp;split at hp
  ·split at hp
   ·split at hp<;>cases hp;rename_i ho hc _ _ _ _ hd;exact zfR h hz hz' hl ho hc.2 (by rw[<-hd,mE]) e
   cases hp
  cases hp }
def leP {xs ys:List A}(h:Jr xs ys):LeP xs ys:=h.all
def blM (y:T):Option (Nat×Bool×List A):=match y with|.own (.osl z b l)=>some (z,b,l)|_=>none
def zgn {y:T}{q:Nat×Bool×List A}(h:blM y=some q):y=.own (.osl q.1 q.2.1 q.2.2):=by
 unfold blM at h;split at h
 ·cases h;rfl
 cases h
def blO (tt:TT)(n:Fr)(dst:TD)(d t len:Nat)(ps:List (Nat×Operand)):SM Unit :=
 UK tt n dst t len ps>>=λ_=>rdE d>>=λe=>ofO (blM e.t)>>=λq=>wrE d ⟨.own (.osl q.1 false q.2.2),e.er+1,e.ec+1⟩
variable {U:List (Nat×Ent)}{R:TC}{st:St}{o:Oper}{u:Unit}{S:zf}{w:World}{Fp:Nat->TC}{a:Act}
def zoY (hT:xH P tt){C:Ctx}      (h:Sim C S Fp [] st a w)  {d t len:Nat}{ps:Array (Nat×Operand)}(ho:o.op=.buildSlice t len ps)    (e0:blO tt C.n o.dst d t len ps.toList st=some (u,R,U)):vd P C o a w (zh U st):=by obtain⟨y,R1,U1,R2,U2,h1,e1,rfl,rfl⟩:=bind_some e0;have g:=UJ hT h ho h1;rw[zp];generalize zh U1 st=s1 at g e1⊢;have ⟨_,e4⟩:=bD e1;have ⟨q,_,hq,e5⟩:=bO e4;cases e5;exact g.retag d _ _ (zgn hq) (@LeA.osl _ _ _ _ (z4R.refl _))
def xBl (hT:xH P tt)(d:Nat):XH P:=xAq (zn2 d) zcE (λn o b=>blO tt n o.dst d b.1 b.2.1 b.2.2.toList) λh ho e=>zoY hT h ho e
abbrev z5D (b:Nat):Value:=.pointer (some ⟨b,0,none⟩)
variable {Q:Exit->St->Prop}{n:Fr}{c:Code}
def zjF (k:Nat)  (hk:∃z,(st k).t=.own (.box z))(hp:z3D n.pin k=some v)(h:∀b,v=z5D b->AWP P n c st Q):AWP P n c st Q:=by intro rd m df w0 S0 M S Fp a w hc hs;have ⟨z,hz⟩:=hk;have ⟨b,hb⟩:=zdf hs hz;exact h b (by rw[<-hs.pin k v (wT hp),hb]) rd m df w0 S0 M S Fp a w hc hs
variable {x:Operand}
section
variable {C:Ctx}{S:zf}{Fp:Nat->TC}{st:St}{a:Act}{w:World}
def nrO (n:Fr)(dst:TD)(b:Nat)(x:Operand):SM Unit:=wP x>>=λtx=>kR (tx=.d (.atom (z5D b))) (wrT n dst (.d (.atom (z5D b))))
def znW (h:Sim C S Fp [] st a w)  {b:Nat}{x:Operand}(ho:o.op=.nilCheck x)    (e:nrO C.n o.dst b x st=some (u,R,U)):vd P C o a w (zh U st):=by unfold nrO at e;have ⟨tx,_,hx,e1⟩:=bR (zy h) e;obtain⟨rfl,e2⟩:=bM e1;have ⟨Fp',hs'⟩:=xw h e2 (x:=.d (.atom (z5D b))) (v:=z5D b) (zo.2 ⟨rfl,rfl⟩);exact zm (by simp[execOp,ho,show a.eval x=z5D b from(zo.1 hx).1]) hs'
def riO (tt:TT)(n:Fr)(dst:TD)(t m sz b:Nat)(x y:Operand):SM Unit:=wP x>>=λtx=>wP y>>=λty=>val ty>>=λvi=>
 match vi with
 |.atom (.int _ j)=>kR (tx=.d (.atom (z5D b))/\0<=j/\j.toNat<m) (if zdp tt t=some (m,sz) then wrT n dst (.d (.atom (.pointer (some ⟨b,j.toNat*sz,none⟩)))) else zF)
 |_=>zF
def znH (hT:xH P tt)(h:Sim C S Fp [] st a w)  {t m sz b:Nat}{x y:Operand}(ho:o.op=.indexAddr t x y)    (e0:riO tt C.n o.dst t m sz b x y st=some (u,R,U)):vd P C o a w (zh U st):=by
 unfold riO at e0;have ⟨tx,_,hx,e1⟩:=bR (zy h) e0;have ⟨ty,_,hy,e2⟩:=bR (zy h) e1;have ⟨vi,_,qi,e4⟩:=bR (wz h hy) e2;split at e4
 ·rename_i k j;obtain⟨⟨rfl,j0,jm⟩,e5⟩:=bM e4;have ⟨ha,e6⟩:=bI e5;have ⟨Fp',hs'⟩:=xw h e6 (x:=.d (.atom (.pointer (some ⟨b,j.toNat*sz,none⟩)))) (v:=.pointer (some ⟨b,j.toNat*sz,none⟩)) (zo.2 ⟨rfl,rfl⟩);refine zm ?_ hs';have ex:a.eval x=z5D b:=(zo.1 hx).1;have ey:a.eval y=.int k j:=(zo.1 qi).1;have hl:((List.replicate m (A.dead sz)).length)=m:=mR;have hk:YR tt t (List.replicate m (A.dead sz)) j=true:=by unfold YR;rw[ha];simp only[hl,beq_self_eq_true,sR,j0,decide_true];rw[gM];intro z hz;rw[mZ hz];exact beq_self_eq_true _
  have hr:=QK hT hk (by rw[hl];exact jm) k b 0 w;have hz:A.sizes ((List.replicate m (A.dead sz)).take j.toNat)=j.toNat*sz:=by rw[A.sizes_const (sz:=sz) (λz hz=>by rw[mZ (gJ hz)];rfl),hU,hl,mM (Nat.le_of_lt jm)]
  rw[hz,mC]at hr;simp[execOp,ho,ex,ey,hr]
 cases e4
def irO (tt:TT)(n:Fr)(dst:TD)(t r i b:Nat)(x y:Operand):SM Unit:=wP x>>=λtx=>wP y>>=λty=>val ty>>=λvi=>rdE r>>=λe=>
 match e.t with
 |.own (.box (.agg fs))=>kR ((tx=.d (.atom (.pointer (some ⟨b,A.sizes (fs.take i),none⟩)))/\i<fs.length)/\z3D n.pin r=some (z5D b)) (z0p tt n dst t (.ptr r [.deref,.fld i] e.er e.ec) vi)
 |_=>zF
def zoJ (hT:xH P tt)(h:Sim C S Fp [] st a w)  {t r i b:Nat}{x y:Operand}(ho:o.op=.indexAddr t x y)    (e0:irO tt C.n o.dst t r i b x y st=some (u,R,U)):vd P C o a w (zh U st):=by
 unfold irO at e0;have ⟨tx,_,hx,e1⟩:=bR (zy h) e0;have ⟨ty,_,hy,e2⟩:=bR (zy h) e1;have ⟨vi,_,qi,e3⟩:=bR (wz h hy) e2;have ⟨_,e4⟩:=bD e3;split at e4
 ·rename_i fs ht;obtain⟨⟨⟨rfl,hi⟩,c2⟩,e5⟩:=bM e4;have hs:Act.tv a r=z5D b:=h.pin r _ (wT c2);obtain⟨z,hz⟩:∃z,fs[i]?=some z:=⟨_,pB hi⟩;refine z3i hT h ho (y:=.ptr r [.deref,.fld i] (st r).er (st r).ec) ⟨pF _,pF _,?_⟩ qi e5;simp only[ht];rw[(zo.1 hx).1,hs];refine λ_ _=>⟨rfl,z,b,A.sizes (fs.take i),?_,?_,rfl⟩
  ·simp[wR,hz]
  simp[wg,z1e,hz]
 cases e4
end
def xNr (P:Program)(d b:Nat):XH P:=xAq (zn1 d) zcD (λn o x=>nrO n o.dst b x) λh ho e=>znW h ho e
def xRi (hT:xH P tt)(d m sz b:Nat):XH P:=xAq (zj5 d) z3e (λn o q=>riO tt n o.dst q.1 m sz b q.2.1 q.2.2) λh ho e=>znH hT h ho e
def xIr (hT:xH P tt)(d r i b:Nat):XH P:=xAq (zj5 d) z3e (λn o q=>irO tt n o.dst q.1 r i b q.2.1 q.2.2) λh ho e=>zoJ hT h ho e
variable {α:Type}{i:Int}
def zhl {n:Nat}{x:ArN n α}  {u:α}(h:idx x.l i=some u):i.toNat<n:=by have:=(pC.1 (iE h)).1;rwa[x.len]at this
def zjH {n:Nat}{f:α->A}{s:Nat}[h:zkc f s](x:ArN n α)  {u:α}(k:idx x.l i=some u):A.sizes ((x.l.map f).take i.toNat)=i.toNat*s:=by have hl:=zhl k;rw[A.sizes_const (sz:=s) (λz hz=>by obtain⟨v,_,rfl⟩:=pY.1 (gJ hz);exact h.sz v),hU,gD,x.len,mM (Nat.le_of_lt hl)]
def ixV {k:IntKind}  {e:Nat}{l:TB}{j u:Int}(hf:∀x,WJ tt e (eI k x)=true)(h:idx l j=some u){m:Nat}(hm:l.length=m) :
  0<=j/\j<(m:Int)/\WJ tt e (eI k u)=true/\(eI k u).isD=true/\((l.map (eI k)).take j.toNat).all (λz=>z.size==(eI k u).size)=true:=by
 have h1:=i0 h;have h2:=(pC.1 (iE h)).1;refine⟨h1,ω,hf u,rfl,?_⟩;rw[<-List.map_take,List.all_map,gM];intro x _;simp[eI,A.size]
def zpg (hT:xH P tt)(d:Nat):XH P:=xAt (λo=>match o.op with|.index t x i=>if o.dst=some d then some (t,x,i) else none|_=>none) (λb=>.index b.1 b.2.1 b.2.2) (λn o b=>zcJ true tt n o.dst b.1 b.2.1 b.2.2) λh ho e=>z9P hT h ho e
def poQ:Option A->Dpq
 |none=>{ holds:=λ_ v=>v=.pointer none,one:=λh=>by rw[h];rfl,mono:=λ_ h=>h }
 |some x=>{ holds:=λS v=>Rep S (.sptr x) [v],one:=λh=>h.one _ (pK.2 rfl),mono:=λk h=>h.mono k }
def ePo (f:α->A)(b:Option α):A:=.dop (poQ (b.map f))
def eIf (b:Nat)(n:Nat):A:=.atom (.iface (b+n) (.agg #[]))
section
variable {α:Type}
instance (b:Nat):YV (eIf b) (eIf b):=⟨λ_=>rfl⟩
instance (b:Nat):uJ (eIf b):=⟨λx y e=>by injection e with e;injection e with e _;exact Nat.add_left_cancel e⟩
def poM {f:α->A}{b:Option α}{u:α}(h:b=some u)(S:zf)(v:Value)(q:xg S (ePo f b) v):xg S (.sptr (f u)) v:=by subst h;have q':Rep S (.sptr (f u)) [v]:=z5A.1 q;exact wX.repV ⟨[v],q',rfl⟩
end
instance (x y:A)[h:LeA x y]:LeA (.sptr x) (.sptr y):={
 rep:=by intro S cs q;simp only[Rep]at q⊢;obtain⟨b,o,l,rfl,r1,r2⟩:=q;exact⟨b,o,l,rfl,h.rep _ _ r1,r2⟩
 conc:=by
  intro S hh cs F q;have q':Rep S (.sptr x) cs/\F=[]:=by simpa only[zD] using q
  have:Rep S (.sptr y) cs/\F=[]:=by refine⟨?_,q'.2⟩;have q1:=q'.1;simp only[Rep]at q1⊢;obtain⟨b,o,l,rfl,r1,r2⟩:=q1;exact⟨b,o,l,rfl,h.rep _ _ r1,r2⟩
  simpa only[zD] using this
 val:=λcs=>rfl
 tup:=λfs h=>nomatch h }
instance (x y:A)[h:LeA x y]:LeA (.sptr x) (.dop (poQ (some y))):={
 rep:=by
  intro S cs q;have q2:=(inferInstance:LeA (.sptr x) (.sptr y)).rep S cs q;have:∃v,cs=[v]:=by simp only[Rep]at q;obtain⟨b,o,l,rfl,_⟩:=q;exact⟨_,rfl⟩
  obtain⟨v,rfl⟩:=this;exact Uh.2 ⟨v,rfl,q2⟩
 conc:=by
  intro S hh cs F q;have q':Rep S (.sptr x) cs/\F=[]:=by simpa only[zD] using q
  have:∃v,cs=[v]:=by have q1:=q'.1;simp only[Rep]at q1;obtain⟨b,o,l,rfl,_⟩:=q1;exact⟨_,rfl⟩
  obtain⟨v,rfl⟩:=this;have:Rep S (.dop (poQ (some y))) [v]/\F=[]:=⟨Uh.2 ⟨v,rfl,(inferInstance:LeA (.sptr x) (.sptr y)).rep S [v] q'.1⟩,q'.2⟩;simpa only[zD] using this
 val:=λcs=>rfl
 tup:=λfs h=>nomatch h }
instance:LeA (.atom (.pointer none)) (.dop (poQ none)):={
 rep:=by intro S cs q;simp[Rep]at q;exact Uh.2 ⟨_,q.1,rfl⟩
 conc:=by
  intro S hh cs F q;have q':Rep S (.atom (.pointer none)) cs/\F=[]:=by simpa only[zD] using q
  have q1:=q'.1;simp[Rep]at q1;have:Rep S (.dop (poQ none)) cs/\F=[]:=⟨Uh.2 ⟨_,q1.1,rfl⟩,q'.2⟩;simpa only[zD] using this
 val:=λcs=>rfl
 tup:=λfs h=>nomatch h }
variable {k:Nat}
def uR.le {ls:List A}{r r':A}(h:uR P k ls r)(e:LeV r r'):uR P k ls r' :=
 ⟨h.1,λS w vs F h1 h2 h3=>Calls.mono (h.2 S w vs F h1 h2 h3) λ_ _ ⟨v,S',F',g1,g2,g3,g4,g5,g6,g7⟩=>⟨v,S',F',g1,g2,g3,g4,g5,e.has _ _ _ _ g6,g7⟩⟩
def zoK (n:Fr)(dst:TD)(T:Nat)(x:Operand):SM Unit:=wP x>>=λtx=>val tx>>=λvx=>
 (match vx with
 |.agg []=>wrT n dst (.d (.atom (.iface T (.agg #[]))))
 |_=>zF)
variable {fs:Array Field}
def zmb {C:Ctx}       {T:Nat}  (hf:P.underlying T=some (.struct fs))(h:Sim C S Fp [] st a w)  {x:Operand}(ho:o.op=.makeInterface T x)    (e0:zoK C.n o.dst T x st=some (u,R,U)):vd P C o a w (zh U st):=by
 unfold zoK at e0;have ⟨tx,_,hx,e1⟩:=bR (zy h) e0;have ⟨vx,_,qx,e2⟩:=bR (wz h hx) e1;split at e2
 ·have ⟨cs,r1,r2⟩:=(qx:wX S (.agg []) (a.eval x));simp[Rep]at r1;have hv:a.eval x=.agg #[]:=by have hc:cs=[]:=r1;subst hc;exact r2
  have ⟨Fp',hs⟩:=xw h e2 (x:=.d (.atom (.iface T (.agg #[])))) (wX.repV (yI.2 ⟨rfl,rfl⟩));refine zm ?_ hs;simp[execOp,ho,hv];simp[Instr.makeInterface,run_underlying hf]
 cases e2
def zmP (P:Program)(d T:Nat)  (hf:P.underlying T=some (.struct fs)):XH P:=xAt (λo=>match o.op with|.makeInterface t x=>if o.dst=some d/\t=T then some x else none|_=>none) (.makeInterface T) (λn o x=>zoK n o.dst T x) λh ho e=>zmb hf h ho e
def zmV (x:Operand):SM A:=wP x>>=λtx=>val tx
def zlL {T:Nat}     (ho:o.op=.panic x)   (e:zmV x st=some (.atom (.iface T v),R,U)):zdF P n o st (kI (.iface T v)):=by
 intro C S Fp a w hC h rd m K Q hQ;subst hC;unfold zmV at e;have ⟨tx,_,hx,e1⟩:=bR (zy h) e;obtain⟨rfl,qx⟩:=wz h hx e1;have hv:a.eval x=.iface T v:=(zo.1 qx.repV).1;refine⟨λ_ _=>trivial,?_⟩;have hexec:(execOp a.eval o).run P w=.halt (.panic (.iface T v)) w:=by simp[execOp,ho,hv];rfl
 rw[Oper.semAt_eq _ _ _ (λc hc=>by rw[ho]at hc;cases hc),hexec,Oper.uponIn_panic];exact hQ _ _ _ _ h
def zlM (o:Oper):Option Operand :=
 match o.guard with
 |some _=>none
 |none=>
  match o.op with
  |.panic x=>some x
  |_=>none
def znU (X:XH P)(tt:TT)(ctr:Ctr)(n:Fr)(c:Code)(i:Nat)(st:St)(hs:List H):Option (A×List Prop) :=
 match regOf c with
 |none=>none
 |some ops=>
  match zaE X tt ctr n ops (ops.toList.take i) st hs with
  |none=>none
  |some (st1,hs1,ob,_)=>
   match ops.toList.drop i with
   |[]=>none
   |o::_=>
    match zlM o with
    |none=>none
    |some x=>
     match (zmV x).h st1 hs1 with
     |none=>none
     |some (y,_,_,_,ob')=>some (y,ob++ob')
def yP6 {ctr:Ctr}{n:Fr}{Q:Exit->St->Prop}(X:XH P)(hT:xH P tt)(hC:YS P ctr){c:Code}{fs:List Fm}{st:St}(i:Nat){T:Nat}{v:Value}(Lh:List HO)
  (e:znU X tt ctr n c i st (hoH Lh)=some (.atom (.iface T v),hoO Lh)) (hQ:∀st',Q (.panic (kI (.iface T v))) st'):AWP P n c st (Qf P n fs Q):=by
 unfold znU at e;split at e
 ·cases e
 rename_i ops hr;split at e
 ·cases e
 rename_i st1 hs1 ob lg h1;split at e
 ·cases e
 rename_i o l2 h2;split at e
 ·cases e
 rename_i x h3;split at e
 ·cases e
 rename_i y R U hs2 ob' h4;simp[Option.some.injEq,Prod.mk.injEq]at e;obtain⟨rfl,ho⟩:=e;have hall:z7U (hoO Lh):=by rw[z9T];exact z7b _
 rw[<-ho]at hall;have ⟨o1,o2⟩:=jF hall;refine AWP.regOf hr (ch:=kI (.iface T v)) (λid Q' hQ'=>?_) (λst'=>JD fs (hQ st'));unfold zlM at h3;split at h3
 ·cases h3
 rename_i hg;split at h3
 ·rename_i x0 hop;cases h3;refine AWP.regDie hT (hC.withE X.ok) (l1:=ops.toList.take i) (l2:=l2) (o:=o) (by rw[<-h2,mE]) hg (z29 _ _ _ h1 o1 ?_) hQ';exact zlL hop ((zmV _).s h4 o2)
 cases h3
def zmC:Dpq:=⟨λ_ v=>v.oneCell'=true,λh=>h,λ_ h=>h⟩
def eAn (_:Unit):A:=.dop zmC
instance:YV eAn eAn:=⟨λ_=>rfl⟩
instance:uJ eAn:=⟨λ_ _ _=>rfl⟩
instance LeA.any (f:Nat)(caps:List A):LeA (.fn f caps) (.dop zmC):={
 rep:=λS cs q=>by simp only[Rep]at q⊢;obtain⟨vs,_,_,rfl⟩:=q;exact⟨_,rfl,rfl⟩
 conc:=λS h cs F q=>by simp only[zD]at q⊢;refine⟨?_,q.2⟩;have q:=q.1;simp only[Rep]at q⊢;obtain⟨vs,_,_,rfl⟩:=q;exact⟨_,rfl,rfl⟩
 val:=λ_=>rfl
 tup:=λ_ e=>by cases e }
instance (f:Nat)(caps:List A)(q:Dpq):SzA (.fn f caps) (.dop q):=⟨rfl⟩
def z62 (sz:Nat)(v:Value)(q:Int×Int×Int):Value :=
 match v with
 |.slice a _ _=>.slice (if q.2.2.toNat=q.1.toNat then a else a.map (·.add (q.1.toNat*sz))) (q.2.1.toNat-q.1.toNat) (q.2.2.toNat-q.1.toNat)
 |_=>.slice none 0 0
variable {sz:Nat}
def zd1 {q:Int×Int×Int}:(z62 sz v q).oneCell'=true:=by unfold z62;split<;>rfl
def eqQ (v:Value):Dpq:=⟨λ_ u=>u=v/\v.oneCell'=true,λh=>by rw[h.1];exact h.2,λ_ h=>h⟩
def zjg (h:v.oneCell'=true):xg S (.dop (eqQ v)) v:=by simp only[xg,wX,Rep];exact⟨[v],⟨v,rfl,rfl,h⟩,rfl⟩
def eNv (sz:Nat)(v:Value):Option (Int×Int×Int)->A
 |none=>.osl sz true []
 |some q=>.dop (eqQ (z62 sz v q))
def nvR (sz:Nat)(v:Value)(f:α->A)(n:Nat):(List.replicate n ([]:List α)).map (eOs sz true f)=(List.replicate n none).map (eNv sz v):=by simp[List.map_replicate,eOs,eNv]
def iMn (sz:Nat)(v:Value){l:List (Option (Int×Int×Int))}  {u:Option (Int×Int×Int)}(h:idx l i=some u)(h2:u=none):(l.map (eNv sz v))[i.toNat]?=some (.osl sz true []):=by subst h2;exact iM (eNv sz v) h
instance LeA.nv {α:Type}(s sz:Nat)(v:Value)(f:α->A)(n:Nat):LeA (eOs s true (eOs sz true f) (List.replicate n ([]:List α))) (eOs s true (eNv sz v) (List.replicate n none)):=by
 unfold eOs;have:=nvR sz v f n;unfold eOs at this;rw[this]
 infer_instance
instance {α:Type}(s s' sz:Nat)(b b':Bool)(v:Value)(f:α->A)(l:List α)(l':List (Option (Int×Int×Int))):SzA (eOs s b f l) (eOs s' b' (eNv sz v) l'):=⟨rfl⟩
section
variable {C:Ctx}{S:zf}{Fp:Nat->TC}{X:TC}{st:St}{a:Act}{w:World}
def s3O (tt:TT)(n:Fr)(dst:TD)(ty r:Nat)(v:Value)(x lo hi mx:Operand):SM Unit:=wP x>>=λtx=>wP lo>>=λta=>val ta>>=λva=>wP hi>>=λtb=>val tb>>=λvb=>wP mx>>=λtc=>val tc>>=λvc=>rdE r>>=λe=>
 match va,vb,vc with
 |.atom (.int _ i),.atom (.int _ j),.atom (.int _ k)=>kR (tx=.als r [] e.er e.ec/\z3D n.pin r=some v)
  (match e.t with
  |.own (.osl sz _ es)=>if jB tt ty=some sz then Kt (0<=i/\i<=j/\j<=k/\k.toNat<=es.length) (wrT n dst (.d (.dop (eqQ (z62 sz v (i,j,k)))))) else zF
  |_=>zF)
 |_,_,_=>zF
def znE {P:Program}  (hT:xH P tt)(h:Sim C S Fp [] st a w)  {t r:Nat}{v:Value}{x lo hi mx:Operand}(ho:o.op=.slice t x (some lo) (some hi) (some mx))    (e0:s3O tt C.n o.dst t r v x lo hi mx st=some (u,R,U)):vd P C o a w (zh U st):=by
 unfold s3O at e0;have ⟨tx,_,hx,e1⟩:=bR (zy h) e0;have ⟨ta,_,ha,e2⟩:=bR (zy h) e1;have ⟨va,_,qa,e3⟩:=bR (wz h ha) e2;have ⟨tb,_,hb,e4⟩:=bR (zy h) e3;have ⟨vb,_,qb,e5⟩:=bR (wz h hb) e4;have ⟨tc,_,hc,e6⟩:=bR (zy h) e5;have ⟨vc,_,qc,e7⟩:=bR (wz h hc) e6;have ⟨_,e8⟩:=bD e7;split at e8
 ·rename_i k1 i k2 j k3 k;obtain⟨⟨rfl,c2⟩,e9⟩:=bM e8;have hs:=h.pin r v (wT c2);split at e9
  case h_2=>cases e9
  rename_i sz tg es ht;have ⟨d1,f1⟩:=bI e9;have ⟨⟨d2,d3,d4,d5⟩,f2⟩:=bM f1;have ⟨p,c,ev,hlc,_,_⟩:=z1b h ht;have hxv:a.eval x=.slice p es.length c:=by rw[<-ev];exact z5E hx ht rfl
  have ⟨el,he,hsz⟩:=xE hT d1 w;have ⟨ela,_⟩:=zo.1 qa;have ⟨elb,_⟩:=zo.1 qb;have ⟨elc,_⟩:=zo.1 qc;have hrun:=kB (P:=P) (w:=w) he hsz (p:=p) (len:=es.length) (c:=c) (m:=k.toNat) (lo:=some (.int k1 i)) (hi:=some (.int k2 j)) (mx:=some (.int k3 k)) (.inr ⟨k1,i,rfl,d2,rfl⟩) (.inr ⟨k2,j,rfl,ω,rfl⟩) (.inr ⟨k3,k,rfl,ω,rfl⟩) ω ω ω ς;have hvv:v=.slice p es.length c:=by rw[<-hs,ev]
  have ⟨Fp',hs'⟩:=xw h f2 (x:=.d (.dop (eqQ (z62 sz v (i,j,k))))) (v:=z62 sz v (i,j,k)) (zjg zd1);refine zm ?_ hs';rw[hvv];simp[execOp,ho,hxv,ela,elb,elc,hrun,z62]
 cases e8
def xS3 (hT:xH P tt)(d r:Nat)(v:Value):XH P:=xAt (λo=>match o.op with|.slice t x (some lo) (some hi) (some mx)=>if o.dst=some d then some (t,x,lo,hi,mx) else none|_=>none) (λb=>.slice b.1 b.2.1 (some b.2.2.1) (some b.2.2.2.1) (some b.2.2.2.2)) (λn o b=>s3O tt n o.dst b.1 r v b.2.1 b.2.2.1 b.2.2.2.1 b.2.2.2.2) λh ho e=>znE hT h ho e
def paO (tt:TT)(n:Fr)(dst:TD)(ty r:Nat)(v:Value)(x i:Operand):SM Unit:=wP x>>=λtx=>wP i>>=λti=>val ti>>=λvi=>rdE r>>=λe=>
 match vi with
 |.atom (.int _ j)=>kR (tx=.als r [] e.er e.ec/\z3D n.pin r=some v)
  (match e.t with
  |.own (.osl sz _ es)=>if jB tt ty=some sz then Kt (0<=j/\j.toNat<es.length) (wrT n dst (.d (.atom (JE sz v j)))) else zF
  |_=>zF)
 |_=>zF
def znV {P:Program}  (hT:xH P tt)(h:Sim C S Fp [] st a w){o:Oper}{t r:Nat}{v:Value}{x i:Operand}(ho:o.op=.indexAddr t x i)    (e0:paO tt C.n o.dst t r v x i st=some (u,R,U)):vd P C o a w (zh U st):=by
 unfold paO at e0;have ⟨tx,_,hx,e1⟩:=bR (zy h) e0;have ⟨ti,_,hi,e2⟩:=bR (zy h) e1;have ⟨vi,_,qi,e3⟩:=bR (wz h hi) e2;have ⟨_,e8⟩:=bD e3;split at e8
 ·rename_i k j;obtain⟨⟨rfl,c2⟩,e9⟩:=bM e8;have hs:=h.pin r v (wT c2);split at e9
  case h_2=>cases e9
  rename_i sz tg es ht;have ⟨d1,f1⟩:=bI e9;have ⟨⟨d2,d3⟩,f2⟩:=bM f1;have ⟨p,c,ev,hlc,_,hb⟩:=z1b h ht;obtain⟨b,rfl⟩:=hb ω;have hxv:a.eval x=.slice (some ⟨b,0,none⟩) es.length c:=by rw[<-ev];exact z5E hx ht rfl
  have ⟨el,he,hsz⟩:=xE hT d1 w;have ⟨ei,_⟩:=zo.1 qi;have hvv:v=.slice (some ⟨b,0,none⟩) es.length c:=by rw[<-hs,ev]
  have hrun:=XY (P:=P) (b:=b) (o:=0) (n:=es.length) (c:=c) (k:=k) he hsz d2 d3;have ⟨Fp',hs'⟩:=xw h f2 (x:=.d (.atom (JE sz v j))) (v:=JE sz v j) (zo.2 ⟨rfl,z9u⟩);refine zm ?_ hs';rw[hvv];simp[execOp,ho,ei,hxv,hrun,JE,Addr.add_lit]
 cases e8
def xPa (hT:xH P tt)(d r:Nat)(v:Value):XH P:=xAq (zj5 d) z3e (λn o b=>paO tt n o.dst b.1 r v b.2.1 b.2.2) λh ho e=>znV hT h ho e
def pmO (n:Fr)(dst:TD)(r sz:Nat)(v:Value)(j:Int)(x:Operand):SM Unit:=wP x>>=λtx=>rdE r>>=λe=>kR (tx=.d (.atom (JE sz v j))/\z3D n.pin r=some v)
 (match e.t with
 |.own (.osl sz' _ es)=>if sz'=sz then Kt (j.toNat<es.length) (wrT n dst (.ptr r [.idx j.toNat] e.er e.ec)) else zF
 |_=>zF)
def znS (h:Sim C S Fp [] st a w)  {r sz:Nat}  {j:Int}  (ho:o.op=.move x)    (e0:pmO C.n o.dst r sz v j x st=some (u,R,U)):vd P C o a w (zh U st):=by
 unfold pmO at e0;have ⟨tx,_,hx,e1⟩:=bR (zy h) e0;have ⟨_,e8⟩:=bD e1;obtain⟨⟨rfl,c2⟩,e9⟩:=bM e8;have hs:=h.pin r v (wT c2);split at e9
 case h_2=>cases e9
 rename_i sz' tg es ht;obtain⟨rfl,f1⟩:=bI e9;have ⟨d3,f2⟩:=bM f1;have hals:jS w.heap st (Act.tv a) r [] (st r).er (st r).ec (Act.tv a r):=by refine⟨pF _,pF _,?_⟩;simp[ht]
 have ⟨b,c,ev,hp⟩:=z8T h hals ht rfl (.inl rfl) rfl d3;have hp':TOk S w.heap st (Act.tv a) (T.ptr r [Vq.idx j.toNat] (st r).er (st r).ec) (.pointer (some ⟨b,j.toNat*sz',none⟩)):=hp;have ⟨Fp',hs'⟩:=xw h f2 hp';refine zm ?_ hs';have hxv:=(zo.1 hx).1;rw[<-hs,ev]at hxv;simp[execOp,ho,hxv,JE,Addr.add_lit]
def xPm (d r sz:Nat)(v:Value)(j:Int):XH P:=xAt (λo=>match o.op with|.move x=>if o.dst=some d then some x else none|_=>none) .move (λn o b=>pmO n o.dst r sz v j b) λh ho e=>znS h ho e
end
variable {σ β:Type}
def WkY (Y:σ->Qv)(y:σ->β->Option (σ×Bool)):Prop :=
 ∀s x s',y s x=some (s',true)->∀(S S1 S':zf) (h h':Array Obj) (v:Value) (F F':TC),(∀b o u,S b o=some u->S1 b o=some u)->(∀k∈F',∀o,S1 k o=none)->(Y s).holds S h v F->(Y s').holds S' h' v F'->(Y s').holds S1 h' v F'
def zjV (P:Program)(f:A){β:Type}(enc:β->Bool->Value->List A)(F:∀{σ:Type},(σ->β->Option (σ×Bool))->σ->Option σ):Prop :=
 ∀(σ:Type) (yv:Value) (Y:σ->Qv) (y:σ->β->Option (σ×Bool)),YOk P yv Y enc y->WkY Y y->∀s s',F y s=some s'->xS P f [.atom yv] [(yv,.opq (Y s).q)] (.tup []) [.opq (Y s').q]
variable {caps:List A}{body:Code}{fn:Func}
def zj4 {nt:Nat}{caps:List A}{β:Type}{enc:β->Bool->Value->List A}{F:∀{σ:Type},(σ->β->Option (σ×Bool))->σ->Option σ}(hT:xH P tt)(hf:P.funcs[k]?=some fn)(hnm:(fn.name == "runtime.NumGoroutine")=false)(hb:fn.body=some body)
  (hn:nt=fn.ntmps) (hr:fn.results=#[]) (ha:caps.length+1<=fn.ntmps)
  (h:∀(σ:Type) (yv:Value) (Y:σ->Qv) (y:σ->β->Option (σ×Bool)),YOk P yv Y enc y->WkY Y y->∀s s',F y s=some s'->∀E:Exit->St->Prop,(∀ex st,(ex=.normal\/ex=.ret)->canon [0] st=ofL [(0,.own (.opq (Y s').q))]->E ex st) ->
   AWP P ⟨nt,[(0,yv)]⟩ body (ofL (z6f 0 (.opq (Y s).q::caps))) (Qf P ⟨nt,[(0,yv)]⟩ [] E)):zjV P (.fn k caps) enc F:=fun σ yv Y y hy hw s s' hs=>
 z7p hT hf hnm hb hn hr ha (h σ yv Y y hy hw s s' hs)
def z2S (es:List α):List (Option (Int×Int×Int))->Option (List (List α))
 |[]=>some []
 |some q::l=>gd (0<=q.1/\q.1<=q.2.1/\q.2.2=q.2.1/\q.2.1.toNat<=es.length)<|Option.bind (z2S es l) λr=>some ((es.drop q.1.toNat).take (q.2.1.toNat-q.1.toNat)::r)
 |none::_=>none
variable {pv:Value}{tg:Bool}
def zdV {es:List A}  (h:Rep S (.sl sz tg es) [pv]){lo hi:Int}(h0:0<=lo)(h1:lo<=hi)(h2:hi.toNat<=es.length):Rep S (.sl sz true ((es.drop lo.toNat).take (hi.toNat-lo.toNat))) [z62 sz pv (lo,hi,hi)]:=by
 simp only[Rep]at h⊢;obtain⟨p,c,e,h3,h4,h5,h6⟩:=h;obtain rfl:pv=.slice p es.length c:=ξ e
 have hlen:((es.drop lo.toNat).take (hi.toNat-lo.toNat)).length=hi.toNat-lo.toNat:=by simp;omega
 refine⟨if hi.toNat=lo.toNat then p else p.map (·.add (lo.toNat*sz)),hi.toNat-lo.toNat,by simp only[z62,hlen],λ_=>hlen.symm,ω,λx hx=>h5 x (rK (gJ hx)),?_⟩;by_cases hh:hi.toNat=lo.toNat
 ·exact .inl (by rw[hh];simp)
 rw[if_neg hh];rcases h6 with rfl|⟨b,o,l,rfl,g,k⟩
 ·simp at h2;omega
 obtain⟨ds,d1,d2⟩:=z9n (k:=hi.toNat-lo.toNat) g h5 (l:=lo.toNat) ω;refine .inr ⟨b,o+lo.toNat*sz,ds,by simp[Addr.add_lit],d1,λj v hj=>?_⟩;rw[sP];exact k _ _ (d2 j v hj)
def z9j {f:α->A}{es:List α}  (h:Rep S (.sl sz tg (es.map f)) [pv]):∀{rows:List (Option (Int×Int×Int))} {r:List (List α)} {cs:TE},z2S es rows=some r->zX S (A.shuts (rows.map (eNv sz pv))) cs->zX S (r.map (eSl sz true f)) cs
 |[],r,cs,e,q=>by cases e;simpa only[rB,A.shuts] using q
 |none::_,_,_,e,_=>by cases e
 |some (lo,hi,mx)::l,r,cs,e,q=>by simp only[z2S]at e;obtain⟨⟨g1,g2,g3,g4⟩,e⟩:=gdE e;obtain⟨r1,e1,e⟩:=zl e;cases e;replace g3:mx=hi:=g3;subst g3;simp only[gO,A.shuts,zX]at q⊢;obtain⟨c1,c2,rfl,q1,q2⟩:=q;refine⟨c1,c2,rfl,?_,z9j h e1 q2⟩;simp only[eNv,A.shut,Rep]at q1;obtain⟨_,rfl,rfl,_⟩:=q1;have:=zdV h g1 g2 (ξ g4);simpa only[eSl,List.map_take,List.map_drop] using this
section
variable {C:Ctx}{S:zf}{Fp:Nat->TC}{X:TC}{st:St}{a:Act}{w:World}
def zmy (h:Sim C S Fp X st a w){r:Nat}{x:A}(hr:(st r).t=.own (.box x)):∃B ty l F',Act.tv a r=.pointer (some ⟨B,0,none⟩)/\w.heap[B]?=some (.cells l.toArray ty (0,0))/\zD S w.heap x l F'/\Fp r=B::F' /\
  ∀{er ec:Nat} {v:Value},jS w.heap st (Act.tv a) r [.deref] er ec v->(st r).er=er->(st r).ec=ec->v=zL x l:=by
 have hq:=h.ent r;unfold yO at hq;simp only[hr]at hq;obtain⟨cs,c1,c2,c3⟩:=hq;simp only[zD]at c1;obtain⟨B,ty,l,F',rfl,e1,e2,e3,e4⟩:=c1;have c3':Act.tv a r=.pointer (some ⟨B,0,none⟩):=c3;refine⟨B,ty,l,F',c3',e1,e2,e3,?_⟩;intro er ec v ha he1 he2;have q:=ha.2.2;simp only[hr]at q;rcases q he1 (.inr he2) with⟨q,_⟩|⟨_,y,b,o,cs,g1,g2,g3,g4,g5⟩
 ·cases q
 simp only[wR,Option.some.injEq]at g1;subst g1;rw[c3']at g2;simp only[wg,z1e,Option.some.injEq,Prod.mk.injEq]at g2;obtain⟨rfl,rfl⟩:=g2;have hl:l=cs:=by
  apply gW;intro i;rcases pM i cs.length with hi|hi
  ·have:=g4 i _ (pB hi);simp only[zU,e1,mC]at this;rw[pB hi];simpa using this
  rw[pL hi,pL (by rw[e2.len,<-g3];exact hi)]
 rw[g5,hl]
end
def z5K (sz:Nat)(pv:Value):∀rows:List (Option (Int×Int×Int)),A.lives (rows.map (eNv sz pv))=true
 |[]=>rfl
 |none::l=>by simp[A.lives,eNv,A.live,z5K sz pv l]
 |some _::l=>by simp[A.lives,eNv,A.live,z5K sz pv l]
def z6V {es:List α}:∀{rows:List (Option (Int×Int×Int))} {r:List (List α)},z2S es rows=some r->r.length=rows.length
 |[],r,e=>by cases e;rfl
 |none::_,_,e=>by cases e
 |some _::l,r,e=>by simp only[z2S]at e;obtain⟨_,e⟩:=gdE e;obtain⟨r1,e1,e⟩:=zl e;cases e;simp[z6V e1]
variable {rows:List (Option (Int×Int×Int))}{X:TC}
section
variable {C:Ctx}{S:zf}{Fp:Nat->TC}{st:St}{a:Act}{w:World}
def tyO (tt:TT)(n:Fr)(dst:TD)(r4 r5 sz:Nat)(pv yv:Value)(o o':Qv)(b:Bool)(u1 u2:Value)(tg tg5:Bool)(rows:List (Option (Int×Int×Int)))(es:List A)(f x:Operand):SM Unit :=
 Zi tt n [(f,0)]>>=λfs=>z4z n [0]>>=λls=>wP x>>=λtx=>rdE r4>>=λe4=>rdE r5>>=λe5=>
 kR (fs=[.atom yv]/\ls=[(yv,.opq o.q)]/\tx=.als r4 [.deref] e4.er e4.ec/\e4.t=.own (.box (.agg [.atom u1,.atom u2,.osl 1 tg (rows.map (eNv sz pv))]))/\e5.t=.own (.osl sz tg5 es)/\z3D n.pin r5=some pv)
  ((cond b (pure ()) (wrE r4 ⟨.gone,e4.er+1,e4.ec+1⟩>>=λ_=>wrE r5 ⟨.gone,e5.er+1,e5.ec+1⟩)>>=λ_=>z7N [0] [.opq o'.q]>>=λ_=>wrT n dst (.d (.atom (.bool b)))))
def Sim.drop (h:Sim C S Fp X st a w)(r:Nat){x:A}(hr:(st r).t=.own x):Sim C S (VT Fp r []) X (upd st r ⟨.gone,(st r).er+1,(st r).ec+1⟩) a w :=
 h.change r .gone _ _ [] h.below (λ_ _ _ q=>q) h.still.cell h.sbase (λt k _ hk=>⟨rfl,(h.free t k hk).2.1⟩) rfl (.inl ⟨x,hr⟩) (Nat.le_succ _) (gH _) ς ς h.xn (λt k _ hk=>h.xd t k hk) ς h.xb
def Sim.seaT (h:Sim C S Fp X st a w)(T:TC)(hT:∀k∈T,(∀o,S k o=none)/\C.M k/\k∉X/\∀t,k∉Fp t):Sim C (zG S w.heap T) Fp X st a w:=by
 refine h.mem h.below (jO λk hk=>(hT k hk).1) ?_ ?_ ?_ h.xn h.xd h.xb
 ·intro b o u q;unfold zG at q;split at q
  ·exact q
  exact h.still b o u q
 ·intro b o hb;unfold zG;rw[if_neg (λq=>hb (hT b q).2.1)];exact h.sbase b o hb
 intro t k hk;refine⟨rfl,λo=>?_⟩;unfold zG;rw[if_neg (λq=>(hT k q).2.2.2 t hk)];exact(h.free t k hk).2.1 o
def zns {P:Program}{tt:TT}(h:Sim C S Fp [] st a w){op:Oper}{f x:Operand}{tys:Array TypeId}{r4 r5 sz:Nat}{pv yv u1 u2:Value}{o o':Qv}{b tg tg5:Bool}   {g:α->A}[z0O g g]{es:List α}{r:List (List α)}(hr:z2S es rows=some r)(hne:r4≠r5)
  (hy:xS P (.atom yv) [.agg [.atom u1,.atom u2,eSl 1 tg (eSl sz true g) r]] [(yv,.opq o.q)] (.atom (.bool b)) [.opq o'.q])
  (hw:b=true->∀(S S1 S':zf) (h h':Array Obj) (v:Value) (F F':TC),(∀b o u,S b o=some u->S1 b o=some u)->(∀k∈F',∀o,S1 k o=none)->o.holds S h v F->o'.holds S' h' v F'->o'.holds S1 h' v F')
  (ho:op.op=.call { callee:=.value f,args:=#[x],argTypes:=tys }) {u:Unit} {R:TC} {U:List (Nat×Ent)}
  (e:tyO tt C.n op.dst r4 r5 sz pv yv o o' b u1 u2 tg tg5 rows (es.map g) f x st=some (u,R,U)):vd P C op a w (zh U st):=by
 unfold tyO at e;obtain⟨fs,R1,U1,R2,U2,e1,e2,rfl,rfl⟩:=bind_some e;obtain⟨S1,Fp1,g1,g2,g3⟩:=wZ h e1;obtain⟨ls,R5,U5,R6,U6,e5,e6,rfl,rfl⟩:=bind_some e2;obtain⟨Fp3,F,k1,k2,k3⟩:=z0o g1 e5;rw[zp,zp];have ⟨tx,_,hx,e7⟩:=bR (zy k1) e6;have ⟨_,e8⟩:=bD e7;have ⟨_,e9⟩:=bD e8;have hq:=bM e9;clear e9 e8 e7 e6 e5 e2 e1 e h g1;obtain⟨⟨rfl,rfl,rfl,ht4,ht5,hp5⟩,e⟩:=hq;generalize zh U5 (zh U1 st)=s2 at *;have k2:=Yw k2;obtain⟨B,ty,l,F4,hv4,hb4,hc4,hF4,hval⟩:=zmy k1 ht4;have hev:a.eval x=zL (.agg [.atom u1,.atom u2,.osl 1 tg (rows.map (eNv sz pv))]) l:=hval hx rfl rfl;have hq5:=k1.ent r5;unfold yO at hq5;simp only[ht5]at hq5;obtain⟨cs5,c5,n5,v5⟩:=hq5;have hfree:∀k∈Fp3 r4++Fp3 r5,∀o,S1 k o=none:=λk hk=>(pD.1 hk).elim (λq=>(k1.free r4 k q).2.1) (λq=>(k1.free r5 k q).2.1);obtain⟨T,hT⟩:∃T,T=Fp3 r4++Fp3 r5:=⟨_,rfl⟩;rw[<-hT]at hfree;have hmono:=jO (S:=S1) (h:=w.heap) hfree;have hin:∀k∈T,∀o,zG S1 w.heap T k o=zU w.heap k o:=λk hk o=>by unfold zG;rw[if_pos hk]
 have hr4:=hc4.shut hmono (by simp[A.live,A.lives,z5K]) (λk hk=>hin k (by rw[hT,hF4];simp[hk]));have hr5:=c5.shut hmono (by simp only[A.live];exact z0n g es (z0O.live (f:=g) (g:=g))) (λk hk=>hin k (by rw[hT];simp[hk]));have hcs:cs5=[pv]:=by rw[WX (y:=.osl sz tg5 (es.map g)) rfl c5,<-v5,k1.pin r5 pv (wT hp5)]
 subst hcs;simp only[A.shut,A.shuts,(shM g g es).2]at hr4 hr5;have hF0:F.Nodup:=ξ k1.xn
 have hoff:∀k∈F,k∉T:=λk hk q=>by rw[hT]at q;exact(pD.1 q).elim (k1.xd r4 k (by simp[hk])) (k1.xd r5 k (by simp[hk]))
 have hdata:Rep (zG S1 w.heap T) (.agg [.atom u1,.atom u2,eSl 1 tg (eSl sz true g) r]) l:=by
  simp only[Rep,zX]at hr4⊢;obtain⟨a1,a2,ha,p1,a3,a4,ha2,p2,a5,a6,ha3,⟨p,c,hc,t1,t2,t3,t4⟩,rfl⟩:=hr4;have hl:=z6V hr;refine⟨a1,a2,ha,p1,a3,a4,ha2,p2,a5,[],ha3,?_,rfl⟩;simp only[eSl,Rep,gD,QG]at hc t1 t2⊢;refine⟨p,c,by rw[hl];exact hc,λq=>by rw[hl];exact t1 q,by rw[hl];exact t2,?_,?_⟩
  ·intro y hy;obtain⟨_,_,rfl⟩:=pY.1 hy;rfl
  rcases t4 with t4|⟨b1,o1,l1,q1,q2,q3⟩
  ·refine .inl ?_;have:rows.length=0:=by simpa[QG] using congrArg List.length t4
   rw[<-hl]at this;rw[ri.1 this];rfl
  exact .inr ⟨b1,o1,l1,q1,z9j hr5 hr q2,q3⟩
 have hS2:yo (zG S1 w.heap T) w:=by
  refine⟨λb o u q=>?_,k1.still.gok.mono hmono,k1.still.blk.of hmono λ_ _ _=>rfl⟩;unfold zG at q;split at q
  ·exact q
  exact k1.still b o u q
 have hY:=k2.frame (h':=w.heap) hmono (λk hk=>⟨rfl,λo=>by unfold zG;rw[if_neg (hoff k hk)];exact(k1.xb k (by simp[hk]) |> λ_=>(k2.own k hk).2 o)⟩);have hmap:(Array.map a.eval #[x]).toList=[a.eval x]:=ς
 have hact:=hy (zG S1 w.heap T) w (a.eval f) [a.eval x] F hS2 (g3.1.mono hmono) ⟨⟨l,hdata,hev⟩,trivial⟩ (Xo hY) hF0;rw[<-hmap]at hact;intro rd m K Q hK;refine zaj (args:=#[x]) ho hact rd m K Q ?_;rintro v' w' ⟨S',F',G,b1,b2,b3,b4,b5,b6,b7,b8⟩;have hv:v'=.bool b/\F'=[]:=by have q:=z2f (a:=.atom (.bool b)) rfl b5;exact⟨(yI.1 q.1).1,q.2⟩
 obtain⟨rfl,rfl⟩:=hv;simp only[gC]at b7 b8;obtain⟨u5,R7,U7,R8,U8,q1,q2,rfl,rfl⟩:=bind_some e;obtain⟨u6,R9,U9,R10,U10,q3,q4,rfl,rfl⟩:=bind_some q2;rw[zp,zp]at hK;have k3':Act.tv a 0=yv:=ξ k3.symm
 cases b with
 |true=>
  obtain⟨_,rfl,rfl⟩:=qJ q1;simp only[zh]at hK q3 q4;obtain⟨S3,hS3⟩:∃S3:zf,S3=λb o=>if b∈T then none else S' b o:=⟨_,rfl⟩;have hm3:∀b o u,S1 b o=some u->S3 b o=some u:=λb o u q=>by
   have hb:b∉T:=λk=>by rw[hfree b k o]at q;cases q
   rw[hS3];show(if b∈T then none else S' b o)=_;rw[if_neg hb];exact b2 b o u (hmono b o u q)
  have hG:∀k∈G,k∉T:=λk hk q=>by
   rcases b8 k hk with q2|q2
   ·have:k<w.heap.size:=by rw[hT]at q;exact(pD.1 q).elim (λq=>(k1.free r4 k q).1) (λq=>(k1.free r5 k q).1)
    omega
   exact hoff k q2 q
  have hb6:=Jf (Yw b6);have hGn:∀k∈G,∀o,S3 k o=none:=λk hk o=>by rw[hS3];show(if k∈T then none else S' k o)=_;rw[if_neg (hG k hk)];exact((Yw b6).own k hk).2 o
  have hs':=k1.lentCall (S':=S3) (Y:=G) b1 hm3 (λb o hb hbF=>by
    rw[hS3];show(if b∈T then none else S' b o)=_;split
    ·rename_i q;exact(hfree b q o).symm
    ·rename_i q;rw[b3 b o hb hbF];unfold zG;rw[if_neg q]) ⟨λb o u q=>by
    rw[hS3]at q;have q':(if b∈T then none else S' b o)=some u:=q;split at q'
    ·cases q'
    exact b4 b o u q',k1.still.gok.mono hm3,k1.still.blk.of hm3 λg x e=>b1.block g (by
    rintro(q|q)
    ·have:=k1.still.blk.lt e;omega
    exact k1.still.blk.ne ((k2.own g q).2 0) x e)⟩ b7 b8
  have hY3:=hw rfl S1 S3 S' w.heap w'.heap yv F G hm3 hGn (Jf k2) hb6;obtain⟨Fp4,m1⟩:=z0C (F:=G) (X:=[]) (ξ hs') (by simpa[k3'] using Xo (Ks hY3 b7)) q3;obtain⟨Fp5,m2⟩:=xw m1 q4 (v:=.bool true) (zo.2 ⟨rfl,rfl⟩);exact hK _ _ _ _ m2
 |false=>
  obtain⟨u7,R11,U11,R12,U12,q5,q6,rfl,rfl⟩:=bind_some q1;obtain⟨rfl,rfl⟩:=z4X q5;obtain⟨rfl,rfl⟩:=z4X q6;simp only[gX,mA,zh]at hK q3 q4;have j1:=k1.drop r4 ht4;have j2:=j1.drop r5 (x:=.osl sz tg5 (es.map g)) (by rw[YA _ _ (rA hne)];exact ht5);rw[YA _ _ (rA hne)]at j2;have hTF:∀t k,k∈VT (VT Fp3 r4 []) r5 [] t->k∉T:=by
   intro t k hk q;rw[hT]at q;unfold VT at hk;split at hk
   ·cases hk
   split at hk
   ·cases hk
   rename_i n5' n4';exact(pD.1 q).elim (λq=>n4' (k1.disj t r4 k hk q)) (λq=>n5' (k1.disj t r5 k hk q))
  have j3:=j2.seaT T (λk hk=>⟨hfree k hk,by rw[hT]at hk;exact(pD.1 hk).elim (k1.base r4 k) (k1.base r5 k),λq=>hoff k (ξ q) hk,λt q=>hTF t k q hk⟩)
  have hs':=j3.lentCall (S':=S') (Y:=G) b1 b2 b3 b4 b7 b8;obtain⟨Fp4,m1⟩:=z0C (F:=G) (X:=[]) (ξ hs') (by simpa[k3'] using b6) q3;obtain⟨Fp5,m2⟩:=xw m1 q4 (v:=.bool false) (zo.2 ⟨rfl,rfl⟩);exact hK _ _ _ _ m2
def xTy (tt:TT){yv:Value}  {Y:σ->Qv}{enc:β->Bool->Value->List A}{y:σ->β->Option (σ×Bool)}(hy:YOk P yv Y enc y)(hw:WkY Y y)(d r4 r5 sz:Nat)(pv:Value){u1 u2:Value}{tg tg5:Bool}   (g:α->A)[z0O g g]{es:List α}{r:List (List α)}(hr:z2S es rows=some r)(hne:r4≠r5)
    {s s':σ} {x:β} {b:Bool} (h:y s x=some (s',b)) (he:∀v,Jr [.agg [.atom u1,.atom u2,eSl 1 tg (eSl sz true g) r]] (enc x b v)):XH P :=
 xAt (λo=>match o.op with|.call ⟨.value f,⟨[x]⟩,tys⟩=>if o.dst=some d then some (f,x,tys) else none|_=>none) (λq=>.call ⟨.value q.1,#[q.2.1],q.2.2⟩) (λn o q=>tyO tt n o.dst r4 r5 sz pv yv (Y s) (Y s') b u1 u2 tg tg5 rows (es.map g) q.1 q.2.1) λhs ho e=>zns hs hr hne (λS w fv vs F q1 q2 q3=>hy s x s' b h .nilFunc S w fv vs F q1 q2 ((he .nilFunc).all _ _ q3)) (λhb=>hw s x s' (by rw[<-hb];exact h)) ho e
end
def ghQ (p:Prop)(v:Value)(x:A):Opq:={
 holds:=λS h u F=>p/\u=undef/\zD S h x [v] F
 multi:=true
 one:=λq=>.inr ⟨rfl,#[],by rw[q.2.1];rfl⟩
 frame:=λhS hF q=>⟨q.1,q.2.1,q.2.2.frame hS hF⟩
 own:=λq k hk=>⟨(q.2.2.own k hk).1,(q.2.2.own k hk).2.1⟩
 idx:=0 }
variable {p:Prop}
def z9W {h:Array Obj}  {tv:Nat->Value}{F:TC}{e:Ent}{u v:Value}  {x:A}(he:e.t=.own (.opq (ghQ p v x))):yO S h st tv F e u↔p/\u=undef/\zD S h x [v] F/\F.Nodup:=by
 unfold yO;simp only[he];constructor
 ·rintro⟨cs,c1,c2,c3⟩;simp only[zD]at c1;obtain⟨u',rfl,q0,q1,q2⟩:=c1;have:u=u':=c3;subst this;exact⟨q0,q1,q2,c2⟩
 rintro⟨q0,rfl,q1,q2⟩;exact⟨[undef],by simp only[zD];exact⟨_,rfl,q0,rfl,q1⟩,q2,rfl⟩
def zmA {g:Nat}   {x:A}(he:(st g).t=.own (.opq (ghQ p v x)))(h:p->AWP P n c st Q):AWP P n c st Q :=
 λrd m df w0 S0 M S Fp a w hc hs=>h ((z9W he).1 (hs.ent g)).1 rd m df w0 S0 M S Fp a w hc hs
variable {xs0:List A}
section
variable {C:Ctx}{S:zf}{Fp:Nat->TC}{X:TC}{st:St}{a:Act}{w:World}
def ghO (tt:TT)(n:Fr)(dst:TD)(g:Nat)(p p':Prop)(v:Value)(x x' fa r:A)(xs0:List A)(f:Operand)(as_:List (Operand×Nat)):SM Unit :=
 Zi tt n [(f,0)]>>=λfs=>Zi tt n as_>>=λxs=>rdE g>>=λe=>kR (fs=[fa]/\Jr xs xs0/\e.t=.own (.opq (ghQ p v x))) (wrE g ⟨.own (.opq (ghQ p' v x')),e.er,e.ec+2⟩>>=λ_=>wrT n dst (.d r))
def zoM {P:Program}{tt:TT}(h:Sim C S Fp [] st a w){op:Oper}{f:Operand}{args:Array Operand}{tys:Array TypeId}{g:Nat}{p p':Prop}{v:Value}{x x' fa r:A}{xs0:List A}(hp:p->p')(hrd:r.isD=true)
  (hl:xS P fa xs0 [(v,.box x)] r [.box x']) (ho:op.op=.call { callee:=.value f,args:=args,argTypes:=tys }) (hsz:args.size=tys.size) {u:Unit} {R:TC} {U:List (Nat×Ent)}
  (e:ghO tt C.n op.dst g p p' v (.box x) (.box x') fa r xs0 f (args.toList.zip tys.toList) st=some (u,R,U)):vd P C op a w (zh U st):=by
 unfold ghO at e;obtain⟨fs,R1,U1,R2,U2,e1,e2,rfl,rfl⟩:=bind_some e;obtain⟨S1,Fp1,g1,g2,g3⟩:=wZ h e1;obtain⟨xs,R3,U3,R4,U4,e3,e4,rfl,rfl⟩:=bind_some e2;obtain⟨S2,Fp2,j1,j2,j3⟩:=wZ g1 e3;have ⟨_,e5⟩:=bD e4;have hq:=bM e5;clear e5 e4 e3 e2 e1 e h;obtain⟨⟨rfl,hle,hg⟩,e⟩:=hq;rw[zp,zp];have hmap:(args.toList.zip tys.toList).map (λp=>a.eval p.1)=(args.map a.eval).toList:=by
  have:(args.toList.zip tys.toList).map (λp=>a.eval p.1)=((args.toList.zip tys.toList).map (·.1)).map a.eval:=by rw[mP];rfl
  rw[this,rT (by simp[hsz])];simp
 rw[hmap]at j3;generalize zh U3 (zh U1 st)=s2 at *;obtain⟨hp0,hu,hc,hn⟩:=(z9W hg).1 (j1.ent g);obtain⟨F,hF⟩:∃F,F=Fp2 g:=⟨_,rfl⟩;rw[<-hF]at hc hn;have hv:v.oneCell'=true:=hc.one1 rfl _ ς;have k1:Sim C S2 (VT Fp2 g []) (F++[]) (upd s2 g ⟨.own (.opq (ghQ p v (.dead 1))),(s2 g).er,(s2 g).ec+1⟩) a w:=by
  refine j1.change g (.own (.opq (ghQ p v (.dead 1)))) _ _ [] j1.below (λ_ _ _ q=>q) j1.still.cell j1.sbase (λt k _ hk=>⟨rfl,(j1.free t k hk).2.1⟩) ⟨?_,_,hg⟩ (.inl ⟨_,hg⟩) (pF _) (gH _) ς ς (ξ hn) ?_ ς ?_
  ·exact⟨[undef],by simp only[zD];exact⟨_,rfl,hp0,rfl,rfl,ξ hv,rfl⟩,sG,hu⟩
  ·intro t k ht hk;rw[gC,hF]at hk;exact λq=>ht (j1.disj t g k q hk)
  intro k hk;rw[gC,hF]at hk;exact j1.base g k hk
 have hact:=hl S2 w (a.eval f) _ F j1.still (g3.1.mono j2) (hle.all _ _ j3) (Xo (.inr ⟨[v],hc,hn,rfl⟩)) hn;intro rd m K Q hK;refine zaj ho hact rd m K Q ?_;rintro v' w' ⟨S',F',G,b1,b2,b3,b4,b5,b6,b7,b8⟩;obtain⟨b5r,rfl⟩:=z2f hrd b5;simp only[gC]at b7 b8;have hs':=k1.lentCall (Y:=G) b1 b2 b3 b4 b7 b8;obtain⟨u5,R7,U7,R8,U8,q1,q2,rfl,rfl⟩:=bind_some e;obtain⟨rfl,rfl⟩:=z4X q1;rw[zp]at hK;obtain⟨cs,c1,c2,c3⟩:=(Yw b6).cells (by rintro fs q;cases q);have hcs:cs=[v]:=by rw[WX (y:=.box x') rfl c1,<-c3]
 subst hcs;have k2:Sim C S' (VT (VT Fp2 g []) g G) [] (upd s2 g ⟨.own (.opq (ghQ p' v (.box x'))),(s2 g).er,(s2 g).ec+2⟩) a w':=by
  have:=hs'.change (X':=[]) g (.own (.opq (ghQ p' v (.box x')))) (s2 g).er ((s2 g).ec+2) G hs'.below (λ_ _ _ q=>q) hs'.still.cell hs'.sbase (λt k _ hk=>⟨rfl,(hs'.free t k hk).2.1⟩)
   ⟨⟨[undef],by simp only[zD];exact⟨_,rfl,hp hp0,rfl,c1⟩,b7,hu⟩,_,by rw[xV]⟩ (.inl ⟨_,by rw[xV]⟩) (by rw[xV];exact pF _) (by rw[xV];exact gH _) (λt k _ hk=>hs'.xd t k hk) hs'.xb ς ς ς ς
  have e:upd (upd s2 g ⟨.own (.opq (ghQ p v (.dead 1))),(s2 g).er,(s2 g).ec+1⟩) g ⟨.own (.opq (ghQ p' v (.box x'))),(s2 g).er,(s2 g).ec+2⟩=upd s2 g ⟨.own (.opq (ghQ p' v (.box x'))),(s2 g).er,(s2 g).ec+2⟩:=by funext t;unfold upd;split<;>rfl
  rw[<-e];exact this
 obtain⟨Fp5,m2⟩:=xw k2 q2 (v:=v') b5r.repV;exact hK _ _ _ _ m2
def xGh (tt:TT)(d g:Nat){p p':Prop}  {x x' fa r:A}  (hp':p->p')(hrd:r.isD=true)(hl:xS P fa xs0 [(v,.box x)] r [.box x']):XH P:={
 e n o:=match o.op with|.call ⟨.value f,args,tys⟩=>if o.dst=some d/\args.size=tys.size then some (ghO tt n o.dst g p p' v (.box x) (.box x') fa r xs0 f (args.toList.zip tys.toList)) else none|_=>none
 ok e hs h2:=by
  dsimp only at e;split at e
  ·split at e<;>cases e;exact zoM hs hp' hrd hl ‹_› (‹_/\_›).2 h2
  cases e }
end
def zaf:∀{l:List A},A.areD l=true->∀y∈l,y.isD=true
 |x::l,h,y,hy=>by
  simp only[A.areD,pN]at h;rcases pG.1 hy with rfl|hy
  ·exact h.1
  exact zaf h.2 y hy
def zah {α β:Type}{R:α->β->Prop}:∀{l:List α} {m:List β} {i:Nat} {x:α},Xg R l m->l[i]?=some x->∃y,m[i]?=some y/\R x y
 |a::l,b::m,0,x,h,e=>⟨b,rfl,by cases e;exact h.1⟩
 |a::l,b::m,i+1,x,h,e=>zah (l:=l) (m:=m) (i:=i) h.2 (ξ e)
 |_::_,[],_,_,h,_=>h.elim
 |[],_,_,_,_,e=>by simp at e
theorem zcq {nt:Nat}(g:Nat){args:List A}{x x':A}{cv:Value}  (hp:p)(hf:P.funcs[k]?=some fn)(hnm:(fn.name == "runtime.NumGoroutine")=false)(hb:fn.body=some body)
  (hn:nt=fn.ntmps) (hr:fn.results=#[]) (ha:args.length<=g) (hg:g<nt) (hD:A.areD args=true)
  (h:∀E:Exit->St->Prop,(∀l st,¬E (.goto l) st)->(∀ex st,(ex=.normal\/ex=.ret)->(∃q,(st g).t=.own (.opq (ghQ q cv (.box x'))))->E ex st) ->
   AWP P ⟨nt,[]⟩ body (ofL ((g,.own (.opq (ghQ p cv (.box x))))::z6f 0 args)) (Qf P ⟨nt,[]⟩ [] E)):xS P (.fn k []) args [(cv,.box x)] (.tup []) [.box x']:=by
 subst hn;intro S w fv vs F hS hfv havs hls hF;obtain⟨cs0,hfv,rfl⟩:=hfv;simp only[Rep]at hfv;obtain⟨us,k1,k2,rfl⟩:=hfv;have hus:us=[]:=by simpa only[zX] using k1
 subst hus;obtain⟨cs,c1,c2,c3⟩:=(Yw hls).cells (by rintro fs q;cases q);have hcs:cs=[cv]:=by rw[WX (y:=.box x) rfl c1];exact congrArg (λv=>[v]) c3.symm
 subst hcs;refine .inl ⟨k,#[],fn,rfl,hf,hnm,by rw[hb];rfl,?_⟩;have hw:Calls P k vs.toArray w λe w'=>∃v,e=.returned v/\∃S' F' G,YT (λk=>w.heap.size<=k\/k∈F) w w'/\(∀b o u,S b o=some u->S' b o=some u)/\(∀b o,b<w.heap.size->b∉F->S' b o=S b o)/\yo S' w'/\Has S' w'.heap (.tup []) v F' /\
   XI S' w'.heap [.box x'] [cv] G/\(G++F').Nodup/\∀k∈G++F',w.heap.size<=k\/k∈F:=by
  refine(callsIn_wide (n:=0)).1 (callsIn_of_wp_marks hf hb trivial ?_ rfl);have hlen:=z2l havs;have htv:∀t,Act.tv { tmps:=vs.toArray++Array.replicate (fn.ntmps-vs.toArray.size) undef,defers:=[] } t=(vs[t]?).getD undef:=by
   intro t;simp only[Act.tv,gL];by_cases ht:t<vs.length
   ·rw[nT (ξ ht)];simp
   rw[Array.getElem?_append_right (ξ ht),pL ω,Array.getElem?_replicate];split<;>rfl
  have hs:Sim ⟨⟨fn.ntmps,[]⟩,[],w,S,λk=>w.heap.size<=k\/k∈F⟩ S (λt=>if t=g then F else []) [] (ofL ((g,.own (.opq (ghQ p cv (.box x))))::z6f 0 args)) { tmps:=vs.toArray++Array.replicate (fn.ntmps-vs.toArray.size) undef,defers:=[] } w:=by
   refine { size:=by simp;omega,pin:=by simp,defers:=rfl,below:=YT.refl _ _,mine:=⟨λk hk=>.inl hk,?_⟩,still:=hS,sinc:=λ_ _ _ q=>q,sbase:=λ_ _ _=>rfl,ent:=?_,disj:=?_,base:=?_,xn:=by simp,xd:=by simp,xb:=by simp }
   ·rintro b y e (hk|hk)
    ·have:=hS.blk.lt e;omega
    exact hS.blk.ne ((c1.own b hk).2.1 0) y e
   ·intro t;rw[htv];by_cases ht:t=g
    ·subst ht;rw[if_pos rfl];refine(z9W (by simp only[ofL,if_pos])).2 ⟨hp,?_,c1,c2⟩;rw[pL ω];rfl
    rw[if_neg ht];have e1:ofL ((g,.own (.opq (ghQ p cv (.box x))))::z6f 0 args) t=ini args t:=by rw[z3h];simp only[ofL,if_neg ht]
    rw[e1];unfold ini;cases hat:args[t]? with
    |none=>rfl
    |some y=>
     dsimp only
     have hy:y.isD=true:=zaf hD y (pT hat);obtain⟨u,hu,hr1⟩:=zah havs hat;rw[hu];have:mkT y=.d y:=by cases y<;>first|rfl|(simp[A.isD]at hy;done)|(simp only[mkT];rw[if_pos hy])
     unfold yO;simp only[this];exact⟨hr1.repV,by trivial⟩
   ·intro t u k ht hu;split at ht<;>split at hu<;>simp_all
   intro t k hk;split at hk
   ·exact .inr hk
   cases hk
  refine wpIn_mono (h (λex st=>(ex=.normal\/ex=.ret)/\∃q,(st g).t=.own (.opq (ghQ q cv (.box x')))) (λl st q=>by rcases q.1 with q|q<;>cases q) (λex st h1 h2=>⟨h1,h2⟩) none 0 [] w S _ S _ _ w ⟨ς,ς,ς⟩ hs) ?_;rintro ex a' w' ⟨df',st',S',Fp',h1,h2,hx,_,hgt⟩;have fin:LeavesInM Fence.wide 0 P fn a'.tmps (λe w'=>∃v,e=.returned v/\∃S' F' G,YT (λk=>w.heap.size<=k\/k∈F) w w'/\(∀b o u,S b o=some u->S' b o=some u)/\(∀b o,b<w.heap.size->b∉F->S' b o=S b o)/\yo S' w'/\Has S' w'.heap (.tup []) v F' /\
   XI S' w'.heap [.box x'] [cv] G/\(G++F').Nodup/\∀k∈G++F',w.heap.size<=k\/k∈F) a'.defers .returning w':=by
   rw[h1.defers];refine z8E (C:=⟨⟨fn.ntmps,[]⟩,df',w,S,λk=>w.heap.size<=k\/k∈F⟩) (λw2 hw2=>?_) df' w' h1 h2.nodup λD hD=>⟨(h2.old D hD).elim (λq=>by simp at q) id,h2.ent D hD,h2.off D hD⟩;obtain⟨_,q1,q2,q3⟩:=(z9W hgt).1 (hw2.ent g);refine⟨.tuple #[],by simp[results,hr],_,rfl,S',[],Fp' g,hw2.below,hw2.sinc,λb o hb hbF=>hw2.sbase b o (by rintro(q|q)<;>first|omega|exact hbF q),hw2.still,.inl ⟨by simp only[xg];exact⟨[],rfl,trivial⟩,rfl⟩,Xo (.inr ⟨[cv],q2,q3,rfl⟩),ξ q3,λk hk=>hw2.base g k (ξ hk)⟩
  rcases hx with rfl|rfl
  ·exact fin
  exact fin
 simpa using hw
def WkA (x:A):Prop:=∀(S S1:zf) (h:Array Obj) (cs:TE) (F:TC),zD S h x cs F->(∀k∈F,∀o,S1 k o=none)->zD S1 h x cs F
def z23 {x:A}(h:x.indep=true):WkA x:=λ_ _ _ _ _ q hF=>zD.indep h q hF
def znn {x:A}(h:WkA x):WkA (.opq (ghQ p v x)):=λS S1 hp cs F q hF=>by simp only[zD]at q⊢;obtain⟨u,e,q0,q1,q2⟩:=q;exact⟨u,e,q0,q1,h _ _ _ _ _ q2 hF⟩
inductive WkL:List (Nat×T)->List (Nat×T)->Prop
 |nil:WkL [] []
 |d (k:Nat) (a:A) {l m:List (Nat×T)}:WkL l m->WkL ((k,.d a)::l) ((k,.d a)::m)
 |own (k:Nat) {x y:A} {l m:List (Nat×T)}:WkA y->WkL l m->WkL ((k,.own x)::l) ((k,.own y)::m)
def WkL.ent {l m:List (Nat×T)}(h:WkL l m)(t:Nat):(ofL m t).t=.gone\/(∃a,(ofL l t).t=.d a/\(ofL m t).t=.d a)\/∃y,(ofL m t).t=.own y/\WkA y:=by
 induction h with
 |nil=>exact .inl rfl
 |d k a _ ih=>
  simp only[ofL];split
  ·exact .inr (.inl ⟨a,rfl,rfl⟩)
  exact ih
 |own k hy _ ih=>
  simp only[ofL];split
  ·exact .inr (.inr ⟨_,rfl,hy⟩)
  exact ih
def zn4 (o:Qv)(p:Prop):Qv:=⟨λS h v F=>p/\o.holds S h v F,λq=>o.one q.2,λa b q=>⟨q.1,o.frame a b q.2⟩,λq=>o.own q.2,o.idx⟩
def zn5 {σ τ:Type}(inv:σ->Prop):LR σ τ->Prop
 |.next s=>inv s
 |.done _=>True
def zcA {P:Program}{K:Nat}{caps:List A}{σ τ β:Type}{enc:β->Bool->Value->List A}{F:∀{σ:Type},(σ->β->Option (σ×Bool))->σ->Option σ}{stF:σ->List (Nat×T)}{stD:τ->List (Nat×T)}{jc:τ->Code}{step:σ->β->Option (LR σ τ)}{s0:σ}{lr:LR σ τ}
  (hit:zjV P (.fn K caps) enc F) (inv:σ->Prop) (h0:inv s0) (hs:∀s x s',inv s->step s x=some (.next s')->inv s'/\WkL (stF s) (stF s')) (hF:F (yOf step) (.next s0)=some lr) (L:Nat) (rec:Loop) (tv:Nat->Value) (hp:∀l t,((z2K (λs=>ofL (stF s)) (λt=>ofL (stD t)) l) t).t.plain=true)
  (hY:YOk P (.func (.yield L) #[] #[]) (λl=>(Kw L (VC rec jc l) tv (z2K (λs=>ofL (stF s)) (λt=>ofL (stD t)) l) (hp l) 0).single rfl) enc (yOf step)) :
  xS P (.fn K caps) [.atom (.func (.yield L) #[] #[])] [(.func (.yield L) #[] #[],.opq (Kw L (VC rec jc (LR.next s0:LR σ τ)) tv (z2K (λs=>ofL (stF s)) (λt=>ofL (stD t)) (.next s0)) (hp (.next s0)) 0))] (.tup []) [.opq (Kw L (VC rec jc lr) tv (z2K (λs=>ofL (stF s)) (λt=>ofL (stD t)) lr) (hp lr) 0)]:=by
 obtain⟨Y,hYd⟩:∃Y:LR σ τ->Qv,Y=λl=>(Kw L (VC rec jc l) tv (z2K (λs=>ofL (stF s)) (λt=>ofL (stD t)) l) (hp l) 0).single rfl:=⟨_,rfl⟩;rw[<-hYd]at hY;have h1:YOk P (.func (.yield L) #[] #[]) (λl=>zn4 (Y l) (zn5 inv l)) enc (yOf step):=by
  intro l x l' b hy v S w fv vs G hS hfv hvs hls hG;have q:=Jf (Yw hls);refine zjW.mono (hY l x l' b hy v S w fv vs G hS hfv hvs (Xo (Ks (o:=(Y l).q) q.2 hG)) hG) ?_;rintro u w' ⟨S',F',G',k1,k2,k3,k4,k5,k6,k7,k8⟩;refine⟨S',F',G',k1,k2,k3,k4,k5,Xo (Ks (o:=(zn4 (Y l') (zn5 inv l')).q) ⟨?_,Jf (Yw k6)⟩ (pU.1 k7).1),k7,k8⟩;obtain⟨s,rfl,hst,_⟩:=z4U hy;cases l' with
  |done t=>trivial
  |next s'=>exact(hs s x s' q.1 hst).1
 have h2:WkY (λl=>zn4 (Y l) (zn5 inv l)) (yOf step):=by
  intro l x l' hy S S1 S' h h' v F F' hm hn q q';obtain⟨s,rfl,hst,hb⟩:=z4U hy;cases l' with
  |done t=>cases hb
  |next s'=>
   subst hYd;obtain⟨i1,_,_,_,Fp,q4,_,_,_⟩:=q;obtain⟨i2,p1,p2,p3,Fp',p4,p5,p6,p7⟩:=q';refine⟨i2,p1,p2,hn L ((p7 L).2 (.inl rfl)),Fp',λt=>?_,p5,p6,p7⟩;have hF:∀k∈Fp' t,∀o,S1 k o=none:=λk hk=>hn k ((p7 k).2 (.inr ⟨t,hk⟩));have e1:=p4 t;have e0:=q4 t;unfold yO at e1 e0⊢;simp only[z2K]at e1 e0⊢;rcases(hs s x s' i1 hst).2.ent t with k|⟨a,k1,k2⟩|⟨y,k1,k2⟩
   ·simp only[k]at e1⊢;exact e1
   ·simp only[k1]at e0;simp only[k2]at e1⊢;exact⟨e0.1.mono hm,e1.2⟩
   simp only[k1]at e1⊢;obtain⟨cs,c1,c2,c3⟩:=e1;exact⟨cs,k2 _ _ _ _ _ c1 hF,c2,c3⟩
 intro S w fv vs G hS hfv hvs hls hG;have q:=Jf (Yw hls);subst hYd;refine zjW.mono (hit _ _ _ _ h1 h2 _ _ hF S w fv vs G hS hfv hvs (Xo (Ks (o:=(zn4 _ (zn5 inv (.next s0))).q) ⟨h0,q⟩ hG)) hG) ?_;rintro u w' ⟨S',F',G',k1,k2,k3,k4,k5,k6,k7,k8⟩;exact⟨S',F',G',k1,k2,k3,k4,k5,Xo (Ks (Jf (Yw k6)).2 (pU.1 k7).1),k7,k8⟩
variable {l:Nat}
section
variable {P:Program}
def zaB {b:Frame}{k:List Item}{cs:List Frame}:step P (lone (b.atR a (.code .skip::k)) cs w)=.next (lone (b.atR a k) cs w) :=
 step_lone_go (by simp[Go.stepG,Go.stepG.exec,Frame.atR])
theorem z7Y {F:Fence}{n:Nat}{Q:Exit->Act->World->Prop}     (hf:findLabel c l=some .skip)(h:c.wpIn F n P (λe a w=>match e with|.goto l'=>l'=l/\Q .normal a w|e=>Q e a w) a w):(Code.scope c).wpIn F n P Q a w:=by
 intro b k cs hro hb hr;have h0:(lone (b.atR a (.code (.scope c)::k)) cs w).fenced P F:=fenced_calm hb hr rfl;have ⟨e,a₁,w₁,hq,harr⟩:=h b (.inScope c::k) cs hro hb hr;cases e with
 |normal=>exact⟨.normal,a₁,w₁,hq,.head h0 wL (StepsIn.trans harr (.one (fenced_calm hb hr rfl) Ue))⟩
 |exit id=>
  have hx:exitTo id (.inScope c::k)=exitTo id k:=by simp[exitTo]
  exact⟨.exit id,a₁,w₁,hq,λk' hk=>.head h0 wL (harr.1 k' (by rw[hx];exact hk)),
   λhr' hk=>let ⟨k₁,h1,h2⟩:=harr.2 hr' (by rw[hx];exact hk);⟨k₁,h1,.head h0 wL h2⟩⟩
 |goto l'=>
  obtain⟨rfl,hq⟩:=hq;have hg:gotoIn l' (.inScope c::k)=some (.code .skip :: .inScope c::k):=by simp[gotoIn,hf]
  exact⟨.normal,a₁,w₁,hq,.head h0 wL (StepsIn.trans (harr.1 _ hg) (.head (fenced_calm hb hr rfl) zaB (.one (fenced_calm hb hr rfl) Ue)))⟩
 |ret=>exact⟨_,a₁,w₁,hq,.of_steps (.one h0 wL) harr⟩
 |panic ch=>exact⟨_,a₁,w₁,hq,.of_steps (.one h0 wL) harr⟩
 |outgrown=>exact⟨_,a₁,w₁,hq,.of_steps (.one h0 wL) harr⟩
def scQ (l:Nat)(Q:Exit->St->Prop):Exit->St->Prop
 |.goto l',st=>l'=l/\Q .normal st
 |e,st=>Q e st
def AWP.scopeL (hf:findLabel c l=some .skip)(h:AWP P n c st (scQ l Q)):AWP P n (.scope c) st Q:=by
 intro rd m df w0 S0 M S Fp a w hc hs;refine z7Y hf (wpIn_mono (h rd m df w0 S0 M S Fp a w hc hs) ?_);rintro e a' w' ⟨df',st1,S1,Fp1,h1,h2,h3⟩;cases e with
 |goto l'=>exact⟨h3.1,df',st1,S1,Fp1,h1,h2,h3.2⟩
 |_=>exact⟨df',st1,S1,Fp1,h1,h2,h3⟩
def AWP.goto (h:Q (.goto l) st):AWP P n (.goto l) st Q:=λ_ _ _ _ _ _ _ _ _ _ hc hs=>wpIn_goto (hc.fin hs h)
def z19:∀fs:List Fm,Q (.goto l) st->Qf P n fs Q (.goto l) st
 |[],h=>h
 |.seq _::fs,h=>z19 fs h
 |.blk _::fs,h=>z19 fs h
 |.pre _::fs,h=>z19 fs h
 |.rnd _ _::fs,h=>z19 fs h
def zdl {c c':Code}{fs:List Fm}  (e:c=.scope c')(hf:findLabel c' l=some .skip)(h:AWP P n c' st (Qf P n [] (scQ l (Qf P n fs Q)))):AWP P n c st (Qf P n fs Q):=by subst e;exact AWP.scopeL hf h
def xS.pre {f:A}{args:List A}  {x x0 r:A}{ys:List A}(hx:LeA x0 x)(h:xS P f args [(v,x)] r ys):xS P f args [(v,x0)] r ys:=λS w fv vs F hS hfv hvs hls hF=>h S w fv vs F hS hfv hvs (Xo ((LeV.one x0 x).has _ _ _ _ (Yw hls))) hF
def s3B (f:α->A){l:List α}{m:Int}(h:m<=(l.length:Int)):m.toNat<=(l.map f).length:=by rw[gD];omega
end
end Go.Own
end
