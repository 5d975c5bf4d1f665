/- -/
import Derived.Test.YtedigoohmnbjfaaGreatPartC
import Derived.Laws.BytesString
noncomputable section
set_option linter.unusedVariables false
set_option linter.defProp false
set_option linter.unusedSimpArgs false
namespace Go.Own
def z6w (i:TI):Option A :=
 match i.zero with
 | some z=>if z.live=true then some z.shut.loose else none
 | none=>none
def z8O {i:TI}{z':A}(h:z6w i=some z'):∃z,i.zero=some z/\z.live=true/\z'=z.shut.loose:=by
 unfold z6w at h;split at h
 ·rename_i z hz;split at h
  ·rename_i hl;cases h;exact⟨z,hz,hl,rfl⟩
  cases h
 cases h
def z2C (z:Array Value)(n:Nat):(Builtin.zeroCells z n).toList=(List.replicate n z.toList).flatten:=by
 apply gV;intro k;rw[z4G,rQ];simp only[Builtin.zeroCells,Array.toList_map,Array.toList_range,gQ];by_cases hk:k<n*z.size
 ·rw[if_pos hk,rR hk,gE];have hz:0<z.size:=by
   rcases nQ z.size with h0|h0
   ·rw[h0]at hk;simp at hk
   exact h0
  have hmod:k % z.size<z.size:=Nat.mod_lt _ hz;rw[mb,gP hmod,getElem!_pos z _ hmod]
 rw[if_neg hk,pM (by simpa using hk),Option.map_none]
variable {S:zm}{sz:Nat}
def zfu:∀{xs:List A} {cs:TE} (_:yb S xs cs) (_:∀x∈xs,x.size=sz) (l:Nat),yb S (xs.take l) (cs.take (l*sz))
 | [],cs,h,_,l=>by simp[yb]at h;subst h;simp[yb]
 | x::xs,cs,h,hs,0=>by simp[yb]
 | x::xs,cs,h,hs,l+1=>by
  simp[yb]at h;obtain⟨c1,c2,rfl,h1,h2⟩:=h;have hl:c1.length=sz:=by rw[h1.len];exact hs x (by simp)
  rw[rq,rD,rV,<-hl,List.take_length_add_append];simp[yb];rw[hl];exact⟨c1,_,rfl,h1,zfu h2 (λy hy=>hs y (by simp[hy])) l⟩
def zas {arr:Array Value}{o:Nat}{zs:TE}(h:o+zs.length<=arr.size):(VB arr o zs).toList.take (o+zs.length)=arr.toList.take o++zs:=by
 rw[<-uv h];have h1:(arr.toList.take o).length=o:=by simp;omega
 simp only[];rw[show o+zs.length=(arr.toList.take o++zs).length by simp;omega,List.take_left]
variable {P:Program}{U:List (Nat×Ent)}{tt:TT}{R:TC}{o:Oper}{v:Value}{u:Unit}{x:Operand}
section
variable {C:Ctx}{S:zm}{Fp:Nat->TC}{st:St}{a:Act}{w:World}
def vcK (tt:TT)(n:Fr)(dst:TD)(ty sz r:Nat)(l:Int)(e:Ent):SM Unit :=
 match e.t with
 | .own (.osl sz' tg es)=>
  match tt ty with
  | some ⟨.slice el,_,_,_,_⟩=>
   match tt el with
   | some i=>
    match z6w i with
    | some z=>if sz'=sz/\i.size=sz/\0<=l/\l.toNat<=es.length/\A.areD es=true then
      wrE r ⟨.own (.osl sz tg (es.take l.toNat++List.replicate (es.length - l.toNat) z)),e.er,e.ec+1⟩ >>= λ_=>wrT n dst (.d (.tup []))
     else zt
    | none=>zt
   | none=>zt
  | _=>zt
 | _=>zt
open Classical in
def vcO (tt:TT)(n:Fr)(dst:TD)(ty sz r:Nat)(v:Value)(l:Int)(x:Operand):SM Unit:=do
 let tx <-opnd x;let e <-rdE r
 if tx=.d (.atom (V7 sz v l))/\JB n.pin r=some v then vcK tt n dst ty sz r l e else zt
def vcH (tt:TT)(n:Fr)(dst:TD)(ty sz r:Nat)(v:Value)(l:Int)(x:Operand):HM Unit:=y7 (opnd x) >>= λtx=>y7 (rdE r) >>= λe=>kG (tx=.d (.atom (V7 sz v l))/\JB n.pin r=some v)
  (match e.t with
  | .own (.osl sz' tg es)=>
   match tt ty with
   | some ⟨.slice el,_,_,_,_⟩=>
    match tt el with
    | some i=>
     match z6w i with
     | some z=>if sz'=sz/\i.size=sz then kG (0<=l/\l.toNat<=es.length/\A.areD es=true)
       (eqL (es.take l.toNat++List.replicate (es.length - l.toNat) z) >>= λzs=>y7 (wrE r ⟨.own (.osl sz tg zs),e.er,e.ec+1⟩ >>= λ_=>wrT n dst (.d (.tup []))))
      else zL
     | none=>zL
    | none=>zL
   | _=>zL
  | _=>zL)
open Classical in
def zoB (tt:TT)(n:Fr)(dst:TD)(ty sz r:Nat)(v:Value)(l:Int)(x:Operand):Snd (vcO tt n dst ty sz r v l x) (vcH tt n dst ty sz r v l x):=by
 refine zh (zk _) λtx=>zh (zk _) λe=>we ?_;unfold vcK;cases e.t with
 | own y=>
  cases y with
  | osl sz' tg es=>
   dsimp only
   generalize tt ty=q;rcases q with _|⟨k,a1,a2,a3,a4⟩
   ·exact zr _
   cases k with
   | slice el=>
    dsimp only
    generalize tt el=q;cases q with
    | none=>exact zr _
    | some i=>
     dsimp only
     cases z6w i with
     | none=>exact zr _
     | some z=>refine z0N (λh1 h2=>⟨h1.1,h1.2,h2.1,h2.2.1,h2.2.2⟩) ?_;exact Qq (zZ _ λzs=>wrE r ⟨.own (.osl sz tg zs),e.er,e.ec+1⟩ >>= λ_=>wrT n dst (.d (.tup []))).symm (zh (z92 _) λ_=>zk _)
   | _=>exact zr _
  | _=>exact zr _
 | _=>exact zr _
open Classical in
def Loc.vcO (tt:TT)(n:Fr)(dst:TD)(ty sz r:Nat)(v:Value)(l:Int)(x:Operand):Loc (vcO tt n dst ty sz r v l x):=by
 unfold Go.Own.vcO;refine Loc.bind (Loc.opnd _) λ_=>Loc.bind (Loc.rdE _) λ_=>Loc.ite ?_ Loc.fail;unfold Go.Own.vcK;split
 ·split
  ·split
   ·split
    ·exact Loc.ite (Loc.bind (Loc.wrE _ _) λ_=>Loc.wrT _ _ _) Loc.fail
    exact Loc.fail
   exact Loc.fail
  exact Loc.fail
 exact Loc.fail
def zlL (hT:xW P tt)(h:Sim C S Fp [] st a w)  {t sz r:Nat}{v:Value}{l:Int}{x:Operand}(ho:o.op=.call ⟨.builtin .clear,⟨[x]⟩,⟨[t]⟩⟩)    (e0:vcO tt C.n o.dst t sz r v l x st=some (u,R,U)):vB P C o a w (zi U st):=by
  unfold vcO at e0;have ⟨tx,_,hx,e1⟩:=bR (zF h) e0;have ⟨_,e4⟩:=bD e1;split at e4
  · rename_i hc;obtain⟨rfl,c2⟩:=hc;have hs:=h.pin r v (uh c2);unfold vcK at e4;cases ht:(st r).t with
    | own y=>
     cases y with
     | osl sz' tg es=>
      simp only[ht]at e4;obtain⟨el,a1,a2,a3,a4,hty⟩:∃el a1 a2 a3 a4,tt t=some ⟨.slice el,a1,a2,a3,a4⟩:=by
        cases hq:tt t with
        | none=>simp only[hq]at e4;cases e4
        | some it=>
          have ⟨k,a1,a2,a3,a4⟩:=it;cases k with
          | slice el=>exact⟨el,a1,a2,a3,a4,rfl⟩
          | _=>simp only[hq]at e4;cases e4
      simp only[hty]at e4;obtain⟨i,hi⟩:∃i,tt el=some i:=by
        cases hq:tt el with
        | none=>simp only[hq]at e4;cases e4
        | some i=>exact⟨i,rfl⟩
      simp only[hi]at e4;obtain⟨z',hz'⟩:∃z',z6w i=some z':=by
        cases hq:z6w i with
        | none=>simp only[hq]at e4;cases e4
        | some i=>exact⟨i,rfl⟩
      simp only[hz']at e4;have hel:P.underlying t=some (.slice el):=(hT _ _ hty).kind
      · · split at e4
          · rename_i hd;obtain⟨rfl,d2,d3,d4,d5⟩:=hd;obtain⟨z,hz,hlv,rfl⟩:=z8O hz';have ⟨f,f1,f2,f3,f4⟩:=(hT _ _ hi).info;have ⟨zv,v1,v2,v3⟩:=f4 z hz;have hzr:Rep S z.shut.loose zv.cells.toList:=((v3 S w.heap).shut (λ_ _ _ q=>q) hlv (by simp)).loose;have hzl:zv.cells.toList.length=sz':=by rw[((v3 S w.heap).shut (S':=S) (λ_ _ _ q=>q) hlv (by simp)).len,A.size_shut,v2,d2]
            have hq:=h.ent r;unfold xm at hq;simp only[ht]at hq;have ⟨cs,c1,c3,c4⟩:=hq;simp only[zK]at c1;obtain⟨p,c,rfl,t1,t2,t3,t4,t5⟩:=c1;have ev:Act.tv a r=.slice p es.length c:=c4;have hvv:v=.slice p es.length c:=by rw[<-hs,ev]
            have hxv:=(zu.1 hx).1;rw[hvv]at hxv;obtain⟨y1,R9,U9,R10,U10,h9,e5,rfl,rfl⟩:=bind_some e4;cases h9;have hlen:(es.take l.toNat++List.replicate (es.length - l.toNat) z.shut.loose).length=es.length:=by simp;omega
            have hsz:∀y∈es.take l.toNat++List.replicate (es.length - l.toNat) z.shut.loose,y.size=sz':=by
              intro y hy;rcases pg.1 hy with q|q
              · exact t4 y (gG q)
              rw[mD q,<-hzr.len,hzl]
            have hreps:∀n,yb S (List.replicate n z.shut.loose) (List.replicate n zv.cells.toList).flatten:=by
              intro n;induction n with
              | zero=>simp[yb]
              | succ n ih=>simp only[nu,List.flatten_cons,yb];exact⟨_,_,rfl,hzr,ih⟩
            obtain⟨w',F',hrun,hkept,hst,hfr,hconc,hF'⟩:∃w' F',(Builtin.clear_ #[t] o.type #[a.eval x]).run P w=.ok (.tuple #[]) w'/\Xf C.M w w'/\(∀b o u,S b o=some u->y9 w'.heap b o=some u)/\(∀k,k∉Fp r->w'.heap[k]?=w.heap[k]?) /\
                zK S w'.heap (.osl sz' tg (es.take l.toNat++List.replicate (es.length - l.toNat) z.shut.loose)) [.slice p es.length c] F'/\F'=Fp r:=by
              by_cases hn:es.length - l.toNat=0
              · refine⟨w,Fp r,?_,Xf.refl _ _,h.still.cell,λ_ _=>rfl,?_,rfl⟩
                · rw[hxv];simp only[V7];rw[hn];cases hp:(if c=l.toNat then p else p.map (·.add (l.toNat*sz'))) with
                  | _=>simp[Builtin.clear_,run_underlying hel]
                have:es.take l.toNat++List.replicate (es.length - l.toNat) z.shut.loose=es:=by rw[hn,List.replicate_zero,pU,mR (by omega)]
                rw[this];simp only[zK];exact⟨p,c,rfl,t1,t2,t3,t4,t5⟩
              rcases t5 with⟨rfl,_⟩|⟨b,arr,ty,cl,F1,rfl,k1,k2,k3,k4,k5,k6⟩
              · simp at hn
              obtain⟨hr,rfl⟩:=k4.areD d5;let zs:=(List.replicate (es.length - l.toNat) zv.cells.toList).flatten;have hzs:zs.length=(es.length - l.toNat)*sz':=by show(List.replicate _ _).flatten.length=_;rw[List.length_flatten];simp[hzl]
              have hfit:l.toNat*sz' + zs.length<=arr.size:=by rw[hzs,<-gW];refine pC (gH _ ?_) k2;omega
              let w':=w.setRow b (VB arr (l.toNat*sz') zs);have hheap:∀k,k≠b->w'.heap[k]?=w.heap[k]?:=λk hk=>setRow_other w b k _ hk;have hheapb:w'.heap[b]?=some (.cells (VB arr (l.toNat*sz') zs) ty (0,0)):=setRow_heap w b arr _ ty (0,0) k1;have hb:b∈Fp r:=by rw[k5];simp
              have h1c:∀u∈zs,u.oneCell'=true:=by intro u hu;have ⟨m,hm,hu⟩:=List.mem_flatten.1 hu;rw[mD hm]at hu;exact hzr.one u hu
              refine⟨w',Fp r,?_,⟨rfl,rfl,rfl,pi _,by simp[w'],λk hk=>hheap k (λe=>hk (e ▸ h.base r b hb))⟩,?_,λk hk=>hheap k (λe=>hk (e ▸ hb)),?_,rfl⟩
              · have hst:=run_storeCells_at P b (l.toNat*sz') ty zs 0 arr w k1 (by simpa using hfit) h1c;simp only[mC]at hst;rw[uv hfit]at hst;have hz0:(zeroValue el).run P w=.ok zv w:=by simp[zeroValue,typeInfo,f1,v1]
                rw[hxv];have hcl:¬c=l.toNat:=by omega
                simp only[V7,if_neg hcl,gE,Addr.add_lit,gJ];obtain⟨m,hm⟩:∃m,es.length - l.toNat=m+1:=⟨es.length - l.toNat - 1,by omega⟩;have hzc:(Builtin.zeroCells zv.cells (m+1)).toList=zs:=by rw[z2C,<-hm]
                rw[hm];simp[Builtin.clear_,run_underlying hel,hz0,hzc,hst,w']
              · intro b' o'' u hu;have hne:b'≠b:=by rintro rfl;rw[k6]at hu;cases hu
                rw[w9 (h:=w.heap) (h':=w'.heap) (hheap b' hne)];exact h.still b' o'' u hu
              simp only[zK,hlen];refine⟨_,c,rfl,t1,t2,t3,hsz,.inr ⟨b,_,ty,_,[],rfl,hheapb,by simpa using k2,rfl,?_,k5,k6⟩⟩;have e1:es.length*sz'=l.toNat*sz' + zs.length:=by rw[hzs,<-gW];congr 1;omega
              rw[e1,zas hfit];have e2:arr.toList.take (l.toNat*sz')=cl.take (l.toNat*sz'):=by rw[<-k3,mZ,gT (gH _ d4)]
              rw[e2];exact((zfu hr t4 _).append (hreps _)).concs _
            subst hF';have hs1:Sim C S (QR Fp r (Fp r)) [] (upd st r ⟨.own (.osl sz' tg (es.take l.toNat++List.replicate (es.length - l.toNat) z.shut.loose)),(st r).er,(st r).ec+1⟩) a w':=by
              refine h.change r (.own _) _ _ (Fp r) (h.below.trans hkept) (λ_ _ _ q=>q) hst h.sbase ?_ ⟨⟨_,hconc,c3,by rw[ev];simp[zU]⟩,_,ht⟩ (.inl ⟨_,ht⟩) (pi _) (gF _) ?_ ?_ (by simp) (by simp) (by simp) (by simp)
              · intro t' k htr hk;exact⟨hfr k (λq=>htr (h.disj t' r k hk q)),(h.free t' k hk).2.1⟩
              · intro t' k htr hk hk';exact htr (h.disj t' r k hk' hk)
              intro k hk;exact h.base r k hk
            rw[zz];simp only[zi]at e5 ⊢;have ⟨Fp',hs'⟩:=xM hs1 e5 (x:=.d (.tup [])) (v:=.tuple #[]) (by simp only[TOk,xg];exact⟨[],rfl,trivial⟩);refine zo ?_ hs';simp[execOp,ho,resolve,invoke,builtin,hrun]
          cases e4
     | _=>simp only[ht]at e4;cases e4
    | _=>simp only[ht]at e4;cases e4
  cases e4
end
variable {β:Type}
def xAt (P:Program)  (p:Oper->Option β)(e:Fr->Oper->β->SM Unit)(h:Fr->Oper->β->HM Unit)
  (ok:∀(C:Ctx) (S:zm) (Fp:Nat->TC) (st:St) (a:Act) (w:World) (o:Oper) (b:β),p o=some b->Sim C S Fp [] st a w->∀u R U,e C.n o b st=some (u,R,U)->vB P C o a w (zi U st))
  (loc:∀n o b,Loc (e n o b)) (sd:∀n o b,Snd (e n o b) (h n o b)):XH P:={
 e:=λn o=>(p o).map (e n o)
 h:=λn o=>(p o).map (h n o)
 ok:=by
  refine⟨?_,?_⟩
  ·intro C S Fp st a w o m u R U e0 h h2;obtain⟨b,hp,rfl⟩:=pT.1 e0;exact ok C S Fp st a w o b hp h _ _ _ h2
  intro n o m e0;obtain⟨b,hp,rfl⟩:=pT.1 e0;exact λst st' a R U=>loc n o b st st' a R U
 none:=by intro n o e0;rw[Option.map_eq_none_iff]at e0 ⊢;exact e0
 some:=by intro n o m e0;obtain⟨b,hp,rfl⟩:=pT.1 e0;exact⟨_,by rw[hp];rfl,sd n o b⟩ }
def z13 {d:Nat}  {x:Option β}{b:β}(h:(if o.dst=some d then x else none)=some b):x=some b:=by
 split at h
 ·exact h
 cases h
def zlp (d:Nat)(o:Oper):Option (Nat×Operand×Operand):=match o.op with|.slice t x (some lo) none none=>if o.dst=some d then some (t,x,lo) else none|_=>none
def xVw (hT:xW P tt)(d r:Nat)(v:Value):XH P :=
 xAt P (zlp d) (λn o b=>vwO tt n o.dst b.1 r v b.2.1 b.2.2) (λn o b=>vwH tt n o.dst b.1 r v b.2.1 b.2.2)
  (by
   intro C S Fp st a w o b hp h u R U e;unfold zlp at hp;split at hp
   ·rename_i ho;cases z13 hp;exact zlI hT h ho e
   cases hp)
  (λn o b=>Loc.vwO _ _ _ _ _ _ _ _) (λn o b=>zoy _ _ _ _ _ _ _ _)
def zlq (d t:Nat)(o:Oper):Option Operand:=match o.op with|.call ⟨.builtin .len,⟨[x]⟩,⟨[t']⟩⟩=>if o.dst=some d then(if t'=t then some x else none) else none|_=>none
def xVl (hT:xW P tt)(d t sz r:Nat)(v:Value)(l:Int)(hty:ul tt t=true):XH P :=
 xAt P (zlq d t) (λn o x=>vlO n o.dst sz r v l x) (λn o x=>vlH n o.dst sz r v l x)
  (by
   intro C S Fp st a w o x hp h u R U e;unfold zlq at hp;split at hp
   ·rename_i ho;replace hp:=z13 hp;split at hp
    ·rename_i ht;subst ht;cases hp;exact zlJ hT h hty ho e
    cases hp
   cases hp)
  (λn o x=>Loc.vlO _ _ _ _ _ _ _) (λn o x=>zoz _ _ _ _ _ _ _)
def zfJ (d:Nat)(o:Oper):Option (Nat×Operand×Operand):=match o.op with|.indexAddr t x i=>if o.dst=some d then some (t,x,i) else none|_=>none
def xVi (hT:xW P tt)(d sz r:Nat)(v:Value)(l:Int):XH P :=
 xAt P (zfJ d) (λn o b=>viO tt n o.dst b.1 sz r v l b.2.1 b.2.2) (λn o b=>viH tt n o.dst b.1 sz r v l b.2.1 b.2.2)
  (by
   intro C S Fp st a w o b hp h u R U e;unfold zfJ at hp;split at hp
   ·rename_i ho;cases z13 hp;exact zlK hT h ho e
   cases hp)
  (λn o b=>Loc.viO _ _ _ _ _ _ _ _ _ _) (λn o b=>zoA _ _ _ _ _ _ _ _ _ _)
def znO (s:Nat)(o:Oper):TD:=match o.op with|.call ⟨.builtin .clear,⟨[.tmp s']⟩,⟨[t]⟩⟩=>if s'=s then some t else none|_=>none
def xVc (hT:xW P tt)(s sz r:Nat)(v:Value)(l:Int):XH P :=
 xAt P (znO s) (λn o t=>vcO tt n o.dst t sz r v l (.tmp s)) (λn o t=>vcH tt n o.dst t sz r v l (.tmp s))
  (by
   intro C S Fp st a w o b hp h u R U e;unfold znO at hp;split at hp
   ·rename_i ho;split at hp
    ·rename_i hs;subst hs;cases hp;exact zlL hT h ho e
    cases hp
   cases hp)
  (λn o b=>Loc.vcO _ _ _ _ _ _ _ _ _) (λn o b=>zoB _ _ _ _ _ _ _ _ _)
def clO (tt:TT)(n:Fr)(dst:TD)(t:Nat)(x hi mx:Operand):SM Unit:=do
 let y <-opnd x;let z <-take y;match z with
 | .osl sz _ es=>if xD tt t=some sz then bound es.length (some hi) >>= λh=>bound 0 (some mx) >>= λm=>if h<=m/\m<=es.length then wrT n dst (.own (.osl sz (m==h) (es.take h))) else zt else zt
 | _=>zt
def clH (tt:TT)(n:Fr)(dst:TD)(t:Nat)(x hi mx:Operand):HM Unit:=y7 (opnd x) >>= λy=>z6H y >>= λz=>
 match z with
 | .osl sz _ es=>if xD tt t=some sz then z2t es.length (some hi) >>= λh=>z2t 0 (some mx) >>= λm=>kG (h<=m/\m<=es.length) (eqA (.osl sz (m==h) (es.take h)) >>= λz=>y7 (wrT n dst (.own z))) else zL
 | _=>zL
def zoL (tt:TT)(n:Fr)(dst:TD)(t:Nat)(x hi mx:Operand):Snd (clO tt n dst t x hi mx) (clH tt n dst t x hi mx):=by
 refine zh (zk _) λy=>zh (z3e _) λz=>?_;cases z with
 | osl sz tg es=>refine vO (zh (KY _ _) λh=>zh (KY _ _) λm=>we ?_) (zr _);exact Qq (zZ _ λz=>wrT n dst (.own z)).symm (zh (z2Z _) λ_=>zk _)
 | _=>exact zr _
def Loc.clO (tt:TT)(n:Fr)(dst:TD)(t:Nat)(x hi mx:Operand):Loc (clO tt n dst t x hi mx):=by
 unfold Go.Own.clO;refine Loc.bind (Loc.opnd _) λ_=>Loc.bind (Loc.take _) λz=>?_;cases z with
 | osl sz tg es=>exact Loc.ite (Loc.bind (Loc.bound _ _) λ_=>Loc.bind (Loc.bound _ _) λ_=>Loc.ite (Loc.wrT _ _ _) Loc.fail) Loc.fail
 | _=>exact Loc.fail
variable {t:Nat}
section
variable {C:Ctx}{S:zm}{Fp:Nat->TC}{st:St}{a:Act}{w:World}
def zmM {P:Program}  (hT:xW P tt)(h:Sim C S Fp [] st a w)   {x hi mx:Operand}(ho:o.op=.slice t x none (some hi) (some mx))    (e:clO tt C.n o.dst t x hi mx st=some (u,R,U)):vB P C o a w (zi U st):=by
 unfold clO at e;have ⟨y,_,hx,e1⟩:=bR (zF h) e;obtain⟨z,R3,U3,R4,U4,h3,e2,rfl,rfl⟩:=bind_some e1;have ⟨Fp',F,g1,g2⟩:=KT h hx h3;rw[zz];cases z with
 | osl sz tg es=>
  simp only at e2;split at e2
  ·rename_i hel;have ⟨hh,_,b2,e3⟩:=bR (QJ g1) e2;have ⟨m,_,b3,e4⟩:=bR (QJ g1) e3;split at e4
   ·rename_i hle;have ⟨hle1,hle2⟩:=hle;have ⟨el,he,hsz⟩:=wB hT hel w;obtain⟨cs,k1,k2,k3⟩:∃cs,zK S w.heap (.osl sz tg es) cs F/\F.Nodup/\a.eval x=zU (.osl sz tg es) cs:=by
     rcases g2 with⟨q,_⟩|q
     ·simp only[xg,wW,Rep,false_and,exists_false]at q
     exact q
    simp only[zK]at k1;obtain⟨p,c,rfl,t1,t2,t3,t4,t5⟩:=k1;have ev:a.eval x=.slice p es.length c:=k3;have b3':z0j ((some mx).map a.eval) c m:=by
     rcases b3 with⟨q,_⟩|⟨o,k,j,q,q2,q3,q4⟩
     ·cases q
     cases q;exact .inr ⟨k,j,by simp[q2],q3,q4⟩
    have b2':(Option.isSome ((some hi).map a.eval))=true:=rfl;have hrun:=ZN (P:=P) (w:=w) he hsz (p:=p) (len:=es.length) (c:=c) (lo:=none) (.inl ⟨rfl,rfl⟩) (QK b2) b3' (pO _) hle1 (by omega) (λ_=>b2');have hp:(if m=0 then p else p.map (·.add (0*sz)))=p:=by
     split
     ·rfl
     cases p <;> simp[Addr.add]
    rw[hp]at hrun;have hlen:(es.take hh).length=hh:=by simp;omega
    have ht4:∀x∈es.take hh,x.size=sz:=λx hx=>t4 x (gG hx);obtain⟨F2,cs2,m1,m2,m3,m4⟩:∃F2 cs2,zK S w.heap (.osl sz (m==hh) (es.take hh)) cs2 F2/\F2.Nodup/\(∀k∈F2,k∈F)/\zU (.osl sz (m==hh) (es.take hh)) cs2=.slice p hh m:=by
     rcases t5 with⟨rfl,rfl,rfl,rfl⟩|⟨b,arr,ty,l,F',rfl,e1,e2,e3,e4,rfl,e5⟩
     ·have hm0:m=0:=by simpa using hle2
      subst hm0;have:hh=0:=by omega
      subst this;refine⟨[],[.slice none 0 0],?_,by simp,by simp,rfl⟩;simp only[zK];exact⟨none,0,by simp,by simp,by simp,pO _,by simp,.inl (by simp)⟩
     have ⟨F3,q1,q2,q3⟩:=z3B e4 hh;have hn:=pR.1 k2;refine⟨b::F3,[.slice (some ⟨b,0,none⟩) hh m],?_,pR.2 ⟨λq=>hn.1 (q2 b q),q3 hn.2⟩,?_,rfl⟩
     ·simp only[zK];refine⟨some ⟨b,0,none⟩,m,by rw[hlen],by intro q;rw[hlen];simpa using q,by rw[hlen];omega,by omega,ht4,.inr ⟨b,arr,ty,_,F3,rfl,e1,pC (gH _ (by omega)) e2,?_,q1,rfl,e5⟩⟩;rw[<-e3,mZ,A.sizes_const ht4,hlen];congr 1;have:=gH sz (show hh<=es.length by omega);omega
     intro k hk;rcases pm.1 hk with rfl|hk
     ·simp
     simp[q2 k hk]
    have g1':Sim C S Fp' (F2++[]) (zi U3 st) a w:=g1.mem g1.below (λ_ _ _ h=>h) g1.still.cell g1.sbase (λt' k hk=>⟨rfl,(g1.free t' k hk).2.1⟩) (by simpa using m2) (λt' k hk=>g1.xd t' k (by simp at hk ⊢;exact m3 k hk)) (λk hk=>g1.xb k (by simp at hk ⊢;exact m3 k hk));have ⟨Fp'',hs⟩:=W9 g1' e4 m1 m2;rw[m4]at hs;refine zo ?_ hs;simp only[mY]at hrun;simp only[gE]at hrun;simp[execOp,ho,ev,hrun]
   cases e4
  cases e2
 | _=>cases e2
end
def znW (d:Nat)(o:Oper):Option (Nat×Operand×Operand×Operand):=match o.op with|.slice t x none (some hi) (some mx)=>if o.dst=some d then some (t,x,hi,mx) else none|_=>none
def xCl (hT:xW P tt)(d:Nat):XH P :=
 xAt P (znW d) (λn o b=>clO tt n o.dst b.1 b.2.1 b.2.2.1 b.2.2.2) (λn o b=>clH tt n o.dst b.1 b.2.1 b.2.2.1 b.2.2.2)
  (by
   intro C S Fp st a w o b hp h u R U e;unfold znW at hp;split at hp
   ·rename_i ho;cases z13 hp;exact zmM hT h ho e
   cases hp)
  (λn o b=>Loc.clO _ _ _ _ _ _ _) (λn o b=>zoL _ _ _ _ _ _ _)
def zp0 (d:Nat)(o:Oper):Option Unit:=match o.op with|.call ⟨.value _,_,_⟩=>if o.dst=some d then some () else none|_=>none
def z0C (hT:xW P tt){s:yg}(h:s.Ok P)(d:Nat):XH P :=
 xAt P (zp0 d) (λn o _=>stepO tt (Jl.add s) n o) (λn o _=>z5s tt (Jl.add s) n o)
  (λC S Fp st a w o b hp hS u R U e=>z4c hT (Ctr.add_ok (z7i P) h) hS e)
  (λn o b=>Loc.stepO _ _ _ _) (λn o b=>z6N _ _ _ _)
variable {α:Type}
def vlM (f:α->A)(l:List α)(k:Nat):A.atom (.int .i64 (((l.map f).length - k:Nat):Int))=.atom (.int .i64 ((l.length - k:Nat):Int)):=by rw[gC]
def vcM (f:α->A)(l:List α)(k:Nat)(z:α):(l.map f).take k++List.replicate ((l.map f).length - k) (f z)=(l.take k++List.replicate (l.length - k) z).map f:=by simp
def clB (f:α->A)(l:List α):((l.length:Nat):Int).toNat<=((l.length:Nat):Int).toNat/\((l.length:Nat):Int).toNat<=(l.map f).length:=by simp
def clE (sz:Nat)(f:α->A)(l:List α):A.osl sz (((l.length:Nat):Int).toNat==((l.length:Nat):Int).toNat) ((l.map f).take ((l.length:Nat):Int).toNat)=eOs sz true f l:=by simp[ph,eOs];rw[mR (by simp)]
def zcc:Value->Option Bool
 | .slice none _ _=>some true
 | .slice (some _) _ _=>some false
 | _=>none
variable {st:St}{Q:Exit->St->Prop}{es:List A}{c:Code}{n:Fr}{fs:List Fm}
def zbO {P:Program}{n:Fr}{c:Code}  {Q:Exit->St->Prop}  (e:fs=[])(k:Nat)  {t:Bool}  (hk:(st k).t=.d (.sl sz t es))
  (h:∀v,v.oneCell'=true->(zcc v=some true/\es=[])\/zcc v=some false->AWP P ⟨n.size,(k,v)::n.pin⟩ c st (Qf P ⟨n.size,(k,v)::n.pin⟩ [] Q)):AWP P n c st (Qf P n fs Q):=by
 subst e;intro rd m df w0 S0 M S Fp a w hc hs;have q:=hs.ent k;unfold xm at q;simp only[hk]at q;have q1:=q.1;simp only[xg]at q1;have ⟨cs,r1,r2⟩:=q1;simp only[Rep]at r1;obtain⟨p,c',rfl,r3,r4,r5,r6⟩:=r1;have ev:Act.tv a k=.slice p es.length c':=r2;have hcase:(zcc (Act.tv a k)=some true/\es=[])\/zcc (Act.tv a k)=some false:=by
  rw[ev];cases p with
  | none=>
   refine .inl ⟨rfl,?_⟩;rcases r6 with r6|⟨b,o,l,e,_⟩
   ·exact r6
   cases e
  | some p=>exact .inr rfl
 refine wpIn_mono (h (Act.tv a k) (by rw[ev];rfl) hcase rd m df w0 S0 M S Fp a w ⟨hc.nodup,hc.df,hc.rd⟩ (hs.pinned k)) ?_;rintro e a' w' ⟨df',st1,S1,Fp1,h1,h2,h3⟩;exact⟨df',st1,S1,Fp1,h1.unpinned,h2,h3⟩
open Classical in
def nilO (n:Fr)(dst:TD)(v:Value)(b:Bool)(x y:Operand):SM Unit:=do
 let tx <-opnd x;let ty <-opnd y
 if tx=.d (.atom v)/\ty=.d (.atom (.slice none 0 0)) then wrT n dst (.d (.atom (.bool b))) else zt
def znL (n:Fr)(dst:TD)(v:Value)(b:Bool)(x y:Operand):HM Unit:=y7 (opnd x) >>= λtx=>y7 (opnd y) >>= λty=>kG (tx=.d (.atom v)/\ty=.d (.atom (.slice none 0 0))) (y7 (wrT n dst (.d (.atom (.bool b)))))
open Classical in
def zlZ (n:Fr)(dst:TD)(v:Value)(b:Bool)(x y:Operand):Snd (nilO n dst v b x y) (znL n dst v b x y):=zh (zk _) λ_=>zh (zk _) λ_=>we (zk _)
open Classical in
def Loc.nilO (n:Fr)(dst:TD)(v:Value)(b:Bool)(x y:Operand):Loc (nilO n dst v b x y):=by unfold Go.Own.nilO;exact Loc.bind (Loc.opnd _) λ_=>Loc.bind (Loc.opnd _) λ_=>Loc.ite (Loc.wrT _ _ _) Loc.fail
variable {Fp:Nat->TC}{w:World}{a:Act}{C:Ctx}{b:Bool}
def zkh (hT:xW P tt)       (h:Sim C S Fp [] st a w)  {t yt:Nat}   {x y:Operand}(hty:ul tt t=true)(hv:zcc v=some b)(ho:o.op=.binOp .eql t x y yt)    (e0:nilO C.n o.dst v b x y st=some (u,R,U)):vB P C o a w (zi U st):=by
 unfold nilO at e0;have ⟨tx,_,hx,e1⟩:=bR (zF h) e0;have ⟨ty,_,hy,e2⟩:=bR (zF h) e1;split at e2
 ·rename_i hc;obtain⟨rfl,rfl⟩:=hc;have ex:=(zu.1 hx).1;have ey:=(zu.1 hy).1;have ⟨el,hel⟩:=ZU hT hty;have ⟨Fp',hs⟩:=xM h e2 (x:=.d (.atom (.bool b))) (zu.2 ⟨rfl,rfl⟩);refine zo ?_ hs;have heq:(Op.equal t v (.slice none 0 0)).run P w=.ok b w:=by
   unfold Op.equal Op.maxDepth;show(Op.equalIn (9999+1) t v _).run P w=_;generalize 9999=q;unfold Op.equalIn;simp[Sem.run_bind,run_underlying hel,Result.andThen_ok];cases v with
   | slice p l c=>cases p <;> (simp[zcc,Option.some.injEq]at hv;subst hv;simp)
   | _=>cases hv
  cases v with
  | slice p l c=>simp[execOp,ho,ex,ey,eqGuard,Go.binOp,heq]
  | _=>cases hv
 cases e2
def zkF (d t:Nat)(o:Oper):Option (Operand×Operand):=match o.op with|.binOp .eql t' x y _=>if o.dst=some d then(if t'=t then some (x,y) else none) else none|_=>none
def zlg (hT:xW P tt)(d t:Nat)   (hty:ul tt t=true)(hv:zcc v=some b):XH P :=
 xAt P (zkF d t) (λn o q=>nilO n o.dst v b q.1 q.2) (λn o q=>znL n o.dst v b q.1 q.2)
  (by
   intro C S Fp st a w o q hp h u R U e;unfold zkF at hp;split at hp
   ·rename_i ho;replace hp:=z13 hp;split at hp
    ·rename_i ht;subst ht;cases hp;exact zkh hT h hty hv ho e
    cases hp
   cases hp)
  (λn o q=>Loc.nilO _ _ _ _ _ _) (λn o q=>zlZ _ _ _ _ _ _)
instance (k:IntKind)(x y:Int):SzA (eI k x) (eI k y):=⟨rfl⟩
open Classical in
def asO (n:Fr)(dst:TD)(v:Value)(x:Operand):SM Unit:=do
 let tx <-opnd x
 if tx=.d (.atom v) then wrT n dst (.d (.atom v)) else zt
def asH (n:Fr)(dst:TD)(v:Value)(x:Operand):HM Unit:=y7 (opnd x) >>= λtx=>kG (tx=.d (.atom v)) (y7 (wrT n dst (.d (.atom v))))
open Classical in
def zoN (n:Fr)(dst:TD)(v:Value)(x:Operand):Snd (asO n dst v x) (asH n dst v x):=zh (zk _) λ_=>we (zk _)
open Classical in
def Loc.asO (n:Fr)(dst:TD)(v:Value)(x:Operand):Loc (asO n dst v x):=by unfold Go.Own.asO;exact Loc.bind (Loc.opnd _) λ_=>Loc.ite (Loc.wrT _ _ _) Loc.fail
def zmP (h:Sim C S Fp [] st a w)  {v:Value}{x:Operand}(ho:o.op=.assign x)    (e0:asO C.n o.dst v x st=some (u,R,U)):vB P C o a w (zi U st):=by
 unfold asO at e0;have ⟨tx,_,hx,e1⟩:=bR (zF h) e0;split at e1
 ·rename_i hc;subst hc;have hx':xg S (.atom v) (a.eval x):=hx;have ⟨Fp',hs⟩:=xM h e1 (x:=.d (.atom v)) (v:=a.eval x) hx';exact zo (by simp[execOp,ho]) hs
 cases e1
def znY (d:Nat)(o:Oper):Option Operand:=match o.op with|.assign x=>if o.dst=some d then some x else none|_=>none
def xAs (P:Program)(d:Nat)(v:Value):XH P :=
 xAt P (znY d) (λn o x=>asO n o.dst v x) (λn o x=>asH n o.dst v x)
  (by
   intro C S Fp st a w o x hp h u R U e;unfold znY at hp;split at hp
   ·rename_i ho;cases z13 hp;exact zmP h ho e
   cases hp)
  (λn o x=>Loc.asO _ _ _ _) (λn o x=>zoN _ _ _ _)
def zbu {p:Option Addr}{n c:Nat}:V7 sz (.slice p n c) 0=.slice p n c:=by
 have:(0:Int).toNat=0:=rfl;simp only[V7,this,mY,Nat.zero_mul];congr 1;split
 ·rfl
 cases p <;> simp[Addr.add]
def mwK (n:Fr)(dst:TD)(r sz:Nat)(v:Value)(e:Ent):SM Unit :=
 match e.t with
 | .own (.osl sz' _ _)=>if sz'=sz then wrT n dst (.d (.atom (V7 sz v 0))) else zt
 | _=>zt
open Classical in
def mwO (n:Fr)(dst:TD)(r sz:Nat)(v:Value):SM Unit:=if JB n.pin r=some v then(rdE r >>= λe=>mwK n dst r sz v e) else zt
def mwH (n:Fr)(dst:TD)(r sz:Nat)(v:Value):HM Unit:=kG (JB n.pin r=some v) (y7 (rdE r >>= λe=>mwK n dst r sz v e))
open Classical in
def Loc.mwO (n:Fr)(dst:TD)(r sz:Nat)(v:Value):Loc (mwO n dst r sz v):=by
 unfold Go.Own.mwO;refine Loc.ite (Loc.bind (Loc.rdE _) λe=>?_) Loc.fail;unfold Go.Own.mwK;split
 ·exact Loc.ite (Loc.wrT _ _ _) Loc.fail
 exact Loc.fail
def zmg (h:Sim C S Fp [] st a w)  {r sz:Nat}{v:Value}(ho:o.op=.move (.tmp r))    (e0:mwO C.n o.dst r sz v st=some (u,R,U)):vB P C o a w (zi U st):=by
 unfold mwO at e0;split at e0
 ·rename_i hp;have hs:=h.pin r v (uh hp);have ⟨_,e4⟩:=bD e0;unfold mwK at e4;cases ht:(st r).t with
  | own y=>
   cases y with
   | osl sz' tg es=>
    simp[ht]at e4;split at e4
    ·rename_i hz;subst hz;have ⟨p,c,ev,_,_,_⟩:=z4s h ht;have hvv:v=.slice p es.length c:=by rw[<-hs,ev]
     have ⟨Fp',hs'⟩:=xM h e4 (x:=.d (.atom (V7 sz' v 0))) (v:=v) (by rw[hvv,zbu];exact zu.2 ⟨rfl,rfl⟩);refine zo ?_ hs';have ex:a.eval (.tmp r)=v:=hs;simp[execOp,ho,ex]
    cases e4
   | _=>simp[ht]at e4;cases e4
  | _=>simp[ht]at e4;cases e4
 cases e0
open Classical in
def zoH (n:Fr)(dst:TD)(r sz:Nat)(v:Value):Snd (mwO n dst r sz v) (mwH n dst r sz v):=we (zk _)
def znR (d r:Nat)(o:Oper):Option Unit:=match o.op with|.move (.tmp r')=>if o.dst=some d then(if r'=r then some () else none) else none|_=>none
def xMw (P:Program)(d r sz:Nat)(v:Value):XH P :=
 xAt P (znR d r) (λn o _=>mwO n o.dst r sz v) (λn o _=>mwH n o.dst r sz v)
  (by
   intro C S Fp st a w o q hp h u R U e;unfold znR at hp;split at hp
   ·rename_i ho;replace hp:=z13 hp;split at hp
    ·rename_i ht;subst ht;exact zmg h ho e
    cases hp
   cases hp)
  (λn o q=>Loc.mwO _ _ _ _ _) (λn o q=>zoH _ _ _ _ _)
def zbK (h:Sim C S Fp [] st a w){r:Nat}{x:A}(hr:(st r).t=.own (.box x)):∃b,Act.tv a r=.pointer (some ⟨b,0,none⟩):=by have hq:=h.ent r;unfold xm at hq;simp only[hr]at hq;have ⟨cs,c1,c2,c3⟩:=hq;simp only[zK]at c1;obtain⟨b,ty,l,F',rfl,_⟩:=c1;exact⟨b,c3⟩
variable {y:A}
def zl4 (k:Nat)   (hk:(st k).t=.own y)(ho:z4Y y=true)(hp:JB n.pin k=some v)(h:v.oneCell'=true->AWP P n c st Q):AWP P n c st Q:=by
 intro rd m df w0 S0 M S Fp a w hc hs;have hone:(Act.tv a k).oneCell'=true:=by have q:=hs.ent k;unfold xm at q;simp[hk]at q;have ⟨cs,c1,_,hv⟩:=q;have hcs:=QB ho c1;rw[hv];exact c1.one1 (WZ ho) _ (by have q:=nM (zU y cs);rwa[<-hcs]at q)
 have hv:=hs.pin k v (uh hp);exact h (by rw[<-hv];exact hone) rd m df w0 S0 M S Fp a w hc hs
def ncK (n:Fr)(dst:TD)(r:Nat)(e:Ent):SM Unit :=
 match e.t with
 | .own (.box _)=>wrT n dst (.als r [] e.er e.ec)
 | _=>zt
open Classical in
def ncO (n:Fr)(dst:TD)(r:Nat)(v:Value)(x:Operand):SM Unit:=do
 let tx <-opnd x
 if tx=.d (.atom v)/\JB n.pin r=some v then(rdE r >>= λe=>ncK n dst r e) else zt
def ncH (n:Fr)(dst:TD)(r:Nat)(v:Value)(x:Operand):HM Unit:=y7 (opnd x) >>= λtx=>kG (tx=.d (.atom v)/\JB n.pin r=some v) (y7 (rdE r >>= λe=>ncK n dst r e))
open Classical in
def zoG (n:Fr)(dst:TD)(r:Nat)(v:Value)(x:Operand):Snd (ncO n dst r v x) (ncH n dst r v x):=zh (zk _) λ_=>we (zk _)
open Classical in
def Loc.ncO (n:Fr)(dst:TD)(r:Nat)(v:Value)(x:Operand):Loc (ncO n dst r v x):=by
 unfold Go.Own.ncO;refine Loc.bind (Loc.opnd _) λ_=>Loc.ite (Loc.bind (Loc.rdE _) λe=>?_) Loc.fail;unfold Go.Own.ncK;split
 ·exact Loc.wrT _ _ _
 exact Loc.fail
def zmf (h:Sim C S Fp [] st a w)  {r:Nat}   (ho:o.op=.nilCheck x)    (e0:ncO C.n o.dst r v x st=some (u,R,U)):vB P C o a w (zi U st):=by
 unfold ncO at e0;have ⟨tx,_,hx,e1⟩:=bR (zF h) e0;split at e1
 ·rename_i hc;obtain⟨rfl,hp⟩:=hc;have hs:=h.pin r v (uh hp);have ⟨_,e4⟩:=bD e1;unfold ncK at e4;cases ht:(st r).t with
  | own y=>
   cases y with
   | box z=>
    simp[ht]at e4;have ⟨b,ev⟩:=zbK h ht;have hvv:v=.pointer (some ⟨b,0,none⟩):=by rw[<-hs,ev]
    have hals:kJ w.heap st (Act.tv a) r [] (st r).er (st r).ec (Act.tv a r):=by refine⟨pi _,pi _,?_⟩;simp[ht]
    have hT:TOk S w.heap st (Act.tv a) (.als r [] (st r).er (st r).ec) v:=by rw[<-hs];exact hals
    have ⟨Fp',hs'⟩:=xM h e4 hT;refine zo ?_ hs';have ex:a.eval x=v:=(zu.1 hx).1;simp[execOp,ho,ex,hvv]
   | _=>simp[ht]at e4;cases e4
  | _=>simp[ht]at e4;cases e4
 cases e1
def zlr (d:Nat)(o:Oper):Option Operand:=match o.op with|.nilCheck x=>if o.dst=some d then some x else none|_=>none
def xNc (P:Program)(d r:Nat)(v:Value):XH P :=
 xAt P (zlr d) (λn o x=>ncO n o.dst r v x) (λn o x=>ncH n o.dst r v x)
  (by
   intro C S Fp st a w o x hp h u R U e;unfold zlr at hp;split at hp
   ·rename_i ho;cases z13 hp;exact zmf h ho e
   cases hp)
  (λn o x=>Loc.ncO _ _ _ _ _) (λn o x=>zoG _ _ _ _ _)
def spR (k:Nat){α ρ:Type}(enc:α->List A)(encR:ρ->A)(F:α->Option ρ)(gives:List Bool)(inj:∀x y,enc x=enc y->x=y):yg:={
 α:=α
 k:=k
 raw:=true
 gives:=gives
 enc:=enc
 pre:=λx=>∃r,F x=some r
 f:=λx=>match F x with|some r=>encR r|none=>.dead 0
 inj:=by intro x y h _ _;rw[inj x y h] }
variable {k:Nat}{gives:List Bool}
def z7H {α ρ:Type}{enc:α->List A}{encR:ρ->A}{F:α->Option ρ}  {inj:∀x y,enc x=enc y->x=y}(h:∀x r,F x=some r->uR P k (enc x) (encR r)):(spR k enc encR F gives inj).Ok P:=by rintro x ⟨r,hr⟩;have:=h x r hr;simpa only[spR,hr] using this
variable {as_:List A}
def zlu {k:Nat}{α ρ:Type}{enc:α->List A}{encR:ρ->A}{F:α->Option ρ}{gives:List Bool}{inj:∀x y,enc x=enc y->x=y}{x:α}{r:ρ}(hr:F x=some r)  (ha:as_=enc x) :
  (Jl.add (spR k enc encR F gives inj)).run k ((Jl.add (spR k enc encR F gives inj)).norm k as_)=some (encR r):=by
 have h:=Ctr.add_has Jl (spR k enc encR F gives inj);have h1:=h.run x ⟨r,hr⟩;have h2:(Jl.add (spR k enc encR F gives inj)).raw k=true:=h.raw;unfold Ctr.norm;rw[h2,ha];refine Eq.trans h1 ?_;simp[spR,hr]
def zes {α ρ:Type}{enc:α->List A}{encR:ρ->A}{F:α->Option ρ}  {inj:∀x y,enc x=enc y->x=y}:(Jl.add (spR k enc encR F gives inj)).gives k=gives:=(Ctr.add_has Jl _).gives
section
variable {α:Type}
def eFl (sz:Nat)(f:α->A)(x:List α×Bool):A:=.sl sz x.2 (x.1.map f)
instance (sz:Nat)(f:α->A):KF (eFl sz f) (eFl sz f):=⟨λ_=>rfl,λ_=>rfl⟩
def flL (sz:Nat)(tg:Bool)(f:α->A)(l:List (List α)):(l.map λx=>(x,tg)).map (eFl sz f)=l.map (eSl sz tg f):=by rw[mw];rfl
def flE {f:α->A}{l:List (List α×Bool)}(h:∀x∈l,x.2=true):l.map (eFl sz f)=(l.map (·.1)).map (eSl sz true f):=by rw[mw];exact nF λx hx=>by simp[eFl,eSl,h x hx]
instance LeA.flO (s t:Nat)(tg:Bool)(b:Bool)(f:α->A)(l:List (List α)):LeA (eOs s b (eSl t tg f) l) (eOs s b (eFl t f) (l.map λx=>(x,tg))):=by unfold eOs;rw[flL];infer_instance
theorem flA {s t:Nat}  {f:α->A}{l:List (List α×Bool)}(h:∀x∈l,x.2=true):LeA (eSl s b (eFl t f) l) (eSl s b (eSl t true f) (l.map (·.1))):=by unfold eSl;rw[flE h];exact LeA.refl _
end
variable {F:TC}{h:Array Obj}
def Wz (hF:∀k∈F,∀o,S k o=none):∀b o u,S b o=some u->y4 S h F b o=some u:=by intro b o u hs;unfold y4;rw[if_neg (λq=>by rw[hF b q o]at hs;cases hs)];exact hs
def Sim.sealX (h:Sim C S Fp (F++[]) st a w)(hF:∀k∈F,∀o,S k o=none):Sim C (y4 S w.heap F) Fp [] st a w:=by
 refine h.mem h.below (Wz hF) ?_ ?_ ?_ (by simp) (by simp) (by simp)
 ·intro b o v q;unfold y4 at q;split at q
  ·exact q
  exact h.still b o v q
 ·intro b o hb;unfold y4;rw[if_neg (λq=>hb (h.xb b (by simpa using q)))];exact h.sbase b o hb
 intro t k hk;refine⟨rfl,λo=>?_⟩;unfold y4;rw[if_neg (λq=>h.xd t k (by simpa using q) hk)];exact(h.free t k hk).2.1 o
mutual
def A.live_isD:∀{a:A},a.isD=true->a.live=true
 | .atom _,_=>rfl
 | .fn _ _,_=>rfl
 | .agg fs,h=>by simp[A.isD]at h;simp[A.live];exact A.lives_areD h
 | .sl _ _ _,_=>rfl
 | .sptr _,_=>rfl
 | .dop _,_=>rfl
 | .tup _,h=>by simp[A.isD]at h
 | .osl _ _ _,h=>by simp[A.isD]at h
 | .box _,h=>by simp[A.isD]at h
 | .dead _,h=>by simp[A.isD]at h
 | .opq _,h=>by simp[A.isD]at h
def A.lives_areD:∀{as_:List A},A.areD as_=true->A.lives as_=true
 | [],_=>rfl
 | a::as_,h=>by simp[A.areD,pE]at h;simp[A.lives,A.live_isD h.1,A.lives_areD h.2,rJ]
end
def A.areD_app:∀{as_ bs:List A},A.areD as_=true->A.areD bs=true->A.areD (as_++bs)=true
 | [],_,_,h=>h
 | a::as_,bs,h1,h2=>by simp[A.areD,pE]at h1;simp[gK,A.areD,pE];exact⟨h1.1,A.areD_app h1.2 h2⟩
def zmQ (tt:TT)(t sz:Nat):Bool :=
 match tt t with
 | some ⟨.slice e,_,_,_,_⟩=>match tt e with|some i=>sz==i.size&&decide (i.bytes<=4096)&&decide (0<i.size)&&i.zero.isSome|none=>false
 | _=>false
def apO (tt:TT)(n:Fr)(dst:TD)(t:Nat)(s x:Operand):SM Unit:=do
 let ts <-opnd s;let tx <-opnd x;match ts,tx with
 | .d (.sl sz tg es),.d (.sl sz2 _ ys)=>if zmQ tt t sz=true/\sz2=sz/\tg=true/\es.length+ys.length<=lim/\A.areD es=true/\A.areD ys=true then wrT n dst (.d (.sl sz false (es++ys))) else zt
 | _,_=>zt
def apH (tt:TT)(n:Fr)(dst:TD)(t:Nat)(s x:Operand):HM Unit:=y7 (opnd s) >>= λts=>y7 (opnd x) >>= λtx=>
 match ts,tx with
 | .d (.sl sz tg es),.d (.sl sz2 _ ys)=>if zmQ tt t sz=true/\sz2=sz/\tg=true then kG (es.length+ys.length<=lim/\A.areD es=true/\A.areD ys=true) (eqL (es++ys) >>= λzs=>y7 (wrT n dst (.d (.sl sz false zs)))) else zL
 | _,_=>zL
def zoO (tt:TT)(n:Fr)(dst:TD)(t:Nat)(s x:Operand):Snd (apO tt n dst t s x) (apH tt n dst t s x):=by
 refine zh (zk _) λts=>zh (zk _) λtx=>?_;split
 ·refine z0N (λh1 h2=>⟨h1.1,h1.2.1,h1.2.2,h2.1,h2.2.1,h2.2.2⟩) ?_;exact Qq (zZ _ λzs=>wrT n dst (.d (.sl _ false zs))).symm (zh (z92 _) λ_=>zk _)
 exact zr _
def Loc.apO (tt:TT)(n:Fr)(dst:TD)(t:Nat)(s x:Operand):Loc (apO tt n dst t s x):=by
 unfold Go.Own.apO;refine Loc.bind (Loc.opnd _) λ_=>Loc.bind (Loc.opnd _) λ_=>?_;split
 ·exact Loc.ite (Loc.wrT _ _ _) Loc.fail
 exact Loc.fail
def zmR (hT:xW P tt)       (h:Sim C S Fp [] st a w)  {t:Nat}{s x:Operand}(ho:o.op=.call { callee:=.builtin .append,args:=#[s,x],argTypes:=#[t,t] })    (e0:apO tt C.n o.dst t s x st=some (u,R,U)):vB P C o a w (zi U st):=by
 unfold apO at e0;have ⟨ts,_,hs,e1⟩:=bR (zF h) e0;have ⟨tx,_,hx,e2⟩:=bR (zF h) e1;split at e2
 ·rename_i sz tg es sz2 tg2 ys;split at e2
  ·rename_i hc;obtain⟨c1,rfl,rfl,c4,c5,c6⟩:=hc;obtain⟨el,i,hel,hi,hsz,c3,cz,c7⟩:∃el i,P.underlying t=some (.slice el)/\tt el=some i/\sz2=i.size/\i.bytes<=4096/\0<i.size/\i.zero.isSome=true:=by
    unfold zmQ at c1;split at c1
    ·rename_i e _ _ _ _ ht;split at c1
     ·rename_i i hi;simp only[pE,beq_iff_eq,decide_eq_true_eq]at c1;exact⟨e,i,(hT _ _ ht).kind,hi,c1.1.1.1,c1.1.1.2,c1.1.2,c1.2⟩
     cases c1
    cases c1
   have ⟨f,f1,f2,f3,f4⟩:=(hT _ _ hi).info;have ⟨z0,hz0⟩:=nJ.1 c7;have ⟨zv,v1,v2,v3⟩:=f4 z0 hz0;have hzs:zv.cells.size=f.size:=by have:=(v3 (λ_ _=>none) #[]).len;rw[v2,<-f2]at this;simpa using this
   have hs':xg S (.sl sz2 true es) (a.eval s):=hs;have hx':xg S (.sl sz2 tg2 ys) (a.eval x):=hx;have ⟨p,d,news,ev,r1,r2,r3⟩:=K6 (y:=.sl sz2 tg2 ys) h (.inl ⟨tg2,rfl⟩) c6 (.inl hx');have fin:∀v w',(Builtin.append_ #[t,t] o.type #[a.eval s,a.eval x]).run P w=.ok v w'->(execOp a.eval o).run P w=.ok (.value v) w':=by intro v w' hrun;simp[execOp,ho,resolve,invoke,builtin,hrun]
   simp only[xg]at hs';have ⟨cs,q1,q2⟩:=hs';simp only[Rep]at q1;obtain⟨pp,c,rfl,t1,t2,t3,t4⟩:=q1;have hcl:=t1 trivial;subst hcl;have es1:a.eval s=.slice pp es.length es.length:=q2;by_cases hne:ys=[]
   ·subst hne;have ⟨Fp',hs2⟩:=xM h e2 (x:=.d (.sl sz2 false (es++[]))) (v:=.slice pp es.length es.length) (by simp only[TOk,xg,pU];refine⟨[.slice pp es.length es.length],?_,rfl⟩;simp only[Rep];exact⟨pp,_,rfl,by simp,pi _,t3,t4⟩)
    refine zo (fin _ _ ?_) hs2;rw[es1,ev];exact Xz hel f1 pp p es.length es.length d (pi _) w
   have hpos:0<ys.length:=mM.2 hne;rcases r3 with⟨hy,_⟩|⟨ad,rfl,hnews⟩
   ·exact absurd hy hne
   subst hsz;rw[<-f2]at t3 r2 e2;have hold:∃olds,yb S es olds/\((pp=none/\es=[]/\es.length=0)\/∃b,pp=some b/\∀j v,olds[j]?=some v->w.cell? (b.add j)=some v):=by
    rcases t4 with rfl|⟨b,o',l,rfl,k1,k2⟩
    ·cases pp with
     | none=>exact⟨[],by simp[yb],.inl ⟨rfl,rfl,rfl⟩⟩
     | some b=>exact⟨[],by simp[yb],.inr ⟨b,rfl,by simp⟩⟩
    exact⟨l,k1,.inr ⟨_,rfl,z1H h k2⟩⟩
   have ⟨olds,n1,n2⟩:=hold;have h':Sim C S Fp ([]++[]) st a w:=by simpa using h
   obtain⟨v,w',hrun,F',m1,m2,cs',m3,rfl⟩:=Y0 (ty:=o.type) hel f1 v1 hzs h' (n1.concs w.heap) (by simp) (r1.concs w.heap) t3 r2 n2 (d:=d) hnews (by omega) c4 (by omega) hpos;have hF:∀k∈F',∀o,S k o=none:=λk hk=>(m3.own k hk).2.1;have hs3:=m1.sealX hF;have hD:A.areD (es++ys)=true:=A.areD_app c5 c6;have hrep:=m3.shut (Wz hF) (by simp only[A.live];exact A.lives_areD hD) (λk hk o=>by unfold y4;rw[if_pos hk]);simp only[A.shut]at hrep;rw[A.shuts_areD hD]at hrep;have ⟨Fp'',hs'⟩:=xM hs3 e2 (x:=.d (.sl f.size false (es++ys))) (v:=zU (.osl f.size false (es++ys)) cs') (by simp only[TOk,xg];exact⟨cs',hrep,rfl⟩)
   exact zo (fin _ _ (by rw[es1,ev];exact hrun)) hs'
  cases e2
 cases e2
def zls (d:Nat)(o:Oper):Option (Nat×Operand×Operand):=match o.op with|.call ⟨.builtin .append,⟨[s,x]⟩,⟨[t,t']⟩⟩=>if o.dst=some d then(if t'=t then some (t,s,x) else none) else none|_=>none
def xAp (hT:xW P tt)(d:Nat):XH P :=
 xAt P (zls d) (λn o q=>apO tt n o.dst q.1 q.2.1 q.2.2) (λn o q=>apH tt n o.dst q.1 q.2.1 q.2.2)
  (by
   intro C S Fp st a w o q hp h u R U e;unfold zls at hp;split at hp
   ·rename_i ho;replace hp:=z13 hp;split at hp
    ·rename_i ht;subst ht;cases hp;exact zmR hT h ho e
    cases hp
   cases hp)
  (λn o q=>Loc.apO _ _ _ _ _ _) (λn o q=>zoO _ _ _ _ _ _)
def apM (f:α->A)[Jd f]{l m:List α}(h:l.length+m.length<=4294967296):(l.map f).length+(m.map f).length<=lim/\A.areD (l.map f)=true/\A.areD (m.map f)=true:=⟨by simpa[lim] using h,dM f l,dM f m⟩
variable {vals:TE}{fn:Func}{body:Code}{args caps xs:List A}{ys:List A}
def z8d {tt:TT}    {nt t:Nat}(is:TC){args caps xs:List A}{vals:TE}{r:A}{ys:List A}(hT:xW P tt)(hf:P.funcs[k]?=some fn)(hnm:(fn.name == "runtime.NumGoroutine")=false)(hb:fn.body=some body)
  (hn:nt=fn.ntmps) (hr:fn.results=#[.tmp t]) (ha:(args++caps).length<=fn.ntmps) (hnd:is.Nodup) (hbase:is.map (λi=>(args++caps)[i]?)=vals.map (λv=>some (.atom v))) (hl:xs.length=vals.length) (hrd:r.isD=true) (hrn:Wi tt 0 r=r)
  (h:∀E:Exit->St->Prop,(∀ex st,(ex=.normal\/ex=.ret)->(∀p∈is.zip ys,(st p.1).t=.own p.2)->(st t).t=.d r->E ex st) ->
   AWP P ⟨nt,is.zip vals⟩ body (ofL (z9f 0 (Ub (args++caps) is xs))) (Qf P ⟨nt,is.zip vals⟩ [] E)) (hy:is.length=ys.length):uC P (.fn k caps) args (vals.zip xs) r ys:=by
 subst hn;refine z28 (tt:=tt) (rs:=[(t,none)]) is hT hf hnm hb hr ha hnd hbase hl ?_;rw[z3v];refine h _ ?_;intro ex st hx hc hrt;refine⟨hx,?_⟩;have h2:=z1W hy hc;have hop:opnd (.tmp t) st=some (.d r,[t],[]):=by simp[opnd,hrt,bind,SM.bind,rdE,pure,SM.pure,pU]
 have hsh:shutT tt 0 (.d r) st=some (r,[],[]):=by
  have:shutT tt 0 (.d r)=pure r:=by cases r <;> first|(simp[A.isD]at hrd;done)|(simp[shutT,hrn,A.shut_isD hrd])|skip
  rw[this];rfl
 have h1:shutArgs tt [(Operand.tmp t,0)] st=some ([r],[t],[]):=by simp[shutArgs,bind,SM.bind,hop,zi,hsh,pure,SM.pure,pU]
 refine⟨[t]++(is++[]),[],?_⟩;simp[zkT,gB,nG,bind,SM.bind,h1,zi,h2,Zm,gE,pure,SM.pure,zlN,pU]
def zmL {live:TC}  {l:List (Nat×T)}(hc:canon live st=ofL l)   (hk:live.contains k=true)(hy:(ofL l k).t=.d y):(st k).t=.d y:=by
 have:=congrFun hc k;rw[Xe,if_pos (rC.1 hk)]at this;rw[<-this]at hy;unfold zcf at hy;cases hx:(st k).t with
 | own a=>simp only[hx]at hy;cases hy
 | d a=>simpa only[hx] using hy
 | gone=>simp only[hx]at hy;cases hy
 | _=>simp only[hx]at hy;split at hy <;> cases hy
def Kn (x:List UInt8):A:=.atom (.string ⟨x.toArray⟩)
def u8s (l:TB):List UInt8:=l.map λn=>UInt8.ofNat n.toNat
def Uf:List A->Option TB
 | []=>some []
 | .atom (.int .u8 n)::as_=>(Uf as_).map (n :: ·)
 | _=>none
def z3D:∀l:TB,Uf (l.map (eI .u8))=some l
 | []=>rfl
 | n::l=>by simp[gB,eI,Uf];rw[show l.map (eI .u8)=l.map (eI .u8) from rfl];simp[z3D l]
def z2s:∀{as_:List A} {ns:TB} {cs:TE},Uf as_=some ns->yb S as_ cs->cs=ns.map (Value.int .u8)/\as_.length=ns.length
 | [],ns,cs,h,r=>by simp[Uf,Option.some.injEq]at h;subst h;simp[yb]at r;subst r;exact⟨rfl,rfl⟩
 | a::as_,ns,cs,h,r=>by
  unfold Uf at h;split at h
  ·cases ‹_=[]›
  ·rename_i n as' e;cases e;obtain⟨ms,h1,rfl⟩:=pT.1 h;simp[yb]at r;obtain⟨c1,c2,rfl,r1,r2⟩:=r;simp[Rep]at r1;have ⟨q1,q2⟩:=z2s h1 r2;obtain⟨rfl,_⟩:=r1;subst q1;exact⟨rfl,by simp[q2]⟩
  cases h
def z8E:∀{as_:List A} {ns:TB},Uf as_=some ns->A.areD as_=true
 | [],_,_=>rfl
 | a::as_,ns,h=>by
  unfold Uf at h;split at h
  ·cases ‹_=[]›
  ·rename_i n as' e;cases e;obtain⟨ms,h1,rfl⟩:=pT.1 h;simp[A.areD,A.isD,z8E h1,rJ]
  cases h
def z3i:∀(ns:TB) (s:List UInt8),ns.foldl (λr n=>r.push (UInt8.ofNat n.toNat)) (⟨s.toArray⟩:ByteArray)=⟨(s++u8s ns).toArray⟩
 | [],s=>by simp[u8s]
 | n::ns,s=>by
  rw[nU];have:(⟨s.toArray⟩:ByteArray).push (UInt8.ofNat n.toNat)=⟨(s++[UInt8.ofNat n.toNat]).toArray⟩:=by simp[ByteArray.push]
  rw[this,z3i ns];simp[u8s]
def zlx (P:Program)(s d:Nat):Prop:=∃e,P.underlying s=some (.slice e)/\P.underlying e=some (.int .u8)/\P.underlying d=some .string
def zgC {s d e:Nat}(h1:P.underlying s=some (.slice e))(h2:P.underlying e=some (.int .u8))(h3:P.underlying d=some .string):zlx P s d:=⟨e,h1,h2,h3⟩
def strO (n:Fr)(dst:TD)(x:Operand):SM Unit:=do
 let tx <-opnd x;let y <-peek tx;match y with
 | .sl _ _ ys|.osl _ _ ys=>ofO ((Uf ys).map λns=>Kn (u8s ns)) >>= λr=>wrT n dst (.d r)
 | _=>zt
def znA (n:Fr)(dst:TD)(x:Operand):HM Unit:=y7 (opnd x) >>= λtx=>z32 tx >>= λy=>
 match y with
 | .sl _ _ ys|.osl _ _ ys=>z7n ((Uf ys).map λns=>Kn (u8s ns)) >>= λr=>y7 (wrT n dst (.d r))
 | _=>zL
def zlQ (n:Fr)(dst:TD)(x:Operand):Snd (strO n dst x) (znA n dst x):=by
 refine zh (zk _) λtx=>zh (Ka _) λy=>?_;cases y with
 | sl sz t ys=>exact zh (Kb _) λ_=>zk _
 | osl sz t ys=>exact zh (Kb _) λ_=>zk _
 | _=>exact zr _
def Loc.strO (n:Fr)(dst:TD)(x:Operand):Loc (strO n dst x):=by
 unfold Go.Own.strO;refine Loc.bind (Loc.opnd _) λ_=>Loc.bind (Loc.peek _) λ_=>?_;split
 ·exact Loc.bind (Loc.ofO _) λ_=>Loc.wrT _ _ _
 ·exact Loc.bind (Loc.ofO _) λ_=>Loc.wrT _ _ _
 exact Loc.fail
def zjG {P:Program}       (h:Sim C S Fp [] st a w)  {s t:Nat}{x:Operand}(hs:zlx P s t)(ho:o.op=.convert s t x)    (e0:strO C.n o.dst x st=some (u,R,U)):vB P C o a w (zi U st):=by
 unfold strO at e0;obtain⟨tx,R1,U1,R2,U2,h1,e1,rfl,rfl⟩:=bind_some e0;obtain⟨rfl,hx⟩:=zF h h1;obtain⟨y,R3,U3,R4,U4,h3,e2,rfl,rfl⟩:=bind_some e1;obtain⟨rfl,q⟩:=VA h hx h3;simp[zi,pN]at e2 ⊢;have ⟨el,k1,k2,k3⟩:=hs;have main:∀(sz:Nat) (ys:List A),((∃tg,y=.sl sz tg ys)\/∃tg,y=.osl sz tg ys)->(ofO ((Uf ys).map λns=>Kn (u8s ns)) >>= λr=>wrT C.n o.dst (.d r)) st=some (u,R4,U4)->vB P C o a w (zi U4 st):=by
  intro sz ys hy e3;obtain⟨r,R5,U5,R6,U6,h5,e4,rfl,rfl⟩:=bind_some e3;obtain⟨hm,rfl,rfl⟩:=VC h5;simp[zi,pN]at e4 ⊢;obtain⟨ns,hn,rfl⟩:=pT.1 hm;have ⟨p,d,news,ev,r1,r2,r3⟩:=K6 h hy (z8E hn) q;obtain⟨rfl,hl⟩:=z2s hn r1;have ⟨Fp',hs'⟩:=xM h e4 (x:=.d (Kn (u8s ns))) (v:=.string ⟨(u8s ns).toArray⟩) (zu.2 ⟨rfl,rfl⟩);refine zo ?_ hs';have hrun:(convert s t (a.eval x)).run P w=.ok (.string ⟨(u8s ns).toArray⟩) w:=by
   rw[ev,run_convert_bytes_string w s t el p ys.length d k1 k2 k3];rcases r3 with⟨rfl,hnil⟩|⟨ad,rfl,hc⟩
   ·have:ns=[]:=by simpa using hnil
    subst this;cases p with
    | none=>rfl
    | some ad=>rw[run_bytesToString w ad _ d [] (by simpa using run_loadCells_list w ad [] (by simp))];rfl
   have hlc:=run_loadCells_list (P:=P) w ad _ hc;rw[gC,<-hl]at hlc;rw[run_bytesToString w ad _ d ns hlc];have:=z3i ns [];simp[pN]at this;exact congrArg (λz=>Result.ok (Value.string z) w) this
  simp[execOp,ho,hrun]
 cases y with
 | sl sz tg ys=>exact main sz ys (.inl ⟨tg,rfl⟩) e2
 | osl sz tg ys=>exact main sz ys (.inr ⟨tg,rfl⟩) e2
 | _=>cases e2
def zkC (s t:Nat)(o:Oper):Option Operand:=match o.op with|.convert s' t' x=>if s'=s/\t'=t then some x else none|_=>none
def zos (P:Program){s t:Nat}(hs:zlx P s t):XH P :=
 xAt P (zkC s t) (λn o x=>strO n o.dst x) (λn o x=>znA n o.dst x)
  (by
   intro C S Fp st a w o x hp h u R U e;unfold zkC at hp;split at hp
   ·rename_i ho;split at hp
    ·rename_i ht;obtain⟨rfl,rfl⟩:=ht;cases hp;exact zjG h hs ho e
    cases hp
   cases hp)
  (λn o x=>Loc.strO _ _ _) (λn o x=>zlQ _ _ _)
def stM (l:TB):((Uf (l.map (eI .u8))).map λns=>Kn (u8s ns))=some (Kn (u8s l)):=by rw[z3D];rfl
def z4t:A->Bool
 | .atom (.string _)=>true
 | _=>false
def V0 {a:A}(h:z4t a=true):∃x,a=.atom (.string x):=by
 unfold z4t at h;split at h
 ·exact⟨_,rfl⟩
 cases h
instance:zn4 (K:=List UInt8) Kn:=⟨λx y=>by
 simp only[Kn,KH,z33,gE,Option.some.injEq,zU,nI,Value.string.injEq,ByteArray.mk.injEq,beq_iff_eq];constructor
 ·intro h;simpa using congrArg Array.toList h
 rintro rfl;rfl⟩
def zbN (x y:ByteArray):(x==y)=true↔x=y:=by cases x;cases y;rw[ByteArray.mk.injEq];rename_i a b;show(a==b)=true↔a=b;exact beq_iff_eq
def ze0 {t kt et:Nat}{z:A}(hu:P.underlying t=some (.map kt et))(hk:P.underlying kt=some .string)(hz:∃zv,(∀w,(zeroValue et).run P w=.ok zv w)/\∀S,wW S z zv)(zd:z.isD=true):zc8 P t kt et z4t z:={
 und:=hu
 zero:=hz
 zd:=zd
 key:=λa h=>by obtain⟨x,rfl⟩:=V0 h;exact⟨_,rfl⟩
 check:=λa kv e w h hv=>by obtain⟨x,rfl⟩:=V0 h;cases hv;show(Instr.checkKey e (9999+1) kt _).run P w=_;generalize 9999=q;unfold Instr.checkKey;simp only[Sem.run_bind,run_underlying hk,Result.andThen_ok];simp
 bits:=λa kv h hv=>by obtain⟨x,rfl⟩:=V0 h;cases hv;simp[zU,Instr.sameBits,(zbN x x).2 rfl]
 find:=λa kv h hv ents es hes hall w=>by
  obtain⟨x,rfl⟩:=V0 h;cases hv;have gen:∀(ents:List MapEntry) (es:List (A×A)) (i:Nat),(∀p∈es,z4t p.1=true)->YO (λp (e:MapEntry)=>KH p.1=some e.key) es ents->Instr.findNow .string (.string x) ents i=some (JJ (.string x) ents i):=by
   intro ents;induction ents with
   | nil=>intro es i _ _;rfl
   | cons e ents ih=>
    intro es i h1 h2;cases es with
    | nil=>exact h2.elim
    | cons p es=>
     have ⟨y,hy⟩:=V0 (h1 p (by simp));have hk2:e.key=.string y:=by have:KH p.1=some e.key:=h2.1;rw[hy]at this;simp only[KH,z33,gE,Option.some.injEq,zU,nI]at this;exact this.symm
     simp only[Instr.findNow,JJ,hk2,Instr.sameNow,Value.string.injEq];by_cases hxy:x=y
     ·subst hxy;rw[(zbN x x).2 rfl];simp
     rw[if_neg (nK hxy),show(x==y)=false by cases hb:x==y with|false=>rfl|true=>exact absurd ((zbN x y).1 hb) hxy];exact ih es (i+1) (λp hp=>h1 p (by simp[hp])) h2.2
  simp only[Instr.findKey,Sem.run_bind,run_underlying hk,Result.andThen_ok,zU,nI,gen ents es 0 hes hall,Sem.run_pure] }
section
variable {α:Type}
instance SzA.opS {β:Type}(s s':Nat)(b b':Bool)(f:α->A)(g:β->A)(l:List α)(l':List β):SzA (eOs s b f l) (eOs s' b' g l'):=⟨rfl⟩
end
def Sim.retag (h:Sim C S Fp [] st a w)(k:Nat)(x y:A)(hx:(st k).t=.own x)(hl:LeA x y):Sim C S Fp [] (upd st k ⟨.own y,(st k).er+1,(st k).ec+1⟩) a w:=by
 refine { size:=h.size,pin:=h.pin,defers:=h.defers,below:=h.below,mine:=h.mine,still:=h.still,sinc:=h.sinc,sbase:=h.sbase,ent:=?_,disj:=h.disj,base:=h.base,xn:=h.xn,xd:=h.xd,xb:=h.xb };intro t;have q:=h.ent t;by_cases ht:t=k
 ·subst ht;rw[v7];unfold xm at q ⊢;simp[hx]at q ⊢;have ⟨cs,q1,q2,q3⟩:=q;exact⟨cs,hl.conc _ _ _ _ q1,q2,by rw[<-hl.val];exact q3⟩
 rw[Xo _ _ ht];unfold xm at q ⊢;have als:∀{r p er' ec' v},kJ w.heap st (Act.tv a) r p er' ec' v->kJ w.heap (upd st k ⟨.own y,(st k).er+1,(st k).ec+1⟩) (Act.tv a) r p er' ec' v:=by
  intro r p er' ec' v q;by_cases hr:r=k
  ·subst hr;have ⟨q1,q2,q3⟩:=q;unfold kJ;rw[v7];refine⟨mO q1,mO q2,?_⟩;simp only;intro e1;omega
  unfold kJ;rw[Xo _ _ hr];exact q
 have ptr:∀{r p er' ec' v},jO w.heap st (Act.tv a) r p er' ec' v->jO w.heap (upd st k ⟨.own y,(st k).er+1,(st k).ec+1⟩) (Act.tv a) r p er' ec' v:=by
  intro r p er' ec' v q;by_cases hr:r=k
  ·subst hr;have ⟨q1,q2,q3⟩:=q;unfold jO;rw[v7];refine⟨mO q1,mO q2,?_⟩;simp only;intro e1;omega
  unfold jO;rw[Xo _ _ hr];exact q
 cases hz:(st t).t with
 | als r p er' ec'=>simp[hz]at q ⊢;exact⟨q.1,als q.2⟩
 | ptr r p er' ec'=>simp[hz]at q ⊢;exact⟨q.1,ptr q.2⟩
 | _=>simp[hz]at q ⊢;exact q
def vB.retag {st1:St}(hg:vB P C o a w st1)(k:Nat)(x y:A)(hx:(st1 k).t=.own x)(hl:LeA x y):vB P C o a w (upd st1 k ⟨.own y,(st1 k).er+1,(st1 k).ec+1⟩) :=
 λr m K Q hk=>hg r m K Q λS Fp a' w' hs=>hk S Fp a' w' (hs.retag k x y hx hl)
def znQ (d:Nat)(o:Oper):Option (Nat×Nat×Array (Nat×Operand)):=match o.op with|.buildSlice t len ps=>if o.dst=some d then some (t,len,ps) else none|_=>none
abbrev HO:=List H×List Ob
def hoH (l:List HO):List H:=List.rec [] (λx _ r=>x.1++r) l
def hoO (l:List HO):List Prop:=List.rec [] (λx _ r=>x.2.map Ob.p++r) l
def hoB (l:List HO):List Ob:=List.rec [] (λx _ r=>x.2++r) l
def z8n (l:List HO):hoO l=(hoB l).map Ob.p:=by
 induction l with
 | nil=>rfl
 | cons x l ih=>show x.2.map Ob.p++hoO l=(x.2++hoB l).map Ob.p;rw[gY,ih]
def Hq {t b:Bool}(h:t=b):HO:=([.b b],[ob h])
abbrev qT:HO:=Hq (Eq.refl true)
abbrev qF:HO:=Hq (Eq.refl false)
def Ha {x y:A}(h:x=y):HO:=([.a y],[ob h])
def Hs {x:Option A}  (h:x=some y):HO:=([.a y],[ob h])
def Hl {x y:List A}(h:x=y):HO:=([.l y],[ob h])
variable {p:Prop}
def Hm {x y:List A}(h:p/\x=y):HO:=([.l y],[ob h])
def Hx (a:H)  (h:p):HO:=([a],[ob h])
def Hn (h:p):HO:=([],[ob h])
def Hh (a:H):HO:=([a],[])
variable {i:Int}
def Hi (f:α->A){l:List α}  {u:α}(h:idx l i=some u):HO:=([.a (f u)],[ob (i0 h),ob (iM f h)])
def Hc {c:Ctr}  {α ρ:Type}{enc:α->List A}{encR:ρ->A}{F:α->Option ρ}  {inj:∀x y,enc x=enc y->x=y}(h:c.Has (spF k enc encR F gives inj)){x:α}{r:ρ}(hr:F x=some r)  (ha:as_.map A.loose=enc x):HO :=
 ([.g gives,.a (encR r)],[ob (Kl h),ob (zig h hr ha)])
def Hg {c:Ctr}   (h:c.gives k=gives):HO:=([.g gives],[ob h])
def z0P (l:List (Nat×T)):TC:=l.map (·.1)
section
variable {α β γ δ ε ζ η:Type}{f0:α->A}{f1:β->A}{f2:γ->A}{f3:δ->A}{f4:ε->A}{f5:ζ->A}{f6:η->A}
def zmE [h0:uT f0](x y:α)(h:[f0 x]=[f0 y]):x=y:=by simp only[List.cons.injEq,and_true]at h;exact h0.inj _ _ h
def zp2 [h0:uT f0][h1:uT f1](x y:α×β)(h:[f0 x.1,f1 x.2]=[f0 y.1,f1 y.2]):x=y:=by simp only[List.cons.injEq,and_true]at h;exact Prod.ext (h0.inj _ _ h.1) (h1.inj _ _ h.2)
def zp1 [h0:uT f0][h1:uT f1][h2:uT f2](x y:α×β×γ)(h:[f0 x.1,f1 x.2.1,f2 x.2.2]=[f0 y.1,f1 y.2.1,f2 y.2.2]):x=y:=by simp only[List.cons.injEq,and_true]at h;exact Prod.ext (h0.inj _ _ h.1) (Prod.ext (h1.inj _ _ h.2.1) (h2.inj _ _ h.2.2))
end
def stO {α β:Type}(r:Option (α×St×β)):St:=match r with|some (_,s,_)=>s|none=>ofL []
section
variable {P:Program}{tt:TT}{ctr:Ctr}{n:Fr}{Q:Exit->St->Prop}
def clS (ks:TC)(s:St)(d:List (Nat×T)):List (Nat×T):=ks.map λk=>(k,(d.lookup k).getD (s k).t)
def z8f (ks:TC)(s:St)(d:List (Nat×T)):z0P (clS ks s d)=ks:=by unfold z0P clS;rw[mw];exact List.map_id ks
end
def X6 (sz:Nat)(es:List A)(S:zm)(h:Array Obj)(v:Value)(F:TC):Prop :=
  (∀x∈es,x.size=sz)/\∃p c,v=.slice p es.length c/\es.length<=c/\c<=maxLen /\
    ((es=[]/\c=0/\p=none/\F=[]) \/
     ∃b off arr ty l,p=some ⟨b,off,none⟩/\h[b]?=some (.cells arr ty (0,0))/\off+c*sz<=arr.size/\(arr.toList.drop off).take (es.length*sz)=l/\yb S es l/\F=[b]/\∀o,S b o=none)
def z1L (sz:Nat)(es:List A):JP:={
 holds:=X6 sz es
 one:=by rintro S h v F ⟨_,p,c,rfl,_⟩;rfl
 frame:=by rintro S S' h h' v F hS hF ⟨h1,p,c,rfl,h2,h3,h4⟩;refine⟨h1,p,c,rfl,h2,h3,h4.imp id ?_⟩;rintro⟨b,off,arr,ty,l,rfl,k1,k2,k3,k4,rfl,k6⟩;have ⟨f1,f2⟩:=hF b (by simp);exact⟨b,off,arr,ty,l,rfl,by rw[f1];exact k1,k2,k3,k4.mono hS,rfl,f2⟩
 own:=by
  rintro S h v F ⟨h1,p,c,rfl,h2,h3,h4⟩ k hk;rcases h4 with⟨_,_,_,rfl⟩|⟨b,off,arr,ty,l,rfl,k1,k2,k3,k4,rfl,k6⟩
  ·simp at hk
  rw[pH]at hk;subst hk;exact⟨(pG.1 k1).1,k6⟩
 idx:=0 }
def eDq (sz:Nat)(f:α->A)(l:List α):A:=.opq (z1L sz (l.map f)).q
variable {cs:TE}
def zau {t:Bool}  (hd:A.areD es=true)   (q:zK S h (.osl sz t es) cs F):∃v,cs=[v]/\X6 sz es S h v F:=by
 simp only[zK]at q;obtain⟨p,c,rfl,t1,t2,t3,t4,t5⟩:=q;refine⟨_,rfl,t4,p,c,rfl,t2,t3,?_⟩;rcases t5 with⟨rfl,rfl,rfl,rfl⟩|⟨b,arr,ty,l,F',rfl,k1,k2,k3,k4,rfl,k6⟩
 ·exact .inl ⟨rfl,rfl,rfl,rfl⟩
 obtain⟨r1,rfl⟩:=k4.areD hd;exact .inr ⟨b,0,arr,ty,l,rfl,k1,by omega,by simpa using k3,r1,rfl,k6⟩
instance LeA.que {α:Type}(sz:Nat)(t:Bool)(f:α->A)[h:Jd f](l:List α):LeA (eOs sz t f l) (eDq sz f l):={
 rep:=λS cs q=>by simp only[eOs,Rep]at q
 conc:=λS hp cs F q=>by obtain⟨v,rfl,q2⟩:=zau (z4O f l h.isD) q;simp only[eDq,zK];exact⟨v,rfl,q2⟩
 val:=λcs=>rfl
 tup:=λ_ e=>by cases e }
def z5H:∀{es:List A} {l:TE},(∀x∈es,x.size=sz)->yb S es l->∀k,yb S (es.drop k) (l.drop (k*sz))
 | es,l,h,r,0=>by simpa using r
 | [],l,h,r,k+1=>by simp[yb]at r;subst r;simp[yb]
 | x::es,l,h,r,k+1=>by
  simp[yb]at r;obtain⟨c1,c2,rfl,r1,r2⟩:=r;have hx:c1.length=sz:=by rw[r1.len];exact h x (by simp)
  have e:(k+1)*sz=c1.length+k*sz:=by rw[hx,gW];omega
  rw[e,List.drop_append,List.drop_succ_cons,mn (show c1.length<=c1.length+k*sz by omega),pN,mP];exact z5H (λy hy=>h y (by simp[hy])) r2 k
def zlo [Decidable p]{m:SM Unit}  {q:Unit×TC×List (Nat×Ent)}(h:(if p then m else zt) st=some q):p/\m st=some q:=by
 by_cases hp:p
 ·rw[if_pos hp]at h;exact⟨hp,h⟩
 rw[if_neg hp]at h;cases h
section
variable {C:Ctx}{S:zm}{Fp:Nat->TC}{X:TC}{st:St}{a:Act}{w:World}
open Classical in
def zlj (tt:TT)(n:Fr)(dst:TD)(t sz:Nat)(es:List A)(z vl:A):SM Unit :=
 match vl with
 | .atom (.int _ j)=>if z=.opq (z1L sz es).q then(if xD tt t=some sz then(if 0<=j/\j.toNat<=es.length then wrT n dst (.own (.opq (z1L sz (es.drop j.toNat)).q)) else zt) else zt) else zt
 | _=>zt
def qslO (tt:TT)(n:Fr)(dst:TD)(t sz:Nat)(es:List A)(x lo:Operand):SM Unit:=do
 let y <-opnd x;let z <-take y;let tl <-opnd lo;let vl <-val tl
 zlj tt n dst t sz es z vl
def znD (tt:TT)(n:Fr)(dst:TD)(t sz:Nat)(es es':List A)(x lo:Operand):HM Unit:=y7 (opnd x) >>= λy=>z6H y >>= λz=>y7 (opnd lo) >>= λtl=>Jv tl >>= λvl=>
 match vl with
 | .atom (.int _ j)=>kG (z=.opq (z1L sz es).q) (if xD tt t=some sz then kG (0<=j/\j.toNat<=es.length) (kG (es.drop j.toNat=es') (y7 (wrT n dst (.own (.opq (z1L sz es').q))))) else zL)
 | _=>zL
open Classical in
def zlS (tt:TT)(n:Fr)(dst:TD)(t sz:Nat)(es es':List A)(x lo:Operand):Snd (qslO tt n dst t sz es x lo) (znD tt n dst t sz es es' x lo):=by
 refine zh (zk _) λy=>zh (z3e _) λz=>zh (zk _) λtl=>zh (kH _) λvl=>?_;unfold zlj;cases vl with
 | atom u=>
  cases u with
  | int k j=>exact we (vO (we (KX λe=>by rw[e];exact zk _)) (zr _))
  | _=>exact zr _
 | _=>exact zr _
open Classical in
def Loc.qslO (tt:TT)(n:Fr)(dst:TD)(t sz:Nat)(es:List A)(x lo:Operand):Loc (qslO tt n dst t sz es x lo):=by
 unfold Go.Own.qslO;refine Loc.bind (Loc.opnd _) λ_=>Loc.bind (Loc.take _) λz=>Loc.bind (Loc.opnd _) λ_=>Loc.bind (Loc.val _) λvl=>?_;unfold Go.Own.zlj;split
 ·exact Loc.ite (Loc.ite (Loc.ite (Loc.wrT _ _ _) Loc.fail) Loc.fail) Loc.fail
 exact Loc.fail
def zfx (q:(xg S (.opq (z1L sz es).q) v/\F=[])\/∃cs,zK S w.heap (.opq (z1L sz es).q) cs F/\F.Nodup/\v=zU (.opq (z1L sz es).q) cs):X6 sz es S w.heap v F/\F.Nodup:=by
 rcases q with⟨q,_⟩|⟨cs,q1,q2,q3⟩
 ·simp[xg,wW,Rep,false_and,exists_false]at q
 simp[zK]at q1;obtain⟨u,rfl,q1⟩:=q1;exact⟨by rw[q3];exact q1,q2⟩
def z8y (q:X6 sz es S h v F):zK S h (.opq (z1L sz es).q) [v] F:=by simp only[zK];exact⟨v,rfl,q⟩
def zk1 {P:Program}{tt:TT}(hT:xW P tt)(h:Sim C S Fp [] st a w){o:Oper}{t sz:Nat}{es:List A}{x lo:Operand}(ho:o.op=.slice t x (some lo) none none){u:Unit}{R:TC}{U:List (Nat×Ent)}(e0:qslO tt C.n o.dst t sz es x lo st=some (u,R,U)):vB P C o a w (zi U st):=by
 unfold qslO at e0;have ⟨y,_,hx,e1⟩:=bR (zF h) e0;obtain⟨z,R3,U3,R4,U4,h3,e2,rfl,rfl⟩:=bind_some e1;have ⟨Fp',F,g1,g2⟩:=KT h hx h3;rw[zz];have ⟨tl,_,hl,e3⟩:=bR (zF g1) e2;have ⟨vl,_,ql,e4⟩:=bR (vA g1 hl) e3;unfold zlj at e4;split at e4
 ·rename_i k j;split at e4
  ·rename_i hz;subst hz;split at e4
   ·rename_i hel;split at e4
    ·rename_i hj;have ⟨j0,j1⟩:=hj;have ⟨el,he,hsz⟩:=wB hT hel w;have ⟨el',_⟩:=zu.1 ql;have ⟨⟨t4,p,c,ev,t2,t3,t5⟩,hn⟩:=zfx g2;have hrun:=ZN (P:=P) (w:=w) he hsz (p:=p) (len:=es.length) (c:=c) (m:=c) (lo:=some (.int k j)) (hi:=none) (mx:=none) (.inr ⟨k,j,rfl,j0,rfl⟩) (.inl ⟨rfl,rfl⟩) (.inl ⟨rfl,rfl⟩) j1 t2 (pi c) (by simp);have hq:X6 sz (es.drop j.toNat) S w.heap (.slice (if c=j.toNat then p else p.map (·.add (j.toNat*sz))) (es.length - j.toNat) (c - j.toNat)) F:=by
      refine⟨λy hy=>t4 y (rH hy),_,_,by rw[List.length_drop],by rw[List.length_drop];omega,by omega,?_⟩;rcases t5 with⟨rfl,rfl,rfl,rfl⟩|⟨b,off,arr,ty,l,rfl,k1,k2,k3,k4,rfl,k6⟩
      ·exact .inl ⟨by simp,by simp,by simp,rfl⟩
      have hr:=z5H t4 k4 j.toNat;have hm:(es.length - j.toNat)*sz+j.toNat*sz=es.length*sz:=by rw[<-gW];congr 1;omega
      have hcj:(c - j.toNat)*sz+j.toNat*sz=c*sz:=by rw[<-gW];congr 1;omega
      by_cases hcc:c=j.toNat
      ·have:es.length=j.toNat:=by omega
       refine .inr ⟨b,off,arr,ty,[],by simp[hcc],k1,by rw[hcc];simp;omega,by simp[List.length_drop,this],?_,rfl,k6⟩;rw[mn (by omega)];simp[yb]
      refine .inr ⟨b,off+j.toNat*sz,arr,ty,l.drop (j.toNat*sz),by simp[hcc,Addr.add_lit],k1,by omega,?_,hr,rfl,k6⟩;rw[List.length_drop,<-k3,List.drop_take,mL];congr 1;omega
     have ⟨Fp'',hs⟩:=W9 g1 e4 (z8y hq) hn;refine zo ?_ hs;simp[execOp,ho,ev,el',hrun,zU]
    cases e4
   cases e4
  cases e4
 cases e4
open Classical in
def zlk (n:Fr)(dst:TD)(sz:Nat)(es:List A)(x:Operand):SM Unit:=do
 let tx <-opnd x;let y <-peek tx
 if y=.opq (z1L sz es).q then wrT n dst (.d (.atom (.int .i64 (es.length:Nat)))) else zt
def znE (n:Fr)(dst:TD)(sz:Nat)(es:List A)(x:Operand):HM Unit:=y7 (opnd x) >>= λtx=>z32 tx >>= λy=>kG (y=.opq (z1L sz es).q) (eqA (.atom (.int .i64 (es.length:Nat))) >>= λr=>y7 (wrT n dst (.d r)))
open Classical in
def zlT (n:Fr)(dst:TD)(sz:Nat)(es:List A)(x:Operand):Snd (zlk n dst sz es x) (znE n dst sz es x) :=
 zh (zk _) λ_=>zh (Ka _) λ_=>we (Qq (zZ _ λr=>wrT n dst (.d r)).symm (zh (z2Z _) λ_=>zk _))
def zk4 (hT:xW P tt)(h:Sim C S Fp [] st a w)  {t sz:Nat}  {x:Operand}(hty:ul tt t=true)(ho:o.op=.call ⟨.builtin .len,⟨[x]⟩,⟨[t]⟩⟩)    (e:zlk C.n o.dst sz es x st=some (u,R,U)):vB P C o a w (zi U st):=by
 unfold zlk at e;have ⟨tx,_,hx,e1⟩:=bR (zF h) e;have ⟨y,_,qx,e2⟩:=bR (VA h hx) e1;split at e2
 ·rename_i hc;subst hc;have ⟨F,g⟩:=z4A qx;have ⟨_,p,c,ev,_⟩:=g;have ⟨el,hel⟩:=ZU hT hty;have ⟨Fp',hs⟩:=xM h e2 (x:=.d _) (zu.2 ⟨rfl,rfl⟩);refine zo ?_ hs;simp[execOp,ho,resolve,invoke,builtin,Builtin.len_,ev,run_underlying hel,goInt]
 cases e2
def z95 (sz:Nat)(v:Value)(j:Int):Value :=
 match v with
 | .slice (some p) _ _=>.pointer (some (p.add (j.toNat*sz)))
 | _=>.pointer none
def zdQ {j:Int}:(z95 sz v j).oneCell'=true:=by unfold z95;split <;> rfl
def zai (h:Sim C S Fp [] st a w){r sz:Nat}  (hr:(st r).t=.own (.opq (z1L sz es).q)):∃F,X6 sz es S w.heap (Act.tv a r) F:=by have hq:=h.ent r;unfold xm at hq;simp[hr]at hq;have ⟨cs,c1,c2,c3⟩:=hq;simp[zK]at c1;obtain⟨v,rfl,c1⟩:=c1;exact⟨_,by rw[c3];exact c1⟩
open Classical in
def qixO (tt:TT)(n:Fr)(dst:TD)(t sz r:Nat)(v:Value)(es:List A)(x i:Operand):SM Unit:=do
 let tx <-opnd x;let ti <-opnd i;let vi <-val ti;let e <-rdE r;match vi with
 | .atom (.int _ j)=>if tx=.als r [] e.er e.ec/\JB n.pin r=some v/\e.t=.own (.opq (z1L sz es).q)/\xD tt t=some sz/\0<=j/\j.toNat<es.length then wrT n dst (.d (.atom (z95 sz v j))) else zt
 | _=>zt
def znG (tt:TT)(n:Fr)(dst:TD)(t sz r:Nat)(v:Value)(es:List A)(x i:Operand):HM Unit:=y7 (opnd x) >>= λtx=>y7 (opnd i) >>= λti=>Jv ti >>= λvi=>y7 (rdE r) >>= λe=>
 match vi with
 | .atom (.int _ j)=>kG (tx=.als r [] e.er e.ec/\JB n.pin r=some v/\e.t=.own (.opq (z1L sz es).q)/\xD tt t=some sz/\0<=j/\j.toNat<es.length) (y7 (wrT n dst (.d (.atom (z95 sz v j)))))
 | _=>zL
open Classical in
def zlV (tt:TT)(n:Fr)(dst:TD)(t sz r:Nat)(v:Value)(es:List A)(x i:Operand):Snd (qixO tt n dst t sz r v es x i) (znG tt n dst t sz r v es x i):=by
 refine zh (zk _) λtx=>zh (zk _) λti=>zh (kH _) λvi=>zh (zk _) λe=>?_;cases vi with
 | atom u=>
  cases u with
  | int k j=>exact we (zk _)
  | _=>exact zr _
 | _=>exact zr _
open Classical in
def Loc.qixO (tt:TT)(n:Fr)(dst:TD)(t sz r:Nat)(v:Value)(es:List A)(x i:Operand):Loc (qixO tt n dst t sz r v es x i):=by
 unfold Go.Own.qixO;refine Loc.bind (Loc.opnd _) λ_=>Loc.bind (Loc.opnd _) λ_=>Loc.bind (Loc.val _) λvi=>Loc.bind (Loc.rdE _) λ_=>?_;split
 ·exact Loc.ite (Loc.wrT _ _ _) Loc.fail
 exact Loc.fail
open Classical in
def zk7 {P:Program}  (hT:xW P tt)(h:Sim C S Fp [] st a w){o:Oper}{t sz r:Nat}{v:Value}  {x i:Operand}(ho:o.op=.indexAddr t x i)    (e0:qixO tt C.n o.dst t sz r v es x i st=some (u,R,U)):vB P C o a w (zi U st):=by
 unfold qixO at e0;have ⟨tx,_,hx,e1⟩:=bR (zF h) e0;have ⟨ti,_,hi,e2⟩:=bR (zF h) e1;have ⟨vi,_,qi,e3⟩:=bR (vA h hi) e2;have ⟨_,e4⟩:=bD e3;split at e4
 ·rename_i k j;have hq:=zlo e4;clear e4;have ⟨hc,e4⟩:=hq
  ·obtain⟨rfl,c2,c3,c4,c5,c6⟩:=hc;have hs:=h.pin r v (uh c2);have ⟨F,t4,p,c,ev,t2,t3,t5⟩:=zai h c3;have hxv:a.eval x=.slice p es.length c:=by rw[<-ev];exact zap hx c3 rfl
   have ⟨e',he,hsz⟩:=wB hT c4 w;have ⟨ei,_⟩:=zu.1 qi;rcases t5 with⟨rfl,_⟩|⟨b,off,arr,ty,l,rfl,k1,k2,k3,k4,rfl,k6⟩
   ·simp at c6
   have hrun:=Vo (P:=P) (b:=b) (o:=off) (n:=es.length) (c:=c) (k:=k) he hsz c5 c6;have ⟨Fp',hs'⟩:=xM h e4 (x:=.d (.atom (z95 sz v j))) (v:=z95 sz v j) (zu.2 ⟨rfl,zdQ⟩);refine zo ?_ hs';have hvv:v=.slice (some ⟨b,off,none⟩) es.length c:=by rw[<-hs,ev]
   rw[hvv];simp[execOp,ho,ei,hxv,hrun,z95,Addr.add_lit]
 cases e4
open Classical in
def qldO (tt:TT)(n:Fr)(dst:TD)(t sz r:Nat)(v:Value)(j:Int)(es:List A)(y:A)(x:Operand):SM Unit:=do
 let tx <-opnd x;let e <-rdE r
 if tx=.d (.atom (z95 sz v j))/\JB n.pin r=some v/\e.t=.own (.opq (z1L sz es).q)/\es[j.toNat]?=some y/\qX tt t y=true/\y.isD=true then wrT n dst (.d y) else zt
def znF (tt:TT)(n:Fr)(dst:TD)(t sz r:Nat)(v:Value)(j:Int)(es:List A)(y:A)(x:Operand):HM Unit:=y7 (opnd x) >>= λtx=>y7 (rdE r) >>= λe=>kG (tx=.d (.atom (z95 sz v j))/\JB n.pin r=some v/\e.t=.own (.opq (z1L sz es).q)/\es[j.toNat]?=some y/\qX tt t y=true/\y.isD=true) (y7 (wrT n dst (.d y)))
open Classical in
def zlU (tt:TT)(n:Fr)(dst:TD)(t sz r:Nat)(v:Value)(j:Int)(es:List A)(y:A)(x:Operand):Snd (qldO tt n dst t sz r v j es y x) (znF tt n dst t sz r v j es y x) :=
 zh (zk _) λtx=>zh (zk _) λe=>we (zk _)
open Classical in
def Loc.qldO (tt:TT)(n:Fr)(dst:TD)(t sz r:Nat)(v:Value)(j:Int)(es:List A)(y:A)(x:Operand):Loc (qldO tt n dst t sz r v j es y x):=by unfold Go.Own.qldO;exact Loc.bind (Loc.opnd _) λ_=>Loc.bind (Loc.rdE _) λ_=>Loc.ite (Loc.wrT _ _ _) Loc.fail
open Classical in
def zk5 (hT:xW P tt)(h:Sim C S Fp [] st a w){o:Oper}{t sz r:Nat}{v:Value}{j:Int}   {x:Operand}(ho:o.op=.load t x)    (e0:qldO tt C.n o.dst t sz r v j es y x st=some (u,R,U)):vB P C o a w (zi U st):=by
 unfold qldO at e0;have ⟨tx,_,hx,e1⟩:=bR (zF h) e0;have ⟨_,e4⟩:=bD e1;have hq:=zlo e4;clear e4;have ⟨hc,e4⟩:=hq
 ·obtain⟨rfl,c2,c3,c4,c5,c6⟩:=hc;have hs:=h.pin r v (uh c2);have ⟨F,t4,p,c,ev,t2,t3,t5⟩:=zai h c3;have hxv:a.eval x=z95 sz v j:=(zu.1 hx).1;have hlt:=(pf.1 c4).1;rcases t5 with⟨rfl,_⟩|⟨b,off,arr,ty,l,rfl,k1,k2,k3,k4,rfl,k6⟩
  ·simp at hlt
  have hvv:v=.slice (some ⟨b,off,none⟩) es.length c:=by rw[<-hs,ev]
  have ⟨d1,ci,d2,hl,hd1,hr⟩:=Vr k4 c4;have hd:d1.length=j.toNat*sz:=by rw[hd1,A.sizes_const (sz:=sz) (λz hz=>t4 z (gG hz)),pP];congr 1;omega
  have hsit:zc5 w.heap b (off+j.toNat*sz) ci:=by
   intro i u hi;have hi2:l[d1.length+i]?=some u:=by rw[hl,pK,pA (by omega),mP,pB (pf.1 hi).1];exact hi
   rw[<-k3,pQ]at hi2;split at hi2
   ·rw[mK]at hi2;simp[y9,k1];rw[<-hi2,mb,hd,Nat.add_assoc]
   cases hi2
  have hld:=ZO hT c5 (w:=w) (b:=b) (o:=off+j.toNat*sz) hr.len hsit;have ⟨Fp',hs'⟩:=xM h e4 (x:=.d y) (v:=zU y ci) (wW.repV ⟨ci,hr,rfl⟩);refine zo ?_ hs';have ex:a.eval x=.pointer (some ⟨b,off+j.toNat*sz,none⟩):=by rw[hxv,hvv];simp[z95,Addr.add_lit]
  simp[execOp,ho,ex,Instr.loadAt,Instr.sureAddr,hld]
def z31 {P:Program}{t ty e bty:TypeId}{i:TypeInfo}(ht:P.underlying t=some (.slice e))(hi:P.info? e=some i)(w:World)
  (g off n c:Nat) (cur:Array Value) (hg:w.heap[g]?=some (.cells cur bty (0,0)))
  (a:Addr) (m d:Nat) (news:TE) (hl:news.length=m*i.size) (hnews:∀j u,news[j]?=some u->w.cell? (a.add j)=some u) (h1:∀u∈news,u.oneCell'=true)
  (hroom:n+m<=c) (hfit:off+n*i.size+news.length<=cur.size) :
  (Builtin.append_ #[t,t] ty #[.slice (some ⟨g,off,none⟩) n c,.slice (some a) m d]).run P w=.ok (.slice (some ⟨g,off,none⟩) (n+m) c) (w.setRow g (VB cur (off+n*i.size) news)):=by
 have hf:=run_firstCells_some (P:=P) w i.size m a m d news hl hnews;have hst:=run_storeCells_at P g (off+n*i.size) bty news 0 cur w hg (by simpa using hfit) h1;simp only[mC]at hst;rw[uv hfit]at hst;simp[Builtin.append_,run_underlying ht,Go.sizeOf,typeInfo,hi,Builtin.lenOf,hroom,hf,Addr.add_lit,hst]
def z9o {P:Program}{t ty e:TypeId}{f:TypeInfo}{zv:Value}(ht:P.underlying t=some (.slice e))(hi:P.info? e=some f)(hz:f.zero=some zv)(hzs:zv.cells.size=f.size)
    {F:TC} (h:Sim C S Fp (F++[]) st a w) {es ys:List A} {v:Value} (hc:X6 f.size es S w.heap v F) (hFn:F.Nodup)
    {p:Option Addr} {d:Nat} {news:TE} (hr:yb S ys news) (hsz2:∀x∈ys,x.size=f.size) (hsrc:(ys=[]/\news=[])\/∃ad,p=some ad/\∀j u,news[j]?=some u->w.cell? (ad.add j)=some u)
    (hlim:es.length+ys.length<=lim) (hb:f.bytes<=4096) (hD:A.areD (es++ys)=true) :
    ∃v' w',(Builtin.append_ #[t,t] ty #[v,.slice p ys.length d]).run P w=.ok v' w'/\∃F',Sim C S Fp (F' ++ []) st a w'/\F'.Nodup/\X6 f.size (es++ys) S w'.heap v' F':=by
  have hc0:=hc;obtain⟨t4,q,c,rfl,t2,t3,t5⟩:=hc;have fin:∀{F':TC} {v':Value} {w':World} {cs:TE},zK S w'.heap (.osl f.size false (es++ys)) cs F'->v'=zU (.osl f.size false (es++ys)) cs->X6 f.size (es++ys) S w'.heap v' F':=by intro F' v' w' cs k1 k2;obtain⟨u,rfl,k3⟩:=zau hD k1;rw[k2];exact k3
  by_cases hy0:ys=[]
  · subst hy0;simp[yb]at hr;subst hr;exact⟨_,w,Xz ht hi q p es.length c d t2 w,F,h,hFn,by simpa using hc0⟩
  have hpos:0<ys.length:=mM.2 hy0;rcases hsrc with⟨hy,_⟩|⟨ad,rfl,hnews⟩
  · exact absurd hy hy0
  have hl2:news.length=ys.length*f.size:=by rw[hr.len,A.sizes_const hsz2]
  rcases t5 with⟨rfl,rfl,rfl,rfl⟩|⟨b,off,arr,bty,l,rfl,k1,k2,k3,k4,rfl,k6⟩
  · obtain⟨v',w',g1,F',g2,g3,cs,g4,g5⟩:=Y0 (ty:=ty) ht hi hz hzs h (es:=[]) (olds:=[]) (by simp[zQ]) (by simp) (hr.concs w.heap) (by simp) hsz2 (.inl ⟨rfl,rfl,rfl⟩) hnews (by simpa using hpos) hlim hb hpos;exact⟨v',w',g1,F',g2,g3,fin g4 g5⟩
  have hl1:l.length=es.length*f.size:=by rw[k4.len,A.sizes_const t4]
  by_cases hroom:es.length+ys.length<=c
  · have hm:=gH f.size hroom;rw[gW]at hm;have hfit:off+es.length*f.size+news.length<=arr.size:=by omega
    have hrun:=z31 (P:=P) (ty:=ty) ht hi w b off es.length c arr k1 ad ys.length d news hl2 hnews (λu hu=>hr.one u hu) hroom hfit;let w':=w.setRow b (VB arr (off+es.length*f.size) news);have hheap:∀k,k≠b->w'.heap[k]?=w.heap[k]?:=λk hk=>setRow_other w b k _ hk;have hheapb:w'.heap[b]?=some (.cells (VB arr (off+es.length*f.size) news) bty (0,0)):=setRow_heap w b arr _ bty (0,0) k1;have hbF:∀t',b∉Fp t':=λt'=>h.xd t' b (by simp);have hbase:C.M b:=h.xb b (by simp);refine⟨_,w',hrun,[b],?_,by simp,?_⟩
    · refine h.mem (h.below.trans ⟨rfl,rfl,rfl,pi _,by simp[w'],λk hk=>hheap k (λe=>hk (e ▸ hbase))⟩) (λ_ _ _ h=>h) ?_ h.sbase (λt' k hk=>⟨hheap k (by rintro rfl;exact hbF t' hk),(h.free t' k hk).2.1⟩) (by simp) (by simpa using h.xd) (by simpa using h.xb);intro b' o' v hs;rw[w9 (h:=w.heap) (h':=w'.heap) (hheap b' (by rintro rfl;rw[k6]at hs;cases hs))];exact h.still b' o' v hs
    refine⟨?_,_,c,by rw[pJ],by rw[pJ];exact hroom,t3,.inr ⟨b,off,VB arr (off+es.length*f.size) news,bty,l++news,rfl,hheapb,by simp[k2],?_,k4.append hr,rfl,k6⟩⟩
    · intro x hx;rcases pg.1 hx with h|h
      · exact t4 x h
      exact hsz2 x h
    apply gV;intro k;rw[pQ,mK,mb,qQ,pJ,gW];by_cases hk:k<es.length*f.size
    · rw[if_pos (by omega),if_neg (by omega),pB (by omega),<-k3,pQ,if_pos hk,mK,mb];cases arr[off+k]? <;> rfl
    by_cases hk2:k<es.length*f.size+ys.length*f.size
    · have ej:off+k - (off+es.length*f.size)=k - l.length:=by omega
      rw[if_pos hk2,if_pos (by omega),pA (by omega),ej,gP (show off+k<arr.size by omega),pe (show k - l.length<news.length by omega)];rfl
    rw[if_neg hk2,pM (by rw[pJ];omega)]
  have hold:∀j v,l[j]?=some v->w.cell? ((⟨b,off,none⟩:Addr).add j)=some v:=by
    intro j u hj;rw[Addr.add_lit,VV];simp[y9,k1];rw[<-k3,pQ]at hj;split at hj
    · rw[mK]at hj;simpa using hj
    cases hj
  have hsub:Sim C S Fp ([]++[]) st a w:=h.mem h.below (λ_ _ _ h=>h) h.still.cell h.sbase (λt' k hk=>⟨rfl,(h.free t' k hk).2.1⟩) (by simp) (λt' k hk=>by simp at hk) (λk hk=>by simp at hk);obtain⟨v',w',g1,F',g2,g3,cs,g4,g5⟩:=Y0 (ty:=ty) ht hi hz hzs hsub (k4.concs w.heap) (by simp) (hr.concs w.heap) t4 hsz2 (.inr ⟨⟨b,off,none⟩,rfl,hold⟩) (d:=d) (c:=c) hnews (by omega) hlim hb hpos;exact⟨v',w',g1,F',g2,g3,fin g4 g5⟩
def zhZ (tt:TT)(t sz:Nat):Bool:=match tt t with
 | some ⟨.slice e,_,_,_,_⟩=>match tt e with
  | some i=>i.size==sz&&decide (i.bytes<=4096)&&decide (0<i.size)&&i.zero.isSome
  | none=>false
 | _=>false
def areD_app {xs ys:List A}(h1:A.areD xs=true)(h2:A.areD ys=true):A.areD (xs++ys)=true:=by
 induction xs with
 | nil=>exact h2
 | cons x xs ih=>simp[A.areD,pE,gK]at h1 ⊢;exact⟨h1.1,ih h1.2⟩
open Classical in
def qapO (tt:TT)(n:Fr)(dst:TD)(t sz:Nat)(es:List A)(s x:Operand):SM Unit:=do
 let ts <-opnd s;let tx <-opnd x;let y <-peek tx;match y with
 | .osl s' _ ys=>if s'=sz/\A.areD ys=true/\zhZ tt t sz=true then(do
   let z <-take ts
   if z=.opq (z1L sz es).q/\es.length+ys.length<=lim/\A.areD es=true then wrT n dst (.own (.opq (z1L sz (es++ys)).q)) else zt) else zt
 | _=>zt
def znH (tt:TT)(n:Fr)(dst:TD)(t sz:Nat)(es es':List A)(s x:Operand):HM Unit:=y7 (opnd s) >>= λts=>y7 (opnd x) >>= λtx=>z32 tx >>= λy=>
 match y with
 | .osl s' _ ys=>kG (s'=sz/\A.areD ys=true/\zhZ tt t sz=true) (z6H ts >>= λz=>kG (z=.opq (z1L sz es).q/\es.length+ys.length<=lim/\A.areD es=true) (kG (es++ys=es') (y7 (wrT n dst (.own (.opq (z1L sz es').q))))))
 | _=>zL
open Classical in
def zlW (tt:TT)(n:Fr)(dst:TD)(t sz:Nat)(es es':List A)(s x:Operand):Snd (qapO tt n dst t sz es s x) (znH tt n dst t sz es es' s x):=by
 refine zh (zk _) λts=>zh (zk _) λtx=>zh (Ka _) λy=>?_;cases y with
 | osl s' tg ys=>exact we (zh (z3e _) λz=>we (KX λe=>by rw[e];exact zk _))
 | _=>exact zr _
open Classical in
def Loc.qapO (tt:TT)(n:Fr)(dst:TD)(t sz:Nat)(es:List A)(s x:Operand):Loc (qapO tt n dst t sz es s x):=by
 unfold Go.Own.qapO;refine Loc.bind (Loc.opnd _) λ_=>Loc.bind (Loc.opnd _) λ_=>Loc.bind (Loc.peek _) λy=>?_;split
 ·exact Loc.ite (Loc.bind (Loc.take _) λz=>Loc.ite (Loc.wrT _ _ _) Loc.fail) Loc.fail
 exact Loc.fail
open Classical in
def zk8 (hT:xW P tt)(h:Sim C S Fp [] st a w)  {t sz:Nat}  {s x:Operand}(ho:o.op=.call ⟨.builtin .append,⟨[s,x]⟩,⟨[t,t]⟩⟩)    (e0:qapO tt C.n o.dst t sz es s x st=some (u,R,U)):vB P C o a w (zi U st):=by
 unfold qapO at e0;have ⟨ts,_,hs,e1⟩:=bR (zF h) e0;have ⟨tx,_,hx,e2⟩:=bR (zF h) e1;have ⟨y,_,q,e3⟩:=bR (VA h hx) e2;cases y with
 | osl s' tg ys=>
  have hq:=zlo e3;clear e3;obtain⟨⟨rfl,c2,c3⟩,e3⟩:=hq;obtain⟨z,R7,U7,R8,U8,h7,e4,rfl,rfl⟩:=bind_some e3;have ⟨Fp',F,g1,g2⟩:=KT h hs h7;rw[zz];have hq:=zlo e4;clear e4;obtain⟨⟨rfl,d2,d3⟩,e4⟩:=hq;unfold zhZ at c3;cases ht:tt t with
  | none=>simp only[ht]at c3;cases c3
  | some it=>
   have ⟨kd,a1,a2,a3,a4⟩:=it;cases kd with
   | slice el=>
    simp only[ht]at c3;have hel:P.underlying t=some (.slice el):=(hT _ _ ht).kind;cases hi:tt el with
    | none=>simp only[hi]at c3;cases c3
    | some i=>
     simp only[hi,pE,beq_iff_eq,decide_eq_true_eq]at c3;obtain⟨⟨⟨rfl,k2⟩,k3⟩,k4⟩:=c3;have ⟨f,f1,f2,f3,f4⟩:=(hT _ _ hi).info;have ⟨z0,hz0⟩:=nJ.1 k4;have ⟨zv,v1,v2,v3⟩:=f4 z0 hz0;have hzs:zv.cells.size=f.size:=by have:=(v3 (λ_ _=>none) #[]).len;rw[v2,<-f2]at this;simpa using this
     have ⟨p,d,news,ev,r1,r2,r3⟩:=K6 h (.inr ⟨tg,rfl⟩) c2 q;have ⟨m1,m2⟩:=zfx g2;rw[<-f2]at m1 r2 e4;have ⟨v,w',hrun,F',n1,n2,n3⟩:=z9o (ty:=o.type) hel f1 v1 hzs g1 m1 m2 (p:=p) (d:=d) r1 r2 r3 d2 (by omega) (areD_app d3 c2);have ⟨Fp'',hs'⟩:=W9 n1 e4 (z8y n3) n2;refine zo ?_ hs';simp[execOp,ho,resolve,invoke,builtin,ev,hrun,zU]
   | _=>simp only[ht]at c3;cases c3
 | _=>cases e3
def drM (f:α->A)(l:List α)(k:Nat):(l.map f).drop k=(l.drop k).map f:=by rw[List.map_drop]
end
def xQs (hT:xW P tt)(d sz:Nat)(es es':List A):XH P :=
 xAt P (zlp d) (λn o b=>qslO tt n o.dst b.1 sz es b.2.1 b.2.2) (λn o b=>znD tt n o.dst b.1 sz es es' b.2.1 b.2.2)
  (by
   intro C S Fp st a w o b hp h u R U e;unfold zlp at hp;split at hp
   ·rename_i ho;cases z13 hp;exact zk1 hT h ho e
   cases hp)
  (λn o b=>Loc.qslO _ _ _ _ _ _ _ _) (λn o b=>zlS _ _ _ _ _ _ _ _ _)
open Classical in
def xQl (hT:xW P tt)(d t sz:Nat)(es:List A)(hty:ul tt t=true):XH P :=
 xAt P (zlq d t) (λn o x=>zlk n o.dst sz es x) (λn o x=>znE n o.dst sz es x)
  (by
   intro C S Fp st a w o x hp h u R U e;unfold zlq at hp;split at hp
   ·rename_i ho;replace hp:=z13 hp;split at hp
    ·rename_i ht;subst ht;cases hp;exact zk4 hT h hty ho e
    cases hp
   cases hp)
  (λn o x=>Loc.bind (Loc.opnd _) λ_=>Loc.bind (Loc.peek _) λ_=>Loc.ite (Loc.wrT _ _ _) Loc.fail) (λn o x=>zlT _ _ _ _ _)
def xQi (hT:xW P tt)(d sz r:Nat)(v:Value)(es:List A):XH P :=
 xAt P (zfJ d) (λn o b=>qixO tt n o.dst b.1 sz r v es b.2.1 b.2.2) (λn o b=>znG tt n o.dst b.1 sz r v es b.2.1 b.2.2)
  (by
   intro C S Fp st a w o b hp h u R U e;unfold zfJ at hp;split at hp
   ·rename_i ho;cases z13 hp;exact zk7 hT h ho e
   cases hp)
  (λn o b=>Loc.qixO _ _ _ _ _ _ _ _ _ _) (λn o b=>zlV _ _ _ _ _ _ _ _ _ _)
def znV (d:Nat)(o:Oper):Option (Nat×Operand):=match o.op with|.load t x=>if o.dst=some d then some (t,x) else none|_=>none
def xQd (hT:xW P tt)(d sz r:Nat)(v:Value)(j:Int)(es:List A)(y:A):XH P :=
 xAt P (znV d) (λn o b=>qldO tt n o.dst b.1 sz r v j es y b.2) (λn o b=>znF tt n o.dst b.1 sz r v j es y b.2)
  (by
   intro C S Fp st a w o b hp h u R U e;unfold znV at hp;split at hp
   ·rename_i ho;cases z13 hp;exact zk5 hT h ho e
   cases hp)
  (λn o b=>Loc.qldO _ _ _ _ _ _ _ _ _ _ _) (λn o b=>zlU _ _ _ _ _ _ _ _ _ _ _)
def xQa (hT:xW P tt)(d sz:Nat)(es es':List A):XH P :=
 xAt P (zls d) (λn o b=>qapO tt n o.dst b.1 sz es b.2.1 b.2.2) (λn o b=>znH tt n o.dst b.1 sz es es' b.2.1 b.2.2)
  (by
   intro C S Fp st a w o b hp h u R U e;unfold zls at hp;split at hp
   ·rename_i ho;replace hp:=z13 hp;split at hp
    ·rename_i ht;subst ht;cases hp;exact zk8 hT h ho e
    cases hp
   cases hp)
  (λn o b=>Loc.qapO _ _ _ _ _ _ _ _) (λn o b=>zlW _ _ _ _ _ _ _ _ _)
def zgA (i:TI):TI:=match i.zero with
 | some (.osl sz true [])=>{ i with zero:=some (.sl sz true []) }
 | _=>i
def ttS (tt:TT)(e:Nat):TT:=λt=>if t=e then(tt t).map zgA else tt t
def zdk {i:TI}(h:wH P t i):wH P t (zgA i):=by
 unfold zgA;split
 ·rename_i sz hz;have ⟨f,f1,f2,f3,f4⟩:=h.info;refine⟨⟨f,f1,f2,f3,?_⟩,h.kind,h.eqn⟩;intro z hz';cases hz';have ⟨zv,v1,v2,v3⟩:=f4 _ hz;refine⟨zv,v1,by simpa[A.size] using v2,λS hp=>?_⟩;have q:=v3 S hp;simp only[zK]at q ⊢;have ⟨p,c,e,h1,h2,h3,h4,h5⟩:=q;rcases h5 with⟨_,rfl,rfl,_⟩|⟨b,arr,ty,l,F',_,_,_,_,_,hF,_⟩
  ·refine⟨?_,trivial⟩;simp only[Rep];exact⟨none,0,e,by simp,by simp,by simp,.inl trivial⟩
  cases hF
 exact h
def ziA (hT:xW P tt)(e:Nat):xW P (ttS tt e):=by
 intro t i h;unfold ttS at h;split at h
 ·cases ht:tt t with
  | none=>rw[ht]at h;cases h
  | some j=>rw[ht]at h;cases h;exact zdk (hT _ _ ht)
 exact hT _ _ h
def znS (d:Nat)(o:Oper):Option (Nat×Operand×Operand):=match o.op with|.makeSlice t l c=>if o.dst=some d then some (t,l,c) else none|_=>none
def xMs (hT:xW P tt)(d e:Nat):XH P :=
 xAt P (znS d) (λn o b=>Xi (ttS tt e) n o.dst b.1 b.2.1 b.2.2) (λn o b=>z02 (ttS tt e) n o.dst b.1 b.2.1 b.2.2)
  (by
   intro C S Fp st a w o b hp h u R U q;unfold znS at hp;split at hp
   ·rename_i ho;cases z13 hp;exact z0q (ziA hT e) h ho q
   cases hp)
  (λn o b=>by have q:=Loc.stepO (ttS tt e) Jl n ⟨o.dst,.makeSlice b.1 b.2.1 b.2.2,0,default,default,none⟩;exact q) (λn o b=>z1C _ _ _ _ _ _)
def k8 (pv:Value):List PanicEntry:=[{ v:=pv,recovered:=false }]
def KE (P:Program)(k:Nat)(args:List A)(ls:List (Value×A))(pv:Value):Prop :=
 (∃fn,P.funcs[k]?=some fn/\(fn.name == "runtime.NumGoroutine")=false/\fn.body.isNone=false) /\
 ∀(S:zm) (w:World) (vs:TE) (F:TC),yS S w->YO (wW S) args vs->W8 S w.heap (ls.map (·.2)) (ls.map (·.1)) F->F.Nodup ->
  Calls P k vs.toArray w λe w'=>e=.panicked (k8 pv)/\∃S':zm,Xf (λk=>w.heap.size<=k\/k∈F) w w'/\(∀b o u,S b o=some u->S' b o=some u)/\(∀b o,b<w.heap.size->b∉F->S' b o=S b o)/\yS S' w'
def z7r (P:Program)(k:Nat)(args:List A)(ls:List (Value×A))(died:Bool)(pv:Value)(r:A)(ys:List A):Prop :=
 (died=false->uC P (.fn k []) args ls r ys)/\(died=true->KE P k args ls pv)
variable {m:Nat}
section
variable {C:Ctx}{S:zm}{Fp:Nat->TC}{X:TC}{st:St}{a:Act}{w:World}
def zaX {F:Fence}   {tmps:Array Value}{R:Ending->World->Prop}{u:FrameMode}(hu:u≠.run)(hres:∀w,Sim C S Fp [] st a w->LeavesIn F m P fn tmps R [] u w) :
  ∀(Ds:TC) (w:World),Sim C S Fp [] st a w->Ds.Nodup->(∀D∈Ds,C.M D/\w.heap[D]?=some (.deferred (some []))/\∀t,D∉Fp t)->LeavesInM F m P fn tmps R (Ds.map zhn) u w
 | [],w,h,_,_=>hres w h
 | D::Ds,w,h,hn,hd=>by rw[pR]at hn;have ⟨h1,h2,h3⟩:=hd D (by simp);refine⟨hu,.inl ⟨D,_,rfl,run_takeDeferred h2,zaX hu hres Ds _ (h.shutD h1 h2 (λi=>Ks h2) h3) hn.2 ?_⟩⟩;intro D' hD';have ⟨q1,q2,q3⟩:=hd D' (by simp[hD']);refine⟨q1,?_,q3⟩;rw[World.putObj_heap_other (by rintro rfl;exact hn.1 hD')];exact q2
theorem zbG {n:Fr}   {args:List A}{R:World->Ending->World->Prop}{S:zm}{w:World}{vs:TE}{F:TC}{ch:List PanicEntry}(hf:P.funcs[k]?=some fn)(hb:fn.body=some body)
  (hn:n.size=fn.ntmps) (hpin:∀i u,(i,u)∈n.pin->vs[i]?=some u) (ha:args.length<=fn.ntmps) (hS:yS S w) (hq:W8 S w.heap args vs F) (hF:F.Nodup)
  (h:AWP P n body (ini args) (λex _=>ex=.panic ch))
  (hQ:∀df S' Fp' st' a' w',Sim ⟨n,df,w,S,λk=>w.heap.size<=k\/k∈F⟩ S' Fp' [] st' a' w'->R w (.panicked ch) w'):Calls P k vs.toArray w (R w):=by
 refine(callsIn_wide (n:=0)).1 (callsIn_of_wp_marks hf hb trivial ?_ rfl);have ⟨Fp,hs⟩:=zb7 (n:=n) hpin hS hq hF (by rw[hn];exact ha);rw[hn]at hs;refine wpIn_mono (h none 0 [] w S _ S Fp _ w ⟨by simp,by simp,by simp⟩ hs) ?_;rintro ex a' w' ⟨df',st',S',Fp',h1,h2,rfl⟩;show LeavesInM Fence.wide 0 P fn a'.tmps (R w) a'.defers (.panicking ch) w';rw[h1.defers];exact zaX (u:=.panicking ch) (C:=⟨n,df',w,S,λk=>w.heap.size<=k\/k∈F⟩) (by simp) (λw2 hw2=>show R w (.panicked ch) w2 from hQ _ _ _ _ _ _ hw2) df' w' h1 h2.nodup λD hD=>⟨(h2.old D hD).elim (λq=>by simp at q) id,h2.ent D hD,h2.off D hD⟩
end
variable {pv:Value}
theorem z7c (is:TC){args xs:List A}{vals:TE}{pv:Value}(hf:P.funcs[k]?=some fn)(hnm:(fn.name == "runtime.NumGoroutine")=false)(hb:fn.body=some body)
  (ha:args.length<=fn.ntmps) (hn:is.Nodup) (hbase:is.map (λi=>args[i]?)=vals.map (λv=>some (.atom v))) (hl:xs.length=vals.length)
  (h:AWP P ⟨fn.ntmps,is.zip vals⟩ body (ini (Ub args is xs)) (λex _=>ex=.panic (k8 pv))):KE P k args (vals.zip xs) pv:=by
 refine⟨⟨fn,hf,hnm,by rw[hb];rfl⟩,?_⟩;intro S w vs F hS havs hls hF;rw[VE hl.symm,JE hl.symm]at hls;have ⟨F1,p1,p2,p3⟩:=z2g havs hn hbase hls;refine zbG (n:=⟨fn.ntmps,is.zip vals⟩) (R:=λw e w'=>e=.panicked (k8 pv)/\∃S':zm,Xf (λk=>w.heap.size<=k\/k∈F) w w'/\(∀b o u,S b o=some u->S' b o=some u)/\(∀b o,b<w.heap.size->b∉F->S' b o=S b o)/\yS S' w')
  hf hb rfl (λi u hi=>z6v p3 hi) (by rw[KW];exact ha) hS p1 (p2.nodup_iff.2 hF) h ?_
 intro df S' Fp' st' a' w' h1;refine⟨rfl,S',h1.below.mono (λk hk=>hk.imp id λq=>p2.mem_iff.1 q),λb o u hu=>h1.sinc _ _ _ hu,?_,h1.still⟩;intro b o hb' hbF;exact h1.sbase b o (by rintro(hq|hq) <;> first|omega|exact hbF (p2.mem_iff.1 hq))
def z4C {nt:Nat}(is:TC){args xs:List A}{vals:TE}{ys:List A}{died:Bool}{pv:Value}(hT:xW P tt)(hf:P.funcs[k]?=some fn)(hnm:(fn.name == "runtime.NumGoroutine")=false)(hb:fn.body=some body)
  (hn:nt=fn.ntmps) (hr:fn.results=#[]) (ha:args.length<=fn.ntmps) (hnd:is.Nodup) (hbase:is.map (λi=>args[i]?)=vals.map (λv=>some (.atom v))) (hl:xs.length=vals.length) (hy:is.length=ys.length)
  (h:∀E:Exit->St->Prop,(died=false->∀ex st,(ex=.normal\/ex=.ret)->(∀p∈is.zip ys,(st p.1).t=.own p.2)->E ex st)->(died=true->∀st,E (.panic (k8 pv)) st) ->
   AWP P ⟨nt,is.zip vals⟩ body (ofL (z9f 0 (Ub args is xs))) (Qf P ⟨nt,is.zip vals⟩ [] E)):z7r P k args (vals.zip xs) died pv (.tup []) ys:=by
 constructor
 ·intro hd;refine z0Z (nt:=nt) is hT hf hnm hb hn hr (by simpa using ha) hnd (by simpa using hbase) hl (λE hE=>?_) hy;have:=h E (λ_=>hE) (λhd'=>by rw[hd]at hd';cases hd');simpa using this
 intro hd;subst hn;refine z7c is hf hnm hb ha hnd hbase hl ?_;rw[z3v];exact h (λex _=>ex=.panic (k8 pv)) (λhd'=>by rw[hd]at hd';cases hd') (λ_ _=>rfl)
def zmI (tt:TT)(n:Fr)(f:Operand)(as_:List (Operand×Nat))(L:TC):SM (List A×List A×List (Value×A)):=do
 let fs <-refArgs tt n [(f,0)];let xs <-refArgs tt n as_;let ls <-lentsA n L
 pure (fs,xs,ls)
def zkV (tt:TT)(n:Fr)(f:Operand)(as_:List (Operand×Nat))(L:TC):HM (List A×List A×List (Value×A)) :=
 Y5 tt n [(f,0)] >>= λfs=>Y5 tt n as_ >>= λxs=>y7 (lentsA n L) >>= λls=>pure (fs,xs,ls)
def zm3 (tt:TT)(n:Fr)(f:Operand)(as_:List (Operand×Nat))(L:TC):Snd (zmI tt n f as_ L) (zkV tt n f as_ L) :=
 zh (kV _ _ _) λfs=>zh (kV _ _ _) λxs=>zh (zk _) λls=>w8 _
def zc7 (P:Program)(n:Fr)(o:Oper)(st:St)(ch:List PanicEntry):Prop :=
 ∀(C:Ctx) (S:zm) (Fp:Nat->TC) (a:Act) (w:World),C.n=n->Sim C S Fp [] st a w->∀(rd:TD) (m:Nat) (K:Act->World->Prop) (Q:Exit->Act->World->Prop),(∀S' Fp' st' w',Sim C S' Fp' [] st' a w'->Q (.panic ch) a w')->o.wpIn (fen rd) m P a w K Q
variable {ls:List (Value×A)}{tys:Array TypeId}{xs0:List A}
def zkU {P:Program}{tt:TT}{n:Fr}     (hd:KE P k xs0 ls pv){o:Oper}{f:Operand}{args:Array Operand}{tys:Array TypeId}{L:TC}{st:St}
  (ho:o.op=.call { callee:=.value f,args:=args,argTypes:=tys }) (hsz:args.size=tys.size) {xs:List A} {R:TC} {U:List (Nat×Ent)} (e:zmI tt n f (args.toList.zip tys.toList) L st=some (([.fn k []],xs,ls),R,U)) (hx:Qm xs xs0):zc7 P n o st (k8 pv):=by
 intro C S Fp a w hC h rd m K Q hQ;subst hC;unfold zmI at e;obtain⟨fs,R1,U1,R2,U2,e1,e2,rfl,rfl⟩:=bind_some e;have ⟨S1,Fp1,g1,g2,g3⟩:=qO h e1;obtain⟨xs',R3,U3,R4,U4,e3,e4,rfl,rfl⟩:=bind_some e2;have ⟨S2,Fp2,j1,j2,j3⟩:=qO g1 e3;obtain⟨ls',R5,U5,R6,U6,e5,e6,rfl,rfl⟩:=bind_some e4;have ⟨Fp3,F,k1,k2,k3⟩:=z27 j1 e5;obtain⟨q1,rfl,rfl⟩:=uA e6;simp only[Prod.mk.injEq]at q1;obtain⟨rfl,rfl,rfl⟩:=q1;have hmapargs:(args.toList.zip tys.toList).map (λp=>a.eval p.1)=(args.map a.eval).toList:=by
  have:(args.toList.zip tys.toList).map (λp=>a.eval p.1)=((args.toList.zip tys.toList).map (·.1)).map a.eval:=by rw[mw];rfl
  rw[this,rn (by simp[hsz])];simp
 rw[hmapargs]at j3;have hF:F.Nodup:=by simpa using k1.xn
 have ⟨⟨fn,h2,h3,h4⟩,hcall⟩:=hd;have h5:=hcall S2 w _ F j1.still (hx.all _ _ j3) k2 hF;have ⟨cs0,hfv,hval⟩:=g3.1;simp only[Rep]at hfv;obtain⟨us,r1,r2,rfl⟩:=hfv;have hus:us=[]:=by have q:=Kd r1 r2;cases us <;> first|rfl|exact q.elim
 subst hus;have h1:a.eval f=.func (.func k) #[] #[]:=hval;have hexec:(execOp a.eval o).run P w=.ok (.enter k (args.map a.eval).toList.toArray) w:=by have hc:=Qr (P:=P) h2 h3 h4 (args.map a.eval) w;simp only[execOp,ho,resolve,h1,Deferred.ofValue,Sem.run_bind,Sem.run_pure,Result.andThen_ok,invoke,ny,Array.append_empty];rw[hc]
 refine⟨λ_ _=>trivial,?_⟩;rw[Xy hexec (by simp),Oper.uponIn_enter];refine⟨λh=>(by cases h),CallsIn.mono (Qh h5 rd (m - 1)) ?_⟩;rintro e' w' ⟨rfl,S',b1,b2,b3,b4⟩;exact hQ _ _ _ _ (k1.lentCall (Y:=[]) b1 b2 b3 b4 (by simp) (by simp))
variable {ops:Array Oper}{ctr:Ctr}
def z7P {rd:TD}{m:Nat}    (hT:xW P tt)(hC:Zr P ctr)  {Q:Exit->Act->World->Prop}  (rest:List Oper):∀(l:List Oper) {st st':St} {S:zm} {Fp:Nat->TC} {a:Act} {w:World},Sim C S Fp [] st a w->zdD tt ctr C.n ops l st=some st' ->
  (∀S Fp a' w',Sim C S Fp [] st' a' w'->wpListIn (fen rd) m P ops Q rest a' w')->wpListIn (fen rd) m P ops Q (l++rest) a w
 | [],st,st',S,Fp,a,w,h,e,hQ=>by simp[zdD,Option.some.injEq]at e;subst e;exact hQ _ _ _ _ h
 | o::os,st,st',S,Fp,a,w,h,e,hQ=>by
  simp[zdD]at e;cases hs:stepG tt ctr C.n ops o st with
  | none=>simp[hs]at e
  | some q=>have ⟨u,R,U⟩:=q;simp[hs]at e;refine wpListIn_step λK hK=>?_;exact z4d hT hC h hs rd m K Q λS' Fp' a' w' h'=>hK _ _ (z7P hT hC rest os h' e hQ)
theorem AWP.regDie (hT:xW P tt)(hC:Zr P ctr){id:Nat}  {l1 l2:List Oper}  {ch:List PanicEntry}(hops:ops.toList=l1++o::l2)(hg:o.guard=none)(h1:zgG tt ctr n ops l1 st (λst1=>zc7 P n o st1 ch))(hQ:∀st',Q (.panic ch) st'):AWP P n (.region id ops false) st Q:=by intro rd m df w0 S0 M S Fp a w hc hs;have ⟨st1,h2,h3⟩:=z4g _ _ h1;refine wpIn_region_list ?_;rw[hops];refine z7P (C:=⟨n,df,w0,S0,M⟩) hT hC (o::l2) l1 hs h2 λS' Fp' a' w' h'=>?_;refine wpListIn_step λK hK=>?_;simp[Region.wanted,hg];exact h3 _ _ _ _ _ rfl h' rd m K _ λS2 Fp2 st2 w2 h2=>hc.fin h2 (hQ st2)
def regOf:Code->Option (Array Oper)
 | .region _ ops false=>some ops
 | .seq (.region _ ops false) _=>some ops
 | _=>none
def zfQ (o:Oper):Option (Operand×List (Operand×Nat)) :=
 match o.guard with
 | some _=>none
 | none=>
  match o.op with
  | .call ⟨.value f,args,tys⟩=>if args.size=tys.size then some (f,args.toList.zip tys.toList) else none
  | _=>none
def zmJ (X:XH P)(tt:TT)(ctr:Ctr)(n:Fr)(c:Code)(i:Nat)(L:TC)(st:St)(hs:List H):Option (List A×List A×List (Value×A)×List Prop) :=
 match regOf c with
 | none=>none
 | some ops=>
  match z90 X tt ctr n ops (ops.toList.take i) st hs with
  | none=>none
  | some (st1,hs1,ob,_)=>
   match ops.toList.drop i with
   | []=>none
   | o::_=>
    match zfQ o with
    | none=>none
    | some (f,as_)=>
     match zkV tt n f as_ L st1 hs1 with
     | none=>none
     | some ((fs,xs,ls),_,_,_,ob')=>some (fs,xs,ls,ob++ob')
def Qw {ch:List PanicEntry}  : ∀fs:List Fm,Q (.panic ch) st->Qf P n fs Q (.panic ch) st
 | [],h=>h
 | .seq _::fs,h=>Qw fs h
 | .blk _::fs,h=>Qw fs h
 | .pre _::fs,h=>Qw fs h
 | .rnd _ _::fs,h=>Qw fs h
theorem AWP.regOf {ch:List PanicEntry}(e:Own.regOf c=some ops)(h:∀id (Q:Exit->St->Prop),(∀st',Q (.panic ch) st')->AWP P n (.region id ops false) st Q)(hQ:∀st',Q (.panic ch) st'):AWP P n c st Q:=by
 unfold Own.regOf at e;split at e
 ·cases e;exact h _ _ hQ
 ·cases e;exact AWP.seq (h _ _ λst'=>hQ st')
 cases e
def yD6 {n:Fr}{Q:Exit->St->Prop}(X:XH P)(hT:xW P tt)(hC:Zr P ctr){c:Code}{fs:List Fm}{st:St}(i:Nat)(L:TC)     (hd:KE P k xs0 ls pv)(xs:List A)(hx:Qm xs xs0)(Lh:List HO)
  (e:zmJ X tt ctr n c i L st (hoH Lh)=some ([.fn k []],xs,ls,hoO Lh)) (hQ:∀st',Q (.panic (k8 pv)) st'):AWP P n c st (Qf P n fs Q):=by
 unfold zmJ at e;split at e
 ·cases e
 rename_i ops hr;split at e
 ·cases e
 rename_i st1 hs1 ob lg h1;split at e
 ·cases e
 rename_i o l2 h2;split at e
 ·cases e
 rename_i f as_ h3;split at e
 ·cases e
 rename_i fs' xs' ls' R U hs2 ob' h4;simp[Option.some.injEq,Prod.mk.injEq]at e;obtain⟨rfl,rfl,rfl,ho⟩:=e;have hall:z1b (hoO Lh):=by rw[z8n];exact z3m _
 rw[<-ho]at hall;have ⟨o1,o2⟩:=yw hall;refine AWP.regOf hr (ch:=k8 pv) (λid Q' hQ'=>?_) (λst'=>Qw fs (hQ st'));unfold zfQ at h3;split at h3
 ·cases h3
 rename_i hg;split at h3
 ·rename_i f0 args tys hop;split at h3
  ·rename_i hsz;cases h3;refine AWP.regDie hT (hC.withE X.ok) (l1:=ops.toList.take i) (l2:=l2) (o:=o) (by rw[<-h2,mB]) hg (z0V _ _ _ h1 o1 ?_) hQ';exact zkU hd hop hsz (zm3 tt n _ _ L _ _ _ _ _ _ _ h4 o2) hx
  cases h3
 cases h3
def nlQ (sz:Nat)(l:List A):Dpq:={
 holds:=λS v=>Rep S (.sl sz false l) [v]/\(l=[]->v=.slice none 0 0)
 one:=λh=>h.1.one _ (pH.2 rfl)
 mono:=λk h=>⟨h.1.mono k,h.2⟩ }
variable {l:List A}
def zaD:(nlQ sz l).holds S v↔(Rep S (.sl sz false l) [v]/\(l=[]->v=.slice none 0 0)):=Iff.rfl
section
variable {α:Type}
def eNl (sz:Nat)(f:α->A)(l:List α):A:=.dop (nlQ sz (l.map f))
instance (sz:Nat)(f:α->A):Jd (eNl sz f):=⟨λ_=>rfl⟩
instance (sz:Nat)(f:α->A):KF (eNl sz f) (eNl sz f):=⟨λ_=>rfl,λ_=>rfl⟩
instance (sz:Nat)(f:α->A):zio (eNl sz f) 1:=⟨λ_=>rfl⟩
def Vs {q:Dpq}  : Rep S (.dop q) cs↔∃v,cs=[v]/\q.holds S v:=by simp[Rep]
instance (sz:Nat)(f:α->A)(l:List α):LeA (eNl sz f l) (eSl sz false f l):={
 rep:=by intro S cs h;obtain⟨v,rfl,h1,_⟩:=Vs.1 h;exact h1
 conc:=by
  intro S h cs F q;have q':Rep S (.dop (nlQ sz (l.map f))) cs/\F=[]:=by simpa only[eNl,zK] using q
  obtain⟨v,rfl,h1,_⟩:=Vs.1 q'.1;have:Rep S (.sl sz false (l.map f)) [v]/\F=[]:=⟨h1,q'.2⟩;simpa only[eSl,zK] using this
 val:=λcs=>rfl
 tup:=λfs h=>nomatch h }
def zjI {t:Bool}   (hl:l≠[])(h:Rep S (.sl sz t l) [v]):Rep S (.dop (nlQ sz l)) [v]:=by refine Vs.2 ⟨v,rfl,?_,λe=>(hl e).elim⟩;simp only[Rep]at h ⊢;have ⟨p,c,e,h1,h2,h3⟩:=h;exact⟨p,c,e,(λh=>by cases h),h2,h3⟩
theorem LeA.slNl (sz:Nat)(t:Bool)(f:α->A){l:List α}(hl:l≠[]):LeA (eSl sz t f l) (eNl sz f l):={
 rep:=by
  intro S cs h;have h':Rep S (.sl sz t (l.map f)) cs:=h;have:∃v,cs=[v]:=by simp[Rep]at h';have ⟨p,c,e,_⟩:=h';exact⟨_,e⟩
  obtain⟨v,rfl⟩:=this;exact zjI (by simpa using hl) h'
 conc:=by
  intro S h cs F q;have q':Rep S (.sl sz t (l.map f)) cs/\F=[]:=by simpa only[eSl,zK] using q
  have:∃v,cs=[v]:=by have h':=q'.1;simp[Rep]at h';have ⟨p,c,e,_⟩:=h';exact⟨_,e⟩
  obtain⟨v,rfl⟩:=this;have:Rep S (.dop (nlQ sz (l.map f))) [v]/\F=[]:=⟨zjI (by simpa using hl) q'.1,q'.2⟩;simpa only[eNl,zK] using this
 val:=λcs=>rfl
 tup:=λfs h=>nomatch h }
def zh4 (S:zm)(sz:Nat):Rep S (.sl sz false []) [.slice none 0 0]:=by simp only[Rep];exact⟨none,0,rfl,(λh=>by cases h),pi _,(by simp),.inl trivial⟩
end
def z4l {q:Dpq}  : xg S (.dop q) v↔q.holds S v:=by
 constructor
 ·intro h;simp[xg]at h;have ⟨cs,r1,r2⟩:=h;obtain⟨u,rfl,g⟩:=Vs.1 r1;have e:v=u:=r2;rw[e];exact g
 intro h;exact wW.repV ⟨[v],Vs.2 ⟨v,rfl,h⟩,rfl⟩
open Classical in
def nlqO (n:Fr)(dst:TD)(sz:Nat)(l:List A)(b:Bool)(x y:Operand):SM Unit:=do
 let tx <-opnd x;let ty <-opnd y
 if tx=.d (.dop (nlQ sz l))/\ty=.d (.atom (.slice none 0 0)) then wrT n dst (.d (.atom (.bool b))) else zt
def znK (n:Fr)(dst:TD)(sz:Nat)(l:List A)(b:Bool)(x y:Operand):HM Unit:=y7 (opnd x) >>= λtx=>y7 (opnd y) >>= λty=>kG (tx=.d (.dop (nlQ sz l))/\ty=.d (.atom (.slice none 0 0))) (y7 (wrT n dst (.d (.atom (.bool b)))))
open Classical in
def zlY (n:Fr)(dst:TD)(sz:Nat)(l:List A)(b:Bool)(x y:Operand):Snd (nlqO n dst sz l b x y) (znK n dst sz l b x y):=zh (zk _) λ_=>zh (zk _) λ_=>we (zk _)
open Classical in
def Loc.nlqO (n:Fr)(dst:TD)(sz:Nat)(l:List A)(b:Bool)(x y:Operand):Loc (nlqO n dst sz l b x y):=by unfold Go.Own.nlqO;exact Loc.bind (Loc.opnd _) λ_=>Loc.bind (Loc.opnd _) λ_=>Loc.ite (Loc.wrT _ _ _) Loc.fail
def zkg (h:(nlQ sz l).holds S v):zcc v=some l.isEmpty:=by
 have ⟨h1,h2⟩:=zaD.1 h;cases l with
 | nil=>rw[h2 rfl];rfl
 | cons a l=>
  simp only[Rep]at h1;have ⟨p,c,e,_,_,_,h3⟩:=h1;rcases h3 with h3|⟨b,o,l',rfl,_⟩
  ·cases h3
  cases e;rfl
def zki (hT:xW P tt)  (hty:ul tt t=true)   (hv:zcc v=some b)(w:World):(Op.equal t v (.slice none 0 0)).run P w=.ok b w:=by
 have ⟨el,hel⟩:=ZU hT hty;unfold Op.equal Op.maxDepth;show(Op.equalIn (9999+1) t v _).run P w=_;generalize 9999=q;unfold Op.equalIn;simp[Sem.run_bind,run_underlying hel,Result.andThen_ok];cases v with
 | slice p l c=>cases p <;> (simp[zcc,Option.some.injEq]at hv;subst hv;simp)
 | _=>cases hv
def zfC (hT:xW P tt)       (h:Sim C S Fp [] st a w){o:Oper}{t yt sz:Nat}  {neg b:Bool}{x y:Operand}(hty:ul tt t=true)(hb:b=(neg ^^ l.isEmpty))
  (ho:o.op=.binOp (if neg then .neq else .eql) t x y yt) {u:Unit} {R:TC} {U:List (Nat×Ent)} (e0:nlqO C.n o.dst sz l b x y st=some (u,R,U)):vB P C o a w (zi U st):=by
 unfold nlqO at e0;have ⟨tx,_,hx,e1⟩:=bR (zF h) e0;have ⟨ty,_,hy,e2⟩:=bR (zF h) e1;split at e2
 ·rename_i hc;obtain⟨rfl,rfl⟩:=hc;have ey:=(zu.1 hy).1;have hv:=zkg (z4l.1 (show xg S (.dop (nlQ sz l)) (a.eval x) from hx));have heq:=zki hT hty hv w;have ⟨Fp',hs⟩:=xM h e2 (x:=.d (.atom (.bool b))) (zu.2 ⟨rfl,rfl⟩);refine zo ?_ hs;subst hb;cases hvx:a.eval x with
  | slice p n c=>
   rw[hvx]at hv heq;cases neg with
   | _=>simp[execOp,ho,hvx,ey,eqGuard,Go.binOp,heq]
  | _=>rw[hvx]at hv;cases hv
 cases e2
def zkE (neg:Bool)(d t:Nat)(o:Oper):Option (Operand×Operand):=match o.op with|.binOp .eql t' x y _=>if neg=false/\o.dst=some d then(if t'=t then some (x,y) else none) else none|.binOp .neq t' x y _=>if neg=true/\o.dst=some d then(if t'=t then some (x,y) else none) else none|_=>none
def zit (hT:xW P tt)(d t sz:Nat)(l:List A)(neg b:Bool)(hty:ul tt t=true)(hb:b=(neg ^^ l.isEmpty)):XH P :=
 xAt P (zkE neg d t) (λn o q=>nlqO n o.dst sz l b q.1 q.2) (λn o q=>znK n o.dst sz l b q.1 q.2)
  (by
   intro C S Fp st a w o q hp h u R U e;unfold zkE at hp;split at hp
   ·rename_i ho;split at hp
    ·rename_i hc;obtain⟨rfl,_⟩:=hc;split at hp
     ·rename_i ht;subst ht;cases hp;exact zfC hT h hty hb (by simpa using ho) e
     cases hp
    cases hp
   ·rename_i ho;split at hp
    ·rename_i hc;obtain⟨rfl,_⟩:=hc;split at hp
     ·rename_i ht;subst ht;cases hp;exact zfC hT h hty hb (by simpa using ho) e
     cases hp
    cases hp
   cases hp)
  (λn o q=>Loc.nlqO _ _ _ _ _ _ _) (λn o q=>zlY _ _ _ _ _ _ _)
open Classical in
def reO (n:Fr)(dst:TD)(y0 y1:A)(x:Operand):SM Unit:=do
 let tx <-opnd x
 if tx=.d y0 then wrT n dst (.d y1) else zt
def reH (n:Fr)(dst:TD)(y0 y1:A)(x:Operand):HM Unit:=y7 (opnd x) >>= λtx=>kG (tx=.d y0) (y7 (wrT n dst (.d y1)))
open Classical in
def zoD (n:Fr)(dst:TD)(y0 y1:A)(x:Operand):Snd (reO n dst y0 y1 x) (reH n dst y0 y1 x):=zh (zk _) λ_=>we (zk _)
open Classical in
def Loc.reO (n:Fr)(dst:TD)(y0 y1:A)(x:Operand):Loc (reO n dst y0 y1 x):=by unfold Go.Own.reO;exact Loc.bind (Loc.opnd _) λ_=>Loc.ite (Loc.wrT _ _ _) Loc.fail
def znP (d:Nat)(o:Oper):Option Operand:=match o.op with|.assign x=>if o.dst=some d then some x else none|.move x=>if o.dst=some d then some x else none|_=>none
variable {y0 y1:A}
def zk0 (h:Sim C S Fp [] st a w)   (hl:∀S v,xg S y0 v->xg S y1 v){x:Operand}(ho:o.op=.assign x\/o.op=.move x)    (e0:reO C.n o.dst y0 y1 x st=some (u,R,U)):vB P C o a w (zi U st):=by
 unfold reO at e0;have ⟨tx,_,hx,e1⟩:=bR (zF h) e0;split at e1
 ·rename_i hc;subst hc;have hx':xg S y0 (a.eval x):=hx;have ⟨Fp',hs⟩:=xM h e1 (x:=.d y1) (v:=a.eval x) (hl _ _ hx');rcases ho with ho|ho
  ·exact zo (by simp[execOp,ho]) hs
  exact zo (by simp[execOp,ho]) hs
 cases e1
def xRe (P:Program)(d:Nat)(y0 y1:A)(hl:∀S v,xg S y0 v->xg S y1 v):XH P :=
 xAt P (znP d) (λn o x=>reO n o.dst y0 y1 x) (λn o x=>reH n o.dst y0 y1 x)
  (by
   intro C S Fp st a w o x hp h u R U e;unfold znP at hp;split at hp
   ·rename_i ho;cases z13 hp;exact zk0 h hl (.inl ho) e
   ·rename_i ho;cases z13 hp;exact zk0 h hl (.inr ho) e
   cases hp)
  (λn o x=>Loc.reO _ _ _ _ _) (λn o x=>zoD _ _ _ _ _)
def zfw (sz:Nat)(S:zm)(v:Value)(h:xg S (.atom (.slice none 0 0)) v):xg S (.dop (nlQ sz [])) v:=by rw[(zu.1 h).1];exact z4l.2 ⟨zh4 S sz,λ_=>rfl⟩
def Sim.retagD (h:Sim C S Fp [] st a w)(k:Nat)(x y:A)(hx:(st k).t=.d x)(hl:LeA x y):Sim C S Fp [] (upd st k ⟨.d y,(st k).er+1,(st k).ec+1⟩) a w:=by
 refine { size:=h.size,pin:=h.pin,defers:=h.defers,below:=h.below,mine:=h.mine,still:=h.still,sinc:=h.sinc,sbase:=h.sbase,ent:=?_,disj:=h.disj,base:=h.base,xn:=h.xn,xd:=h.xd,xb:=h.xb };intro t;have q:=h.ent t;by_cases ht:t=k
 ·subst ht;rw[v7];unfold xm at q ⊢;simp[hx]at q ⊢;exact⟨hl.repV q.1,q.2⟩
 rw[Xo _ _ ht];unfold xm at q ⊢;have als:∀{r p er' ec' v},kJ w.heap st (Act.tv a) r p er' ec' v->kJ w.heap (upd st k ⟨.d y,(st k).er+1,(st k).ec+1⟩) (Act.tv a) r p er' ec' v:=by
  intro r p er' ec' v q;by_cases hr:r=k
  ·subst hr;have ⟨q1,q2,q3⟩:=q;unfold kJ;rw[v7];refine⟨mO q1,mO q2,?_⟩;simp only;intro e1;omega
  unfold kJ;rw[Xo _ _ hr];exact q
 have ptr:∀{r p er' ec' v},jO w.heap st (Act.tv a) r p er' ec' v->jO w.heap (upd st k ⟨.d y,(st k).er+1,(st k).ec+1⟩) (Act.tv a) r p er' ec' v:=by
  intro r p er' ec' v q;by_cases hr:r=k
  ·subst hr;have ⟨q1,q2,q3⟩:=q;unfold jO;rw[v7];refine⟨mO q1,mO q2,?_⟩;trivial
  unfold jO;rw[Xo _ _ hr];exact q
 cases hz:(st t).t with
 | als r p er' ec'=>simp[hz]at q ⊢;exact⟨q.1,als q.2⟩
 | ptr r p er' ec'=>simp[hz]at q ⊢;exact⟨q.1,ptr q.2⟩
 | _=>simp[hz]at q ⊢;exact q
def vB.retagD {st1:St}(hg:vB P C o a w st1)(k:Nat)(x y:A)(hx:(st1 k).t=.d x)(hl:LeA x y):vB P C o a w (upd st1 k ⟨.d y,(st1 k).er+1,(st1 k).ec+1⟩) :=
 λr m K Q hk=>hg r m K Q λS Fp a' w' hs=>hk S Fp a' w' (hs.retagD k x y hx hl)
open Classical in
def lsO (tt:TT)(n:Fr)(dst:TD)(d:Nat)(y0 y1:A)(t:Nat)(x:Operand):SM Unit :=
 zeb tt n dst t x >>= λ_=>rdE d >>= λe=>if e.t=.d y0 then wrE d ⟨.d y1,e.er+1,e.ec+1⟩ else zt
def lsH (tt:TT)(n:Fr)(dst:TD)(d:Nat)(y0 y1:A)(t:Nat)(x:Operand):HM Unit :=
 (y7 (opnd x) >>= λy=>zaS tt n dst t y) >>= λ_=>y7 (rdE d) >>= λe=>kG (e.t=.d y0) (y7 (wrE d ⟨.d y1,e.er+1,e.ec+1⟩))
open Classical in
def zoJ (tt:TT)(n:Fr)(dst:TD)(d:Nat)(y0 y1:A)(t:Nat)(x:Operand):Snd (lsO tt n dst d y0 y1 t x) (lsH tt n dst d y0 y1 t x) :=
 zh (zh (zk _) λy=>z9Z _ _ _ _ _) λ_=>zh (zk _) λ_=>we (zk _)
open Classical in
def Loc.lsO (tt:TT)(n:Fr)(dst:TD)(d:Nat)(y0 y1:A)(t:Nat)(x:Operand):Loc (lsO tt n dst d y0 y1 t x):=by unfold Go.Own.lsO;exact Loc.bind (by have q:=Loc.stepO tt Jl n ⟨dst,.load t x,0,default,default,none⟩;exact q) λ_=>Loc.bind (Loc.rdE _) λ_=>Loc.ite (Loc.wrE _ _) Loc.fail
def zmk (hT:xW P tt)       (h:Sim C S Fp [] st a w)  {d t:Nat}  (hl:LeA y0 y1)  (ho:o.op=.load t x)    (e0:lsO tt C.n o.dst d y0 y1 t x st=some (u,R,U)):vB P C o a w (zi U st):=by
 unfold lsO at e0;obtain⟨y,R1,U1,R2,U2,h1,e1,rfl,rfl⟩:=bind_some e0;have g:=zaR hT h ho h1;rw[zz];generalize zi U1 st=s1 at g e1 ⊢;have ⟨_,e4⟩:=bD e1;split at e4
 ·rename_i hc;cases e4;exact g.retagD d y0 y1 hc hl
 cases e4
def znT (d:Nat)(o:Oper):Option (Nat×Operand):=match o.op with|.load t x=>if o.dst=some d then some (t,x) else none|_=>none
def xLs (hT:xW P tt)(d:Nat)(y0 y1:A)(hl:LeA y0 y1):XH P :=
 xAt P (znT d) (λn o b=>lsO tt n o.dst d y0 y1 b.1 b.2) (λn o b=>lsH tt n o.dst d y0 y1 b.1 b.2)
  (by
   intro C S Fp st a w o b hp h u R U e;unfold znT at hp;split at hp
   ·rename_i ho;cases z13 hp;exact zmk hT h hl ho e
   cases hp)
  (λn o b=>Loc.lsO _ _ _ _ _ _ _ _) (λn o b=>zoJ _ _ _ _ _ _ _ _)
def nlB (neg:Bool)(f:α->A)(l:List α):(bif neg then !l.isEmpty else l.isEmpty)=(neg ^^ (l.map f).isEmpty):=by cases neg <;> cases l <;> rfl
section
variable {P:Program}
def Vm {b:Frame}{k:List Item}{cs:List Frame}  : step P (lone (b.atR a (.code (.scope c)::k)) cs w)=.next (lone (b.atR a (.code c :: .inScope c::k)) cs w) :=
 step_lone_go (by simp[Go.stepG,Go.stepG.exec,Frame.atR])
def z4b {b:Frame}{k:List Item}{cs:List Frame}  : step P (lone (b.atR a (.inScope c::k)) cs w)=.next (lone (b.atR a k) cs w) :=
 step_lone_go (by simp[Go.stepG,Go.stepG.exec,Frame.atR])
theorem z8P {F:Fence}{n:Nat}{Q:Exit->Act->World->Prop}    (hQ:∀l a w,¬Q (.goto l) a w)(h:c.wpIn F n P Q a w):(Code.scope c).wpIn F n P Q a w:=by
 intro b k cs hro hb hr;have h0:(lone (b.atR a (.code (.scope c)::k)) cs w).fenced P F:=fenced_calm hb hr rfl;have ⟨e,a₁,w₁,hq,harr⟩:=h b (.inScope c::k) cs hro hb hr;cases e with
 | normal=>exact⟨.normal,a₁,w₁,hq,.head h0 Vm (StepsIn.trans harr (.one (fenced_calm hb hr rfl) z4b))⟩
 | exit id=>
  have hx:exitTo id (.inScope c::k)=exitTo id k:=by simp[exitTo]
  exact⟨.exit id,a₁,w₁,hq,λk' hk=>.head h0 Vm (harr.1 k' (by rw[hx];exact hk)),
   λhr' hk=>let ⟨k₁,h1,h2⟩:=harr.2 hr' (by rw[hx];exact hk);⟨k₁,h1,.head h0 Vm h2⟩⟩
 | goto l=>exact(hQ l _ _ hq).elim
 | _=>exact⟨_,a₁,w₁,hq,.of_steps (.one h0 Vm) harr⟩
variable {n:Fr}
def AWP.scope (hQ:∀l st,¬Q (.goto l) st)(h:AWP P n c st Q):AWP P n (.scope c) st Q:=by intro rd m df w0 S0 M S Fp a w hc hs;refine z8P ?_ (h rd m df w0 S0 M S Fp a w hc hs);rintro l a' w' ⟨df',st1,S1,Fp1,h1,h2,h3⟩;exact hQ l _ h3
def zaj (hQ:∀l st,¬Q (.goto l) st):∀(fs:List Fm) (l:Nat) (st:St),¬Qf P n fs Q (.goto l) st
 | [],l,st,h=>hQ l st h
 | .seq _::fs,l,st,h=>zaj hQ fs l st h
 | .blk _::fs,l,st,h=>zaj hQ fs l st h
 | .pre _::fs,l,st,h=>zaj hQ fs l st h
 | .rnd _ _::fs,l,st,h=>zaj hQ fs l st h
def zeV {c c':Code}  (e:c=.scope c')(hQ:∀l st,¬Q (.goto l) st)(h:AWP P n c' st (Qf P n fs Q)):AWP P n c st (Qf P n fs Q):=by subst e;exact AWP.scope (zaj hQ fs) h
def zaV {nt t:Nat}(is:TC){args caps xs:List A}{vals:TE}{r:A}{ys:List A}(hT:xW P tt)(hf:P.funcs[k]?=some fn)(hnm:(fn.name == "runtime.NumGoroutine")=false)(hb:fn.body=some body)
  (hn:nt=fn.ntmps) (hr:fn.results=#[.tmp t]) (ha:(args++caps).length<=fn.ntmps) (hnd:is.Nodup) (hbase:is.map (λi=>(args++caps)[i]?)=vals.map (λv=>some (.atom v))) (hl:xs.length=vals.length) (hrd:r.isD=true) (hrn:Wi tt 0 r=r)
  (h:∀E:Exit->St->Prop,(∀l st,¬E (.goto l) st)->(∀ex st,(ex=.normal\/ex=.ret)->(∀p∈is.zip ys,(st p.1).t=.own p.2)->(st t).t=.d r->E ex st) ->
   AWP P ⟨nt,is.zip vals⟩ body (ofL (z9f 0 (Ub (args++caps) is xs))) (Qf P ⟨nt,is.zip vals⟩ [] E)) (hy:is.length=ys.length):uC P (.fn k caps) args (vals.zip xs) r ys :=
 z8d is hT hf hnm hb hn hr ha hnd hbase hl hrd hrn (λE hE=>AWP.mono (h (λex st=>(∀l,ex≠.goto l)/\E ex st) (λl st q=>q.1 l rfl) λex st hx hp hq=>⟨λl e=>(by rcases hx with rfl|rfl <;> cases e),hE ex st hx hp hq⟩) λex st q=>q.2) hy
end
def LeP (xs ys:List A):Prop:=∀S vs,YO (wW S) xs vs->YO (wW S) ys vs
open Classical in
def lentI (tt:TT)(n:Fr)(dst:TD)(f:Operand)(aL:List (Operand×Nat))(x:Operand)(aR:List (Operand×Nat))(s:Nat)(fa:A)(xl xr:List A)(z z' r:A):SM Unit:=do
 let fs <-refArgs tt n [(f,0)];let xs <-refArgs tt n aL;let zs <-refArgs tt n aR;let tx <-opnd x;let e <-rdE s
 if fs=[fa]/\LeP xs xl/\LeP zs xr/\tx=.als s [.deref] e.er e.ec/\e.t=.own (.box z) then
  (wrE s ⟨.own (.box (.dead 1)),e.er,e.ec+1⟩ >>= λ_=>wrE s ⟨.own (.box z'),e.er,e.ec+2⟩ >>= λ_=>wrT n dst (mkT r))
 else zt
def zfI (tt:TT)(n:Fr)(dst:TD)(f:Operand)(aL:List (Operand×Nat))(x:Operand)(aR:List (Operand×Nat))(s:Nat)(fa:A)(xl xr:List A)(z z' r:A):HM Unit :=
 Y5 tt n [(f,0)] >>= λfs=>Y5 tt n aL >>= λxs=>Y5 tt n aR >>= λzs=>y7 (opnd x) >>= λtx=>y7 (rdE s) >>= λe=>
 kG (fs=[fa]/\LeP xs xl/\LeP zs xr/\tx=.als s [.deref] e.er e.ec/\e.t=.own (.box z)) (y7 (wrE s ⟨.own (.box (.dead 1)),e.er,e.ec+1⟩ >>= λ_=>wrE s ⟨.own (.box z'),e.er,e.ec+2⟩ >>= λ_=>wrT n dst (mkT r)))
open Classical in
def zgO (tt:TT)(n:Fr)(dst:TD)(f:Operand)(aL:List (Operand×Nat))(x:Operand)(aR:List (Operand×Nat))(s:Nat)(fa:A)(xl xr:List A)(z z' r:A):Snd (lentI tt n dst f aL x aR s fa xl xr z z' r) (zfI tt n dst f aL x aR s fa xl xr z z' r) :=
 zh (kV _ _ _) λ_=>zh (kV _ _ _) λ_=>zh (kV _ _ _) λ_=>zh (zk _) λ_=>zh (zk _) λ_=>we (zk _)
open Classical in
def Loc.lentI (tt:TT)(n:Fr)(dst:TD)(f:Operand)(aL:List (Operand×Nat))(x:Operand)(aR:List (Operand×Nat))(s:Nat)(fa:A)(xl xr:List A)(z z' r:A):Loc (lentI tt n dst f aL x aR s fa xl xr z z' r):=by unfold Go.Own.lentI;exact Loc.bind (Loc.refArgs _ _ _) λ_=>Loc.bind (Loc.refArgs _ _ _) λ_=>Loc.bind (Loc.refArgs _ _ _) λ_=>Loc.bind (Loc.opnd _) λ_=>Loc.bind (Loc.rdE _) λ_=>Loc.ite (Loc.bind (Loc.wrE _ _) λ_=>Loc.bind (Loc.wrE _ _) λ_=>Loc.wrT _ _ _) Loc.fail
variable {xl xr:List A}{fa z z' r:A}
section
variable {C:Ctx}{S:zm}{Fp:Nat->TC}{st:St}{a:Act}{w:World}
def zax {z:A}(h:z4Y z=true):z.size=1:=by cases z <;> simp_all [z4Y,A.size]
def zbW {s er ec:Nat}{z:A}{v:Value}{b:Nat}{ty:TypeId}{l:TE}(ht:(st s).t=.own (.box z))(h1:(st s).er=er)(h2:(st s).ec=ec)(hz:z4Y z=true)(hv:Act.tv a s=.pointer (some ⟨b,0,none⟩))(hb:w.heap[b]?=some (.cells l.toArray ty (0,0)))(hl:l=[zU z l])
  (h:kJ w.heap st (Act.tv a) s [.deref] er ec v):v=zU z l:=by
 have ⟨_,_,hm⟩:=h;simp only[ht]at hm;rcases hm h1 (.inr h2) with⟨q,_⟩|⟨_,y2,b2,o2,cs2,k1,k2,k3,k4,k5⟩
 ·cases q
 simp only[wj,Option.some.injEq]at k1;subst k1;rw[hv]at k2;simp only[wz,z0s,Option.some.injEq,Prod.mk.injEq]at k2;obtain⟨rfl,rfl⟩:=k2;have hs:z.size=1:=zax hz;rw[hs]at k3;match cs2,k3 with
 | [u],_=>
  have hu:=k4 0 u rfl;unfold y9 at hu;rw[hb]at hu;have h0:l.toArray[0+0]?=some (zU z l):=by rw[nT];exact congrArg (λq:TE=>q[0]?) hl
  have hu':l.toArray[0+0]?=some u:=hu;rw[h0]at hu';cases hu';rw[k5];exact(congrArg (zU z) hl).symm
def zei {P:Program}{tt:TT}(h:Sim C S Fp [] st a w){op:Oper}{f x:Operand}{args:Array Operand}{tys:Array TypeId}{aL aR:List (Operand×Nat)}{tx0 s:Nat}{fa z z' r:A}{xl xr:List A}(hz:z4Y z=true)(hz':z4Y z'=true)
  (hl:∀v,uC P fa (xl ++ .atom v::xr) [(v,z)] r [z'])
  (ho:op.op=.call { callee:=.value f,args:=args,argTypes:=tys }) (hsz:args.size=tys.size) (hargs:args.toList.zip tys.toList=aL++(x,tx0)::aR) {u:Unit} {R:TC} {U:List (Nat×Ent)}
  (e:lentI tt C.n op.dst f aL x aR s fa xl xr z z' r st=some (u,R,U)):vB P C op a w (zi U st):=by
 unfold lentI at e;obtain⟨fs,R1,U1,R2,U2,e1,e2,rfl,rfl⟩:=bind_some e;obtain⟨S1,Fp1,g1,g2,g3⟩:=qO h e1;obtain⟨xs,R3,U3,R4,U4,e3,e4,rfl,rfl⟩:=bind_some e2;obtain⟨S2,Fp2,j1,j2,j3⟩:=qO g1 e3;obtain⟨zs,R5,U5,R6,U6,e5,e6,rfl,rfl⟩:=bind_some e4;obtain⟨S3,Fp3,q1,q2,q3⟩:=qO j1 e5;rw[zz,zz,zz];generalize zi U5 (zi U3 (zi U1 st))=s3 at q1 e6 ⊢;obtain⟨tx,_,hx,e8⟩:=bR (zF q1) e6;obtain⟨_,e10⟩:=bD e8;split at e10
 ·rename_i hc;obtain⟨rfl,hxl,hxr,rfl,ht⟩:=hc;obtain⟨u1,R11,U11,R12,U12,e11,e12,rfl,rfl⟩:=bind_some e10;cases e11;obtain⟨u2,R13,U13,R14,U14,e13,e14,rfl,rfl⟩:=bind_some e12;cases e13;simp only[zi,gK,pN]at e14 ⊢;have hr:=q1.ent s;unfold xm at hr;simp only[ht]at hr;obtain⟨cs,c1,c2,c3⟩:=hr;have c1':=c1;simp only[zK]at c1';obtain⟨b,ty,l,F',rfl,hb,ci,hFs,hSb⟩:=c1';rw[hFs]at c2;have hvs:Act.tv a s=.pointer (some ⟨b,0,none⟩):=c3;have hl1:=QB hz ci;have hone:(zU z l).oneCell'=true:=ci.one1 (WZ hz) _ (by have q:=nM (zU z l);rwa[<-hl1]at q);have hev:a.eval x=zU z l:=zbW ht rfl rfl hz hvs hb hl1 hx;obtain⟨hbF,hFn⟩:=pR.1 c2;have hbs:b∈Fp3 s:=by rw[hFs];exact rt
  have hFsub:∀k∈F',k∈Fp3 s:=λk hk=>by rw[hFs];exact mX _ hk
  have hblt:b<w.heap.size:=(q1.free s b hbs).1;have hs4:Sim C S3 (QR Fp3 s [b]) F' (upd s3 s ⟨.own (.box (.dead 1)),(s3 s).er,(s3 s).ec+1⟩) a w:=by
   refine q1.change s (.own (.box (.dead 1))) _ _ [b] q1.below (λ_ _ _ q=>q) q1.still.cell q1.sbase (λt k _ hk=>⟨rfl,(q1.free t k hk).2.1⟩) ⟨⟨_,?_,by simp,c3⟩,_,ht⟩ (.inl ⟨_,ht⟩) (pi _) (gF _) ?_ ?_ hFn ?_ ?_ ?_
   ·simp only[zK];refine⟨b,ty,l,[],rfl,hb,⟨by rw[hl1];rfl,λu hu=>?_,rfl⟩,rfl,hSb⟩;rw[hl1]at hu;rw[pH.1 hu];exact hone
   ·intro t k hts hk hk';rw[pH.1 hk]at hk';exact hts (q1.disj t s b hk' hbs)
   ·intro k hk;rw[pH.1 hk];exact q1.base s b hbs
   ·exact λt k hts hk hk'=>hts (q1.disj t s k hk' (hFsub k hk))
   ·intro k hk hk';rw[pH.1 hk']at hk;exact hbF hk
   exact λk hk=>q1.base s k (hFsub k hk)
  have hmap:(args.map a.eval).toList=(aL.map λp=>a.eval p.1)++a.eval x::(aR.map λp=>a.eval p.1):=by
   have h1:(args.toList.zip tys.toList).map (λp=>a.eval p.1)=(args.map a.eval).toList:=by
    have:(args.toList.zip tys.toList).map (λp=>a.eval p.1)=((args.toList.zip tys.toList).map (·.1)).map a.eval:=by rw[mw];rfl
    rw[this,rn (by simp[hsz])];simp
   rw[<-h1,hargs];simp
  have hact:=hl (zU z l) S3 w (a.eval f) ((args.map a.eval).toList) F' hs4.still ((g3.1.mono j2).mono q2)
   (by rw[hmap,hev];exact z18 (hxl _ _ (j3.mono λ_ _ q=>q.mono q2)) ⟨yX.2 ⟨rfl,hone⟩,hxr _ _ q3⟩)
   ⟨F',[],rfl,.inr ⟨l,ci,hFn,rfl⟩,rfl⟩ hFn
  intro rd m K Q hK;refine zfT ho hact rd m K Q ?_;rintro v' w' ⟨S',F2,G,b1,b2,b3,b4,b5,b6,b7,b8⟩;have hs':Sim C S' (QR Fp3 s [b]) (G++F2) (upd s3 s ⟨.own (.box (.dead 1)),(s3 s).er,(s3 s).ec+1⟩) a w':=(show Sim C S3 (QR Fp3 s [b]) (F' ++ []) _ a w by rw[pU];exact hs4).lentCall b1 b2 b3 b4 b7 b8;obtain⟨G1,G2,hG,b9,b10⟩:=b6;have hG2:G2=[]:=b10;subst hG2;rw[pN]at hG;subst hG;have notup:∀fs,z'≠.tup fs:=by rintro fs rfl;simp[z4Y]at hz'
  obtain⟨cz,z1,z2,z3⟩:=b9.cells notup;have hcz:=QB hz' z1;have hczl:cz=l:=by rw[hcz,hl1];exact congrArg (λq=>[q]) z3.symm
  subst hczl;have hnb:¬(w.heap.size<=b\/b∈F'):=by
   rintro(q|q)
   ·omega
   exact hbF q
  have hbG:b∉G:=λhk=>hnb (b8 b (nZ _ hk));have hheap:=b1.block b hnb;have hu4:(upd s3 s ⟨.own (.box (.dead 1)),(s3 s).er,(s3 s).ec+1⟩ s).t=.own (.box (.dead 1)):=by rw[v7]
  obtain⟨xn1,xn2,xn3⟩:=pI.1 b7;have hub:b∈QR Fp3 s [b] s:=by unfold QR;rw[if_pos rfl];exact pH.2 rfl
  have hs5:Sim C S' (QR (QR Fp3 s [b]) s (b::G)) F2 (upd (upd s3 s ⟨.own (.box (.dead 1)),(s3 s).er,(s3 s).ec+1⟩) s ⟨.own (.box z'),(s3 s).er,(s3 s).ec+2⟩) a w':=by
   refine hs'.change s (.own (.box z')) _ _ (b::G) hs'.below (λ_ _ _ q=>q) hs'.still.cell hs'.sbase (λt k _ hk=>⟨rfl,(hs'.free t k hk).2.1⟩) ⟨⟨[.pointer (some ⟨b,0,none⟩)],?_,pR.2 ⟨hbG,xn1⟩,hvs⟩,_,hu4⟩ (.inl ⟨_,hu4⟩) ?_ ?_ ?_ ?_ xn2 ?_ ?_ ?_
   ·simp only[zK];exact⟨b,ty,cz,G,rfl,by rw[hheap];exact hb,z1,rfl,λo=>by rw[b3 b o hblt hbF];exact hSb o⟩
   ·rw[v7];exact pi _
   ·rw[v7];exact gF _
   ·intro t k hts hk hk';rcases pm.1 hk with rfl|hk
    ·exact hts (hs'.disj t s _ hk' hub)
    exact hs'.xd t k (nZ _ hk) hk'
   ·intro k hk;rcases pm.1 hk with rfl|hk
    ·exact hs'.base s _ hub
    exact hs'.xb k (nZ _ hk)
   ·exact λt k hts hk=>hs'.xd t k (rE _ hk)
   ·intro k hk hk';rcases pm.1 hk' with rfl|hk'
    ·exact hs'.xd s _ (rE _ hk) hub
    exact xn3 k hk' k hk rfl
   exact λk hk=>hs'.xb k (rE _ hk)
  obtain⟨Fp5,m2⟩:=z38 (X:=[]) (by simpa using hs5) e14 b5;exact hK _ _ _ _ m2
 cases e10
end
def znU (d i:Nat)(o:Oper):Option (Operand×List (Operand×Nat)×Operand×List (Operand×Nat)):=match o.op with
 | .call ⟨.value f,args,tys⟩=>if o.dst=some d/\args.size=tys.size then(match (args.toList.zip tys.toList).drop i with|(x,_)::aR=>some (f,(args.toList.zip tys.toList).take i,x,aR)|[]=>none) else none
 | _=>none
def z9w (tt:TT)(s i:Nat)   (hz:z4Y z=true)(hz':z4Y z'=true)(hl:∀v,uC P fa (xl ++ .atom v::xr) [(v,z)] r [z'])(d:Nat):XH P :=
 xAt P (znU d i) (λn o b=>lentI tt n o.dst b.1 b.2.1 b.2.2.1 b.2.2.2 s fa xl xr z z' r) (λn o b=>zfI tt n o.dst b.1 b.2.1 b.2.2.1 b.2.2.2 s fa xl xr z z' r)
  (by
   intro C S Fp st a w o b hp h u R U e;unfold znU at hp;split at hp
   ·rename_i f args tys ho;split at hp
    ·rename_i hc;split at hp
     ·rename_i x tx0 aR hd;cases hp;exact zei h hz hz' hl ho hc.2 (by rw[<-hd,mB]) e
     cases hp
    cases hp
   cases hp)
  (λn o b=>Loc.lentI _ _ _ _ _ _ _ _ _ _ _ _ _ _) (λn o b=>zgO _ _ _ _ _ _ _ _ _ _ _ _ _ _)
def leP {xs ys:List A}(h:Qm xs ys):LeP xs ys:=h.all
def blM (y:T):Option (Nat×Bool×List A):=match y with|.own (.osl z b l)=>some (z,b,l)|_=>none
def zeS {y:T}{q:Nat×Bool×List A}(h:blM y=some q):y=.own (.osl q.1 q.2.1 q.2.2):=by
 unfold blM at h;split at h
 ·cases h;rfl
 cases h
def blO (tt:TT)(n:Fr)(dst:TD)(d t len:Nat)(ps:List (Nat×Operand)):SM Unit :=
 ki tt n dst t len ps >>= λ_=>rdE d >>= λe=>ofO (blM e.t) >>= λq=>wrE d ⟨.own (.osl q.1 false q.2.2),e.er+1,e.ec+1⟩
def blH (tt:TT)(n:Fr)(dst:TD)(d t len:Nat)(ps:List (Nat×Operand)):HM Unit :=
 VW tt n dst t len ps >>= λ_=>y7 (rdE d) >>= λe=>y7 (ofO (blM e.t)) >>= λq=>y7 (wrE d ⟨.own (.osl q.1 false q.2.2),e.er+1,e.ec+1⟩)
def zoM (tt:TT)(n:Fr)(dst:TD)(d t len:Nat)(ps:List (Nat×Operand)):Snd (blO tt n dst d t len ps) (blH tt n dst d t len ps) :=
 zh (z0m _ _ _ _ _ _) λ_=>zh (zk _) λ_=>zh (zk _) λ_=>zk _
def Loc.blO (tt:TT)(n:Fr)(dst:TD)(d t len:Nat)(ps:List (Nat×Operand)):Loc (blO tt n dst d t len ps) :=
 Loc.bind (by have q:=Loc.stepO tt Jl n ⟨dst,.buildSlice t len ⟨ps⟩,0,default,default,none⟩;exact q) λ_=>Loc.bind (Loc.rdE _) λ_=>Loc.bind (Loc.ofO _) λ_=>Loc.wrE _ _
def zmO (hT:xW P tt)       (h:Sim C S Fp [] st a w)  {d t len:Nat}{ps:Array (Nat×Operand)}(ho:o.op=.buildSlice t len ps)    (e0:blO tt C.n o.dst d t len ps.toList st=some (u,R,U)):vB P C o a w (zi U st):=by obtain⟨y,R1,U1,R2,U2,h1,e1,rfl,rfl⟩:=bind_some e0;have g:=Kt hT h ho h1;rw[zz];generalize zi U1 st=s1 at g e1 ⊢;have ⟨_,e4⟩:=bD e1;have ⟨q,_,hq,e5⟩:=bO e4;cases e5;exact g.retag d _ _ (zeS hq) (@LeA.osl _ _ _ _ (z52.refl _))
def xBl (hT:xW P tt)(d:Nat):XH P :=
 xAt P (znQ d) (λn o b=>blO tt n o.dst d b.1 b.2.1 b.2.2.toList) (λn o b=>blH tt n o.dst d b.1 b.2.1 b.2.2.toList)
  (by
   intro C S Fp st a w o b hp h u R U e;unfold znQ at hp;split at hp
   ·rename_i ho;cases z13 hp;exact zmO hT h ho e
   cases hp)
  (λn o b=>Loc.blO _ _ _ _ _ _ _) (λn o b=>zoM _ _ _ _ _ _ _)
abbrev z1P (b:Nat):Value:=.pointer (some ⟨b,0,none⟩)
def zhX (k:Nat)  (hk:∃z,(st k).t=.own (.box z))(hp:JB n.pin k=some v)(h:∀b,v=z1P b->AWP P n c st Q):AWP P n c st Q:=by intro rd m df w0 S0 M S Fp a w hc hs;have ⟨z,hz⟩:=hk;have ⟨b,hb⟩:=zbK hs hz;exact h b (by rw[<-hs.pin k v (uh hp),hb]) rd m df w0 S0 M S Fp a w hc hs
section
variable {C:Ctx}{S:zm}{Fp:Nat->TC}{st:St}{a:Act}{w:World}
open Classical in
def nrO (n:Fr)(dst:TD)(b:Nat)(x:Operand):SM Unit:=do
 let tx <-opnd x
 if tx=.d (.atom (z1P b)) then wrT n dst (.d (.atom (z1P b))) else zt
def nrH (n:Fr)(dst:TD)(b:Nat)(x:Operand):HM Unit:=y7 (opnd x) >>= λtx=>kG (tx=.d (.atom (z1P b))) (y7 (wrT n dst (.d (.atom (z1P b)))))
open Classical in
def zoF (n:Fr)(dst:TD)(b:Nat)(x:Operand):Snd (nrO n dst b x) (nrH n dst b x):=zh (zk _) λ_=>we (zk _)
open Classical in
def Loc.nrO (n:Fr)(dst:TD)(b:Nat)(x:Operand):Loc (nrO n dst b x):=by unfold Go.Own.nrO;exact Loc.bind (Loc.opnd _) λ_=>Loc.ite (Loc.wrT _ _ _) Loc.fail
def zme (h:Sim C S Fp [] st a w)  {b:Nat}{x:Operand}(ho:o.op=.nilCheck x)    (e:nrO C.n o.dst b x st=some (u,R,U)):vB P C o a w (zi U st):=by
 unfold nrO at e;have ⟨tx,_,hx,e1⟩:=bR (zF h) e;split at e1
 ·rename_i hc;subst hc;have ⟨Fp',hs'⟩:=xM h e1 (x:=.d (.atom (z1P b))) (v:=z1P b) (zu.2 ⟨rfl,rfl⟩);refine zo ?_ hs';have ex:a.eval x=z1P b:=(zu.1 hx).1;simp[execOp,ho,ex]
 cases e1
open Classical in
def riK (tt:TT)(n:Fr)(dst:TD)(t m sz b:Nat)(tx:T):A->SM Unit
 | .atom (.int _ j)=>if tx=.d (.atom (z1P b))/\0<=j/\j.toNat<m then(if z7o tt t=some (m,sz) then wrT n dst (.d (.atom (.pointer (some ⟨b,j.toNat*sz,none⟩)))) else zt) else zt
 | _=>zt
def znC (tt:TT)(n:Fr)(dst:TD)(t m sz b:Nat)(tx:T):A->HM Unit
 | .atom (.int _ j)=>kG (tx=.d (.atom (z1P b))/\0<=j/\j.toNat<m) (if z7o tt t=some (m,sz) then y7 (wrT n dst (.d (.atom (.pointer (some ⟨b,j.toNat*sz,none⟩))))) else zL)
 | _=>zL
def riO (tt:TT)(n:Fr)(dst:TD)(t m sz b:Nat)(x y:Operand):SM Unit:=do
 let tx <-opnd x;let ty <-opnd y;let vi <-val ty
 riK tt n dst t m sz b tx vi
def riH (tt:TT)(n:Fr)(dst:TD)(t m sz b:Nat)(x y:Operand):HM Unit:=y7 (opnd x) >>= λtx=>y7 (opnd y) >>= λty=>Jv ty >>= λvi=>znC tt n dst t m sz b tx vi
open Classical in
def zoC (tt:TT)(n:Fr)(dst:TD)(t m sz b:Nat)(x y:Operand):Snd (riO tt n dst t m sz b x y) (riH tt n dst t m sz b x y):=by
 refine zh (zk _) λtx=>zh (zk _) λty=>zh (kH _) λvi=>?_;unfold riK znC;cases vi with
 | atom v=>
  cases v with
  | int k j=>exact we (vO (zk _) (zr _))
  | _=>exact zr _
 | _=>exact zr _
open Classical in
def Loc.riO (tt:TT)(n:Fr)(dst:TD)(t m sz b:Nat)(x y:Operand):Loc (riO tt n dst t m sz b x y):=by
 unfold Go.Own.riO;refine Loc.bind (Loc.opnd _) λ_=>Loc.bind (Loc.opnd _) λ_=>Loc.bind (Loc.val _) λ_=>?_;unfold Go.Own.riK;split
 ·exact Loc.ite (Loc.ite (Loc.wrT _ _ _) Loc.fail) Loc.fail
 exact Loc.fail
def zm7 (hT:xW P tt)(h:Sim C S Fp [] st a w)  {t m sz b:Nat}{x y:Operand}(ho:o.op=.indexAddr t x y)    (e0:riO tt C.n o.dst t m sz b x y st=some (u,R,U)):vB P C o a w (zi U st):=by
 unfold riO at e0;have ⟨tx,_,hx,e1⟩:=bR (zF h) e0;have ⟨ty,_,hy,e2⟩:=bR (zF h) e1;have ⟨vi,_,qi,e4⟩:=bR (vA h hy) e2;unfold riK at e4;cases vi with
 | atom v=>
  cases v with
  | int k j=>
   simp only at e4;split at e4
   ·rename_i hc;obtain⟨rfl,j0,jm⟩:=hc;split at e4
    ·rename_i ha;have ⟨Fp',hs'⟩:=xM h e4 (x:=.d (.atom (.pointer (some ⟨b,j.toNat*sz,none⟩)))) (v:=.pointer (some ⟨b,j.toNat*sz,none⟩)) (zu.2 ⟨rfl,rfl⟩);refine zo ?_ hs';have ex:a.eval x=z1P b:=(zu.1 hx).1;have ey:a.eval y=.int k j:=(zu.1 qi).1;have hl:((List.replicate m (A.dead sz)).length)=m:=mc;have hk:kI tt t (List.replicate m (A.dead sz)) j=true:=by unfold kI;rw[ha];simp only[hl,beq_self_eq_true,rO,j0,decide_true];rw[gD];intro z hz;rw[mD hz];exact beq_self_eq_true _
     have hr:=UX hT hk (by rw[hl];exact jm) k b 0 w;have hz:A.sizes ((List.replicate m (A.dead sz)).take j.toNat)=j.toNat*sz:=by rw[A.sizes_const (sz:=sz) (λz hz=>by rw[mD (gG hz)];rfl),pP,hl,gT (Nat.le_of_lt jm)]
     rw[hz,gJ]at hr;simp[execOp,ho,ex,ey,hr]
    cases e4
   cases e4
  | _=>cases e4
 | _=>cases e4
open Classical in
def irK (tt:TT)(n:Fr)(dst:TD)(t r i b:Nat)(tx:T)(vi:A)(e:Ent):SM Unit :=
 match e.t with
 | .own (.box (.agg fs))=>if(tx=.d (.atom (.pointer (some ⟨b,A.sizes (fs.take i),none⟩)))/\i<fs.length)/\JB n.pin r=some (z1P b) then indexArrA tt n dst t (.ptr r [.deref,.fld i] e.er e.ec) vi else zt
 | _=>zt
def irO (tt:TT)(n:Fr)(dst:TD)(t r i b:Nat)(x y:Operand):SM Unit:=do
 let tx <-opnd x;let ty <-opnd y;let vi <-val ty;let e <-rdE r
 irK tt n dst t r i b tx vi e
def irH (tt:TT)(n:Fr)(dst:TD)(t r i b:Nat)(x y:Operand):HM Unit:=y7 (opnd x) >>= λtx=>y7 (opnd y) >>= λty=>Jv ty >>= λvi=>y7 (rdE r) >>= λe=>
 match e.t with
 | .own (.box (.agg fs))=>kG ((tx=.d (.atom (.pointer (some ⟨b,A.sizes (fs.take i),none⟩)))/\i<fs.length)/\JB n.pin r=some (z1P b)) (z06 tt n dst t (.ptr r [.deref,.fld i] e.er e.ec) vi)
 | _=>zL
open Classical in
def zoK (tt:TT)(n:Fr)(dst:TD)(t r i b:Nat)(x y:Operand):Snd (irO tt n dst t r i b x y) (irH tt n dst t r i b x y):=by
 refine zh (zk _) λtx=>zh (zk _) λty=>zh (kH _) λvi=>zh (zk _) λe=>?_;unfold irK;cases e.t with
 | own q=>
  cases q with
  | box z=>
   cases z with
   | agg fs=>exact we (z1D _ _ _ _ _ _)
   | _=>exact zr _
  | _=>exact zr _
 | _=>exact zr _
open Classical in
def Loc.irO (tt:TT)(n:Fr)(dst:TD)(t r i b:Nat)(x y:Operand):Loc (irO tt n dst t r i b x y):=by
 unfold Go.Own.irO;refine Loc.bind (Loc.opnd _) λ_=>Loc.bind (Loc.opnd _) λ_=>Loc.bind (Loc.val _) λ_=>Loc.bind (Loc.rdE _) λ_=>?_;unfold Go.Own.irK;split
 ·exact Loc.ite (Loc.indexArrA _ _ _ _ _ _) Loc.fail
 exact Loc.fail
def zmD (hT:xW P tt)(h:Sim C S Fp [] st a w)  {t r i b:Nat}{x y:Operand}(ho:o.op=.indexAddr t x y)    (e0:irO tt C.n o.dst t r i b x y st=some (u,R,U)):vB P C o a w (zi U st):=by
 unfold irO at e0;have ⟨tx,_,hx,e1⟩:=bR (zF h) e0;have ⟨ty,_,hy,e2⟩:=bR (zF h) e1;have ⟨vi,_,qi,e3⟩:=bR (vA h hy) e2;have ⟨_,e4⟩:=bD e3;unfold irK at e4;cases ht:(st r).t with
 | own y0=>
  cases y0 with
  | box z0=>
   cases z0 with
   | agg fs=>
    simp only[ht]at e4;split at e4
    ·rename_i hc;obtain⟨⟨rfl,hi⟩,c2⟩:=hc;have hs:Act.tv a r=z1P b:=h.pin r _ (uh c2);obtain⟨z,hz⟩:∃z,fs[i]?=some z:=⟨_,pe hi⟩;refine z2e hT h ho (y:=.ptr r [.deref,.fld i] (st r).er (st r).ec) ⟨pi _,pi _,?_⟩ qi e4;simp only[ht];rw[(zu.1 hx).1,hs];refine λ_ _=>⟨rfl,z,b,A.sizes (fs.take i),?_,?_,rfl⟩
     ·simp[wj,hz]
     simp[wz,z0s,hz]
    cases e4
   | _=>simp only[ht]at e4;cases e4
  | _=>simp only[ht]at e4;cases e4
 | _=>simp only[ht]at e4;cases e4
end
def xNr (P:Program)(d b:Nat):XH P :=
 xAt P (zlr d) (λn o x=>nrO n o.dst b x) (λn o x=>nrH n o.dst b x)
  (by
   intro C S Fp st a w o x hp h u R U e;unfold zlr at hp;split at hp
   ·rename_i ho;cases z13 hp;exact zme h ho e
   cases hp)
  (λn o x=>Loc.nrO _ _ _ _) (λn o x=>zoF _ _ _ _)
def xRi (hT:xW P tt)(d m sz b:Nat):XH P :=
 xAt P (zfJ d) (λn o q=>riO tt n o.dst q.1 m sz b q.2.1 q.2.2) (λn o q=>riH tt n o.dst q.1 m sz b q.2.1 q.2.2)
  (by
   intro C S Fp st a w o q hp h u R U e;unfold zfJ at hp;split at hp
   ·rename_i ho;cases z13 hp;exact zm7 hT h ho e
   cases hp)
  (λn o b=>Loc.riO _ _ _ _ _ _ _ _ _) (λn o b=>zoC _ _ _ _ _ _ _ _ _)
def xIr (hT:xW P tt)(d r i b:Nat):XH P :=
 xAt P (zfJ d) (λn o q=>irO tt n o.dst q.1 r i b q.2.1 q.2.2) (λn o q=>irH tt n o.dst q.1 r i b q.2.1 q.2.2)
  (by
   intro C S Fp st a w o q hp h u R U e;unfold zfJ at hp;split at hp
   ·rename_i ho;cases z13 hp;exact zmD hT h ho e
   cases hp)
  (λn o b=>Loc.irO _ _ _ _ _ _ _ _ _) (λn o b=>zoK _ _ _ _ _ _ _ _ _)
def zfS {n:Nat}{x:ArN n α}  {u:α}(h:idx x.l i=some u):i.toNat<n:=by have:=(pf.1 (iE h)).1;rwa[x.len]at this
def zhY {n:Nat}{f:α->A}{s:Nat}[h:zio f s](x:ArN n α)  {u:α}(k:idx x.l i=some u):A.sizes ((x.l.map f).take i.toNat)=i.toNat*s:=by have hl:=zfS k;rw[A.sizes_const (sz:=s) (λz hz=>by obtain⟨v,_,rfl⟩:=pX.1 (gG hz);exact h.sz v),pP,gC,x.len,gT (Nat.le_of_lt hl)]
def ixV {k:IntKind}  {e:Nat}{l:TB}{j u:Int}(hf:∀x,qX tt e (eI k x)=true)(h:idx l j=some u)  (hm:l.length=m) :
  0<=j/\j<(m:Int)/\qX tt e (eI k u)=true/\(eI k u).isD=true/\((l.map (eI k)).take j.toNat).all (λz=>z.size==(eI k u).size)=true:=by
 have h1:=i0 h;have h2:=(pf.1 (iE h)).1;refine⟨h1,by omega,hf u,rfl,?_⟩;rw[<-List.map_take,List.all_map,gD];intro x _;simp[eI,A.size]
def zkH (d:Nat)(o:Oper):Option (Nat×Operand×Operand):=match o.op with|.index t x i=>if o.dst=some d then some (t,x,i) else none|_=>none
def zb8 (tt:TT)(n:Fr)(dst:TD)(t:Nat)(x i:Operand):HM Unit:=y7 (opnd x) >>= λtx=>Jv tx >>= λvx=>y7 (opnd i) >>= λti=>Jv ti >>= λvi=>
 match vx,vi with
 | .agg fs,.atom (.int _ j)=>
  match zfR tt t with
  | some (m,e)=>z7n (fs[j.toNat]?) >>= λy=>kG (0<=j/\j<(m:Int)/\qX tt e y=true/\y.isD=true/\(fs.take j.toNat).all (λz=>z.size==y.size)=true) (y7 (wrT n dst (.d y)))
  | none=>zL
 | _,_=>zL
def zdC (tt:TT)(n:Fr)(dst:TD)(t:Nat)(x i:Operand):Snd (indexO tt n dst t x i) (zb8 tt n dst t x i):=by
 refine zh (zk _) λtx=>zh (kH _) λvx=>zh (zk _) λti=>zh (kH _) λvi=>?_;have main:∀fs k j,vx=.agg fs->vi=.atom (.int k j)->Snd (match vx,vi with
   | .agg fs,.atom (.int _ j)=>
    match zfR tt t with
    | some (m,e)=>match fs[j.toNat]? with
     | some y=>if 0<=j/\j<(m:Int)/\qX tt e y=true/\y.isD=true/\(fs.take j.toNat).all (λz=>z.size==y.size)=true then wrT n dst (.d y) else zt
     | none=>zt
    | none=>zt
   | _,_=>zt) (match vx,vi with
   | .agg fs,.atom (.int _ j)=>
    match zfR tt t with
    | some (m,e)=>z7n (fs[j.toNat]?) >>= λy=>kG (0<=j/\j<(m:Int)/\qX tt e y=true/\y.isD=true/\(fs.take j.toNat).all (λz=>z.size==y.size)=true) (y7 (wrT n dst (.d y)))
    | none=>zL
   | _,_=>zL):=by
  rintro fs k j rfl rfl;simp only;cases zfR tt t with
  | none=>exact zr _
  | some q=>
   have ⟨m,e⟩:=q;simp only;refine Qq (m':=ofO (fs[j.toNat]?) >>= λy=>if 0<=j/\j<(m:Int)/\qX tt e y=true/\y.isD=true/\(fs.take j.toNat).all (λz=>z.size==y.size)=true then wrT n dst (.d y) else zt) ?_ (zh (Kb _) λ_=>we (zk _));generalize fs[j.toNat]?=z;cases z with
   | none=>rfl
   | some y=>rw[zdU,zZ]
 cases vx with
 | agg fs=>
  cases vi with
  | atom v=>
   cases v with
   | int k j=>exact main _ _ _ rfl rfl
   | _=>exact zr _
  | _=>exact zr _
 | _=>exact zr _
def zn8 (hT:xW P tt)(d:Nat):XH P :=
 xAt P (zkH d) (λn o b=>indexO tt n o.dst b.1 b.2.1 b.2.2) (λn o b=>zb8 tt n o.dst b.1 b.2.1 b.2.2)
  (by
   intro C S Fp st a w o b hp h u R U e;unfold zkH at hp;split at hp
   ·rename_i ho;cases z13 hp;exact z8l hT h ho e
   cases hp)
  (λn o b=>Loc.indexO _ _ _ _ _ _) (λn o b=>zdC _ _ _ _ _ _)
def poQ:Option A->Dpq
 | none=>{ holds:=λ_ v=>v=.pointer none,one:=λh=>by rw[h];rfl,mono:=λ_ h=>h }
 | some x=>{ holds:=λS v=>Rep S (.sptr x) [v],one:=λh=>h.one _ (pH.2 rfl),mono:=λk h=>h.mono k }
def ePo (f:α->A)(b:Option α):A:=.dop (poQ (b.map f))
def eIf (b:Nat)(n:Nat):A:=.atom (.iface (b+n) (.agg #[]))
section
variable {α:Type}
instance (b:Nat):XW (eIf b) (eIf b):=⟨λ_=>rfl⟩
instance (b:Nat):uT (eIf b):=⟨λx y e=>by injection e with e;injection e with e _;exact Nat.add_left_cancel e⟩
def poM {f:α->A}{b:Option α}{u:α}(h:b=some u)(S:zm)(v:Value)(q:xg S (ePo f b) v):xg S (.sptr (f u)) v:=by subst h;have q':Rep S (.sptr (f u)) [v]:=z4l.1 q;exact wW.repV ⟨[v],q',rfl⟩
end
instance (x y:A)[h:LeA x y]:LeA (.sptr x) (.sptr y):={
 rep:=by intro S cs q;simp only[Rep]at q ⊢;obtain⟨b,o,l,rfl,r1,r2⟩:=q;exact⟨b,o,l,rfl,h.rep _ _ r1,r2⟩
 conc:=by
  intro S hh cs F q;have q':Rep S (.sptr x) cs/\F=[]:=by simpa only[zK] using q
  have:Rep S (.sptr y) cs/\F=[]:=by refine⟨?_,q'.2⟩;have q1:=q'.1;simp only[Rep]at q1 ⊢;obtain⟨b,o,l,rfl,r1,r2⟩:=q1;exact⟨b,o,l,rfl,h.rep _ _ r1,r2⟩
  simpa only[zK] using this
 val:=λcs=>rfl
 tup:=λfs h=>nomatch h }
instance (x y:A)[h:LeA x y]:LeA (.sptr x) (.dop (poQ (some y))):={
 rep:=by
  intro S cs q;have q2:=(inferInstance:LeA (.sptr x) (.sptr y)).rep S cs q;have:∃v,cs=[v]:=by simp only[Rep]at q;obtain⟨b,o,l,rfl,_⟩:=q;exact⟨_,rfl⟩
  obtain⟨v,rfl⟩:=this;exact Vs.2 ⟨v,rfl,q2⟩
 conc:=by
  intro S hh cs F q;have q':Rep S (.sptr x) cs/\F=[]:=by simpa only[zK] using q
  have:∃v,cs=[v]:=by have q1:=q'.1;simp only[Rep]at q1;obtain⟨b,o,l,rfl,_⟩:=q1;exact⟨_,rfl⟩
  obtain⟨v,rfl⟩:=this;have:Rep S (.dop (poQ (some y))) [v]/\F=[]:=⟨Vs.2 ⟨v,rfl,(inferInstance:LeA (.sptr x) (.sptr y)).rep S [v] q'.1⟩,q'.2⟩;simpa only[zK] using this
 val:=λcs=>rfl
 tup:=λfs h=>nomatch h }
instance:LeA (.atom (.pointer none)) (.dop (poQ none)):={
 rep:=by intro S cs q;simp[Rep]at q;exact Vs.2 ⟨_,q.1,rfl⟩
 conc:=by
  intro S hh cs F q;have q':Rep S (.atom (.pointer none)) cs/\F=[]:=by simpa only[zK] using q
  have q1:=q'.1;simp[Rep]at q1;have:Rep S (.dop (poQ none)) cs/\F=[]:=⟨Vs.2 ⟨_,q1.1,rfl⟩,q'.2⟩;simpa only[zK] using this
 val:=λcs=>rfl
 tup:=λfs h=>nomatch h }
def uR.le {ls:List A}{r r':A}(h:uR P k ls r)(e:LeV r r'):uR P k ls r' :=
 ⟨h.1,λS w vs F h1 h2 h3=>Calls.mono (h.2 S w vs F h1 h2 h3) λ_ _ ⟨v,S',F',g1,g2,g3,g4,g5,g6,g7⟩=>⟨v,S',F',g1,g2,g3,g4,g5,e.has _ _ _ _ g6,g7⟩⟩
def ifcO (n:Fr)(dst:TD)(T:Nat)(x:Operand):SM Unit:=do
 let tx <-opnd x;let vx <-val tx;match vx with
 | .agg []=>wrT n dst (.d (.atom (.iface T (.agg #[]))))
 | _=>zt
def znZ (n:Fr)(dst:TD)(T:Nat)(x:Operand):HM Unit:=y7 (opnd x) >>= λtx=>Jv tx >>= λvx=>
 y7 (match vx with
 | .agg []=>wrT n dst (.d (.atom (.iface T (.agg #[]))))
 | _=>zt)
def zm1 (n:Fr)(dst:TD)(T:Nat)(x:Operand):Snd (ifcO n dst T x) (znZ n dst T x) :=
 zh (zk _) λ_=>zh (kH _) λ_=>zk _
def Loc.ifcO (n:Fr)(dst:TD)(T:Nat)(x:Operand):Loc (ifcO n dst T x):=by
 unfold Go.Own.ifcO;refine Loc.bind (Loc.opnd _) λ_=>Loc.bind (Loc.val _) λ_=>?_;split
 ·exact Loc.wrT _ _ _
 exact Loc.fail
def zkJ {T:Nat}{fs:Array Field}(hf:P.underlying T=some (.struct fs))(h:Sim C S Fp [] st a w)  {x:Operand}(ho:o.op=.makeInterface T x)    (e0:ifcO C.n o.dst T x st=some (u,R,U)):vB P C o a w (zi U st):=by
 unfold ifcO at e0;have ⟨tx,_,hx,e1⟩:=bR (zF h) e0;have ⟨vx,_,qx,e2⟩:=bR (vA h hx) e1;split at e2
 ·have ⟨cs,r1,r2⟩:=(qx:wW S (.agg []) (a.eval x));simp[Rep]at r1;have hv:a.eval x=.agg #[]:=by have hc:cs=[]:=r1;subst hc;exact r2
  have ⟨Fp',hs⟩:=xM h e2 (x:=.d (.atom (.iface T (.agg #[])))) (wW.repV (yX.2 ⟨rfl,rfl⟩));refine zo ?_ hs;simp[execOp,ho,hv];simp[Instr.makeInterface,run_underlying hf]
 cases e2
def zkG (d T:Nat)(o:Oper):Option Operand:=match o.op with|.makeInterface t x=>if o.dst=some d then(if t=T then some x else none) else none|_=>none
def zfY (P:Program)(d T:Nat){fs:Array Field}(hf:P.underlying T=some (.struct fs)):XH P :=
 xAt P (zkG d T) (λn o x=>ifcO n o.dst T x) (λn o x=>znZ n o.dst T x)
  (by
   intro C S Fp st a w o x hp h u R U e;unfold zkG at hp;split at hp
   ·rename_i t y ho;have hp2:=z13 hp;split at hp2
    ·rename_i ht;subst ht;cases hp2;exact zkJ hf h ho e
    cases hp2
   cases hp)
  (λn o x=>Loc.ifcO _ _ _ _) (λn o x=>zm1 _ _ _ _)
def zmc (x:Operand):SM A:=do
 let tx <-opnd x
 val tx
def zkb (x:Operand):HM A:=y7 (opnd x) >>= λtx=>Jv tx
def zlX (x:Operand):Snd (zmc x) (zkb x):=zh (zk _) λ_=>kH _
def zka {T:Nat}     (ho:o.op=.panic x)   (e:zmc x st=some (.atom (.iface T v),R,U)):zc7 P n o st (k8 (.iface T v)):=by
 intro C S Fp a w hC h rd m K Q hQ;subst hC;unfold zmc at e;have ⟨tx,_,hx,e1⟩:=bR (zF h) e;obtain⟨rfl,qx⟩:=vA h hx e1;have hv:a.eval x=.iface T v:=(zu.1 qx.repV).1;refine⟨λ_ _=>trivial,?_⟩;have hexec:(execOp a.eval o).run P w=.halt (.panic (.iface T v)) w:=by simp[execOp,ho,hv];rfl
 rw[Oper.semAt_eq _ _ _ (λc hc=>by rw[ho]at hc;cases hc),hexec,Oper.uponIn_panic];exact hQ _ _ _ _ h
def zkc (o:Oper):Option Operand :=
 match o.guard with
 | some _=>none
 | none=>
  match o.op with
  | .panic x=>some x
  | _=>none
def zmd (X:XH P)(tt:TT)(ctr:Ctr)(n:Fr)(c:Code)(i:Nat)(st:St)(hs:List H):Option (A×List Prop) :=
 match regOf c with
 | none=>none
 | some ops=>
  match z90 X tt ctr n ops (ops.toList.take i) st hs with
  | none=>none
  | some (st1,hs1,ob,_)=>
   match ops.toList.drop i with
   | []=>none
   | o::_=>
    match zkc o with
    | none=>none
    | some x=>
     match zkb x st1 hs1 with
     | none=>none
     | some (y,_,_,_,ob')=>some (y,ob++ob')
def yP6 {n:Fr}{Q:Exit->St->Prop}(X:XH P)(hT:xW P tt)(hC:Zr P ctr){c:Code}{fs:List Fm}{st:St}(i:Nat){T:Nat}{v:Value}(Lh:List HO)
  (e:zmd X tt ctr n c i st (hoH Lh)=some (.atom (.iface T v),hoO Lh)) (hQ:∀st',Q (.panic (k8 (.iface T v))) st'):AWP P n c st (Qf P n fs Q):=by
 unfold zmd at e;split at e
 ·cases e
 rename_i ops hr;split at e
 ·cases e
 rename_i st1 hs1 ob lg h1;split at e
 ·cases e
 rename_i o l2 h2;split at e
 ·cases e
 rename_i x h3;split at e
 ·cases e
 rename_i y R U hs2 ob' h4;simp[Option.some.injEq,Prod.mk.injEq]at e;obtain⟨rfl,ho⟩:=e;have hall:z1b (hoO Lh):=by rw[z8n];exact z3m _
 rw[<-ho]at hall;have ⟨o1,o2⟩:=yw hall;refine AWP.regOf hr (ch:=k8 (.iface T v)) (λid Q' hQ'=>?_) (λst'=>Qw fs (hQ st'));unfold zkc at h3;split at h3
 ·cases h3
 rename_i hg;split at h3
 ·rename_i x0 hop;cases h3;refine AWP.regDie hT (hC.withE X.ok) (l1:=ops.toList.take i) (l2:=l2) (o:=o) (by rw[<-h2,mB]) hg (z0V _ _ _ h1 o1 ?_) hQ';exact zka hop (zlX _ _ _ _ _ _ _ _ h4 o2)
 cases h3
end Go.Own
end
