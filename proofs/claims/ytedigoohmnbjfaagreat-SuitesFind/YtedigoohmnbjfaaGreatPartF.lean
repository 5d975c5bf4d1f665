/- -/
import Derived.Test.YtedigoohmnbjfaaGreatPartE
noncomputable section
set_option linter.unusedVariables false
set_option linter.defProp false
set_option linter.unusedSimpArgs false
namespace Go.Own
open Go.Proofs.Tryz
open Go.Proofs
set_option maxRecDepth 100000
set_option maxHeartbeats 8000000
def X0:XH prog:=xB zr
def z1B:prog.follows .mixedOrders=true:=by kernel_rfl
def zk1 {l:List yi}{s:yi}(h:((l.map yi.k).contains s.k)=false):∀t∈l,t.k≠s.k:=λt ht e=>by rw[List.contains_eq_mem,<-e,decide_eq_true (List.mem_map_of_mem ht)]at h;cases h
class HS (X:outParam (XH prog)) (l:outParam (List yi)) where
 c:Ctr
 ok:Z9 prog c
 has:∀t∈l,c.Has t
noncomputable abbrev zbd (f:Func):Code:=f.body.getD .skip
def znj:ResultVar->Nat×TD
 |.tmp t=>(t,none)
 |.cell t c=>(t,some c)
noncomputable abbrev rsO (f:Func):=f.results.toList.map znj
theorem zjr (f:Func):f.results=((rsO f).map z56).toArray:=by
 have:z56 ∘ znj=id:=funext λr=>by cases r<;>rfl
 simp[gT,this]
def OkH:List yi->Prop
 |s::_=>s.Ok prog
 |[]=>True
def eT2 {α β:Type}(f:α->A)(g:β->A)(r:α×β):A:=.tup [f r.1,g r.2]
def eT3 {α β γ:Type}(f:α->A)(g:β->A)(h:γ->A)(r:α×β×γ):A:=.tup [f r.1,g r.2.1,h r.2.2]
def zhO {ρ:Type}(k:Nat)(er:ρ->A)(F:Option ρ)(g:List Bool:=[]):yi:=spF (α:=Unit) k (λ_=>[]) er (λ_=>F) g λ_ _ _=>rfl
section
variable {α β γ δ ε ρ:Type}
noncomputable abbrev Inj (f:α->A):Prop:=∀x y,f x=f y->x=y
def XA (k:Nat)(e1:α->A)(er:ρ->A)(F:α->Option ρ)(g:List Bool:=[])(i1:Inj e1:=by exact qh.inj):yi:=spF k (λx=>[e1 x]) er F g λx y h=>i1 _ _ (List.cons.inj h).1
def Zb (k:Nat)(e1:α->A)(e2:β->A)(er:ρ->A)(F:α->β->Option ρ)(g:List Bool:=[])(i1:Inj e1:=by exact qh.inj)(i2:Inj e2:=by exact qh.inj):yi:=spF (α:=α×β) k (λx=>[e1 x.1,e2 x.2]) er (λx=>F x.1 x.2) g λx y h=>by simp at h;exact rV (i1 _ _ h.1) (i2 _ _ h.2)
def z18 (k:Nat)(e1:α->A)(e2:β->A)(e3:γ->A)(er:ρ->A)(F:α->β->γ->Option ρ)(g:List Bool:=[])(i1:Inj e1:=by exact qh.inj)(i2:Inj e2:=by exact qh.inj)(i3:Inj e3:=by exact qh.inj):yi:=spF (α:=α×β×γ) k (λx=>[e1 x.1,e2 x.2.1,e3 x.2.2]) er (λx=>F x.1 x.2.1 x.2.2) g λx y h=>by simp at h;exact rV (i1 _ _ h.1) (rV (i2 _ _ h.2.1) (i3 _ _ h.2.2))
def zhN (k:Nat)(e1:α->A)(e2:β->A)(e3:γ->A)(e4:δ->A)(er:ρ->A)(F:α->β->γ->δ->Option ρ)(g:List Bool:=[])(i1:Inj e1:=by exact qh.inj)(i2:Inj e2:=by exact qh.inj)(i3:Inj e3:=by exact qh.inj)(i4:Inj e4:=by exact qh.inj):yi:=spF (α:=α×β×γ×δ) k (λx=>[e1 x.1,e2 x.2.1,e3 x.2.2.1,e4 x.2.2.2]) er (λx=>F x.1 x.2.1 x.2.2.1 x.2.2.2) g λx y h=>by simp at h;exact rV (i1 _ _ h.1) (rV (i2 _ _ h.2.1) (rV (i3 _ _ h.2.2.1) (i4 _ _ h.2.2.2)))
variable {X:XH prog}{l:List yi}[H:HS X l]{k:Nat}{e1:α->A}{e2:β->A}{e3:γ->A}{e4:δ->A}{er:ρ->A}{g:List Bool}{i1:Inj e1}{i2:Inj e2}{i3:Inj e3}{i4:Inj e4}{a:α}{b:β}{c:γ}{d:δ}{r:ρ}{vs:List A}{F0:Option ρ}{F1:α->Option ρ}{F2:α->β->Option ρ}{F3:α->β->γ->Option ρ}{F4:α->β->γ->δ->Option ρ}
noncomputable abbrev zx (Y:XH prog):HS Y l:=⟨H.c,H.ok,H.has⟩
noncomputable abbrev zd {Y m}(n:Nat)(h:l.drop n=m:=by rfl):HS Y m:=⟨H.c,H.ok,λt q=>H.has t (ru (h▸q))⟩
noncomputable abbrev za {Y:XH prog}(s:yi)(hs:s.Ok prog)(h:((l.map yi.k).contains s.k)=false:=by kernel_rfl):HS Y (s::l):=⟨H.c.add s,Ctr.add_ok H.ok hs,λt q=>(pB.1 q).elim (λe=>e▸Ctr.add_has _ _) λq=>(H.has t q).add (zk1 h t q)⟩
def hat (i:Nat){s:yi}(h:l[i]?=some s:=by rfl):H.c.Has s:=H.has s (pH h)
def Hk (g:List Bool){k:Nat}{vs:List A}{r:A}(zg:H.c.gives k=g)(h:H.c.run k (H.c.norm k vs)=some r):HO:=([.g g,.a r],[ob zg,ob h])
def zg (i:Nat){s:yi}(h:l[i]?=some s:=by rfl):HO:=Hg (hat i h).gives
noncomputable abbrev zR [H:HS X l](k:Nat)(vs:List A)(r:A):Prop:=H.c.run k (H.c.norm k vs)=some r
def zf0 (i:Nat)(hr:F0=some r)(za:vs.map A.loose=[])(h:l[i]?=some (zhO k er F0 g):=by rfl):zR k vs (er r):=zhS (x:=()) (hat i h) hr za
def zf1 (i:Nat)(hr:F1 a=some r)(za:vs.map A.loose=[e1 a])(h:l[i]?=some (XA k e1 er F1 g i1):=by rfl):zR k vs (er r):=zhS (hat i h) hr za
def zf2 (i:Nat)(hr:F2 a b=some r)(za:vs.map A.loose=[e1 a,e2 b])(h:l[i]?=some (Zb k e1 e2 er F2 g i1 i2):=by rfl):zR k vs (er r):=zhS (x:=(a,b)) (hat i h) hr za
def zf3 (i:Nat)(hr:F3 a b c=some r)(za:vs.map A.loose=[e1 a,e2 b,e3 c])(h:l[i]?=some (z18 k e1 e2 e3 er F3 g i1 i2 i3):=by rfl):zR k vs (er r):=zhS (x:=(a,b,c)) (hat i h) hr za
def zf4 (i:Nat)(hr:F4 a b c d=some r)(za:vs.map A.loose=[e1 a,e2 b,e3 c,e4 d])(h:l[i]?=some (zhN k e1 e2 e3 e4 er F4 g i1 i2 i3 i4):=by rfl):zR k vs (er r):=zhS (x:=(a,b,c,d)) (hat i h) hr za
def zC0 (i:Nat)(hr:F0=some r)(h:l[i]?=some (zhO k er F0 g):=by rfl):HO:=Hk g (z0q (hat i h)) (zf0 i hr loN h)
def zC1 (i:Nat)(hr:F1 a=some r)(h:l[i]?=some (XA k e1 er F1 g i1):=by rfl)(za:[e1 a].map A.loose=[e1 a]:=by exact loC _ _ loN):HO:=Hk g (z0q (hat i h)) (zf1 i hr za h)
def zC2 (i:Nat)(hr:F2 a b=some r)(h:l[i]?=some (Zb k e1 e2 er F2 g i1 i2):=by rfl)(za:[e1 a,e2 b].map A.loose=[e1 a,e2 b]:=by exact loC _ _ (loC _ _ loN)):HO:=Hk g (z0q (hat i h)) (zf2 i hr za h)
def zC3 (i:Nat)(hr:F3 a b c=some r)(h:l[i]?=some (z18 k e1 e2 e3 er F3 g i1 i2 i3):=by rfl)(za:[e1 a,e2 b,e3 c].map A.loose=[e1 a,e2 b,e3 c]:=by exact loC _ _ (loC _ _ (loC _ _ loN))):HO:=Hk g (z0q (hat i h)) (zf3 i hr za h)
def zC4 (i:Nat)(hr:F4 a b c d=some r)(h:l[i]?=some (zhN k e1 e2 e3 e4 er F4 g i1 i2 i3 i4):=by rfl)(za:[e1 a,e2 b,e3 c,e4 d].map A.loose=[e1 a,e2 b,e3 c,e4 d]:=by exact loC _ _ (loC _ _ (loC _ _ (loC _ _ loN)))):HO:=Hk g (z0q (hat i h)) (zf4 i hr za h)
include H in
def zk2 (i:Nat)(hr:F2 a b=some r)(h:l[i]?=some (Zb k e1 e2 er F2 g i1 i2):=by rfl):uD prog k [e1 a,e2 b] (er r):=zh9 H.ok (hat i h) (x:=(a,b)) hr
variable {fn:Func}{pn:List (Nat×Value)}{n:Fr}{Q:Exit->St->Prop}{c:Code}{fs:List Fm}{st:St}{σ τ:Type}{J:St->Prop}
noncomputable abbrev hEt (keep:Bool)(rs:List (Nat×TD))(r:A)(E:St->Prop):Prop:=∀st x R U,zhQ vF keep rs st=some (x,R,U)->LeV x r->E st
noncomputable abbrev zN (fn:Func)(pn:List (Nat×Value)):Fr:=⟨fn.ntmps,pn⟩
noncomputable abbrev zW (fn:Func)(pn:List (Nat×Value))(Q:Exit->St->Prop)(c:Code)(fs:List Fm)(s:St):Prop:=AWP prog (zN fn pn) c s (Qf prog (zN fn pn) fs Q)
def zOk (f:Func)(n:Nat):Bool:=f.body.isSome && !(f.name == "runtime.NumGoroutine")&&Nat.ble n f.ntmps
noncomputable abbrev zB (keep:Bool)(fn:Func)(r:A)(vs:List A):Prop:=∀E,hEt keep (rsO fn) r E->zW fn [] (zeS E) (zbd fn) [] (ofL (z8P 0 vs))
def ySp {k:Nat}{r:A}{ls:List A}(keep:Bool)(hf:prog.funcs[k]?=some fn)(h:zB keep fn r ls){m:Nat}(hz:zOk fn m=true)(hm:ls.length=m):uD prog k ls r:=by subst hm;simp only[zOk,pF,nQ]at hz;obtain⟨b,hb⟩:=nL.1 hz.1.1;exact zei (tt:=vF) (keep:=keep) (rs:=rsO fn) (n:=⟨fn.ntmps,[]⟩) (body:=zbd fn) zr hf hz.1.2 (by simp[zbd,hb]) rfl (zjr fn) (Nat.le_of_ble_eq_true hz.2) h
def zY {k:Nat}{r:A}{ls:List A}(keep:Bool)(hf:prog.funcs[k]?=some fn)(h:zB keep fn r ls)(hz:zOk fn ls.length=true:=by kernel_rfl):uD prog k ls r:=ySp keep hf h hz rfl
def zO1 (h:∀a r,F1 a=some r->uD prog k [e1 a] (er r)):(XA k e1 er F1 g i1).Ok prog:=Ut λx r q=>h x r q
def zO2 (h:∀a b r,F2 a b=some r->uD prog k [e1 a,e2 b] (er r)):(Zb k e1 e2 er F2 g i1 i2).Ok prog:=Ut λx r q=>h x.1 x.2 r q
def zO3 (h:∀a b c r,F3 a b c=some r->uD prog k [e1 a,e2 b,e3 c] (er r)):(z18 k e1 e2 e3 er F3 g i1 i2 i3).Ok prog:=Ut λx r q=>h x.1 x.2.1 x.2.2 r q
def zO4 (h:∀a b c d r,F4 a b c d=some r->uD prog k [e1 a,e2 b,e3 c,e4 d] (er r)):(zhN k e1 e2 e3 e4 er F4 g i1 i2 i3 i4).Ok prog:=Ut λx r q=>h x.1 x.2.1 x.2.2.1 x.2.2.2 r q
def yS0 (keep:Bool)(hf:prog.funcs[k]?=some fn)(h:∀r,F0=some r->zB keep fn (er r) [])(hz:zOk fn 0=true:=by kernel_rfl):(zhO k er F0 g).Ok prog:=Ut λ_ r q=>ySp keep hf (h r q) hz rfl
def yS1 (keep:Bool)(hf:prog.funcs[k]?=some fn)(h:∀a r,F1 a=some r->zB keep fn (er r) [e1 a])(hz:zOk fn 1=true:=by kernel_rfl):(XA k e1 er F1 g i1).Ok prog:=zO1 λa r q=>ySp keep hf (h a r q) hz rfl
def yS2 (keep:Bool)(hf:prog.funcs[k]?=some fn)(h:∀a b r,F2 a b=some r->zB keep fn (er r) [e1 a,e2 b])(hz:zOk fn 2=true:=by kernel_rfl):(Zb k e1 e2 er F2 g i1 i2).Ok prog:=zO2 λa b r q=>ySp keep hf (h a b r q) hz rfl
def yS3 (keep:Bool)(hf:prog.funcs[k]?=some fn)(h:∀a b c r,F3 a b c=some r->zB keep fn (er r) [e1 a,e2 b,e3 c])(hz:zOk fn 3=true:=by kernel_rfl):(z18 k e1 e2 e3 er F3 g i1 i2 i3).Ok prog:=zO3 λa b c r q=>ySp keep hf (h a b c r q) hz rfl
def yS4 (keep:Bool)(hf:prog.funcs[k]?=some fn)(h:∀a b c d r,F4 a b c d=some r->zB keep fn (er r) [e1 a,e2 b,e3 c,e4 d])(hz:zOk fn 4=true:=by kernel_rfl):(zhN k e1 e2 e3 e4 er F4 g i1 i2 i3 i4).Ok prog:=zO4 λa b c d r q=>ySp keep hf (h a b c d r q) hz rfl
section
variable {E:St->Prop}{r:A}{keep:Bool}{rs:List (Nat×TD)}(hE:hEt keep rs r E)(L:List HO)
noncomputable abbrev zrE [H:HS X l](n:Fr)(keep:Bool)(rs:List (Nat×TD))(c:Code)(fs:List Fm)(st:St)(L:List HO):=zly X vF H.c n keep rs 4000 c fs st (hoH L)
include hE in
theorem yEx (x:A)(hle:LeV x r)(e:zrE n keep rs c fs st L=some (x,hoO L):=by kernel_rfl):AWP prog n c st (Qf prog n fs (zeS E)):=zkA X zr H.ok z1B hE 4000 (hoB L) (by rw[<-z85];exact e) hle
include hE in
theorem yE (e:zrE n keep rs c fs st L=some (r,hoO L):=by kernel_rfl):AWP prog n c st (Qf prog n fs (zeS E)):=yEx hE L r (LeV.refl _) e
def vE (r:Option (A×List Prop)):A:=match r with|some (x,_)=>x|none=>.dead 0
include hE in
theorem yEl (e:zrE n keep rs c fs st L=some (vE (zrE n keep rs c fs st L),hoO L):=by kernel_rfl)(e2:(vE (zrE n keep rs c fs st L)).loose=r:=by kernel_rfl):AWP prog n c st (Qf prog n fs (zeS E)):=yEx hE L _ ⟨λ_ _ _ _ q=>e2▸q.loose⟩ e
end
noncomputable abbrev zzq [H:HS X l](n:Fr)(ks:TC)(c:Code)(fs:List Fm)(st:St)(L:List HO):=zlx X vF H.c n ks 4000 c fs st (hoH L)
def yW {ks:TC}{s:z8o}{s0:St}(L:List HO)(e:zzq n ks c fs st L=some (s,s0,hoO L))(h:∀st0,canon ks st0=s0->s.sem prog n Q st0):AWP prog n c st (Qf prog n fs Q) :=
 zhx X zr H.ok z1B ks 4000 (hoB L) (by rw[<-z85];exact e) h
noncomputable abbrev hJt (ks:TC)(J:St->Prop)(Inv:τ->Prop)(S:τ->List (Nat×T)):Prop:=∀st' l' z,Inv z->Own.canon ks st'=ofL l'->LeL l' (S z)->J st'
variable {live:TC}{S:τ->List (Nat×T)}{Inv:τ->Prop}
def yBx (hJ:hJt live J Inv S)(z:τ)(hz:Inv z)(l:List (Nat×T))(hl:LeL l (S z))(L:List HO)(e:zzq n live c fs st L=some (.back J,ofL l,hoO L):=by kernel_rfl):AWP prog n c st (Qf prog n fs Q):=yW L e λst0 h0=>hJ st0 _ z hz h0 hl
def yB (hJ:hJt live J Inv S)(z:τ)(hz:Inv z)(L:List HO)(e:zzq n live c fs st L=some (.back J,ofL (S z),hoO L):=by kernel_rfl):AWP prog n c st (Qf prog n fs Q):=yBx hJ z hz _ (LeL.refl _) L e
def yF (ex:Exit)(l:List (Nat×T))(L:List HO)(h:∀st0,Own.canon (z0p l) st0=ofL l->Q ex st0)(e:zzq n (z0p l) c fs st L=some (.fin ex,ofL l,hoO L):=by kernel_rfl):AWP prog n c st (Qf prog n fs Q):=yW L e h
def yAt (c':Code)(fs':List Fm)(l:List (Nat×T))(L:List HO)(h:∀st0,Own.canon (z0p l) st0=ofL l->AWP prog n c' st0 (Qf prog n fs' Q))(e:zzq n (z0p l) c fs st L=some (.at c' fs',ofL l,hoO L):=by kernel_rfl):AWP prog n c st (Qf prog n fs Q):=yW L e h
def yD (i:Nat)(L:TC){k:Nat}{xs0:List A}{ls:List (Value×A)}{pv:Value}(hd:Kf prog k xs0 ls pv)(xs:List A)(hx:Ji xs xs0)(Lh:List HO)(hQ:∀st',Q (.panic (jC pv)) st')(e:zmc X vF H.c n c i L st (hoH Lh)=some ([.fn k []],xs,ls,hoO Lh):=by kernel_rfl):AWP prog n c st (Qf prog n fs Q):=yD6 X zr H.ok i L hd xs hx Lh e hQ
def yP (i:Nat){T:Nat}{v:Value}(Lh:List HO)(hQ:∀st',Q (.panic (jC (.iface T v))) st')(e:zlF X vF H.c n c i st (hoH Lh)=some (.atom (.iface T v),hoO Lh):=by kernel_rfl):AWP prog n c st (Qf prog n fs Q):=yP6 X zr H.ok i Lh e hQ
def dgL (n:Nat):TC:=Nat.rec (motive:=λ_=>Nat->TC->TC) (λ_ l=>l) (λ_ ih m l=>if m<10 then l else ih (m/10) (m%10::l)) 40 n []
noncomputable instance (n:Nat):OfNat TC n:=⟨dgL n⟩
noncomputable abbrev zzt (p:TC)(d:Nat)(fn:Func):Code:=sub (p++[d]) (zbd fn)
noncomputable abbrev zzp (p:TC)(fn:Func):Code:=sub p (zbd fn)
noncomputable abbrev zzm (p:TC)(Js:List (St->Prop))(fn:Func):=frs p Js (zbd fn) []
noncomputable abbrev zzr [H:HS X l](fn:Func)(pn:List (Nat×Value))(ks:TC)(c:Code)(fs:List Fm)(st:St)(L:List HO):=zzq (zN fn pn) ks c fs st L
noncomputable abbrev zzs [H:HS X l](fn:Func)(pn:List (Nat×Value))(ks:TC)(c:Code)(fs:List Fm)(st:St)(L:List HO):St:=stO (zzr fn pn ks c fs st L)
noncomputable abbrev zzu (p:TC)(Js:List (St->Prop))(fn:Func)(s:St)(L:List HO):Option (z8o×St×List Prop):=some (.at (zzp p fn) (zzm p Js fn),s,hoO L)
noncomputable abbrev zzv (fn:Func)(pn:List (Nat×Value))(Q:Exit->St->Prop)(p:TC)(Js:List (St->Prop))(Inv:σ->Prop)(S:σ->St):Prop:=∀z,Inv z->zW fn pn Q (zzt p 1 fn) (zzm p Js fn) (S z)
noncomputable abbrev zzw (fn:Func)(pn:List (Nat×Value))(Q:Exit->St->Prop)(p:TC)(Js:List (St->Prop))(live:TC)(Inv:σ->Prop)(S:σ->List (Nat×T))(s:St):Prop:=∀J:St->Prop,hJt live J Inv S->zW fn pn Q (zzt p 2 fn) (.pre J::zzm p Js fn) s
noncomputable abbrev rdT (fn:Func)(pn:List (Nat×Value))(Q:Exit->St->Prop)(p:TC)(Js:List (St->Prop))(ks:TC)(f:σ->Option (LR σ τ))(t:τ)(S:σ->List (Nat×T)):Prop:=∀x m lr,f x=some lr->znZ f m t lr->∀J:St->Prop,hJt ks J (λx'=>JQ f m x'=some t) S->zW fn pn Q (zzt p 0 fn) (.pre J::zzm p Js fn) (ofL (S x))
variable (path:TC)(Js:List (St->Prop))
theorem yC (ks:TC)(L:List HO)(h:zW fn pn Q (zzp path fn) (zzm path Js fn) (zzs fn pn ks c fs st L))(e:zzr fn pn ks c fs st L=zzu path Js fn (zzs fn pn ks c fs st L) L:=by kernel_rfl):zW fn pn Q c fs st:=yW L e λst0 h0=>AWP.canon ks (by rw[h0];exact h)
theorem yA (l:List (Nat×T))(L:List HO)(h:zW fn pn Q (zzp path fn) (zzm path Js fn) (ofL l))(e:zzr fn pn (z0p l) c fs st L=zzu path Js fn (ofL l) L:=by kernel_rfl):zW fn pn Q c fs st:=yW L e λst0 h0=>z4A h0 h
section
variable {f:σ->Option (LR σ τ)}{t:τ}
theorem yLx (f:σ->Option (LR σ τ))(S:σ->List (Nat×T))(x0:σ){t:τ}(ht:loop f x0=some t)(l:List (Nat×T))(hl:LeL l (S x0))(L:List HO)(round:rdT fn pn Q path Js (z0p l) f t S)(e:zzr fn pn (z0p l) c fs st L=zzu path Js fn (ofL l) L:=by kernel_rfl)(e2:zzp path fn=.loop (zzt path 0 fn):=by kernel_rfl)(hk:∀x,z0p (S x)=z0p l:=by exact λ_=>rfl):zW fn pn Q c fs st:=by refine yW L e λst0 h0=>?_;refine zep (X:=σ×Nat) e2 (z0p l) (λx=>JQ f x.2 x.1=some t) (λx=>x.2) (λx=>S x.1) (x0,Wh) _ h0 hl ht ?_;rintro⟨x,k⟩ hx J hJ;obtain⟨m,lr,rfl,hf,hr⟩:=zlN hx;exact round x m lr hf hr J λst' l' x' h1 h2 h3=>hJ st' l' (x',m) h1 (gG m) h2 h3
theorem yL (f:σ->Option (LR σ τ))(S:σ->List (Nat×T))(x0:σ){t:τ}(ht:loop f x0=some t)(L:List HO)(round:rdT fn pn Q path Js (z0p (S x0)) f t S)(e:zzr fn pn (z0p (S x0)) c fs st L=zzu path Js fn (ofL (S x0)) L:=by kernel_rfl)(e2:zzp path fn=.loop (zzt path 0 fn):=by kernel_rfl)(hk:∀x,z0p (S x)=z0p (S x0):=by exact λ_=>rfl):zW fn pn Q c fs st:=yLx path Js f S x0 ht _ (LeL.refl _) L round e e2 hk
variable (ks:TC)(dl:σ->List (Nat×T)){x0:σ}
theorem yM (ht:loop f x0=some t)(L:List HO)(round:rdT fn pn Q path Js ks f t λx=>clS ks (zzs fn pn ks c fs st L) (dl x))(e:zzr fn pn ks c fs st L=zzu path Js fn (ofL (clS ks (zzs fn pn ks c fs st L) (dl x0))) L:=by kernel_rfl)(e2:zzp path fn=.loop (zzt path 0 fn):=by kernel_rfl):zW fn pn Q c fs st:=by
 have hk:∀x,z0p (clS ks (zzs fn pn ks c fs st L) (dl x))=ks:=λx=>z7Y _ _ _;refine yLx path Js f (λx=>clS ks (zzs fn pn ks c fs st L) (dl x)) x0 ht _ (LeL.refl _) L ?_ (by rw[hk];exact e) e2 λx=>by rw[hk,hk]
 rw[hk];exact round
theorem yMb {ρ':Type}{k:τ->Option ρ'}{r:ρ'}(hb:Option.bind (loop f x0) k=some r)(L:List HO)(round:∀t,k t=some r->rdT fn pn Q path Js ks f t λx=>clS ks (zzs fn pn ks c fs st L) (dl x))(e:zzr fn pn ks c fs st L=zzu path Js fn (ofL (clS ks (zzs fn pn ks c fs st L) (dl x0))) L:=by kernel_rfl)(e2:zzp path fn=.loop (zzt path 0 fn):=by kernel_rfl):zW fn pn Q c fs st:=by obtain⟨t,ht,h⟩:=zt hb;exact yM path Js ks dl ht L (round t h) e e2
def okT:T->Bool
 |.own _|.d _|.gone=>true
 |.als _ p _ _=>p.isEmpty
 |_=>false
theorem zjK {x:T}(h:okT x=true):LeT x x:=by
 cases x with
 |own x=>exact⟨x,rfl,inferInstance⟩
 |d x=>exact⟨x,rfl,inferInstance⟩
 |gone=>rfl
 |als r p er ec=>cases p with
  |nil=>exact⟨rfl,rfl⟩
  |cons a p=>cases h
 |_=>cases h
theorem zfp {s:St}:∀{d d':List (Nat×T)},z0G d d'->z0p d=z0p d'->∀{ks:TC},(ks.all λk=>okT (s k).t)=true->z0G (clS ks s d) (clS ks s d')
 |_,_,_,_,[],_=>z0G.nil
 |d,d',hd,hk,k::ks,h=>by
  simp only[List.all_cons,pF]at h;refine z0G.cons' ?_ (zfp hd hk h.2);have q:=(hd.ent k).2.2;clear hd;induction d generalizing d' with
  |nil=>cases d' with
   |nil=>exact zjK h.1
   |cons y d'=>cases hk
  |cons x d ih=>cases d' with
   |nil=>cases hk
   |cons y d'=>
    simp only[z0p,gF,List.cons.injEq]at hk;simp only[ofL,hk.1]at q;simp only[List.lookup,hk.1];by_cases e:k=y.1
    ·subst e;simpa using q
    simp only[e,if_false]at q;rw[show(k==y.1)=false by simpa using e];exact ih _ hk.2 q
theorem yMx (ht:loop f x0=some t)(d0:List (Nat×T))(L:List HO)(round:rdT fn pn Q path Js ks f t λx=>clS ks (zzs fn pn ks c fs st L) (dl x))(e:zzr fn pn ks c fs st L=zzu path Js fn (ofL (clS ks (zzs fn pn ks c fs st L) d0)) L:=by kernel_rfl)(e2:zzp path fn=.loop (zzt path 0 fn):=by kernel_rfl)(ho:(ks.all λk=>okT (zzs fn pn ks c fs st L k).t)=true:=by kernel_rfl)(hk:z0p d0=z0p (dl x0):=by rfl)(hd:z0G d0 (dl x0):=by infer_instance):zW fn pn Q c fs st:=by
 have hk:∀d,z0p (clS ks (zzs fn pn ks c fs st L) d)=ks:=λd=>z7Y _ _ _;refine yLx path Js f (λx=>clS ks (zzs fn pn ks c fs st L) (dl x)) x0 ht (clS ks (zzs fn pn ks c fs st L) d0) ⟨.inr (zfp hd ‹_› ho)⟩ L ?_ (by rw[hk];exact e) e2 λx=>by rw[hk,hk]
 rw[hk];exact round
end
noncomputable abbrev zI {ρ:Type}(F:σ->Option ρ)(r:ρ)(z:σ):Prop:=F z=some r
variable (live:TC)(Inv:σ->Prop)(S:σ->List (Nat×T))
theorem yK (ks:TC)(L:List HO)(h1:zzv fn pn Q path Js Inv λz=>ofL (S z))(h2:zzw fn pn Q path Js live Inv S (zzs fn pn ks c fs st L))(e:zzr fn pn ks c fs st L=zzu path Js fn (zzs fn pn ks c fs st L) L:=by kernel_rfl)(e2:zzp path fn=.seq (zzt path 2 fn) (zzt path 1 fn):=by kernel_rfl):zW fn pn Q c fs st:=by refine yW L e λst0 h0=>?_;show AWP prog _ (zzp path fn) st0 _;rw[e2];refine AWP.canon ks ?_;rw[h0];refine AWP.nextC live λK hK=>h2 K λst' l' z hz he hl=>hK st' ?_;rw[he];exact zeq hl (h1 z hz)
theorem yJ (l:List (Nat×T))(L:List HO)(h1:zzv fn pn Q path Js Inv λz=>ofL (S z))(h2:zzw fn pn Q path Js live Inv S (ofL l))(e:zzr fn pn (z0p l) c fs st L=zzu path Js fn (ofL l) L:=by kernel_rfl)(e2:zzp path fn=.seq (zzt path 2 fn) (zzt path 1 fn):=by kernel_rfl):zW fn pn Q c fs st:=yW L e λst0 h0=>zer e2 live (z0p l) _ h0 Inv S h1 h2
theorem yN (ks:TC)(L:List HO)(h1:zzv fn pn Q path Js Inv λz=>ofL (clS live (zzs fn pn ks c fs st L) (S z)))(h2:zzw fn pn Q path Js live Inv (λz=>clS live (zzs fn pn ks c fs st L) (S z)) (zzs fn pn ks c fs st L))(e:zzr fn pn ks c fs st L=zzu path Js fn (zzs fn pn ks c fs st L) L:=by kernel_rfl)(e2:zzp path fn=.seq (zzt path 2 fn) (zzt path 1 fn):=by kernel_rfl):zW fn pn Q c fs st:=yK path Js live Inv _ ks L h1 h2 e e2
theorem yNs (L:List HO)(h1:zzv fn pn Q path Js Inv λz=>ofL (clS live (zzs fn pn live c fs st L) (S z)))(h2:zzw fn pn Q path Js live Inv (λz=>clS live (zzs fn pn live c fs st L) (S z)) (zzs fn pn live c fs st L))(e:zzr fn pn live c fs st L=zzu path Js fn (zzs fn pn live c fs st L) L:=by kernel_rfl)(e2:zzp path fn=.seq (zzt path 2 fn) (zzt path 1 fn):=by kernel_rfl):zW fn pn Q c fs st:=yK path Js live Inv _ live L h1 h2 e e2
theorem yKs (L:List HO)(h1:zzv fn pn Q path Js Inv λz=>ofL (S z))(h2:zzw fn pn Q path Js live Inv S (zzs fn pn live c fs st L))(e:zzr fn pn live c fs st L=zzu path Js fn (zzs fn pn live c fs st L) L:=by kernel_rfl)(e2:zzp path fn=.seq (zzt path 2 fn) (zzt path 1 fn):=by kernel_rfl):zW fn pn Q c fs st:=yK path Js live Inv S live L h1 h2 e e2
end
def Hb {t b:Bool}{p:Prop}(h:t=b/\p):HO:=Hq h.1
noncomputable instance {t b:Bool}{p:Prop}(h:t=b/\p):CoeDep (t=b/\p) h HO:=⟨Hb h⟩
def yj {α β γ:Type}{x:Option α}{f:α->Option β}{g:α->β->Option γ}{r:γ}(h:Option.bind x (λu=>Option.bind (f u) (g u))=some r):∃u,x=some u/\∃v,f u=some v/\g u v=some r:=by obtain⟨u,h,q⟩:=zt h;exact⟨u,h,zt q⟩
def Zc {α β γ δ:Type}{x:Option α}{f:α->Option β}{g:α->β->Option γ}{k:α->β->γ->Option δ}{r:δ}(h:Option.bind x (λu=>Option.bind (f u) λv=>Option.bind (g u v) (k u v))=some r):∃u,x=some u/\∃v,f u=some v/\∃w,g u v=some w/\k u v w=some r:=by obtain⟨u,h,q⟩:=zt h;exact⟨u,h,yj q⟩
def z2N {α β γ δ ε:Type}{x:Option α}{f:α->Option β}{g:α->β->Option γ}{k:α->β->γ->Option δ}{l:α->β->γ->δ->Option ε}{r:ε}(h:Option.bind x (λu=>Option.bind (f u) λv=>Option.bind (g u v) λw=>Option.bind (k u v w) (l u v w))=some r):∃u,x=some u/\∃v,f u=some v/\∃w,g u v=some w/\∃y,k u v w=some y/\l u v w y=some r:=by obtain⟨u,h,q⟩:=zt h;exact⟨u,h,Zc q⟩
def zkx {α β γ δ ε ζ:Type}{x:Option α}{f:α->Option β}{g:α->β->Option γ}{k:α->β->γ->Option δ}{l:α->β->γ->δ->Option ε}{m:α->β->γ->δ->ε->Option ζ}{r:ζ}(h:Option.bind x (λu=>Option.bind (f u) λv=>Option.bind (g u v) λw=>Option.bind (k u v w) λy=>Option.bind (l u v w y) (m u v w y))=some r):∃u,x=some u/\∃v,f u=some v/\∃w,g u v=some w/\∃y,k u v w=some y/\∃z,l u v w y=some z/\m u v w y z=some r:=by obtain⟨u,h,q⟩:=zt h;exact⟨u,h,z2N q⟩
def zgz:zl2 prog 22 9:=zgh (e:=5) underlying22 underlying5 underlying9
def zah:zbE prog 218 9 4 z4f (.atom (.bool false)):=zdu underlying218 underlying9 ⟨.bool false,λw=>z7g (f:=Tryz.t4) (by kernel_rfl) rfl w,λS=>yS.2 ⟨rfl,rfl⟩⟩ rfl
def z5H:zbE prog 254 259 3 (z1D [.i64,.i64,.i64,.i64,.i64,.i64,.i64,.i64,.i64,.i64,.i64,.i64,.i64,.i64,.i64,.i64,.i64,.i64,.i64,.i64,.i64,.i64,.i64,.i64,.i64,.i64,.i64,.i64,.i64,.i64,.i64,.i64,.i64]) (.atom (.int .i64 0)):=zdv underlying254 _ underlying259 (exq Go.Ex.zni) (z7i.eqn rfl) rfl ⟨.int .i64 0,λw=>z7g (f:=Tryz.t3) (by kernel_rfl) rfl w,λS=>yS.2 ⟨rfl,rfl⟩⟩ rfl
def zhb:z8r prog 99 0 3 0:=zaR underlying99 _ rfl rfl rfl
def zjb:zhH prog 136 1 false:=zcS zr (t:=51) Tryz.so136 rfl rfl (by kernel_rfl) (by decide)
def l0:List yi:=[]
abbrev sy:=eI .i64
def l1:List yi:=Zb 68 F6_ sy sy Y7::l0
def z2D [H:HS X0 l0]:OkH l1:=yS2 true func68 λl_ k_ r0 aa E hE=>by
 obtain c0|c0:=zF aa
 ·obtain⟨bi,h0,aa⟩:=zt c0.2;cases aa;exact yE hE [Ha (lnM (eI .u16) l_),c0,Hi (eI .u16) h0]
 cases c0.2;exact yE hE [Ha (lnM (eI .u16) l_),c0]
def l2:List yi:=XA 34 zo1 yG Qc::l1
def z4Y [H:HS X0 l1]:OkH l2:=yS1 false func34 λx_ r0 aa E hE=>by
 obtain⟨g0,aa⟩:=gdE aa;obtain⟨g1,aa⟩:=gdE aa;obtain⟨g2,aa⟩:=gdE aa;refine yNs 1111 [] [1,2,3,4] (zI (Vk x_) r0) (λz=>[(4,.own (.box (.agg [I (w64 (1+(w64 (Int.tmod x_.Inputs 3)))),I (w64 (1+(w64 (Int.tmod x_.Outputs 3)))),eOs 1 false uu z])))]) [Hn g0,Hn g1,Hn g2,Hh (.cut 3)] ?_ λJ1 ar=>?_
 ·rintro gj aa;refine yNs 11111 [] [1,2,3,4] (zI (Vj x_) r0) (λz=>[(4,.own (.box (.agg [I (w64 (1+(w64 (Int.tmod x_.Inputs 3)))),I (w64 (1+(w64 (Int.tmod x_.Outputs 3)))),eOs 1 false uu z])))]) [Hh (.cut 0)] ?_ λJ2 au=>?_
  ·rintro bq aa;refine yN 111111 [] [2,4] (zI (Vi x_) r0) (λz=>[(4,.own (.box (.agg [I (w64 (1+(w64 (Int.tmod x_.Inputs 3)))),I (w64 (1+(w64 (Int.tmod x_.Outputs 3)))),eOs 1 false uu z])))]) [1,2,3,4] [Hh (.cut 0)] ?_ λJ3 bg=>?_
   ·rintro cm aa;cases aa;exact yE hE [Hm (shM uu yO cm)]
   refine yMb 111111210 [J3] [1,2,3,4,13] (λx=>[(4,.own (.box (.agg [I (w64 (1+(w64 (Int.tmod x_.Inputs 3)))),I (w64 (1+(w64 (Int.tmod x_.Outputs 3)))),eOs 1 false uu x.1]))),(13,.d (I x.2))]) aa  [] λt4 aa ⟨gu,s_⟩ m4 av ae hl1 J4 db=>?_;obtain c0|c0:=zF ae
   ·refine yNs 11111121001 [J3,J4] [1,2,3,4,13] (zI (Vh s_) av) (λz=>[(4,.own (.box (.agg [I (w64 (1+(w64 (Int.tmod x_.Inputs 3)))),I (w64 (1+(w64 (Int.tmod x_.Outputs 3)))),eOs 1 false uu z])))]) [c0,Hh (.cut 0)] ?_ λJ5 dc=>?_
    ·rintro gl ae;cases ae;exact yB db _ hl1 []
    refine yMb 111111210012010 [J3,J4,J5] [1,2,3,4,13,14] (λx=>[(4,.own (.box (.agg [I (w64 (1+(w64 (Int.tmod x_.Inputs 3)))),I (w64 (1+(w64 (Int.tmod x_.Outputs 3)))),eOs 1 false uu x.1]))),(14,.d (I x.2))]) c0.2  [] λt6 ae ⟨ik,i_⟩ m6 dj ah hl2 J6 ep=>?_;obtain c1|c1:=zF ah
    ·refine yNs 11111121001201001 [J3,J4,J5,J6] [1,2,3,4,13,14] (zI (YJ i_) dj) (λz=>[(4,.own (.box (.agg [I (w64 (1+(w64 (Int.tmod x_.Inputs 3)))),I (w64 (1+(w64 (Int.tmod x_.Outputs 3)))),eOs 1 false uu z])))]) [c1,Hh (.cut 0)] ?_ λJ7 gw=>?_
     ·rintro mg ah;cases ah;exact yB ep _ hl2 []
     obtain⟨pj,h0,om,h1,ah⟩:=yj c1.2;let Z0:List HO:=[Hn (iL uu h0),Hs (iM uu h0),Hs (iM uu h0),Hn (iL wk h1),Hs (iM uu h0),Hs (iM wk h1),Hs (iM uu h0),Hs (iM wk h1)];obtain c2|c2:=zF ah
     ·obtain⟨k0,h2,r_,h3,ah⟩:=yj c2.2;obtain⟨g3,ah⟩:=gdE ah;obtain⟨kr,h4,ah⟩:=zt ah;exact yB gw (ik.set s_.toNat (k0.set i_.toNat (z7.mk (Int.tmod r_ (w64 (1+(w64 (Int.tmod x_.States 6))))) kr.Out))) ah (Z0++[c2,Hn (iL uu h2),Hs (iM uu h2),zC2 0 h3,Hn g3,Hs (iM uu h2),Hn (iL wk h4),Hs (iM uu h2),Hs (iM wk h4),Hs (iM uu h2),Hs (iM wk h4),Hs (iM uu h2),Hs (iM wk h4),Hl (sM wk k0 i_ (z7.mk (Int.tmod r_ (w64 (1+(w64 (Int.tmod x_.States 6))))) kr.Out)),Hl (sM uu ik s_ (k0.set i_.toNat (z7.mk (Int.tmod r_ (w64 (1+(w64 (Int.tmod x_.States 6))))) kr.Out)))])
     exact yB gw ik c2.2 (Z0++[c2])
    cases c1.2;cases hl2;exact yB dc ik ae [c1]
   cases c0.2;cases hl1;exact yB bg gu aa [c0]
  refine yMb 11111210 [J2] [1,2,3,4,9] (λx=>[(4,.own (.box (.agg [I (w64 (1+(w64 (Int.tmod x_.Inputs 3)))),I (w64 (1+(w64 (Int.tmod x_.Outputs 3)))),eOs 1 false uu x.1]))),(9,.d (I x.2))]) aa  [] λt8 aa ⟨cn,bk⟩ m8 av ae hl1 J8 lq=>?_;obtain c3|c3:=zF ae
  ·refine yNs 1111121001 [J2,J8] [1,2,3,4,9] (zI (Vg bk) av) (λz=>[(4,.own (.box (.agg [I (w64 (1+(w64 (Int.tmod x_.Inputs 3)))),I (w64 (1+(w64 (Int.tmod x_.Outputs 3)))),eOs 1 false uu z])))]) [c3,Hh (.cut 0)] ?_ λJ9 qe=>?_
   ·rintro mh ae;cases ae;exact yB lq _ hl1 []
   refine yNs 1111121001201 [J2,J8,J9] [1,2,3,4,9,10] (zI (Wg x_ cn bk) av) (λz=>[(10,.own (eOs 1 false sy z))]) [Hh (.cut 1)] ?_ λJ10 hJ10=>?_
   ·rintro free ae;obtain⟨nz,h5,ae⟩:=zt ae;refine yN 111112100120111 [J2,J8,J9] [1,2,3,4,9,12] (zI (um x_ cn bk) av) (λz=>[(12,.d (I z))]) [1,2,3,4,9,10,12] [Hn (iL sy h5),Hs (iM sy h5),Hh (.cut 0)] ?_ λse pw=>?_
    ·rintro k_ ae;obtain⟨g4,ae⟩:=gdE ae;obtain⟨k9,h6,ae⟩:=zt ae;obtain⟨g5,ae⟩:=gdE ae;obtain⟨ku,h7,ae⟩:=zt ae;exact yB qe (cn.set (w64 (Int.tdiv k_ (w64 (1+(w64 (Int.tmod x_.Inputs 3)))))).toNat (k9.set (Int.tmod k_ (w64 (1+(w64 (Int.tmod x_.Inputs 3))))).toNat (z7.mk bk ku.Out))) ae [Hn g4,Hn (iL uu h6),Hs (iM uu h6),Hn g5,Hs (iM uu h6),Hn (iL wk h7),Hs (iM uu h6),Hs (iM wk h7),Hs (iM uu h6),Hs (iM wk h7),Hs (iM uu h6),Hs (iM wk h7),Hl (sM wk k9 (Int.tmod k_ (w64 (1+(w64 (Int.tmod x_.Inputs 3))))) (z7.mk bk ku.Out)),Hl (sM uu cn (w64 (Int.tdiv k_ (w64 (1+(w64 (Int.tmod x_.Inputs 3)))))) (k9.set (Int.tmod k_ (w64 (1+(w64 (Int.tmod x_.Inputs 3))))).toNat (z7.mk bk ku.Out)))]
    let Z1:List HO:=[Ha (lnM (eI .u8) x_.Tree)];obtain c4|c4:=zF ae
    ·obtain⟨px,h8,ae⟩:=zt c4.2;obtain⟨g6,ae⟩:=gdE ae;obtain⟨ol,h9,ae⟩:=zt ae;exact yB pw ol ae (Z1++[c4,Hi (eI .u8) h8,Ha (lnM sy free),Hn g6,Hn (iL sy h9),Hs (iM sy h9)])
    exact yB pw nz c4.2 (Z1++[c4])
   obtain⟨t12,ht12,ae⟩:=zt c3.2;refine yMx 1111121001201210 [J2,J8,J9,J10] [1,2,3,4,9,10,11] (λx=>[(10,.own (eOs 1 false sy x.1)),(11,.d (I x.2))]) ht12 [(10,.own (eOs 1 true sy [])),(11,.d (I 0))] [] λ⟨ke,de⟩ sn dj ah hl2 sm si=>?_;obtain c5|c5:=zF ah
   ·refine yNs 111112100120121001 [J2,J8,J9,J10,sm] [1,2,3,4,9,10,11] (zI (ZS de) dj) (λz=>[(10,.own (eOs 1 false sy z))]) [c5,Hh (.cut 0)] ?_ λJ13 hJ13=>?_
    ·rintro n7 ah;cases ah;exact yB si _ hl2 []
    obtain⟨g7,ah⟩:=gdE c5.2;obtain⟨oy,h10,ah⟩:=zt ah;obtain⟨g8,ah⟩:=gdE ah;obtain⟨n8,h11,ah⟩:=zt ah;let Z2:List HO:=[Hn g7,Hn (iL uu h10),Hs (iM uu h10),Hn g8,Hs (iM uu h10),Hn (iL wk h11),Hs (iM uu h10),Hs (iM wk h11),Hs (iM uu h10),Hs (iM wk h11)];obtain c6|c6:=zF ah
    ·obtain⟨g9,ah⟩:=gdE c6.2;exact yB hJ13 (ke++[de]) ah (Z2++[c6,Hq (dM sy [de]),Hn (dM sy [de]),Hn (aL sy sy g9),Hl (aM sy ke [de])])
    exact yB hJ13 ke c6.2 (Z2++[c6])
   cases c5.2;cases hl2;exact yB hJ10 ke ae [c5]
  cases c3.2;cases hl1;exact yB au cn aa [c3]
 obtain⟨sa,ht14,aa⟩:=zt aa;refine yMx 1111210 [J1] [1,2,3,4,5] (λx=>[(4,.own (.box (.agg [I (w64 (1+(w64 (Int.tmod x_.Inputs 3)))),I (w64 (1+(w64 (Int.tmod x_.Outputs 3)))),eOs 1 false uu x.1]))),(5,.d (I x.2))]) ht14 [(4,.own (.box (.agg [I (w64 (1+(w64 (Int.tmod x_.Inputs 3)))),I (w64 (1+(w64 (Int.tmod x_.Outputs 3)))),eOs 1 true uu []]))),(5,.d (I 0))] [] λ⟨fe,da⟩ sp av ae hl1 r7 sj=>?_;obtain c7|c7:=zF ae
 ·refine yNs 111121001 [J1,r7] [1,2,3,4,5] (zI (Wf da) av) (λz=>[(4,.own (.box (.agg [I (w64 (1+(w64 (Int.tmod x_.Inputs 3)))),I (w64 (1+(w64 (Int.tmod x_.Outputs 3)))),eOs 1 false uu z])))]) [c7,Hh (.cut 0)] ?_ λJ15 hJ15=>?_
  ·rintro lw ae;cases ae;exact yB sj _ hl1 []
  refine yNs 111121001201 [J1,r7,J15] [1,2,3,4,5,6] (zI (We fe da) av) (λz=>[(6,.own (eOs 2 false wk z))]) [Hh (.cut 1)] ?_ λJ16 hJ16=>?_
  ·rintro row ae;obtain⟨g10,ae⟩:=gdE ae;exact yB hJ15 (fe++[row]) ae [Hq (oC uu row []),Hn (aL uu uu g10),Hl (aM uu fe [row])]
  obtain⟨t17,ht17,ae⟩:=zt c7.2;refine yMx 111121001201210 [J1,r7,J15,J16] [1,2,3,4,5,6,7] (λx=>[(6,.own (eOs 2 false wk x.1)),(7,.d (I x.2))]) ht17 [(6,.own (eOs 2 true wk [])),(7,.d (I 0))] [] λ⟨bu,fk⟩ m17 dj ah hl2 sq sk=>?_;obtain c8|c8:=zF ah
  ·obtain⟨ai,h12,ah⟩:=zt c8.2;obtain⟨g11,ah⟩:=gdE ah;obtain⟨g12,ah⟩:=gdE ah;obtain⟨g13,ah⟩:=gdE ah;cases ah;exact yB sk _ hl2 [c8,zC2 0 h12,Hn g11,Hn g12,Hq (dM wk ([(z7.mk (-1) (Int.tmod (w64 (Int.tdiv ai (w64 (1+(w64 (Int.tmod x_.States 6)))))) (w64 (1+(w64 (Int.tmod x_.Outputs 3))))))]:List z7)),Hn (dM wk ([(z7.mk (-1) (Int.tmod (w64 (Int.tdiv ai (w64 (1+(w64 (Int.tmod x_.States 6)))))) (w64 (1+(w64 (Int.tmod x_.Outputs 3))))))]:List z7)),Hn (aL wk wk g13),Hl (aM wk bu ([(z7.mk (-1) (Int.tmod (w64 (Int.tdiv ai (w64 (1+(w64 (Int.tmod x_.States 6)))))) (w64 (1+(w64 (Int.tmod x_.Outputs 3))))))]:List z7))]
  cases c8.2;cases hl2;exact yB hJ16 bu ae [c8]
 cases c7.2;cases hl1;exact yB ar fe aa [c7]
def l3:List yi:=zhN 85 yG (eSl 1 false (eSl 1 false eB)) sy sy sy V2::l2
def z3K [H:HS X0 l2]:OkH l3:=yS4 true func85 λm_ bl s_ t_ r0 aa E hE=>by
 refine yK 11 [] [] (λz:Unit=>QF=some r0) (λz=>[]) [1,2,3,4] [Hh (.cut 1)] ?_ λJ1 ar=>?_
 ·rintro⟨⟩ aa;cases aa;exact yE hE []
 refine yMb 11210 [J1] [1,2,3,4,9] (λx=>[(9,.d (I x))]) aa  [] λt2 aa i_ m2 av ae hl1 J2 au=>?_;obtain c0|c0:=zF ae
 ·refine yN 1121001 [J1,J2] [1,2,3,4,9,41,42,43,47,48,58] (λz:Int×Bool×Bool×Bool×Bool×Bool=>qN i_ z.1 z.2.1 z.2.2.1 z.2.2.2.1 z.2.2.2.2.1 z.2.2.2.2.2=some av) (λz=>[(41,.d (I z.1)),(42,.d (B z.2.1)),(43,.d (B z.2.2.1)),(47,.d (B z.2.2.2.1)),(48,.d (B z.2.2.2.2.1)),(58,.d (B z.2.2.2.2.2))]) [1,2,3,4,9] [c0,Hh (.cut 0)] ?_ λJ3 bg=>?_
  ·rintro⟨rc,re,my,rf,rg,oz⟩ ae;cases ae;exact yB au _ hl1 []
  obtain⟨ap,h0,al,h1,du,h2,bp,h3,ae⟩:=z2N c0.2;let Z0:List HO:=[Hi yO h0,Hi wk h1,Hi yO h2,Hi wk h3];obtain c1|c1:=zF ae
  ·cases c1.2;cases hl1;cases aa;exact yE hE (Z0++(rpN 8 (Hb c1) [qT]))
  let Z1:List HO:=(Z0++(rpN 4 (Hb c1) []));obtain c2|c2:=zF c1.2
  ·let Z2:List HO:=(Z1++[c2,c2,c2,c1,c2,c1]);obtain c3|c3:=zF c2.2
   ·obtain⟨jp,h4,gm,h5,ae⟩:=yj c3.2;let Z3:List HO:=(Z2++(rpN 4 (Hb c3) (Hi (eSl 1 false eB) h4::(rpN 4 (Hb c3) [Hi eB h5,c3,c1,c3,c1]))));obtain c4|c4:=zF ae
    ·cases c4.2;cases hl1;cases aa;exact yE hE (Z3++[c4])
    exact yB bg (al.To,decide (al.To>=0),decide (al.To>=0),decide (bp.To>=0),decide (bp.To>=0),gm) c4.2 (Z3++[c4])
   exact yB bg (al.To,decide (al.To>=0),decide (al.To>=0),decide (bp.To>=0),decide (bp.To>=0),false) c3.2 (Z2++(rpN 9 (Hb c3) [c1,c3,c1,qF]))
  exact yB bg (al.To,decide (al.To>=0),decide (al.To>=0),false,false,false) c2.2 (Z1++(Hb c2::Hb c2::Hb c2::Hb c1::Hb c2::Hb c1::(rpN 9 qF [c1,qF,c1,qF])))
 cases c0.2;cases hl1;exact yB ar () aa [c0]
def l4:List yi:=Zb 52 yG sy (eOs 1 false (eOs 1 true eB)) jL::l3
def z2z [H:HS X0 l3]:OkH l4:=yS2 true func52 λm_ k_ r0 aa E hE=>by
 refine yNs 1111 [] [1,2,5,6] (zI (Xl m_ k_) r0) (λz=>[(6,.own (eOs 1 false (eOs 1 true eB) z))]) [Ha (lnM yO m_.Rows),Hh (.cut 1)] ?_ λJ1 ar=>?_
 ·rintro bl aa;refine yK 11111 [] [6] (zI Xk r0) (λz=>[(6,.own (eOs 1 false (eOs 1 true eB) z))]) [1,2,5,6] [Hh (.cut 0)] ?_ λJ2 au=>?_
  ·rintro nl aa;cases aa;exact yE hE []
  refine yMb 11111210 [J2] [1,2,5,6,8] (λx=>[(6,.own (eOs 1 false (eOs 1 true eB) x.1)),(8,.d (I x.2))]) aa  [] λt3 aa ⟨dg,round⟩ m3 av ae hl1 J3 bg=>?_;obtain c0|c0:=zF ae
  ·refine yNs 1111121001 [J2,J3] [1,2,5,6,8] (zI (Xj round) av) (λz=>[(6,.own (eOs 1 false (eOs 1 true eB) z))]) [c0,Hh (.cut 0)] ?_ λJ4 db=>?_
   ·rintro mi ae;cases ae;exact yB bg _ hl1 []
   refine yN 1111121001201 [J2,J3,J4] [1,2,5,8,9] (zI (Xi round) av) (λz=>[(9,.own (eOs 1 false (eOs 1 true eB) z))]) [1,2,5,6,8,9] [Hh (.cut 1)] ?_ λJ5 dc=>?_
   ·rintro next ae
    exact yB db next ae []
   obtain⟨t6,kb,ae⟩:=zt c0.2;refine yMx 1111121001201210 [J2,J3,J4,J5] [1,2,5,6,8,9,10] (λx=>[(9,.own (eOs 1 false (eOs 1 true eB) x.1)),(10,.d (I x.2))]) kb [(9,.own (eOs 1 true (eOs 1 true eB) [])),(10,.d (I 0))] [Hh (.n 3 [6]),Hm (shM (eOs 1 true eB) (eSl 1 true eB) dg)] λ⟨cr,s_⟩ m6 dj ah hl2 J6 ep=>?_;obtain c1|c1:=zF ah
   ·refine yNs 111112100120121001 [J2,J3,J4,J5,J6] [1,2,5,6,8,9,10] (zI (Xh s_) dj) (λz=>[(9,.own (eOs 1 false (eOs 1 true eB) z))]) [c1,Hh (.cut 0)] ?_ λJ7 gw=>?_
    ·rintro ff ah;cases ah;exact yB ep _ hl2 []
    obtain⟨g0,ah⟩:=gdE c1.2;obtain⟨g1,ah⟩:=gdE ah;refine yMb 11111210012012100120110 [J2,J3,J4,J5,J6,J7] [1,2,5,6,8,9,10,11] (λx=>[(9,.own (eOs 1 false (eOs 1 true eB) x.1)),(11,.d (I x.2))]) ah  [Hn (rL g0),Ha (rM 1 eB ((m_.Rows.length:Nat):Int) false),Hq (oC (eOs 1 true eB) (List.replicate ((m_.Rows.length:Nat):Int).toNat false) []),Hn (aL (eOs 1 true eB) (eOs 1 true eB) g1),Hl (aM (eOs 1 true eB) cr [(List.replicate ((m_.Rows.length:Nat):Int).toNat false)])] λt8 ah ⟨cb,t_⟩ m8 nb aw hl3 J8 lq=>?_;obtain c2|c2:=zF aw
    ·obtain⟨jq,h0,jp,h1,gm,h2,aw⟩:=Zc c2.2;let Z0:List HO:=[c2,Hn (iL (eOs 1 true eB) h0),Hs (iM (eOs 1 true eB) h0),Hi (eSl 1 true eB) h1,Hi eB h2];obtain c3|c3:=zF aw
     ·obtain⟨qm,h3,aw⟩:=zt c3.2;cases aw;exact yB lq _ hl3 (Z0++(rpN 7 (Hb c3) [Hs (iM (eOs 1 true eB) h0),Hn (iL eB h3),Hs (iM (eOs 1 true eB) h0),Hs (iM eB h3),Hs (iM (eOs 1 true eB) h0),Hs (iM eB h3),Hl (sM eB jq t_ true),Hl (sM (eOs 1 true eB) cb s_ (jq.set t_.toNat true))]))
     obtain⟨r_,h4,py,h5,aw⟩:=yj c3.2;cases aw;exact yB lq _ hl3 (Z0++(rpN 5 (Hb c3) [Hk [] (z0q (hat 0)) (zf4 0 h4 (loC yG m_<|loC (eSl 1 false (eSl 1 true eB)) dg<|loC sy s_<|loC sy t_<|loN)),c3,c3,Hs (iM (eOs 1 true eB) h0),Hn (iL eB h5),Hs (iM (eOs 1 true eB) h0),Hs (iM eB h5),Hs (iM (eOs 1 true eB) h0),Hs (iM eB h5),Hl (sM eB jq t_ (r_==1)),Hl (sM (eOs 1 true eB) cb s_ (jq.set t_.toNat (r_==1)))]))
    cases c2.2;cases hl3;exact yB gw cb ah [c2]
   cases c1.2;cases hl2;exact yB dc cr ae [c1]
  cases c0.2;cases hl1;exact yB au dg aa [c0]
 obtain⟨t9,ht9,aa⟩:=zt aa;refine yMx 1111210 [J1] [1,2,5,6,7] (λx=>[(6,.own (eOs 1 false (eOs 1 true eB) x.1)),(7,.d (I x.2))]) ht9 [(6,.own (eOs 1 true (eOs 1 true eB) [])),(7,.d (I 0))] [] λ⟨jz,bk⟩ m9 av ae hl1 J9 qe=>?_;obtain c4|c4:=zF ae
 ·obtain⟨g2,ae⟩:=gdE c4.2;obtain⟨g3,ae⟩:=gdE ae;cases ae;exact yB qe _ hl1 [c4,Hn (rL g2),Ha (rM 1 eB ((m_.Rows.length:Nat):Int) false),Hq (oC (eOs 1 true eB) (List.replicate ((m_.Rows.length:Nat):Int).toNat false) []),Hn (aL (eOs 1 true eB) (eOs 1 true eB) g3),Hl (aM (eOs 1 true eB) jz [(List.replicate ((m_.Rows.length:Nat):Int).toNat false)])]
 cases c4.2;cases hl1;exact yB ar jz aa [c4]
def l5:List yi:=XA 157 (eSl 1 false (eSl 1 false eB)) F7_ kO::l4
def Kn [H:HS X0 l4]:OkH l5:=yS1 true func157 λbl r0 aa E hE=>by
 refine yK 1111 [] [3] (zI XT r0) (λz=>[(3,.own (eOs 1 false sy z))]) [0,3,4] [Hh (.cut 3)] ?_ λJ1 ar=>?_
 ·rintro out aa;cases aa;exact yE hE []
 obtain⟨t2,ht2,aa⟩:=zt aa;refine yMx 1111210 [J1] [0,3,4,5] (λx=>[(3,.own (eOs 1 false sy x.1)),(4,.d (I x.2.1)),(5,.d (I x.2.2))]) ht2 [(3,.own (eOs 1 true sy [])),(4,.d (I 0)),(5,.d (I 0))] [] λ⟨aj,n_,s_⟩ m2 av ae hl1 J2 au=>?_;let Z0:List HO:=[Ha (lnM (eSl 1 false eB) bl)];obtain c0|c0:=zF ae
 ·refine yNs 111121001 [J1,J2] [0,3,4,5] (λz:TB×Int=>kN s_ z.1 z.2=some av) (λz=>[(3,.own (eOs 1 false sy z.1)),(4,.d (I z.2))]) (Z0++[c0,Hh (.cut 0)]) ?_ λJ3 bg=>?_
  ·rintro⟨ax,ca⟩ ae;cases ae;exact yB au _ hl1 []
  refine yNs 111121001201 [J1,J2,J3] [0,3,4,5,6] (zI (kM aj n_ s_) av) (λz=>[(6,.d (I z))]) [Hh (.cut 1)] ?_ λJ4 db=>?_
  ·rintro b_ ae;refine yNs 1111210012011 [J1,J2,J3] [0,3,4,5,6] (λz:Int×Int=>wS aj s_ z.1 z.2=some av) (λz=>[(4,.d (I z.1)),(6,.d (I z.2))]) [Hh (.cut 0)] ?_ λJ5 dc=>?_
   ·rintro⟨cd,kw⟩ ae;obtain⟨g0,ae⟩:=gdE ae;exact yB bg ((aj++[kw]),cd) ae [Hq (dM sy [kw]),Hn (dM sy [kw]),Hn (aL sy sy g0),Hl (aM sy aj [kw])]
   obtain c1|c1:=zF ae
   ·exact yB dc (w64 (n_+1),n_) c1.2 [c1]
   exact yB dc (n_,b_) c1.2 [c1]
  refine yMb 111121001201210 [J1,J2,J3,J4] [0,3,4,5,6,7] (λx=>[(6,.d (I x.1)),(7,.d (I x.2))]) c0.2  [] λt6 ae ⟨oq,t_⟩ m6 dj ah hl2 J6 ep=>?_;obtain c2|c2:=zF ah
  ·refine yNs 11112100120121001 [J1,J2,J3,J4,J6] [0,3,4,5,6,7] (zI (uz t_) dj) (λz=>[(6,.d (I z))]) [c2,Hh (.cut 0)] ?_ λJ7 gw=>?_
   ·rintro pz ah;cases ah;exact yB ep _ hl2 []
   obtain⟨jp,h0,gm,h1,ah⟩:=yj c2.2;let Z1:List HO:=[Hi (eSl 1 false eB) h0,Hi eB h1];obtain c3|c3:=zF ah
   ·obtain⟨dn,h2,ah⟩:=zt c3.2;exact yB gw dn ah (Z1++[c3,Hn (iL sy h2),Hs (iM sy h2)])
   exact yB gw oq c3.2 (Z1++[c3])
  cases c2.2;cases hl2;exact yB db oq ae [c2]
 cases c0.2;cases hl1;exact yB ar aj aa (Z0++[c0])
def l6:List yi:=Zb 129 yG sy F7_ UD::l5
def z2y [H:HS X0 l5]:OkH l6:=yS2 true func129 λm_ k_ r0 aa E hE=>by obtain⟨r_,h0,ai,h1,aa⟩:=yj aa;cases aa;exact yE hE [zC2 1 h0,zg 0,Hm (shM (eOs 1 true eB) (eSl 1 true eB) r_),Hs (zf1 0 h1 (loC (eSl 1 false (eSl 1 true eB)) r_<|loN)),Hm (shM (eOs 1 true eB) (eSl 1 true eB) r_)]
def l7:List yi:=XA 97 yG F7_ kP::l6
def z0O [H:HS X0 l6]:OkH l7:=yS1 true func97 λm_ r0 aa E hE=>by obtain⟨r_,h0,aa⟩:=zt aa;cases aa;exact yE hE [Ha (lnM yO m_.Rows),zC2 0 h0]
def l8:List yi:=z18 101 yG sy sy wk Q0::l7
def z4U [H:HS X0 l7]:OkH l8:=yS3 false func101 λm_ s_ i_ r0 aa E hE=>by
 obtain c0|c0:=zF aa
 ·cases c0.2;exact yE hE [c0]
 obtain⟨ap,h0,al,h1,aa⟩:=yj c0.2;cases aa;exact yE hE [c0,Hi yO h0,Hi wk h1]
def l9:List yi:=z18 84 yG sy F8_ sy V7::l8
def Jz:∀(x y:z6×Int×TB),(λx=>[yG x.1,sy x.2.1,F8_ x.2.2]) x=(λx=>[yG x.1,sy x.2.1,F8_ x.2.2]) y->x=y:=zoJ
def qX (mz:z6->Int->TB->Option Int):yi:=spF (α:=z6×Int×TB) (ρ:=Int) 84 (λx=>[yG x.1,sy x.2.1,F8_ x.2.2]) (λr=>sy r) (λx=>mz x.1 x.2.1 x.2.2) [] (by intro x y h;exact(congrArg (λ(p:z6×Int×TB)=>p) (show x=y from Jz x y h)))
def z0Q (mz:z6->Int->TB->Option Int)[H:HS X0 (qX mz::l8)]:(qX (kR mz)).Ok prog:=by
 refine Ut ?_;rintro⟨m_,s_,w_⟩ r0 aa;refine zY true func84 λE hE=>?_;obtain c0|c0:=zF aa
 ·cases c0.2;exact yE hE [Ha (lnM sy w_),c0]
 obtain⟨fc,h0,r_,h1,aa⟩:=yj c0.2;obtain⟨g0,aa⟩:=gdE aa;obtain⟨ai,h2,aa⟩:=zt aa;cases aa;exact yE (H:=zx ((zo9 zr zhb).or X0)) hE [Ha (lnM sy w_),c0,Hi sy h0,zC3 1 h1,Hn (slA g0),Hn (zjd sy g0),Ha (slE 1 false sy w_ (1:Int).toNat),Hc (hat 0 (s:=qX mz)) (x:=(m_,r_.To,(w_.drop (1:Int).toNat))) h2 (loC yG m_<|loC sy r_.To<|loC F8_ (w_.drop (1:Int).toNat)<|loN)]
def z3N [H:HS X0 l8]:OkH l9:=by
 have H:∀n,(qX (kQ n)).Ok prog:=by
  intro n;induction n with
  |zero=>exact Ut λ_ _ h=>nomatch (show none=some _ from h)
  |succ n ih=>exact z0Q _ (H:=za _ ih)
 exact zO3 λa b c r h=>z9q (x:=(a,b,c)) (H _) h
def l10:List yi:=Zb 152 F8_ sy F7_ Wu::l9
def z4S [H:HS X0 l9]:OkH l10:=yS2 true func152 λw_ inputs r0 aa E hE=>by
 obtain⟨g0,aa⟩:=gdE aa;refine yK 111 [] [5] (zI Yy r0) (λz=>[(5,.own (eOs 1 false sy z))]) [1,5] [Hn (dM sy w_),Hn (aL sy sy g0),Hl (aM0 sy w_),Hh (.cut 0)] ?_ λJ1 ar=>?_
 ·rintro out aa;obtain⟨g1,aa⟩:=gdE aa;cases aa;exact yE hE [Hq (dM sy ([0]:TB)),Hn (dM sy ([0]:TB)),Hn (aL sy sy g1),Hl (aM sy out ([0]:TB))]
 refine yMb 111210 [J1] [1,5,6] (λx=>[(5,.own (eOs 1 false sy x.1)),(6,.d (I x.2))]) aa  [Ha (lnM sy w_)] λt2 aa ⟨aj,k_⟩ m2 av ae hl1 J2 au=>?_;obtain c0|c0:=zF ae
 ·obtain⟨dn,h0,ae⟩:=zt c0.2;let Z0:List HO:=[c0,Hn (iL sy h0),Hs (iM sy h0)];obtain c1|c1:=zF ae
  ·obtain⟨jr,h1,o7,h2,ae⟩:=yj c1.2;cases ae;cases hl1;cases aa;exact yE hE (Z0++[c1,Hn (iL sy h1),Hs (iM sy h1),Hn (iL sy h2),Hs (iM sy h2),Hs (iM sy h2),Hl (sM sy aj k_ (w64 (jr+1)))])
  obtain⟨o8,h3,ae⟩:=zt c1.2;cases ae;exact yB au _ hl1 (Z0++[c1,Hn (iL sy h3),Hs (iM sy h3),Hs (iM sy h3),Hl (sM sy aj k_ 0)])
 cases c0.2;cases hl1;exact yB ar aj aa [c0]
def l11:List yi:=Zb 122 yG sy (eT2 z6j (eSl 1 true eB)) V5::l10
def z4H:XH prog:=((W0 zr (.inr 48) [8]).or X0)
def z3L [H:HS z4H l10]:OkH l11:=yS2 false func122 λm_ from_ r0 aa E hE=>by
 obtain⟨g0,aa⟩:=gdE aa;obtain⟨g1,aa⟩:=gdE aa;refine yK 1111 [] [6,7] (λz:TA×List Bool=>W8 z.1 z.2=some r0) (λz=>[(6,.own (eOs 1 true F8_ z.1)),(7,.own (eOs 1 true eB z.2))]) [1,2,6,7] [Ha (lnM yO m_.Rows),Hn (rL g0),Ha (rM 1 F5_ ((m_.Rows.length:Nat):Int) ([]:TB)),Hh (.v 0 [6]),Hm (shM F5_ F4_ (List.replicate ((m_.Rows.length:Nat):Int).toNat ([]:TB))),Ha (lnM yO m_.Rows),Hn (rL g1),Ha (rM 1 eB ((m_.Rows.length:Nat):Int) false),Hh (.cut 0)] ?_ λJ1 ar=>?_
 ·rintro⟨l_,is⟩ aa;cases aa;exact yE hE [Hm (shM F8_ F8_ l_),Hm (shM eB eB is)]
 obtain⟨t2,ht2,aa⟩:=zt aa;refine yMx 1111210 [J1] [1,2,6,7,8] (λx=>[(6,.own (eOs 1 true F8_ x.1)),(7,.own (eOs 1 true eB x.2.1)),(8,.own (eOs 1 false sy x.2.2))]) ht2 [(6,.own (eOs 1 true F4_ (List.replicate ((m_.Rows.length:Nat):Int).toNat ([]:TB)))),(7,.own (eOs 1 true eB (List.replicate ((m_.Rows.length:Nat):Int).toNat false))),(8,.own (eOs 1 true sy []))] [] λ⟨dr,ii,w_⟩ m2 av ae hl1 J2 au=>?_;let Z0:List HO:=[Ha (lnM sy w_),Ha (lnM yO m_.Rows)];obtain c0|c0:=zF ae
 ·refine yNs 111121001 [J1,J2] [1,2,6,7,8] (λz:TA×List Bool=>uk m_ w_ z.1 z.2=some av) (λz=>[(6,.own (eOs 1 true F8_ z.1)),(7,.own (eOs 1 true eB z.2))]) (Z0++[c0,Hh (.n 1 [8]),Hm (shM sy sy w_),Hh (.cut 0)]) ?_ λJ3 bg=>?_
  ·rintro⟨j6,p0⟩ ae;obtain⟨r_,h0,ae⟩:=zt ae;cases ae;exact yB au _ hl1 [zC2 0 h0]
  obtain⟨ai,h1,ae⟩:=zt c0.2;let Z1:List HO:=[zC3 1 h1];obtain c1|c1:=zF ae
  ·obtain⟨pq,h2,ae⟩:=zt c1.2;let Z2:List HO:=(Z1++[c1,c1,c1,Hn (iL eB h2),c1,Hs (iM eB h2),c1,c1]);obtain c2|c2:=zF ae
   ·obtain⟨r8,h3,bi,h4,ae⟩:=yj c2.2;exact yB bg ((dr.set ai.toNat w_),(ii.set ai.toNat true)) ae (Z2++[c2,Hn (iL eB h3),Hs (iM eB h3),Hs (iM eB h3),Hl (sM eB ii ai true),Hn (iL F8_ h4),Hs (iM F8_ h4),Hs (iM F8_ h4),Hl (sM F8_ dr ai w_)])
   exact yB bg (dr,ii) c2.2 (Z2++[c2])
  exact yB bg (dr,ii) c1.2 (Z1++(rpN 6 (Hb c1) [qF]))
 cases c0.2;cases hl1;exact yB ar (dr,ii) aa (Z0++[c0])
def l12:List yi:=XA 81 yG (eT2 z6j (eSl 1 true eB)) XU::l11
def z2A [H:HS X0 l11]:OkH l12:=yS1 false func81 λm_ r0 aa E hE=>by obtain⟨r_,h0,aa⟩:=zt aa;cases aa;exact yE hE [zC2 0 h0]
def l13:List yi:=Zb 143 F8_ F8_ sy UZ::l12
def z4T [H:HS X0 l12]:OkH l13:=yS2 true func143 λa_ b_ r0 aa E hE=>by
 let Z0:List HO:=[Ha (lnM sy a_),Ha (lnM sy b_)];obtain c0|c0:=zF aa
 ·let Z1:List HO:=(Z0++[c0,Ha (lnM sy a_),Ha (lnM sy b_)]);obtain c1|c1:=zF c0.2
  ·cases c1.2;exact yE hE (Z1++[c1])
  cases c1.2;exact yE hE (Z1++[c1])
 refine yK 111 [] [] (λz:Unit=>JM=some r0) (λz=>[]) [0,1] (Z0++[c0,Hh (.cut 0)]) ?_ λJ1 ar=>?_
 ·rintro⟨⟩ aa;cases aa;exact yE hE []
 refine yMb 111210 [J1] [0,1,5] (λx=>[(5,.d (I x))]) c0.2  [] λt2 aa i_ m2 av ae hl1 J2 au=>?_;obtain c2|c2:=zF ae
 ·obtain⟨dv,h0,dx,h1,ae⟩:=yj c2.2;let Z2:List HO:=[Ha (lnM sy a_),c2,Hi sy h0,Hi sy h1];obtain c3|c3:=zF ae
  ·obtain⟨i6,h2,l6,h3,ae⟩:=yj c3.2;let Z3:List HO:=(Z2++[c3,Hi sy h2,Hi sy h3]);obtain c4|c4:=zF ae
   ·cases c4.2;cases hl1;cases aa;exact yE hE (Z3++[c4])
   cases c4.2;cases hl1;cases aa;exact yE hE (Z3++[c4])
  cases c3.2;exact yB au _ hl1 (Z2++[c3])
 cases c2.2;cases hl1;exact yB ar () aa [Ha (lnM sy a_),c2]
def l14:List yi:=XA 109 yG F7_ V6::l13
abbrev KR (out:TB):List (Nat×T):=[(5,.own (eOs 1 false sy out))]
abbrev KQ (r_:TA×List Bool)(s_:Int)(ax:TB):List (Nat×T):=[(3,.d (eSl 1 true F8_ r_.1)),(4,.d (eSl 1 true eB r_.2)),(5,.own (eOs 1 false sy ax)),(6,.d (I s_))]
abbrev KP (r_:TA×List Bool)(aj:TB)(s_:Int)(k_:Int):List (Nat×T):=[(3,.d (eSl 1 true F8_ r_.1)),(4,.d (eSl 1 true eB r_.2)),(5,.own (eOs 1 false sy aj)),(6,.d (I s_)),(7,.d (I k_))]
abbrev KN (r_:TA×List Bool)(aj:TB)(s_:Int)(de:Int):List (Nat×T):=[(3,.d (eSl 1 true F8_ r_.1)),(4,.d (eSl 1 true eB r_.2)),(5,.own (eOs 1 false sy aj)),(6,.d (I s_)),(7,.d (I de))]
abbrev KO (r_:TA×List Bool)(aj:TB)(s_:Int):List (Nat×T):=[(3,.d (eSl 1 true F8_ r_.1)),(4,.d (eSl 1 true eB r_.2)),(5,.own (eOs 1 false sy aj)),(6,.d (I s_))]
def z4I:XH prog:=((W0 zr (.inl 49) []).or ((W0 zr (.inl 47) [5]).or X0))
def z3M [H:HS z4I l13]:OkH l14:=yS1 true func109 λm_ r0 aa E hE=>by
 obtain⟨r_,h0,aa⟩:=zt aa;refine yJ 1111 [] [5] (λz:TB=>W9 z=some r0) (λz=>KR z) [(3,.d (eSl 1 true F8_ r_.1)),(4,.d (eSl 1 true eB r_.2)),(5,.own (eOs 1 true sy []))] [zC1 1 h0,Hh (.cut 1)] ?_ λJ1 ar=>?_
 ·rintro out aa;unfold W9 at aa;obtain rfl:=yH aa;exact yE hE []
 obtain⟨t2,ht2,aa⟩:=zt aa;refine yLx 1111210 [J1] (λs=>qP r_ s.1 s.2) (λx=>KO r_ x.1 x.2) (([]:TB),0) ht2 [(3,.d (eSl 1 true F8_ r_.1)),(4,.d (eSl 1 true eB r_.2)),(5,.own (eOs 1 true sy [])),(6,.d (I 0))] inferInstance [] λ⟨aj,s_⟩ m2 av ae hl1 J2 au=>?_;try unfold qP at ae
 let Z0:List HO:=[Ha (lnM F8_ r_.1)];obtain c0|c0:=zF ae
 ·refine yJ 111121001 [J1,J2] [3,4,5,6] (λz:TB=>ul s_ z=some av) (λz=>KQ r_ s_ z) [(3,.d (eSl 1 true F8_ r_.1)),(4,.d (eSl 1 true eB r_.2)),(5,.own (eOs 1 false sy aj)),(6,.d (I s_))] (Z0++[c0,Hh (.cut 0)]) ?_ λJ3 bg=>?_
  ·rintro ax ae;unfold ul at ae;obtain rfl:=yH ae;exact yB au _ hl1 []
  obtain⟨u_,h1,ae⟩:=zt c0.2;obtain c1|c1:=zF ae
  ·exact yB bg aj c1.2 [Hi eB h1,c1]
  refine yJ 1111210012011 [J1,J2,J3] [3,4,5,6,7] (λz:Int=>ZM aj s_ z=some av) (λz=>KP r_ aj s_ z) [(3,.d (eSl 1 true F8_ r_.1)),(4,.d (eSl 1 true eB r_.2)),(5,.own (eOs 1 false sy aj)),(6,.d (I s_)),(7,.d (I 0))] [Hi eB h1,c1,Hh (.cut 1)] ?_ λJ4 db=>?_
  ·rintro k_ ae;unfold ZM at ae;obtain⟨g0,ae⟩:=gdE ae;obtain⟨g1,ae⟩:=gdE ae;obtain⟨g2,ae⟩:=gdE ae;obtain⟨g3,ae⟩:=gdE ae;obtain⟨g4,ae⟩:=gdE ae;exact yB bg ((((aj.drop 0).take (k_.toNat-0))++[s_])++(aj.drop k_.toNat)) ae [Hm (shM sy sy aj),Hn (slB g0),Hn (zgj sy g0),Ha (slM 1 false sy aj 0 k_.toNat),Hn (dM sy ((aj.drop 0).take (k_.toNat-0))),Hn (aL sy sy g1),Hl (aM0 sy ((aj.drop 0).take (k_.toNat-0))),Hq (dM sy [s_]),Hn (dM sy [s_]),Hn (aL sy sy g2),Hl (aM sy ((aj.drop 0).take (k_.toNat-0)) [s_]),Hn (slA g3),Hn (zjd sy g3),Ha (slE 1 false sy aj k_.toNat),Hn (dM sy (aj.drop k_.toNat)),Hn (aL sy sy g4),Hl (aM sy (((aj.drop 0).take (k_.toNat-0))++[s_]) (aj.drop k_.toNat))]
  obtain⟨t5,ht5,ae⟩:=zt c1.2;refine yL 111121001201120 [J1,J2,J3,J4] (λs=>qO r_ aj s_ s) (λx=>KN r_ aj s_ x) 0 ht5  [] λde m5 dj ah hl2 J5 dc=>?_;try unfold qO at ah;obtain c2|c2:=zF ah
  ·obtain⟨dn,h2,qp,h3,qq,h4,ai,h5,ah⟩:=z2N c2.2;let Z1:List HO:=(Ha (lnM sy aj)::(rpN 4 (Hb c2) (Hn (iL sy h2)::Hb c2::Hs (iM sy h2)::Hb c2::Hi F8_ h3::(rpN 4 (Hb c2) [Hi F8_ h4,c2,c2,zC2 0 h5,c2,c2]))));obtain c3|c3:=zF ah
   ·obtain rfl:=yH c3.2;exact yB dc _ hl2 (Z1++[c3])
   obtain rfl:=yH c3.2;obtain rfl:=hl2;exact yB db de ae (Z1++[c3])
  obtain rfl:=yH c2.2;obtain rfl:=hl2;exact yB db de ae (Ha (lnM sy aj)::(rpN 14 (Hb c2) [qF]))
 obtain rfl:=yH c0.2;obtain rfl:=hl1;exact yB ar aj aa (Z0++[c0])
def l15:List yi:=XA 66 yG F7_ jK::l14
def z2x [H:HS X0 l14]:OkH l15:=yS1 true func66 λm_ r0 aa E hE=>by
 obtain⟨r_,h0,ai,h1,aa⟩:=yj aa;refine yK 11111 [] [5] (zI Xg r0) (λz=>[(5,.own (eOs 1 false sy z))]) [3,4,5] [zC1 7 h0,zC1 0 h1,Hh (.cut 1)] ?_ λJ1 ar=>?_
 ·rintro out aa;cases aa;exact yE hE []
 obtain⟨t2,ht2,aa⟩:=zt aa;refine yMx 11111210 [J1] [3,4,5,6] (λx=>[(5,.own (eOs 1 false sy x.1)),(6,.d (I x.2))]) ht2 [(5,.own (eOs 1 true sy [])),(6,.d (I 0))] [] λ⟨aj,k_⟩ m2 av ae hl1 J2 au=>?_;obtain c0|c0:=zF ae
 ·refine yNs 1111121001 [J1,J2] [3,4,5,6] (zI (uV k_) av) (λz=>[(5,.own (eOs 1 false sy z))]) [Ha (lnM sy ai),c0,Hh (.cut 0)] ?_ λJ3 bg=>?_
  ·rintro ax ae;cases ae;exact yB au _ hl1 []
  refine yNs 1111121001201 [J1,J2,J3] [3,4,5,6,7] (zI (Xf ai aj k_) av) (λz=>[(7,.d (I z))]) [Hh (.cut 1)] ?_ λJ4 db=>?_
  ·rintro there ae;obtain c1|c1:=zF ae
   ·obtain⟨dm,h2,ae⟩:=zt c1.2;obtain⟨g0,ae⟩:=gdE ae;exact yB bg (aj++[dm]) ae [c1,Hn (iL sy h2),Hs (iM sy h2),Hq (dM sy [dm]),Hn (dM sy [dm]),Hn (aL sy sy g0),Hl (aM sy aj [dm])]
   exact yB bg aj c1.2 [c1]
  refine yMb 1111121001201210 [J1,J2,J3,J4] [3,4,5,6,7,8] (λx=>[(7,.d (I x.1)),(8,.d (I x.2))]) c0.2  [] λt5 ae ⟨ee,n_⟩ m5 dj ah hl2 J5 dc=>?_;obtain c2|c2:=zF ah
  ·refine yNs 111112100120121001 [J1,J2,J3,J4,J5] [3,4,5,6,7,8] (zI (kK n_) dj) (λz=>[(7,.d (I z))]) [c2,Hh (.cut 0)] ?_ λJ6 ep=>?_
   ·rintro nc ah;cases ah;exact yB dc _ hl2 []
   obtain⟨ip,h3,n9,h4,oa,h5,qr,h6,ah⟩:=z2N c2.2;let Z0:List HO:=[Hn (iL sy h3),Hs (iM sy h3),Hn (iL sy h4),Hs (iM sy h4),Hn (iL sy h5),Hs (iM sy h5),Hn (iL sy h6),Hs (iM sy h6)];obtain c3|c3:=zF ah
   ·exact yB ep 1 c3.2 (Z0++[c3])
   exact yB ep ee c3.2 (Z0++[c3])
  cases c2.2;cases hl2;exact yB db ee ae [c2]
 cases c0.2;cases hl1;exact yB ar aj aa [Ha (lnM sy ai),c0]
def l16:List yi:=Zb 110 yG sy (eOs 1 true eB) Yz::l15
def z0P [H:HS X0 l15]:OkH l16:=yS2 true func110 λm_ from_ r0 aa E hE=>by
 obtain⟨g0,aa⟩:=gdE aa;obtain⟨mj,h0,aa⟩:=zt aa;refine yK 1111 [] [5] (zI Yo r0) (λz=>[(5,.own (eOs 1 true eB z))]) [2,5] [Ha (lnM yO m_.Rows),Hn (rL g0),Ha (rM 1 eB ((m_.Rows.length:Nat):Int) false),Hn (iL eB h0),Hs (iM eB h0),Hs (iM eB h0),Hl (sM eB (List.replicate ((m_.Rows.length:Nat):Int).toNat false) from_ true),Hh (.cut 0)] ?_ λJ1 ar=>?_
 ·rintro out aa;cases aa;exact yE hE []
 refine yMb 1111210 [J1] [2,5,6] (λx=>[(5,.own (eOs 1 true eB x.1)),(6,.d (I x.2))]) aa  [] λt2 aa ⟨aj,round⟩ m2 av ae hl1 J2 au=>?_;let Z0:List HO:=[Ha (lnM yO m_.Rows)];obtain c0|c0:=zF ae
 ·refine yNs 111121001 [J1,J2] [2,5,6] (zI (Yn round) av) (λz=>[(5,.own (eOs 1 true eB z))]) (Z0++[c0,Hh (.cut 0)]) ?_ λJ3 bg=>?_
  ·rintro ax ae;cases ae;exact yB au _ hl1 []
  refine yMb 1111210012010 [J1,J2,J3] [2,5,6,7] (λx=>[(5,.own (eOs 1 true eB x.1)),(7,.d (I x.2))]) c0.2  [] λt4 ae ⟨bo,s_⟩ m4 dj ah hl2 J4 db=>?_;let Z1:List HO:=[Ha (lnM yO m_.Rows)];obtain c1|c1:=zF ah
  ·refine yNs 111121001201001 [J1,J2,J3,J4] [2,5,6,7] (zI (Ym s_) dj) (λz=>[(5,.own (eOs 1 true eB z))]) (Z1++[c1,Hh (.cut 0)]) ?_ λJ5 dc=>?_
   ·rintro gx ah;cases ah;exact yB db _ hl2 []
   refine yMb 1111210012010012010 [J1,J2,J3,J4,J5] [2,5,6,7,8] (λx=>[(5,.own (eOs 1 true eB x.1)),(8,.d (I x.2))]) c1.2  [] λt6 ah ⟨kg,i_⟩ m6 nb aw hl3 J6 ep=>?_;obtain c2|c2:=zF aw
   ·refine yNs 111121001201001201001 [J1,J2,J3,J4,J5,J6] [2,5,6,7,8] (zI (ug i_) nb) (λz=>[(5,.own (eOs 1 true eB z))]) [c2,Hh (.cut 0)] ?_ λJ7 gw=>?_
    ·rintro o9 aw;cases aw;exact yB ep _ hl3 []
    obtain⟨ap,h1,al,h2,dn,h3,aw⟩:=Zc c2.2;let Z2:List HO:=[Hi yO h1,Hi wk h2,Hn (iL eB h3),Hs (iM eB h3)];obtain c3|c3:=zF aw
    ·obtain c4|c4:=zF c3.2
     ·obtain⟨jr,h4,aw⟩:=zt c4.2;exact yB gw (kg.set al.To.toNat true) aw (Z2++[c3,c3,c3,c4,Hn (iL eB h4),Hs (iM eB h4),Hs (iM eB h4),Hl (sM eB kg al.To true)])
     exact yB gw kg c4.2 (Z2++[c3,c3,c3,c4])
    exact yB gw kg c3.2 (Z2++[c3,c3,c3,qF])
   cases c2.2;cases hl3;exact yB dc kg ah [c2]
  cases c1.2;cases hl2;exact yB bg bo ae (Z1++[c1])
 cases c0.2;cases hl1;exact yB ar aj aa (Z0++[c0])
def l17:List yi:=XA 67 yG F7_ JL::l16
def z6q [H:HS X0 l16]:OkH l17:=yS1 true func67 λm_ r0 aa E hE=>by
 obtain⟨r_,h0,ai,h1,ak,h2,aa⟩:=Zc aa;refine yK 111111 [] [6] (zI UB r0) (λz=>[(6,.own (eOs 1 false sy z))]) [3,4,5,6] [zC1 9 h0,zC1 1 h1,zC2 0 h2,Hh (.cut 1)] ?_ λJ1 ar=>?_
 ·rintro out aa;cases aa;exact yE hE []
 obtain⟨t2,ht2,aa⟩:=zt aa;refine yMx 111111210 [J1] [3,4,5,6,7] (λx=>[(6,.own (eOs 1 false sy x.1)),(7,.d (I x.2))]) ht2 [(6,.own (eOs 1 true sy [])),(7,.d (I 0))] [] λ⟨aj,s_⟩ m2 av ae hl1 J2 au=>?_;obtain c0|c0:=zF ae
 ·refine yNs 11111121001 [J1,J2] [3,4,5,6,7] (zI (UA s_) av) (λz=>[(6,.own (eOs 1 false sy z))]) [Ha (lnM sy r_),c0,Hh (.cut 0)] ?_ λJ3 bg=>?_
  ·rintro ax ae;cases ae;exact yB au _ hl1 []
  refine yNs 11111121001201 [J1,J2,J3] [3,4,5,6,7,8] (zI (Uz aj s_) av) (λz=>[(8,.d (I z))]) [Hh (.cut 1)] ?_ λJ4 db=>?_
  ·rintro k_ ae;obtain⟨g0,ae⟩:=gdE ae;exact yB bg (aj++[k_]) ae [Hq (dM sy [k_]),Hn (dM sy [k_]),Hn (aL sy sy g0),Hl (aM sy aj [k_])]
  refine yMb 11111121001201210 [J1,J2,J3,J4] [3,4,5,6,7,8,9] (λx=>[(8,.d (I x.1)),(9,.d (I x.2))]) c0.2  [] λt5 ae ⟨de,n_⟩ m5 dj ah hl2 J5 dc=>?_;obtain c1|c1:=zF ah
  ·refine yNs 1111112100120121001 [J1,J2,J3,J4,J5] [3,4,5,6,7,8,9] (zI (Y4 n_) dj) (λz=>[(8,.d (I z))]) [Ha (lnM sy ai),c1,Hh (.cut 0)] ?_ λJ6 ep=>?_
   ·rintro kj ah;cases ah;exact yB dc _ hl2 []
   obtain⟨dm,h3,ah⟩:=zt c1.2;let Z0:List HO:=[Hn (iL eB h3),Hs (iM eB h3)];obtain c2|c2:=zF ah
   ·obtain⟨ip,h4,n9,h5,oa,h6,ah⟩:=Zc c2.2;let Z1:List HO:=(Z0++(rpN 4 (Hb c2) [Hn (iL sy h4),c2,Hs (iM sy h4),c2,Hn (iL sy h5),c2,Hs (iM sy h5),c2,c2,c2,Hn (iL sy h6),c2,Hs (iM sy h6),c2,c2]));obtain c3|c3:=zF ah
    ·exact yB ep n_ c3.2 (Z1++[c3])
    exact yB ep de c3.2 (Z1++[c3])
   exact yB ep de c2.2 (Z0++(rpN 13 (Hb c2) [qF]))
  cases c1.2;cases hl2;exact yB db de ae [Ha (lnM sy ai),c1]
 cases c0.2;cases hl1;exact yB ar aj aa [Ha (lnM sy r_),c0]
def l18:List yi:=XA 33 yG yG Yx::l17
def z0N [H:HS X0 l17]:OkH l18:=yS1 false func33 λm_ r0 aa E hE=>by
 obtain⟨r_,h0,ai,h1,aa⟩:=yj aa;refine yN 11111 [] [2,5] (zI (Yj m_) r0) (λz=>[(5,.own (.box (.agg [I m_.Inputs,I m_.Outputs,eOs 1 false uu z])))]) [1,2,3,4,5] [zC1 2 h0,zC1 0 h1,Hh (.cut 1)] ?_ λJ1 ar=>?_
 ·rintro gy aa;cases aa;exact yE hE [Hm (shM uu yO gy)]
 obtain⟨t2,ht2,aa⟩:=zt aa;refine yMx 11111210 [J1] [1,2,3,4,5,6] (λx=>[(5,.own (.box (.agg [I m_.Inputs,I m_.Outputs,eOs 1 false uu x.1]))),(6,.d (I x.2))]) ht2 [(5,.own (.box (.agg [I m_.Inputs,I m_.Outputs,eOs 1 true uu []]))),(6,.d (I 0))] [] λ⟨bt,k_⟩ m2 av ae hl1 J2 au=>?_;obtain c0|c0:=zF ae
 ·refine yNs 1111121001 [J1,J2] [1,2,3,4,5,6] (zI (Yi k_) av) (λz=>[(5,.own (.box (.agg [I m_.Inputs,I m_.Outputs,eOs 1 false uu z])))]) [Ha (lnM sy r_),c0,Hh (.cut 0)] ?_ λJ3 bg=>?_
  ·rintro gp ae;cases ae;exact yB au _ hl1 []
  refine yNs 1111121001201 [J1,J2,J3] [1,2,3,4,5,6,7] (zI (Yh bt k_) av) (λz=>[(7,.own (eOs 2 false wk z))]) [Hh (.cut 1)] ?_ λJ4 db=>?_
  ·rintro row ae;obtain⟨g0,ae⟩:=gdE ae;exact yB bg (bt++[row]) ae [Hq (oC uu row []),Hn (aL uu uu g0),Hl (aM uu bt [row])]
  obtain⟨t5,ht5,ae⟩:=zt c0.2;refine yMx 1111121001201210 [J1,J2,J3,J4] [1,2,3,4,5,6,7,8] (λx=>[(7,.own (eOs 2 false wk x.1)),(8,.d (I x.2))]) ht5 [(7,.own (eOs 2 true wk [])),(8,.d (I 0))] [] λ⟨bu,i_⟩ m5 dj ah hl2 J5 dc=>?_;obtain c1|c1:=zF ah
  ·obtain⟨dm,h2,ap,h3,al,h4,ah⟩:=Zc c1.2;refine yNs 111112100120121001001 [J1,J2,J3,J4,J5] [1,2,3,4,5,6,7,8,9] (zI (uf bu i_ al) dj) (λz=>[(9,.own (.box (.agg [I z,I al.Out])))]) [c1,Hn (iL sy h2),Hs (iM sy h2),Hi yO h3,Hi wk h4,Hh (.cut 0)] ?_ λJ6 ep=>?_
   ·rintro gz ah;obtain⟨g1,ah⟩:=gdE ah;cases ah;exact yB dc _ hl2 [Hq (dM wk [(z7.mk gz al.Out)]),Hn (dM wk [(z7.mk gz al.Out)]),Hn (aL wk wk g1),Hl (aM wk bu [(z7.mk gz al.Out)])]
   obtain c2|c2:=zF ah
   ·obtain⟨ip,h5,ah⟩:=zt c2.2;exact yB ep ip ah [c2,Hn (iL sy h5),Hs (iM sy h5)]
   exact yB ep al.To c2.2 [c2]
  cases c1.2;cases hl2;exact yB db bu ae [c1]
 cases c0.2;cases hl1;exact yB ar bt aa [Ha (lnM sy r_),c0]
def l19:List yi:=XA 9 zo0 yG Qb::l18
def z4X [H:HS X0 l18]:OkH l19:=yS1 false func9 λx_ r0 aa E hE=>by obtain⟨g0,aa⟩:=gdE aa;obtain⟨r_,h0,ai,h1,aa⟩:=yj aa;cases aa;exact yE hE [Hn g0,zC1 16 h0,zC1 0 h1]
def l20:List yi:=zhO 124 wk vY::l19
def z0R [H:HS X0 l19]:OkH l20:=yS0 false func124 λr0 aa E hE=>by cases aa;exact yE hE []
def l21:List yi:=Zb 88 yG wk eB YC::l20
def z0S [H:HS X0 l20]:OkH l21:=yS2 true func88 λm_ x_ r0 aa E hE=>by
 obtain⟨r_,h0,aa⟩:=zt aa;let Z0:List HO:=[zC0 0 h0];obtain c0|c0:=zF aa
 ·cases c0.2;exact yE hE (Z0++(rpN 10 (Hb c0) []))
 let Z1:List HO:=(Z0++(rpN 4 (Hb c0) []));obtain c1|c1:=zF c0.2
 ·let Z2:List HO:=(Z1++(rpN 5 (Hb c1) [Ha (lnM yO m_.Rows),c1,c0,c1,c0]));obtain c2|c2:=zF c1.2
  ·let Z3:List HO:=(Z2++[c2,c2,c2,c0,c2,c0]);obtain c3|c3:=zF c2.2
   ·cases c3.2;exact yE hE (Z3++(rpN 5 (Hb c3) [c0,c3,c0]))
   cases c3.2;exact yE hE (Z3++(rpN 5 (Hb c3) [c0,c3,c0]))
  cases c2.2;exact yE hE (Z2++(Hb c2::Hb c2::Hb c2::Hb c0::Hb c2::Hb c0::(rpN 5 qF [c0,qF,c0])))
 cases c1.2;exact yE hE (Z1++(rpN 6 (Hb c1) (Hb c0::Hb c1::Hb c0::qF::qF::qF::Hb c0::qF::Hb c0::(rpN 5 qF [c0,qF,c0]))))
def l22:List yi:=Zb 87 wk z3x eB Yp::l21
def Jt [H:HS X0 l21]:OkH l22:=yS2 true func87 λx_ x1 r0 aa E hE=>by obtain⟨r_,h0,aa⟩:=zt aa;cases aa;exact yE hE [zC2 0 h0]
def l23:List yi:=Zb 123 yO (Kj 87 z3x) sy xj::l22
def qJ [H:HS X0 l22]:OkH l23:=yS2 true func123 λs_ f_ r0 aa E hE=>by
 refine yK 11 [] [] (λz:Unit=>xZ=some r0) (λz=>[]) [0,1] [Hh (.cut 1)] ?_ λJ1 ar=>?_
 ·rintro⟨⟩ aa;cases aa;exact yE hE []
 refine yMb 11210 [J1] [0,1,7,8] (λx=>[(8,.d (I x))]) aa  [Ha (lnM wk s_)] λt2 aa x8 m2 av ae hl1 J2 au=>?_;obtain c0|c0:=zF ae
 ·obtain⟨eb,h0,r_,h1,ae⟩:=yj c0.2;let Z0:List HO:=[c0,Hi wk h0,zC2 0 h1];obtain c1|c1:=zF ae
  ·cases c1.2;cases hl1;cases aa;exact yE hE (Z0++[c1])
  cases c1.2;exact yB au _ hl1 (Z0++[c1])
 cases c0.2;cases hl1;exact yB ar () aa [c0]
def l24:List yi:=Zb 86 yO (Kj 87 z3x) eB y9::l23
def uE [H:HS X0 l23]:OkH l24:=yS2 true func86 λs_ f_ r0 aa E hE=>by obtain⟨r_,h0,aa⟩:=zt aa;cases aa;exact yE hE [zC2 0 h0]
def l25:List yi:=XA 53 yG sy yT::l24
def z0k [H:HS X0 l24]:OkH l25:=yS1 true func53 λm_ r0 aa E hE=>by
 obtain c0|c0:=zF aa
 ·cases c0.2;exact yE hE (rpN 4 (Hb c0) (rpN 6 qT []))
 let Z0:List HO:=(rpN 4 (Hb c0) []);obtain c1|c1:=zF c0.2
 ·cases c1.2;exact yE hE (Z0++(rpN 5 (Hb c1) [qT]))
 let Z1:List HO:=(Z0++[c1,c1,c1,Ha (lnM yO m_.Rows),c1,c1]);obtain c2|c2:=zF c1.2
 ·cases c2.2;exact yE hE (Z1++[c2])
 obtain c3|c3:=zF c2.2
 ·cases c3.2;exact yE hE (Z1++(Hb c2::(rpN 4 (Hb c3) (rpN 6 qT []))))
 let Z2:List HO:=(Z1++(Hb c2::(rpN 4 (Hb c3) [])));obtain c4|c4:=zF c3.2
 ·cases c4.2;exact yE hE (Z2++(rpN 5 (Hb c4) [qT]))
 let Z3:List HO:=(Z2++[c4,c4,c4,Ha (lnM yO m_.Rows),c4,c4]);obtain c5|c5:=zF c4.2
 ·cases c5.2;exact yE hE (Z3++[c5])
 refine yK 1111 [] [] (λz:Unit=>Wz=some r0) (λz=>[]) [1] (Z3++[c5,Hh (.cut 0)]) ?_ λJ1 ar=>?_
 ·rintro⟨⟩ aa;cases aa;exact yE hE []
 refine yMb 1111210 [J1] [1,34,35,36] (λx=>[(36,.d (I x))]) c5.2  [Ha (lnM yO m_.Rows),Hh (.n 1 [1])] λt2 aa kl m2 av ae hl1 J2 au=>?_;obtain c6|c6:=zF ae
 ·obtain⟨ap,h0,ae⟩:=zt c6.2;let Z4:List HO:=[c6,Hi yO h0,Ha (lnM wk ap)];obtain c7|c7:=zF ae
  ·cases c7.2;cases hl1;cases aa;exact yE hE (Z4++(rpN 4 (Hb c7) [qT]))
  obtain⟨r_,h1,ae⟩:=zt c7.2;let Z5:List HO:=(Z4++[c7,c7,c7,zC2 0 h1,c7]);obtain c8|c8:=zF ae
  ·cases c8.2;cases hl1;cases aa;exact yE hE (Z5++[c8])
  cases c8.2;exact yB au _ hl1 (Z5++[c8])
 cases c6.2;cases hl1;exact yB ar () aa [c6]
def l26:List yi:=XA 98 yG (zoN (zm9 sy (Kj 130 z3x)) (zm9 sy (Kj 132 z3x)) (zm9 sy (Kj 133 z3x))) Xm::l25
def Ko [H:HS X0 l25]:OkH l26:=yS1 false func98 λm_ r0 aa E hE=>by cases aa;exact yE hE []
def l27:List yi:=XA 172 yG (Kj 192 z3x) Wb::l26
def z0j [H:HS X0 l26]:OkH l27:=yS1 true func172 λm_ r0 aa E hE=>by cases aa;exact yE hE []
variable {σ:Type}
abbrev Ud (x0:z6)(YY:σ->z0F)(gi:Int)(js:σ):List (Nat×T):=[(0,.own (.opq (YY js).q)),(8,.d (eSl 1 false yO x0.Rows)),(9,.d (I ((x0.Rows.length:Nat):Int))),(10,.d (I gi))]
abbrev Ub (x0:z6)(YY:σ->z0F)(gi:Int)(ap:List z7)(gg:σ)(ba:Int):List (Nat×T):=[(0,.own (.opq (YY gg).q)),(3,.d (I gi)),(8,.d (eSl 1 false yO x0.Rows)),(9,.d (I ((x0.Rows.length:Nat):Int))),(10,.d (I gi)),(15,.d (eSl 2 false wk ap)),(16,.d (I ((ap.length:Nat):Int))),(17,.d (I ba))]
abbrev Uc (x0:z6)(YY:σ->z0F)(dw:σ)(gi:Int):List (Nat×T):=[(0,.own (.opq (YY dw).q)),(8,.d (eSl 1 false yO x0.Rows)),(9,.d (I ((x0.Rows.length:Nat):Int))),(10,.d (I gi))]
def Jr [H:HS X0 l27](x0:z6):z6h prog (.fn 192 [.sptr (.agg [I x0.Inputs,I x0.Outputs,eSl 1 false yO x0.Rows])]) (λ(x:qI Int×z7) (_:Bool) (_:Value)=>[F0_ x.1,wk x.2]) (@qZ x0):=by
 refine z1O (tt:=vF) (nt:=f192.ntmps) (body:=zbd f192) zr func192 rfl (by kernel_rfl) rfl rfl (by show(2:Nat)<=31;decide) ?_;intro σ yv YY yy hy sg r0 aa E hE;obtain⟨t1,ht1,aa⟩:=zt aa;refine yL 110 [] (λs=>vZ x0 yy s.1 s.2) (λx=>Uc x0 YY x.1 x.2) (sg,0) ht1  [Ha (lnM yO x0.Rows)] λ⟨dw,gi⟩ m1 av ae hl1 J1 ar=>?_;obtain c0|c0:=zF ae
 ·refine yKs 110011 [J1] [0,8,9,10] (zI (jy gi) av) (λz=>Ud x0 YY gi z) [c0,Hh (.cut 0)] ?_ λJ2 au=>?_
  ·rintro js ae;cases ae;exact yB ar _ hl1 []
  obtain⟨ap,h0,t3,ht3,ae⟩:=yj c0.2;refine yL 11001120110 [J1,J2] (λs=>wx yy gi ap s.1 s.2) (λx=>Ub x0 YY gi ap x.1 x.2) (dw,0) ht3  [Hi yO h0,Ha (lnM wk ap)] λ⟨gg,ba⟩ m3 dj ah hl2 J3 bg=>?_;obtain c1|c1:=zF ah
  ·obtain⟨al,h1,yr,h2,ah⟩:=yj c1.2;let Z0:List HO:=[c1,Hi wk h1,Hn (z12 (yv:=yv) (Y:=YY) (enc:=(λ(x:qI Int×z7) (_:Bool) (_:Value)=>[F0_ x.1,wk x.2])) (s:=gg) (x:=((qI.mk gi ba),al)) (s':=yr.1) (b:=yr.2) (v:=.nilFunc) [F0_ (qI.mk gi ba),wk al] (show Ji [F0_ (qI.mk gi ba),wk al] [F0_ (qI.mk gi ba),wk al] from inferInstance))];obtain c2|c2:=zF ah
   ·cases c2.2;cases hl2;cases ae;cases hl1;cases aa;exact yF (H:=zx ((Uh (P:=prog) vF hy 27 (s:=gg) (x:=((qI.mk gi ba),al)) (s':=yr.1) (b:=yr.2) .nilFunc h2).or X0)) .ret [(0,.own (.opq (YY yr.1).q))] (Z0++[c2]) λst0 h0=>hE _ st0 (.inr rfl) h0
   cases c2.2;exact yB (H:=zx ((Uh (P:=prog) vF hy 27 (s:=gg) (x:=((qI.mk gi ba),al)) (s':=yr.1) (b:=yr.2) .nilFunc h2).or X0)) bg _ hl2 (Z0++[c2])
  cases c1.2;cases hl2;exact yB au gg ae [c1]
 cases c0.2;cases hl1;cases aa;exact yF .normal [(0,.own (.opq (YY dw).q))] [c0] λst0 h0=>hE _ st0 (.inl rfl) h0
def l28:List yi:=XA 173 (eSl 2 false F0_) (eSl 2 true F0_) vV::l27
def W4 [H:HS X0 l27]:OkH l28:=yS1 true func173 λs_ r0 aa E hE=>by obtain⟨g0,aa⟩:=gdE aa;cases aa;exact yE hE [Ha (lnM F0_ s_),Ha (lnM F0_ s_),Hn (slB g0),Hn (slC g0),Hn (zje F0_ g0),Ha (zn9 2 F0_ s_ 0 ((s_.length:Nat):Int).toNat)]
def l29:List yi:=XA 158 yG (eSl 2 true F0_) kT::l28
def Qm [H:HS X0 l28]:OkH l29:=yS1 true func158 λm_ r0 aa E hE=>by
 refine yK 111 [] [3] (zI q9 r0) (λz=>[(3,.own (.box (eOs 2 false F0_ z)))]) [1,3] [Hh (.cut 2)] ?_ λJ1 ar=>?_
 ·rintro out aa;obtain⟨r_,h0,aa⟩:=zt aa;cases aa;exact yE hE [zg 0,Hm (shM F0_ F0_ out),Hs (zf1 0 h0 (loC (eSl 2 false F0_) out<|loN)),Hm (shM F0_ F0_ out)]
 obtain⟨ai,h1,t2,ht2,aa⟩:=yj aa;refine yAt (sub [1,1,2,1,0] (zbd f158)) (frs [1,1,2,1,0] [J1] (zbd f158) []) [(3,.own (.box (eOs 2 true F0_ []))),(7,.d (.fn 192 [.sptr (.agg [I ai.Inputs,I ai.Outputs,eSl 1 false yO ai.Rows])]))] [zC1 1 h1] λst0 h0=>?_;refine KJ (g:=.tmp 7) (ps:=[8,9]) (assign:=(sub [1,1,2,1,0,0] (zbd f158))) (body:=(sub [1,1,2,1,0,1] (zbd f158))) (K:=192) (caps:=[.sptr (.agg [I ai.Inputs,I ai.Outputs,eSl 1 false yO ai.Rows])]) (by kernel_rfl) [3,7] (λs=>[(3,.own (.box (eOs 2 false F0_ s))),(7,.d (.fn 192 [.sptr (.agg [I ai.Inputs,I ai.Outputs,eSl 1 false yO ai.Rows])]))]) (λz=>nomatch z) (λz=>nomatch z) ((λ(x:qI Int×z7) (_:Bool) (_:Value)=>[F0_ x.1,wk x.2])) (F:=@qZ ai) (λs x=>yq s x.1 x.2) ([]:List (qI Int)) t2 _ h0 inferInstance (by kernel_rfl) (by decide) (λ_=>rfl) (by rintro⟨⟩) (by kernel_rfl) (λ_ _ _=>rfl) (Jr (H:=zd 1) ai) ht2 ?_ ?_
 ·rintro qg aj ⟨x8,x9⟩ vr av ae;replace ae:yq aj x8 x9=some av:=ae;refine yF .normal [(3,.own (.box (eOs 2 false F0_ aj))),(4,.own (.box (F0_ x8))),(5,.own (.box (wk x9))),(7,.d (.fn 192 [.sptr (.agg [I ai.Inputs,I ai.Outputs,eSl 1 false yO ai.Rows])]))] [] λst0 h0=>⟨rfl,z4A h0 ?_⟩;obtain⟨ak,h2,ae⟩:=zt ae;let Z0:List HO:=[zC0 8 h2];obtain c0|c0:=zF ae
  ·obtain⟨g0,ae⟩:=gdE c0.2;cases ae;exact yF .normal ([(3,.own (.box (eOs 2 false F0_ (aj++[x8])))),(7,.d (.fn 192 [.sptr (.agg [I ai.Inputs,I ai.Outputs,eSl 1 false yO ai.Rows])]))]) (Z0++[c0,Hq (dM F0_ [x8]),Hn (dM F0_ [x8]),Hn (aL F0_ F0_ g0),Hl (aM F0_ aj [x8])]) λst0 h0=>⟨rfl,_,h0,LeL.refl _⟩
  cases c0.2;exact yF .normal ([(3,.own (.box (eOs 2 false F0_ aj))),(7,.d (.fn 192 [.sptr (.agg [I ai.Inputs,I ai.Outputs,eSl 1 false yO ai.Rows])]))]) (Z0++[c0]) λst0 h0=>⟨rfl,_,h0,LeL.refl _⟩
 rcases t2 with aj|z
 ·dsimp only at aa;exact Xz (by kernel_rfl) (ar _ [(3,.own (.box (eOs 2 false F0_ aj)))] aj aa (show Own.canon [3] _=ofL _ by kernel_rfl) inferInstance)
 cases z
def l30:List yi:=XA 131 yG (eT2 eB sy) qB::l29
def QQ [H:HS X0 l29]:OkH l30:=yS1 false func131 λm_ r0 aa E hE=>by
 obtain⟨r_,h0,aa⟩:=zt aa;let Z0:List HO:=[zC1 4 h0];obtain c0|c0:=zF aa
 ·cases c0.2;exact yE hE (Z0++[c0])
 obtain⟨ai,h1,aa⟩:=zt c0.2;cases aa;exact yE hE (Z0++[c0,zC1 0 h1,Ha (lnM F0_ ai)])
def l31:List yi:=XA 130 z3x eB Zx::l30
def QP [H:HS X0 l30]:OkH l31:=yS1 true func130 λx0 r0 aa E hE=>by obtain⟨r_,h0,aa⟩:=zt aa;cases aa;exact yE hE [zC1 0 h0]
def VI [H:HS X0 l31](bz:Value)(md:Value)(me:Value):∀(fu:Nat) (s_:Int) (y0:List Bool) (y1:z6) (r0:List Bool×z6),yb fu s_ y0 y1=some r0->qd prog (.fn 144 [.atom bz,.atom md,.atom me]) [I s_] ([bz,md,me].zip [.box (eOs 1 true eB y0),.box (.agg [I y1.Inputs,I y1.Outputs,eSl 1 false yO y1.Rows]),.box (.fn 144 [.atom bz,.atom md,.atom me])]) (.tup []) [.box (eOs 1 true eB r0.1),.box (.agg [I r0.2.Inputs,I r0.2.Outputs,eSl 1 false yO r0.2.Rows]),.box (.fn 144 [.atom bz,.atom md,.atom me])]:=by
 intro fu;induction fu with
 |zero=>intro s_ y0 y1 r0 aa;exact nomatch (show none=some r0 from aa)
 |succ fu ih=>
  intro s_ y0 y1 r0 aa;replace aa:wD (yb fu) s_ y0 y1=some r0:=aa;generalize yb fu=mz at ih aa;refine z4n (tt:=vF) (nt:=f144.ntmps) (body:=zbd f144) [1,2,3] zr func144 rfl (by kernel_rfl) rfl rfl (by show(4:Nat)<=33;decide) (by decide) rfl rfl (λE hE=>?_) rfl;obtain c0|c0:=zF aa
  ·cases c0.2;exact yF .ret [(1,.own (.box (eOs 1 true eB y0))),(2,.own (.box (.agg [I y1.Inputs,I y1.Outputs,eSl 1 false yO y1.Rows]))),(3,.own (.box (.fn 144 [.atom bz,.atom md,.atom me])))] (rpN 5 (Hb c0) [qT]) λst0 h0=>hE _ st0 (.inr rfl) (Xo h0 ⟨⟨rfl,rfl⟩,⟨⟨rfl,rfl⟩,⟨⟨rfl,rfl⟩,trivial⟩⟩⟩)
  obtain⟨sb,h0,aa⟩:=zt c0.2;let Z0:List HO:=[c0,c0,c0,Hn (iL eB h0),c0,Hs (iM eB h0),c0];obtain c1|c1:=zF aa
  ·cases c1.2;exact yF .ret [(1,.own (.box (eOs 1 true eB y0))),(2,.own (.box (.agg [I y1.Inputs,I y1.Outputs,eSl 1 false yO y1.Rows]))),(3,.own (.box (.fn 144 [.atom bz,.atom md,.atom me])))] (Z0++[c1]) λst0 h0=>hE _ st0 (.inr rfl) (Xo h0 ⟨⟨rfl,rfl⟩,⟨⟨rfl,rfl⟩,⟨⟨rfl,rfl⟩,trivial⟩⟩⟩)
  obtain⟨sf,h1,ap,h2,t1,ht1,aa⟩:=Zc c1.2;refine yM 11110 [] [1,2,3,22,23,24] (λx=>[(1,.own (.box (eOs 1 true eB x.1))),(2,.own (.box (.agg [I x.2.1,I x.2.2.1,eSl 1 false yO x.2.2.2.1]))),(24,.d (I x.2.2.2.2))]) ht1  (Z0++[c1,Hn (iL eB h1),Hs (iM eB h1),Hs (iM eB h1),Hl (sM eB y0 s_ true),Hi yO h2,Ha (lnM wk ap)]) λ⟨x1,jt,jd,la,ga⟩ m1 av ae hl1 J1 ar=>?_;obtain c2|c2:=zF ae
  ·obtain⟨al,h3,r_,h4,ae⟩:=yj c2.2;cases ae;exact yB (H:=zx ((Za (P:=prog) vF [1,2,3] (ih _ _ _ _ h4) 31).or X0)) ar _ hl1 [c2,Hi wk h3,Hn (W6 (f:=.fn 144 [.atom bz,.atom md,.atom me]) (xs:=[sy al.To]) (ls:=[(bz,.box (eOs 1 true eB x1)),(md,.box (.agg [I jt,I jd,eSl 1 false yO la])),(me,.box (.fn 144 [.atom bz,.atom md,.atom me]))]) (r:=.tup []) (ys:=[.box (eOs 1 true eB r_.1),.box (.agg [I r_.2.Inputs,I r_.2.Outputs,eSl 1 false yO r_.2.Rows]),.box (.fn 144 [.atom bz,.atom md,.atom me])]) [sy al.To] (show Ji [sy al.To] [sy al.To] from inferInstance))]
  cases c2.2;cases hl1;cases aa;exact yF .normal [(1,.own (.box (eOs 1 true eB x1))),(2,.own (.box (.agg [I jt,I jd,eSl 1 false yO la]))),(3,.own (.box (.fn 144 [.atom bz,.atom md,.atom me])))] [c2] λst0 h0=>hE _ st0 (.inl rfl) (Xo h0 ⟨⟨rfl,rfl⟩,⟨⟨rfl,rfl⟩,⟨⟨rfl,rfl⟩,trivial⟩⟩⟩)
def l32:List yi:=Zb 164 (eSl 1 false eB) eB sy ur::l31
def Wk [H:HS X0 l31]:OkH l32:=yS2 true func164 λs_ v_ r0 aa E hE=>by
 refine yK 11 [] [] (λz:Unit=>qM=some r0) (λz=>[]) [0,1] [Hh (.cut 1)] ?_ λJ1 ar=>?_
 ·rintro⟨⟩ aa;cases aa;exact yE hE []
 refine yMb 11210 [J1] [0,1,7,8] (λx=>[(8,.d (I x))]) aa  [Ha (lnM eB s_)] λt2 aa x8 m2 av ae hl1 J2 au=>?_;obtain c0|c0:=zF ae
 ·obtain⟨eb,h0,ae⟩:=zt c0.2;obtain c1|c1:=zF ae
  ·cases c1.2;cases hl1;cases aa;exact yE hE [c0,Hi eB h0,c1]
  cases c1.2;exact yB au _ hl1 [c0,Hi eB h0,c1]
 cases c0.2;cases hl1;exact yB ar () aa [c0]
def l33:List yi:=Zb 145 (eSl 1 false eB) eB eB xK::l32
def YW [H:HS X0 l32]:OkH l33:=yS2 true func145 λs_ v_ r0 aa E hE=>by obtain⟨r_,h0,aa⟩:=zt aa;cases aa;exact yE hE [zC2 0 h0]
def l34:List yi:=XA 113 yG (eT2 eB sy) wT::l33
def Qn [H:HS X0 l33]:OkH l34:=yS1 false func113 λm_ r0 aa E hE=>by
 obtain⟨r_,h0,aa⟩:=zt aa;let Z0:List HO:=[zC1 8 h0];obtain c0|c0:=zF aa
 ·cases c0.2;exact yE hE (Z0++[c0])
 obtain⟨g0,aa⟩:=gdE c0.2;refine yC 11111 [] [1,5,6] (Z0++[c0,Ha (lnM yO m_.Rows),Hn (rL g0),Ha (rM 1 eB ((m_.Rows.length:Nat):Int) false),Hh (.cut 1)]) ?_;refine zbl (by kernel_rfl) 5 λkc=>?_;refine zbl (by kernel_rfl) 1 λqj=>?_;refine zbl (by kernel_rfl) 6 λmf=>?_;obtain⟨ai,h1,ak,h2,aa⟩:=yj aa;cases aa;exact yE (H:=zx ((Za (P:=prog) vF [5,1,6] (VI (H:=zd 2) kc qj mf Wh _ _ _ _ h1) 18).or ((xMk prog vF).or X0))) hE [Hn (W6 (f:=.fn 144 [.atom kc,.atom qj,.atom mf]) (xs:=[sy 0]) (ls:=[(kc,.box (eOs 1 true eB (List.replicate ((m_.Rows.length:Nat):Int).toNat false))),(qj,.box (.agg [I m_.Inputs,I m_.Outputs,eSl 1 false yO m_.Rows])),(mf,.box (.fn 144 [.atom kc,.atom qj,.atom mf]))]) (r:=.tup []) (ys:=[.box (eOs 1 true eB ai.1),.box (.agg [I ai.2.Inputs,I ai.2.Outputs,eSl 1 false yO ai.2.Rows]),.box (.fn 144 [.atom kc,.atom qj,.atom mf])]) [sy 0] (show Ji [sy 0] [sy 0] from inferInstance)),zg 0,Hm (shM eB eB ai.1),Hs (zf2 0 h2 (loC (eSl 1 true eB) ai.1<|loC eB false<|loN))]
def l35:List yi:=XA 132 z3x eB Zw::l34
def QO [H:HS X0 l34]:OkH l35:=yS1 true func132 λx0 r0 aa E hE=>by obtain⟨r_,h0,aa⟩:=zt aa;cases aa;exact yE hE [zC1 0 h0]
def l36:List yi:=XA 159 yG (Kj 174 z3x) W7::l35
def z0h [H:HS X0 l35]:OkH l36:=yS1 true func159 λm_ r0 aa E hE=>by cases aa;exact yE hE []
def l37:List yi:=z18 193 yG F8_ sy F9_ jJ::l36
def z2u [H:HS X0 l36]:OkH l37:=yS3 false func193 λm_ p_ s_ r0 aa E hE=>by
 refine yN 111 [] [6,7] (zI X9 r0) (λz=>[(7,.own (.box (F9_ z)))]) [1,2,3,6,7] [Hh (.cut 2)] ?_ λJ1 ar=>?_
 ·rintro out aa;cases aa;exact yE hE []
 obtain⟨ap,h0,t2,ht2,aa⟩:=yj aa;refine yM 111210 [J1] [1,6,7,14,15,16] (λx=>[(7,.own (.box (F9_ x.1))),(16,.d (I x.2))]) ht2  [Hi yO h0,Ha (lnM wk ap)] λ⟨aj,ft⟩ m2 av ae hl1 J2 au=>?_;obtain c0|c0:=zF ae
 ·refine yNs 111210011 [J1,J2] [1,6,7,14,15,16] (zI (kA ft) av) (λz=>[(7,.own (.box (F9_ z)))]) [c0,Hh (.cut 0)] ?_ λJ3 bg=>?_
  ·rintro ax ae;cases ae;exact yB au _ hl1 []
  obtain⟨al,h1,cell,h2,arr,h3,ae⟩:=Zc c0.2;replace h3:=yH h3;let Z0:List HO:=[Hi wk h1,Hn (⟨arJ (by kernel_rfl) (i0 h2),(iL F0_ h2).2⟩:jP vF 256 ((zy.toL aj).map F0_) ft=true/\ft.toNat<((zy.toL aj).map F0_).length),Hh (.op 9),Hh (.f),Hs (iM F0_ h2),Hh (.f),Hs (iM F0_ h2),Hx (.l ((zy.toL arr).map F0_)) ((zy.setL F0_ aj ft (qI.mk al.Out (-1))).trans (congrArg (λq=>(zy.toL q).map F0_) h3))];obtain c1|c1:=zF ae
  ·obtain⟨bj,h4,co,h5,arr1,h6,ae⟩:=Zc c1.2;replace h6:=yH h6;exact yB bg arr1 ae (Z0++[c1,Hi sy h4,Hn (⟨arJ (by kernel_rfl) (i0 h5),(iL F0_ h5).2⟩:jP vF 256 ((zy.toL arr).map F0_) ft=true/\ft.toNat<((zy.toL arr).map F0_).length),Hh (.op 2),Hh (.f),Hs (iM F0_ h5),Hn (⟨rfl,by decide⟩:true=true/\1<2),Hh (.op 0),Hh (.f),Hs (iM F0_ h5),Hh (.f),Hx (.a (I co.e1)) (rfl:some (I co.e1:A)=some (I co.e1)),Hh (.f),Hs (iM F0_ h5),Hh (.f),Hx (.a (I co.e1)) (rfl:some (I co.e1:A)=some (I co.e1)),Hx (.l [I co.e0,I bj]) (rfl:[I co.e0,I bj]=[I co.e0,I bj]),Hx (.l ((zy.toL arr1).map F0_)) ((zy.setL F0_ arr ft (qI.mk co.e0 bj)).trans (congrArg (λq=>(zy.toL q).map F0_) h6))])
  exact yB bg arr c1.2 (Z0++[c1])
 cases c0.2;cases hl1;exact yB ar aj aa [c0]
def l38:List yi:=Zb 175 yG F8_ F5_ kD::l37
def Kl [H:HS X0 l37]:OkH l38:=yS2 true func175 λm_ p_ r0 aa E hE=>by
 obtain⟨g0,aa⟩:=gdE aa;refine yK (H:=zx ((zi6 prog 12).or X0)) 1111 [] [6] (zI kC r0) (λz=>[(6,.own (eOs 1 true sy z))]) [1,2,5,6] [Ha (lnM sy p_),Hn (rL g0),Ha (rM 1 sy ((p_.length:Nat):Int) (0:Int)),Hh (.cut 0)] ?_ λJ1 ar=>?_
 ·rintro out aa;cases aa;exact yE hE []
 refine yMb 1111210 [J1] [1,2,5,6,16,17,18] (λx=>[(5,.own (.opq (Qu (Y9 z08 sy x.1)))),(6,.own (eOs 1 true sy x.2.1)),(18,.d (I x.2.2))]) aa  [Ha (lnM sy p_)] λt2 aa ⟨names,aj,gh⟩ m2 av ae hl1 J2 au=>?_;obtain c0|c0:=zF ae
 ·obtain⟨bj,h0,r_,h1,ae⟩:=yj c0.2;refine yNs 11112100110011 [J1,J2] [1,2,5,6,7,9,16,17,18] (zI (wQ aj gh bj r_) av) (λz=>[(5,.own (.opq (Qu (Y9 z08 sy z))))]) [c0,Hi sy h0,zC3 0 h1,Hh (.cut 0)] ?_ λJ3 bg=>?_
  ·rintro jf ae;obtain⟨val,h2,ae⟩:=zt ae;replace h2:=yH h2;obtain⟨dn,h3,ae⟩:=zt ae;cases ae;exact yB (H:=zx ((z97 z5H 45 (Y9 z08 sy jf)).or X0)) au _ hl1 [Hn (⟨rfl,rfl,z69 (λ_=>rfl) jf⟩:A.opq (Qu (Y9 z08 sy jf))=A.opq (Qu (Y9 z08 sy jf))/\(z1D [.i64,.i64,.i64,.i64,.i64,.i64,.i64,.i64,.i64,.i64,.i64,.i64,.i64,.i64,.i64,.i64,.i64,.i64,.i64,.i64,.i64,.i64,.i64,.i64,.i64,.i64,.i64,.i64,.i64,.i64,.i64,.i64,.i64]) (z08 (zL.mk bj r_))=true/\∀p∈Y9 z08 sy jf,(z1D [.i64,.i64,.i64,.i64,.i64,.i64,.i64,.i64,.i64,.i64,.i64,.i64,.i64,.i64,.i64,.i64,.i64,.i64,.i64,.i64,.i64,.i64,.i64,.i64,.i64,.i64,.i64,.i64,.i64,.i64,.i64,.i64,.i64]) p.1=true),Hx (.a (sy val)) ((znB (f:=z08) (g:=sy) (z0:=0) (z:=.atom (.int .i64 0)) rfl (zL.mk bj r_) jf).trans (congrArg sy h2)),Hn (iL sy h3),Hs (iM sy h3),Hs (iM sy h3),Hl (sM sy aj gh val)]
  obtain⟨rh,h4,ae⟩:=zt ae;replace h4:=yH h4;let Z0:List HO:=[Hn (⟨rfl,rfl,z69 (λ_=>rfl) names⟩:A.opq (Qu (Y9 z08 sy names))=A.opq (Qu (Y9 z08 sy names))/\(z1D [.i64,.i64,.i64,.i64,.i64,.i64,.i64,.i64,.i64,.i64,.i64,.i64,.i64,.i64,.i64,.i64,.i64,.i64,.i64,.i64,.i64,.i64,.i64,.i64,.i64,.i64,.i64,.i64,.i64,.i64,.i64,.i64,.i64]) (z08 (zL.mk bj r_))=true/\∀p∈Y9 z08 sy names,(z1D [.i64,.i64,.i64,.i64,.i64,.i64,.i64,.i64,.i64,.i64,.i64,.i64,.i64,.i64,.i64,.i64,.i64,.i64,.i64,.i64,.i64,.i64,.i64,.i64,.i64,.i64,.i64,.i64,.i64,.i64,.i64,.i64,.i64]) p.1=true),Hx (.a (.tup [I rh,B ((WK names (zL.mk bj r_)).isSome)])) ((zoM (f:=z08) (g:=sy) (z0:=0) (z:=.atom (.int .i64 0)) rfl (zL.mk bj r_) names).trans (congrArg (λx=>A.tup [sy x,.atom (.bool (WK names (zL.mk bj r_)).isSome)]) h4))];obtain c1|c1:=zF ae
  ·exact yB (H:=zx ((zmC z5H 37 (Y9 z08 sy names) (Y9 z08 sy (z1F names (zL.mk bj r_) ((names.length:Nat):Int)))).or ((zla z5H 40 (Y9 z08 sy names)).or ((z97 z5H 32 (Y9 z08 sy names)).or X0)))) bg (z1F names (zL.mk bj r_) ((names.length:Nat):Int)) c1.2 (Z0++[c1,Hn (rfl:A.opq (Qu (Y9 z08 sy names))=A.opq (Qu (Y9 z08 sy names))),Hx (aLn names.length) (zhg z08 sy names),Hn (⟨rfl,rfl,rfl,rfl,z69 (λ_=>rfl) names⟩:T.own (.opq (Qu (Y9 z08 sy names)))=T.own (.opq (Qu (Y9 z08 sy names)))/\0=0/\(z1D [.i64,.i64,.i64,.i64,.i64,.i64,.i64,.i64,.i64,.i64,.i64,.i64,.i64,.i64,.i64,.i64,.i64,.i64,.i64,.i64,.i64,.i64,.i64,.i64,.i64,.i64,.i64,.i64,.i64,.i64,.i64,.i64,.i64]) (z08 (zL.mk bj r_))=true/\(sy ((names.length:Nat):Int)).isD=true/\∀p∈Y9 z08 sy names,(z1D [.i64,.i64,.i64,.i64,.i64,.i64,.i64,.i64,.i64,.i64,.i64,.i64,.i64,.i64,.i64,.i64,.i64,.i64,.i64,.i64,.i64,.i64,.i64,.i64,.i64,.i64,.i64,.i64,.i64,.i64,.i64,.i64,.i64]) p.1=true),Hn (z9U (f:=z08) (g:=sy) (zL.mk bj r_) ((names.length:Nat):Int) names)])
  exact yB (H:=zx ((z97 z5H 32 (Y9 z08 sy names)).or X0)) bg names c1.2 (Z0++[c1])
 cases c0.2;cases hl1;exact yB ar aj aa [c0]
def l39:List yi:=Zb 56 F8_ F8_ eB w7::l38
def VG [H:HS X0 l38]:OkH l39:=yS2 true func56 λs1 s2 r0 aa E hE=>by
 let Z0:List HO:=[Ha (lnM sy s1),Ha (lnM sy s2)];obtain c0|c0:=zF aa
 ·cases c0.2;exact yE hE (Z0++[c0])
 refine yK 111 [] [] (λz:Unit=>vU=some r0) (λz=>[]) [0,1] (Z0++[c0,Hh (.cut 0)]) ?_ λJ1 ar=>?_
 ·rintro⟨⟩ aa;cases aa;exact yE hE []
 refine yMb 111210 [J1] [0,1,12,13] (λx=>[(13,.d (I x))]) c0.2  [Ha (lnM sy s1)] λt2 aa fq m2 av ae hl1 J2 au=>?_;obtain c1|c1:=zF ae
 ·obtain⟨pa,h0,nw,h1,ae⟩:=yj c1.2;let Z1:List HO:=[c1,Hi sy h0,Hi sy h1];obtain c2|c2:=zF ae
  ·cases c2.2;cases hl1;cases aa;exact yE hE (Z1++[c2])
  cases c2.2;exact yB au _ hl1 (Z1++[c2])
 cases c1.2;cases hl1;exact yB ar () aa [c1]
abbrev Ua (x0:z6)(YY:σ->z0F)(dw:σ)(p_:TB):List (Nat×T):=[(0,.own (.opq (YY dw).q)),(1,.d (.sptr (yG x0))),(3,.own (eOs 1 true sy p_))]
def Jp [H:HS X0 l39](x0:z6):z6h prog (.fn 174 [.sptr (.agg [I x0.Inputs,I x0.Outputs,eSl 1 false yO x0.Rows])]) (λ(x:TB) (_:Bool) (_:Value)=>[F8_ x]) (@qY x0):=by
 refine z1O (tt:=vF) (nt:=f174.ntmps) (body:=zbd f174) zr func174 rfl (by kernel_rfl) rfl rfl (by show(2:Nat)<=19;decide) ?_;intro σ yv YY yy hy sg r0 aa E hE;obtain⟨g0,aa⟩:=gdE aa;obtain⟨t1,ht1,aa⟩:=zt aa;refine yL 110 [] (λs=>vW x0 yy s.1 s.2) (λx=>Ua x0 YY x.1 x.2) (sg,(List.replicate ((x0.Rows.length:Nat):Int).toNat (0:Int))) ht1  [Ha (lnM yO x0.Rows),Hn (rL g0),Ha (rM 1 sy ((x0.Rows.length:Nat):Int) (0:Int))] λ⟨dw,p_⟩ m1 av ae hl1 J1 ar=>?_;obtain⟨yr,h0,ae⟩:=zt ae;let Z0:List HO:=[Hm (shM sy sy p_),Hn (z12 (yv:=yv) (Y:=YY) (enc:=(λ(x:TB) (_:Bool) (_:Value)=>[F8_ x])) (s:=dw) (x:=p_) (s':=yr.1) (b:=yr.2) (v:=.nilFunc) [F4_ p_] (show Ji [F4_ p_] [F8_ p_] from inferInstance))];obtain c0|c0:=zF ae
 ·obtain⟨r_,h1,ai,h2,ae⟩:=yj c0.2;let Z1:List HO:=(Z0++[c0,Hk [] (z0q (hat 1)) (zf2 1 h1 (loC yG x0 <| loC F4_ p_ <| loN)),zg 0,Hm (shM sy sy r_),Hs (zf2 0 h2 (loC F4_ p_ <| loC F4_ r_ <| loN))]);obtain c1|c1:=zF ae
  ·cases c1.2;cases hl1;cases aa;exact yF (H:=zx ((Uh (P:=prog) vF hy 11 (s:=dw) (x:=p_) (s':=yr.1) (b:=yr.2) .nilFunc h0).or X0)) .ret [(0,.own (.opq (YY yr.1).q))] (Z1++[c1]) λst0 h0=>hE _ st0 (.inr rfl) h0
  cases c1.2;exact yB (H:=zx ((Uh (P:=prog) vF hy 11 (s:=dw) (x:=p_) (s':=yr.1) (b:=yr.2) .nilFunc h0).or X0)) ar _ hl1 (Z1++[c1])
 cases c0.2;cases hl1;cases aa;exact yF (H:=zx ((Uh (P:=prog) vF hy 11 (s:=dw) (x:=p_) (s':=yr.1) (b:=yr.2) .nilFunc h0).or X0)) .normal [(0,.own (.opq (YY yr.1).q))] (Z0++[c0]) λst0 h0=>hE _ st0 (.inl rfl) h0
def l40:List yi:=XA 134 yG (eT3 F8_ sy sy) kF::l39
def Km [H:HS X0 l39]:OkH l40:=yS1 false func134 λm_ r0 aa E hE=>by
 obtain⟨r_,h0,aa⟩:=zt aa;let Z0:List HO:=[Hh (.v 2 [2]),Hm (shM sy sy []),zC1 14 h0];obtain c0|c0:=zF aa
 ·cases c0.2;exact yEl hE (Z0++[c0,Hm (shM sy sy [])])
 refine yK 1111 [] [2,3] (λz:TB×Int=>kE z.1 z.2=some r0) (λz=>[(2,.own (.box (eSl 1 false sy z.1))),(3,.own (.box (I z.2)))]) [1,2,3] (Z0++[Hb c0,Hh (.cut 1)]) ?_ λJ1 ar=>?_
 ·rintro⟨p_,n_⟩ aa;cases aa;exact yE hE []
 obtain⟨ai,h1,t2,ht2,aa⟩:=yj c0.2;refine yAt (sub [1,1,1,2,1,0] (zbd f134)) (frs [1,1,1,2,1,0] [J1] (zbd f134) []) [(2,.own (.box (eSl 1 true sy []))),(3,.own (.box (I (-1)))),(13,.d (.fn 174 [.sptr (.agg [I ai.Inputs,I ai.Outputs,eSl 1 false yO ai.Rows])]))] [zC1 3 h1] λst0 h0=>?_;refine KJ (g:=.tmp 13) (ps:=[14]) (assign:=(sub [1,1,1,2,1,0,0] (zbd f134))) (body:=(sub [1,1,1,2,1,0,1] (zbd f134))) (K:=174) (caps:=[.sptr (.agg [I ai.Inputs,I ai.Outputs,eSl 1 false yO ai.Rows])]) (by kernel_rfl) [2,3,13] (λs=>[(2,.own (.box (eSl 1 false sy s.1))),(3,.own (.box (I s.2))),(13,.d (.fn 174 [.sptr (.agg [I ai.Inputs,I ai.Outputs,eSl 1 false yO ai.Rows])]))]) (λz=>nomatch z) (λz=>nomatch z) ((λ(x:TB) (_:Bool) (_:Value)=>[F8_ x])) (F:=@qY ai) (λs x=>wR s.1 s.2 x) (([]:TB),(-1)) t2 _ h0 inferInstance (by kernel_rfl) (by decide) (λ_=>rfl) (by rintro⟨⟩) (by kernel_rfl) (λ_ _ _=>rfl) (Jp (H:=zd 0) ai) ht2 ?_ ?_
 ·rintro qg ⟨nv,ca⟩ kq vr av ae;replace ae:wR nv ca kq=some av:=ae;refine yF .normal [(2,.own (.box (eSl 1 false sy nv))),(3,.own (.box (I ca))),(6,.d (eSl 1 false sy kq)),(13,.d (.fn 174 [.sptr (.agg [I ai.Inputs,I ai.Outputs,eSl 1 false yO ai.Rows])]))] [] λst0 h0=>⟨rfl,z4A h0 ?_⟩;cases ae;exact yF .normal ([(2,.own (.box (eSl 1 false sy kq))),(3,.own (.box (I (w64 (ca+1))))),(13,.d (.fn 174 [.sptr (.agg [I ai.Inputs,I ai.Outputs,eSl 1 false yO ai.Rows])]))]) [] λst0 h0=>⟨rfl,_,h0,LeL.refl _⟩
 rcases t2 with⟨nv,ca⟩|z
 ·dsimp only at aa;exact Xz (by kernel_rfl) (ar _ [(2,.own (.box (eSl 1 false sy nv))),(3,.own (.box (I ca)))] (nv,ca) aa (show Own.canon [2,3] _=ofL _ by kernel_rfl) inferInstance)
 cases z
def l41:List yi:=XA 135 F8_ sy uv::l40
def Qk [H:HS X0 l40]:OkH l41:=yS1 true func135 λx_ r0 aa E hE=>by
 obtain c0|c0:=zF aa
 ·cases c0.2
 obtain⟨mq,h0,aa⟩:=zt c0.2;refine yK 1111 [] [3] (zI uN r0) (λz=>[(3,.d (I z))]) [0,3] [Ha (lnM sy x_),c0,Hi sy h0,Hh (.cut 0)] ?_ λJ1 ar=>?_
 ·rintro m_ aa;cases aa;exact yE hE []
 refine yMb 1111210 [J1] [0,3,4] (λx=>[(3,.d (I x.1)),(4,.d (I x.2))]) aa  [] λt2 aa ⟨pb,i_⟩ m2 av ae hl1 J2 au=>?_;obtain c1|c1:=zF ae
 ·obtain⟨l7,h1,ae⟩:=zt c1.2;cases ae;exact yB au _ hl1 [Ha (lnM sy x_),c1,Hi sy h1]
 cases c1.2;cases hl1;exact yB ar pb aa [Ha (lnM sy x_),c1]
def l42:List yi:=XA 133 z3x eB Zv::l41
def QN [H:HS X0 l41]:OkH l42:=yS1 true func133 λx0 r0 aa E hE=>by obtain⟨r_,h0,ai,h1,aa⟩:=yj aa;cases aa;exact yE hE [zC1 1 h0,zC1 0 h1,Ha (lnM sy r_.1)]
def l43:List yi:=XA 58 yG sy xV::l42
def Jq [H:HS X0 l42]:OkH l43:=yS1 true func58 λm_ r0 aa E hE=>by
 obtain⟨r_,h0,aa⟩:=zt aa;let Z0:List HO:=[zC1 17 h0];obtain c0|c0:=zF aa
 ·cases c0.2;exact yE hE (Z0++[c0])
 refine yK 111 [] [] (λz:Unit=>jj=some r0) (λz=>[]) [1] (Z0++[c0,Hh (.cut 0)]) ?_ λJ1 ar=>?_
 ·rintro⟨⟩ aa;cases aa;exact yE hE []
 obtain⟨ai,h1,ak,h2,aa⟩:=yj c0.2;let Z1:List HO:=[zC1 16 h1,Hh (.u 70),qT,zC1 11 h2];obtain c1|c1:=zF aa
 ·cases c1.2;exact yE hE (Z1++[c1])
 obtain⟨am,h3,aa⟩:=zt c1.2;let Z2:List HO:=(Z1++[c1,qT,zC1 7 h3]);obtain c2|c2:=zF aa
 ·cases c2.2;exact yE hE (Z2++[c2])
 obtain⟨az,h4,aa⟩:=zt c2.2;let Z3:List HO:=(Z2++[c2,qT,zC1 0 h4]);obtain c3|c3:=zF aa
 ·cases c3.2;exact yE hE (Z3++[c3])
 exact yB ar () c3.2 (Z3++[c3,qF])
def l44:List yi:=Zb 25 yG sy sy Y2::l43
def z2q [H:HS X0 l43]:OkH l44:=yS2 true func25 λm_ bound r0 aa E hE=>by
 obtain⟨r_,h0,aa⟩:=zt aa;let Z0:List HO:=[zC1 0 h0];obtain c0|c0:=zF aa
 ·cases c0.2;exact yE hE (Z0++[c0])
 let Z1:List HO:=(Z0++[c0,Ha (lnM yO m_.Rows)]);obtain c1|c1:=zF c0.2
 ·cases c1.2;exact yE hE (Z1++(rpN 7 (Hb c1) [qT]))
 let Z2:List HO:=(Z1++(rpN 4 (Hb c1) [Ha (lnM yO m_.Rows),c1,c1,c1]));obtain c2|c2:=zF c1.2
 ·cases c2.2;exact yE hE (Z2++[c2])
 cases c2.2;exact yE hE (Z2++[c2])
def l45:List yi:=Zb 165 yG sy (zoO 186 z3x (eSp sy)) W2::l44
def z0c [H:HS X0 l44]:OkH l45:=yS2 true func165 λm_ from_ r0 aa E hE=>by cases aa;exact yE hE []
abbrev VN (x0:z6)(YY:σ->z0F)(cw:zk)(yr:σ×Bool)(ap:List z7)(jl:Int)(eu:List Bool)(nd:List zk):List (Nat×T):=[(0,.own (.opq (YY yr.1).q)),(1,.d (.sptr (yG x0))),(4,.own (eOs 1 true eB eu)),(5,.own (eDq 3 Zd nd)),(6,.own (.box (Zd cw))),(36,.d (eSl 2 false wk ap)),(37,.d (I ((ap.length:Nat):Int))),(38,.d (I jl))]
abbrev VK (x0:z6)(YY:σ->z0F)(cw:zk)(yr:σ×Bool)(ap:List z7)(gn:List Bool)(fx:List zk)(jl:Int):List (Nat×T):=[(0,.own (.opq (YY yr.1).q)),(1,.d (.sptr (yG x0))),(4,.own (eOs 1 true eB gn)),(5,.own (eDq 3 Zd fx)),(6,.own (.box (Zd cw))),(36,.d (eSl 2 false wk ap)),(37,.d (I ((ap.length:Nat):Int))),(38,.d (I jl))]
abbrev VL (x0:z6)(YY:σ->z0F)(dw:σ)(kh:List Bool)(d8:List zk):List (Nat×T):=[(0,.own (.opq (YY dw).q)),(1,.d (.sptr (yG x0))),(4,.own (eOs 1 true eB kh)),(5,.own (eDq 3 Zd d8))]
def Jl [H:HS X0 l45](x0:z6)(x1:Int):z6h prog (.fn 186 [.sptr (.agg [I x0.Inputs,I x0.Outputs,eSl 1 false yO x0.Rows]),.sptr (I x1)]) (λ(x:zk) (_:Bool) (_:Value)=>[Zd x]) (@qW x0 x1):=by
 refine z1O (tt:=vF) (nt:=f186.ntmps) (body:=zbd f186) zr func186 rfl (by kernel_rfl) rfl rfl (by show(3:Nat)<=68;decide) ?_;intro σ yv YY yy hy sg r0 aa E hE;obtain⟨g0,aa⟩:=gdE aa;obtain⟨mj,h0,t1,ht1,aa⟩:=yj aa;refine yLx 11110 [] (λs=>vJ x0 yy s.1 s.2.1 s.2.2) (λx=>VL x0 YY x.1 x.2.1 x.2.2) (sg,((List.replicate ((x0.Rows.length:Nat):Int).toNat false).set x1.toNat true),([(zk.mk x1 (-1) (-1))]:List zk)) ht1 [(0,.own (.opq (YY sg).q)),(1,.d (.sptr (yG x0))),(4,.own (eOs 1 true eB ((List.replicate ((x0.Rows.length:Nat):Int).toNat false).set x1.toNat true))),(5,.own (eOs 3 true Zd ([(zk.mk x1 (-1) (-1))])))] inferInstance [Ha (lnM yO x0.Rows),Hn (rL g0),Ha (rM 1 eB ((x0.Rows.length:Nat):Int) false),Hn (iL eB h0),Hs (iM eB h0),Hs (iM eB h0),Hl (sM eB (List.replicate ((x0.Rows.length:Nat):Int).toNat false) x1 true)] λ⟨dw,kh,d8⟩ m1 av ae hl1 J1 ar=>?_;let Z0:List HO:=[Hn (rfl:eDq 3 Zd d8=A.opq (z1p 3 (d8.map Zd)).q),Ha (lnM Zd d8)];obtain c0|c0:=zF ae
 ·refine yC (H:=zx ((xQl zr 20 244 3 (d8.map Zd) (by kernel_rfl)).or X0)) 11110010 [J1] [0,1,4,5] (Z0++[c0,Hh (.cut 0)]) ?_;obtain⟨cw,h1,ae⟩:=zt c0.2;refine z6f (by kernel_rfl) (x:=(sub [1,1,1,0,0,1,0,0] (zbd f186))) (y:=(sub [1,1,1,0,0,1,0,1] (zbd f186))) 5 (λst1=>Own.canon [0,1,4,5,6] st1=ofL [(0,.own (.opq (YY dw).q)),(1,.d (.sptr (yG x0))),(4,.own (eOs 1 true eB kh)),(5,.own (eDq 3 Zd d8)),(6,.own (.box (Zd cw)))]) (λkc=>yF (H:=zx ((xQd zr 24 3 5 kc (0:Int) (d8.map Zd) (Zd cw)).or ((xQi zr 23 3 5 kc (d8.map Zd)).or X0))) .normal [(0,.own (.opq (YY dw).q)),(1,.d (.sptr (yG x0))),(4,.own (eOs 1 true eB kh)),(5,.own (eDq 3 Zd d8)),(6,.own (.box (Zd cw)))] [Hn (⟨rfl,rfl,rfl,rfl,i0 h1,(iL Zd h1).2⟩:T.als 5 [] 0 0=T.als 5 [] 0 0/\some kc=some kc/\T.own (eDq 3 Zd d8)=T.own (eDq 3 Zd d8)/\some 3=some 3/\(0:Int)<=0/\(0:Int).toNat<(d8.map Zd).length),Hn (⟨rfl,rfl,rfl,iM Zd h1,rfl,Jk.isD cw⟩:T.d (.atom (z8I 3 kc (0:Int)))=T.d (.atom (z8I 3 kc (0:Int)))/\some kc=some kc/\T.own (eDq 3 Zd d8)=T.own (eDq 3 Zd d8)/\(d8.map Zd)[(0:Int).toNat]?=some (Zd cw)/\true=true/\(Zd cw).isD=true)] λst0 h0=>⟨rfl,h0⟩) λst1 h1=>z4A h1 ?_;obtain⟨g1,ae⟩:=gdE ae;obtain⟨yr,h2,ae⟩:=zt ae;let Z1:List HO:=[Hn (rfl:eDq 3 Zd d8=A.opq (z1p 3 (d8.map Zd)).q),Hn (⟨g1.1,cuB Zd g1⟩:(0:Int)<=1/\(1:Int).toNat<=(d8.map Zd).length),Hn (drM Zd d8 (1:Int).toNat),Hn (z12 (yv:=yv) (Y:=YY) (enc:=(λ(x:zk) (_:Bool) (_:Value)=>[Zd x])) (s:=dw) (x:=cw) (s':=yr.1) (b:=yr.2) (v:=.nilFunc) [Zd cw] (show Ji [Zd cw] [Zd cw] from inferInstance))];obtain c1|c1:=zF ae
  ·cases c1.2;cases hl1;cases aa;exact yF (H:=zx ((Uh (P:=prog) vF hy 29 (s:=dw) (x:=cw) (s':=yr.1) (b:=yr.2) .nilFunc h2).or ((xQs zr 26 3 (d8.map Zd) ((d8.drop (1:Int).toNat).map Zd)).or X0))) .ret [(0,.own (.opq (YY yr.1).q))] (Z1++[c1]) λst0 h0=>hE _ st0 (.inr rfl) h0
  obtain⟨ap,h3,t2,ht2,ae⟩:=yj c1.2;refine yL (H:=zx ((Uh (P:=prog) vF hy 29 (s:=dw) (x:=cw) (s':=yr.1) (b:=yr.2) .nilFunc h2).or ((xQs zr 26 3 (d8.map Zd) ((d8.drop (1:Int).toNat).map Zd)).or X0))) 1111001011110 [J1] (λs=>wo cw yr ap s.1 s.2.1 s.2.2) (λx=>VK x0 YY cw yr ap x.1 x.2.1 x.2.2) (kh,(d8.drop (1:Int).toNat),0) ht2  (Z1++[c1,Hi yO h3,Ha (lnM wk ap)]) λ⟨gn,fx,jl⟩ m2 dj ah hl2 J2 au=>?_;obtain c2|c2:=zF ah
  ·refine yKs 1111001011110011 [J1,J2] [0,1,4,5,6,36,37,38] (λz:List Bool×List zk=>yY jl z.1 z.2=some dj) (λz=>VN x0 YY cw yr ap jl z.1 z.2) [c2,Hh (.cut 0)] ?_ λJ3 bg=>?_
   ·rintro⟨eu,nd⟩ ah;cases ah;exact yB au _ hl2 []
   obtain⟨al,h4,ah⟩:=zt c2.2;let Z2:List HO:=[Hi wk h4];obtain c3|c3:=zF ah
   ·obtain⟨p7,h5,ah⟩:=zt c3.2;let Z3:List HO:=(Z2++(rpN 4 (Hb c3) [Hn (iL eB h5),c3,Hs (iM eB h5),c3,c3]));obtain c4|c4:=zF ah
    ·obtain⟨ra,h6,ah⟩:=zt c4.2;obtain⟨g2,ah⟩:=gdE ah;exact yB (H:=zx ((xQa zr 66 3 (fx.map Zd) ((fx++[(zk.mk al.To cw.state_ jl)]).map Zd)).or X0)) bg ((gn.set al.To.toNat true),(fx++[(zk.mk al.To cw.state_ jl)])) ah (Z3++[c4,Hn (iL eB h6),Hs (iM eB h6),Hs (iM eB h6),Hl (sM eB gn al.To true),Hn (⟨rfl,dM Zd [(zk.mk al.To cw.state_ jl)],rfl⟩:3=3/\A.areD ([(zk.mk al.To cw.state_ jl)].map Zd)=true/\true=true),Hn (⟨rfl,aL Zd Zd g2,dM Zd fx⟩:eDq 3 Zd fx=A.opq (z1p 3 (fx.map Zd)).q/\(fx.map Zd).length+([(zk.mk al.To cw.state_ jl)].map Zd).length<=lim/\A.areD (fx.map Zd)=true),Hn (aM Zd fx [(zk.mk al.To cw.state_ jl)])])
    exact yB bg (gn,fx) c4.2 (Z3++[c4])
   exact yB bg (gn,fx) c3.2 (Z2++(rpN 7 (Hb c3) [qF]))
  cases c2.2;cases hl2;cases ae;exact yB ar _ hl1 [c2]
 cases c0.2;cases hl1;cases aa;exact yF (H:=zx ((xQl zr 20 244 3 (d8.map Zd) (by kernel_rfl)).or X0)) .normal [(0,.own (.opq (YY dw).q))] (Z0++[c0]) λst0 h0=>hE _ st0 (.inl rfl) h0
def l46:List yi:=XA 139 F8_ F7_ ya::l45
def VH [H:HS X0 l45]:OkH l46:=yS1 true func139 λs_ r0 aa E hE=>by
 refine zbk rfl 0 (sz:=1) (t:=false) (es:=s_.map sy) (by kernel_rfl) λcu hv0 hn=>?_;rcases hn with⟨hn0,he0⟩|hn0
 ·obtain⟨_,aa⟩:=gdE aa;rw[show s_=[] from List.map_eq_nil_iff.1 he0]at aa;cases aa;exact yEl (H:=zx ((zkN zr 4 51 (by kernel_rfl) hn0).or ((xMv prog 3 0 cu hv0).or X0))) hE [Hn (rfl:some cu=some cu),Hn (⟨rfl,rfl⟩:T.d (.atom cu)=T.d (.atom cu)/\T.d (.atom (.slice none 0 0))=T.d (.atom (.slice none 0 0))),qT]
 obtain⟨g0,aa⟩:=gdE aa;cases aa;exact yE (H:=zx ((zkN zr 4 51 (by kernel_rfl) hn0).or ((xMv prog 3 0 cu hv0).or X0))) hE [Hn (rfl:some cu=some cu),Hn (⟨rfl,rfl⟩:T.d (.atom cu)=T.d (.atom cu)/\T.d (.atom (.slice none 0 0))=T.d (.atom (.slice none 0 0))),qF,Hn (dM sy s_),Hn (aL sy sy g0),Hl (aM0 sy s_)]
def l47:List yi:=XA 111 F8_ F4_ zQ::l46
def Uj [H:HS X0 l46]:OkH l47:=yS1 true func111 λs_ r0 aa E hE=>by obtain⟨g0,aa⟩:=gdE aa;cases aa;exact yE hE [Ha (lnM sy s_),Ha (lnM sy s_),Hn (slB g0),Hn (slC g0),Hn (zje sy g0),Ha (zn9 1 sy s_ 0 ((s_.length:Nat):Int).toNat)]
def l48:List yi:=Zb 146 yG sy (eT2 XM (eSl 1 true eB)) WO::l47
def z3C [H:HS X0 l47]:OkH l48:=yS2 false func146 λm_ from_ r0 aa E hE=>by
 obtain⟨g0,aa⟩:=gdE aa;obtain⟨g1,aa⟩:=gdE aa;refine yK (H:=zx ((xMs zr 12 51).or X0)) 111 [] [6,7] (λz:TA×List Bool=>W1 z.1 z.2=some r0) (λz=>[(6,.own (.box (eOs 1 true F4_ z.1))),(7,.own (.box (eOs 1 true eB z.2)))]) [1,2,6,7] [Ha (lnM yO m_.Rows),Hn (rL g0),Ha (rM 1 F4_ ((m_.Rows.length:Nat):Int) ([]:TB)),Ha (lnM yO m_.Rows),Hn (rL g1),Ha (rM 1 eB ((m_.Rows.length:Nat):Int) false),Hh (.cut 0)] ?_ λJ1 ar=>?_
 ·rintro⟨l_,is⟩ aa;cases aa;exact yE hE [Hm (shM F4_ F4_ l_),Hm (shM eB eB is)]
 obtain⟨r_,h0,t2,ht2,aa⟩:=yj aa;refine yAt (sub [1,1,2,1,0] (zbd f146)) (frs [1,1,2,1,0] [J1] (zbd f146) []) [(6,.own (.box (eOs 1 true F4_ (List.replicate ((m_.Rows.length:Nat):Int).toNat ([]:TB))))),(7,.own (.box (eOs 1 true eB (List.replicate ((m_.Rows.length:Nat):Int).toNat false)))),(19,.d (.fn 186 [.sptr (.agg [I r_.1.Inputs,I r_.1.Outputs,eSl 1 false yO r_.1.Rows]),.sptr (I r_.2)]))] [zC2 2 h0] λst0 h0=>?_;refine KJ (g:=.tmp 19) (ps:=[20]) (assign:=(sub [1,1,2,1,0,0] (zbd f146))) (body:=(sub [1,1,2,1,0,1] (zbd f146))) (K:=186) (caps:=[.sptr (.agg [I r_.1.Inputs,I r_.1.Outputs,eSl 1 false yO r_.1.Rows]),.sptr (I r_.2)]) (by kernel_rfl) [6,7,19] (λs=>[(6,.own (.box (eOs 1 true F4_ s.1))),(7,.own (.box (eOs 1 true eB s.2))),(19,.d (.fn 186 [.sptr (.agg [I r_.1.Inputs,I r_.1.Outputs,eSl 1 false yO r_.1.Rows]),.sptr (I r_.2)]))]) (λz=>nomatch z) (λz=>nomatch z) ((λ(x:zk) (_:Bool) (_:Value)=>[Zd x])) (F:=@qW r_.1 r_.2) (λs x=>wh s.1 s.2 x) ((List.replicate ((m_.Rows.length:Nat):Int).toNat ([]:TB)),(List.replicate ((m_.Rows.length:Nat):Int).toNat false)) t2 _ h0 inferInstance (by kernel_rfl) (by decide) (λ_=>rfl) (by rintro⟨⟩) (by kernel_rfl) (λ_ _ _=>rfl) (Jl (H:=zd 2) r_.1 r_.2) ht2 ?_ ?_
 ·rintro qg ⟨dr,ii⟩ jn vr av ae;replace ae:wh dr ii jn=some av:=ae;refine yF .normal [(6,.own (.box (eOs 1 true F4_ dr))),(7,.own (.box (eOs 1 true eB ii))),(8,.own (.box (Zd jn))),(19,.d (.fn 186 [.sptr (.agg [I r_.1.Inputs,I r_.1.Outputs,eSl 1 false yO r_.1.Rows]),.sptr (I r_.2)]))] [] λst0 h0=>⟨rfl,z4A h0 ?_⟩;obtain⟨pq,h1,ae⟩:=zt ae;let Z0:List HO:=[Hn (iL eB h1),Hs (iM eB h1),Hs (iM eB h1),Hl (sM eB ii jn.state_ true)];obtain c0|c0:=zF ae
  ·obtain⟨bi,h2,ai,h3,ae⟩:=yj c0.2;obtain⟨g2,ae⟩:=gdE ae;obtain⟨ak,h4,ew,h5,ae⟩:=yj ae;cases ae;exact yF .normal ([(6,.own (.box (eOs 1 true F4_ (dr.set jn.state_.toNat ak)))),(7,.own (.box (eOs 1 true eB (ii.set jn.state_.toNat true)))),(19,.d (.fn 186 [.sptr (.agg [I r_.1.Inputs,I r_.1.Outputs,eSl 1 false yO r_.1.Rows]),.sptr (I r_.2)]))]) (Z0++[c0,Hn (iL F4_ h2),Hs (iM F4_ h2),Hk [] (z0q (hat 1)) (zf1 1 h3 (loC F4_ bi<|loN)),Hq (dM sy [jn.input_]),Hn (dM sy [jn.input_]),Hn (aL sy sy g2),Hl (aM sy ai [jn.input_]),zg 0,Hm (shM sy sy (ai++[jn.input_])),Hs (zf1 0 h4 (loC F8_ (ai++[jn.input_])<|loN)),Hm (shM sy sy (ai++[jn.input_])),Hn (iL F4_ h5),Hs (iM F4_ h5),Hs (iM F4_ h5),Hl (sM F4_ dr jn.state_ ak)]) λst0 h0=>⟨rfl,_,h0,LeL.refl _⟩
  cases c0.2;exact yF .normal ([(6,.own (.box (eOs 1 true F4_ dr))),(7,.own (.box (eOs 1 true eB (ii.set jn.state_.toNat true)))),(19,.d (.fn 186 [.sptr (.agg [I r_.1.Inputs,I r_.1.Outputs,eSl 1 false yO r_.1.Rows]),.sptr (I r_.2)]))]) (Z0++[c0]) λst0 h0=>⟨rfl,_,h0,LeL.refl _⟩
 rcases t2 with⟨dr,ii⟩|z
 ·dsimp only at aa;exact Xz (by kernel_rfl) (ar _ [(6,.own (.box (eOs 1 true F4_ dr))),(7,.own (.box (eOs 1 true eB ii)))] (dr,ii) aa (show Own.canon [6,7] _=ofL _ by kernel_rfl) inferInstance)
 cases z
def l49:List yi:=XA 114 yG (eT3 XM (eSl 1 true eB) sy) XO::l48
def z2l [H:HS X0 l48]:OkH l49:=yS1 false func114 λm_ r0 aa E hE=>by
 obtain⟨r_,h0,aa⟩:=zt aa;let Z0:List HO:=[zC1 23 h0];obtain c0|c0:=zF aa
 ·cases c0.2;exact yE hE (Z0++[c0,Hm (shM F8_ F8_ []),Hm (shM eB eB [])])
 obtain⟨ai,h1,aa⟩:=zt c0.2;cases aa;exact yE hE (Z0++[c0,zC2 0 h1])
def l50:List yi:=Zb 127 sy (eSp sy) eB WN::l49
def z0J [H:HS X0 l49]:OkH l50:=yS2 true func127 λc_ x1 r0 aa E hE=>by
 obtain c0|c0:=zF aa
 ·cases c0.2;exact yE hE (rpN 4 (Hb c0) [])
 cases c0.2;exact yE hE (rpN 4 (Hb c0) [])
def l51:List yi:=Zb 156 F8_ (Kj 127 (eSp sy)) sy vt::l50
def XB [H:HS X0 l50]:OkH l51:=yS2 true func156 λs_ f_ r0 aa E hE=>by
 refine yK 11 [] [] (λz:Unit=>uO=some r0) (λz=>[]) [0,1] [Hh (.cut 1)] ?_ λJ1 ar=>?_
 ·rintro⟨⟩ aa;cases aa;exact yE hE []
 refine yMb 11210 [J1] [0,1,7,8] (λx=>[(8,.d (I x))]) aa  [Ha (lnM sy s_)] λt2 aa x8 m2 av ae hl1 J2 au=>?_;obtain c0|c0:=zF ae
 ·obtain⟨eb,h0,r_,h1,ae⟩:=yj c0.2;let Z0:List HO:=[c0,Hi sy h0,zC2 0 h1];obtain c1|c1:=zF ae
  ·cases c1.2;cases hl1;cases aa;exact yE hE (Z0++[c1])
  cases c1.2;exact yB au _ hl1 (Z0++[c1])
 cases c0.2;cases hl1;exact yB ar () aa [c0]
def l52:List yi:=Zb 126 F8_ (Kj 127 (eSp sy)) eB ww::l51
def Yd [H:HS X0 l51]:OkH l52:=yS2 true func126 λs_ f_ r0 aa E hE=>by obtain⟨r_,h0,aa⟩:=zt aa;cases aa;exact yE hE [zC2 0 h0]
def l53:List yi:=Zb 93 F8_ sy sy vI::l52
def z3B [H:HS X0 l52]:OkH l53:=yS2 true func93 λw_ inputs r0 aa E hE=>by
 obtain c0|c0:=zF aa
 ·cases c0.2;exact yE hE (rpN 4 (Hb c0) [qT])
 let Z0:List HO:=[c0,c0,Ha (lnM sy w_),c0,c0];obtain c1|c1:=zF c0.2
 ·cases c1.2;exact yE hE (Z0++[c1])
 obtain c2|c2:=zF c1.2
 ·cases c2.2;exact yE hE (Z0++(Hb c1::(rpN 4 (Hb c2) [qT])))
 obtain⟨r_,h0,aa⟩:=zt c2.2;let Z1:List HO:=(Z0++[c1,c2,c2,c2,zC2 0 h0,c2]);obtain c3|c3:=zF aa
 ·cases c3.2;exact yE hE (Z1++[c3])
 cases c3.2;exact yE hE (Z1++[c3])
def l54:List yi:=Zb 89 ua sy sy X2::l53
def z3E [H:HS X0 l53]:OkH l54:=yS2 true func89 λl_ inputs r0 aa E hE=>by
 obtain c0|c0:=zF aa
 ·cases c0.2;exact yE hE (rpN 4 (Hb c0) [qT])
 let Z0:List HO:=[c0,c0,Ha (lnM F8_ l_),c0,c0];obtain c1|c1:=zF c0.2
 ·cases c1.2;exact yE hE (Z0++[c1])
 obtain c2|c2:=zF c1.2
 ·cases c2.2;exact yE hE (Z0++[c1,c2])
 refine yK 1111 [] [] (λz:Unit=>QC=some r0) (λz=>[]) [0,1] (Z0++[c1,c2,Hh (.cut 0)]) ?_ λJ1 ar=>?_
 ·rintro⟨⟩ aa;cases aa;exact yE hE []
 refine yMb 1111210 [J1] [1,17,18,19] (λx=>[(19,.d (I x))]) c2.2  [Ha (lnM F8_ l_)] λt2 aa dy m2 av ae hl1 J2 au=>?_;obtain c3|c3:=zF ae
 ·obtain⟨bi,h0,r_,h1,ae⟩:=yj c3.2;let Z1:List HO:=[c3,Hi F8_ h0,zC2 0 h1];obtain c4|c4:=zF ae
  ·cases c4.2;cases hl1;cases aa;exact yE hE (Z1++[c4])
  cases c4.2;exact yB au _ hl1 (Z1++[c4])
 cases c3.2;cases hl1;exact yB ar () aa [c3]
def l55:List yi:=XA 105 ua zhL xP::l54
def WQ [H:HS X0 l54]:OkH l55:=yS1 true func105 λs_ r0 aa E hE=>by
 refine zbk rfl 0 (sz:=1) (t:=false) (es:=s_.map F8_) (by kernel_rfl) λcu hv0 hn=>?_;rcases hn with⟨hn0,he0⟩|hn0
 ·obtain⟨_,aa⟩:=gdE aa;rw[show s_=[] from List.map_eq_nil_iff.1 he0]at aa;cases aa;exact yEl (H:=zx ((zkN zr 4 32 (by kernel_rfl) hn0).or ((xMv prog 3 0 cu hv0).or X0))) hE [Hn (rfl:some cu=some cu),Hn (⟨rfl,rfl⟩:T.d (.atom cu)=T.d (.atom cu)/\T.d (.atom (.slice none 0 0))=T.d (.atom (.slice none 0 0))),qT]
 obtain⟨g0,aa⟩:=gdE aa;cases aa;exact yE (H:=zx ((zkN zr 4 32 (by kernel_rfl) hn0).or ((xMv prog 3 0 cu hv0).or X0))) hE [Hn (rfl:some cu=some cu),Hn (⟨rfl,rfl⟩:T.d (.atom cu)=T.d (.atom cu)/\T.d (.atom (.slice none 0 0))=T.d (.atom (.slice none 0 0))),qF,Hn (dM F8_ s_),Hn (aL F8_ F8_ g0),Hl (aM0 F8_ s_)]
def l56:List yi:=XA 171 sy eB YK::l55
def z0V [H:HS X0 l55]:OkH l56:=yS1 true func171 λx_ r0 aa E hE=>by cases aa;exact yE hE []
def l57:List yi:=Zb 154 sy sy sy qb::l56
def Kq [H:HS X0 l56]:OkH l57:=yS2 true func154 λx_ y_ r0 aa E hE=>by
 obtain⟨r_,h0,ai,h1,aa⟩:=yj aa;let Z0:List HO:=[zC1 0 h0,zC1 0 h1];obtain c0|c0:=zF aa
 ·obtain c1|c1:=zF c0.2
  ·cases c1.2;exact yE hE (Z0++[c0,c1])
  cases c1.2;exact yE hE (Z0++[c0,c1])
 obtain c2|c2:=zF c0.2
 ·cases c2.2;exact yE hE (Z0++[c0,c2])
 obtain c3|c3:=zF c2.2
 ·cases c3.2;exact yE hE (Z0++[c0,c2,c3])
 obtain c4|c4:=zF c3.2
 ·cases c4.2;exact yE hE (Z0++[c0,c2,c3,c4])
 cases c4.2;exact yE hE (Z0++[c0,c2,c3,c4])
def l58:List yi:=Zb 155 F8_ F8_ sy wC::l57
def Wl [H:HS X0 l57]:OkH l58:=yS2 true func155 λs1 s2 r0 aa E hE=>by
 refine yNs 11 [] [0,1] (λz:Unit=>wZ s1 s2=some r0) (λz=>[]) [Hh (.cut 1)] ?_ λJ1 ar=>?_
 ·rintro⟨⟩ aa;let Z0:List HO:=[Ha (lnM sy s1),Ha (lnM sy s2)];obtain c0|c0:=zF aa
  ·cases c0.2;exact yE hE (Z0++[c0])
  cases c0.2;exact yE hE (Z0++[c0])
 refine yMb 11210 [J1] [0,1,9,10,11] (λx=>[(11,.d (I x))]) aa  [Ha (lnM sy s1)] λt2 aa ig m2 av ae hl1 J2 au=>?_;obtain c1|c1:=zF ae
 ·obtain⟨pa,h0,ae⟩:=zt c1.2;let Z1:List HO:=[c1,Hi sy h0,Ha (lnM sy s2)];obtain c2|c2:=zF ae
  ·cases c2.2;cases hl1;cases aa;exact yE hE (Z1++[c2])
  obtain⟨nw,h1,r_,h2,ae⟩:=yj c2.2;let Z2:List HO:=(Z1++[c2,Hi sy h1,zC2 0 h2]);obtain c3|c3:=zF ae
  ·cases c3.2;cases hl1;cases aa;exact yE hE (Z2++[c3])
  cases c3.2;exact yB au _ hl1 (Z2++[c3])
 cases c1.2;cases hl1;exact yB ar () aa [c1]
def l59:List yi:=XA 153 F8_ sy Qe::l58
def z51 [H:HS X0 l58]:OkH l59:=yS1 true func153 λvals r0 aa E hE=>by
 refine yN 111 [] [3] (λz:Unit=>Vq=some r0) (λz=>[]) [0,3] [Hh (.cut 2)] ?_ λJ1 ar=>?_
 ·rintro⟨⟩ aa;cases aa;exact yE hE []
 refine yMb 111210 [J1] [3,6,7,8] (λx=>[(8,.d (I x))]) aa  [Ha (lnM sy vals)] λt2 aa x8 m2 av ae hl1 J2 au=>?_;obtain c0|c0:=zF ae
 ·obtain⟨pr,h0,ae⟩:=zt c0.2;obtain c1|c1:=zF ae
  ·cases c1.2;cases hl1;cases aa;exact yE hE [c0,Hi sy h0,c1]
  cases c1.2;exact yB au _ hl1 [c0,Hi sy h0,c1]
 cases c0.2;cases hl1;exact yB ar () aa [c0]
def l60:List yi:=Zb 125 F8_ F8_ sy yx::l59
def z0I [H:HS X0 l59]:OkH l60:=yS2 true func125 λa_ b_ r0 aa E hE=>by obtain⟨r_,h0,ai,h1,ak,h2,aa⟩:=Zc aa;cases aa;exact yE hE [Ha (lnM sy a_),Ha (lnM sy b_),zC2 2 h0,zC2 1 h1,zg 0,Hm (shM sy sy ([r_,ai])),Hs (zf1 0 h2 (loC F4_ [r_,ai]<|loN))]
def l61:List yi:=Zb 138 F8_ F8_ eB qK::l60
def z0d [H:HS X0 l60]:OkH l61:=yS2 true func138 λa_ b_ r0 aa E hE=>by obtain⟨r_,h0,aa⟩:=zt aa;cases aa;exact yE hE [zC2 0 h0]
def l62:List yi:=Zb 137 zhL (zhU 138) zhL xw [true,false]::l61
def zZ:XH prog:=((zmF zr 64).or X0)
def Ye [H:HS zZ l61]:OkH l62:=yS2 true func137 λs_ eq r0 aa E hE=>by
 refine z4z (y:=eOs 1 false F8_ s_) rfl 0 (by kernel_rfl) (by kernel_rfl) λcu hv0=>?_;let Z0:List HO:=[Ha (lnM F8_ s_)];obtain c0|c0:=zF aa
 ·cases c0.2;exact yE hE (Z0++[c0])
 refine yN 111 [] [0] (λz:Unit=>vG s_=some r0) (λz=>[]) [0,1] (Z0++[c0,Hh (.cut 0)]) ?_ λJ1 ar=>?_
 ·rintro⟨⟩ aa;cases aa;exact yE hE []
 refine yMb 111210 [J1] [0,1,5] (λx=>[(5,.d (I x))]) c0.2  [] λt2 aa k_ m2 av ae hl1 J2 au=>?_;let Z1:List HO:=[Ha (lnM F8_ s_)];obtain c1|c1:=zF ae
 ·refine yNs 11121001 [J1,J2] [0,1,5] (λz:Unit=>xO k_=some av) (λz=>[]) (Z1++[c1,Hh (.cut 0)]) ?_ λJ3 bg=>?_
  ·rintro⟨⟩ ae;cases ae;exact yB au _ hl1 []
  obtain⟨eb,h0,nn,h1,r_,h2,ae⟩:=Zc c1.2;let Z2:List HO:=[Hn (iL F8_ h0),Hs (iM F8_ h0),Hn (iL F8_ h1),Hs (iM F8_ h1),zC2 0 h2];obtain c2|c2:=zF ae
  ·obtain⟨g0,ae⟩:=gdE c2.2;refine yK (H:=zx ((xAs prog 6 (WF 1 cu k_)).or ((xVw zr 31 0 cu).or zZ))) 1112100120101 [J1,J2,J3] [0,5] (λz:TA×Int=>yd z.1 z.2=some av) (λz=>[(0,.own (eOs 1 false F8_ z.1)),(5,.d (I z.2))]) [0,1,5,6] (Z2++[c2,Hn (⟨.inl rfl,rfl⟩:(T.als 0 [] 0 0=T.als 0 [] 0 0\/T.als 0 [] 0 0=T.d (.atom cu))/\some cu=some cu),Hn (⟨g0.1,cuB F8_ g0⟩:(0:Int)<=k_/\k_.toNat<=(s_.map F8_).length),Hn (rfl:T.d (.atom (WF 1 cu k_))=T.d (.atom (WF 1 cu k_))),Hh (.cut 1)]) ?_ λJ4 db=>?_
   ·rintro⟨bk,de⟩ ae;obtain⟨g1,ae⟩:=gdE ae;obtain⟨g2,ae⟩:=gdE ae;obtain⟨g3,ae⟩:=gdE ae;cases ae;cases hl1;cases aa;exact yE (H:=zx ((xVc zr 61 1 0 cu de).or ((xVw zr 61 0 cu).or zZ))) hE [Hn (⟨.inl rfl,rfl⟩:(T.als 0 [] 0 0=T.als 0 [] 0 0\/T.als 0 [] 0 0=T.d (.atom cu))/\some cu=some cu),Hn (⟨g1.1,cuB F8_ g1⟩:(0:Int)<=de/\de.toNat<=(bk.map F8_).length),Hn (⟨rfl,rfl⟩:T.d (.atom (WF 1 cu de))=T.d (.atom (WF 1 cu de))/\some cu=some cu),Hn (⟨g2.1,cuB F8_ g2,dM F8_ bk⟩:(0:Int)<=de/\de.toNat<=(bk.map F8_).length/\A.areD (bk.map F8_)=true),Hx (.l ((bk.take de.toNat++List.replicate (bk.length-de.toNat) []).map F8_)) (vcM F8_ bk de.toNat ([]:TB)),Hn g3.1,Hn (cuB F8_ g3),Hl (cuM F8_ (bk.take de.toNat++List.replicate (bk.length-de.toNat) []) de)]
   refine yMb 1112100120101210 [J1,J2,J3,J4] [0,1,5,6,7] (λx=>[(0,.own (eOs 1 false F8_ x.1)),(5,.d (I x.2.1)),(7,.d (I x.2.2))]) ae  [] λt5 ae ⟨da,kj,k2⟩ m5 dj ah hl2 J5 dc=>?_;let Z3:List HO:=[Hn (⟨rfl,rfl⟩:T.d (.atom (WF 1 cu k_))=T.d (.atom (WF 1 cu k_))/\some cu=some cu),Hx (.a (.atom (.int .i64 ((da.length-k_.toNat:Nat):Int)))) (vlM F8_ da k_.toNat)];obtain c3|c3:=zF ah
   ·refine yNs (H:=zx ((xVl zr 34 32 1 0 cu k_ (by kernel_rfl)).or zZ)) 111210012010121001 [J1,J2,J3,J4,J5] [0,1,5,6,7] (λz:TA×Int=>yc k2 z.1 z.2=some dj) (λz=>[(0,.own (eOs 1 false F8_ z.1)),(5,.d (I z.2))]) (Z3++[c3,Hh (.cut 0)]) ?_ λJ6 ep=>?_
    ·rintro⟨ng,p8⟩ ah;cases ah;exact yB dc _ hl2 []
    obtain⟨g4,ah⟩:=gdE c3.2;obtain⟨ot,h3,ah⟩:=zt ah;obtain⟨g5,ah⟩:=gdE ah;obtain⟨ou,h4,ai,h5,ah⟩:=yj ah;let Z4:List HO:=[Hn (⟨rfl,rfl⟩:T.d (.atom (WF 1 cu k_))=T.d (.atom (WF 1 cu k_))/\some cu=some cu),Hn (⟨g4.1,g4.2,(iL F8_ h3).2⟩:(0:Int)<=k_/\(0:Int)<=k2/\(k_+k2).toNat<(da.map F8_).length),Hs (iM F8_ h3),Hn (⟨rfl,rfl⟩:T.d (.atom (WF 1 cu k_))=T.d (.atom (WF 1 cu k_))/\some cu=some cu),Hn (⟨g5.1,g5.2,(iL F8_ h4).2⟩:(0:Int)<=k_/\(0:Int)<=w64 (k2-1)/\(k_+(w64 (k2-1))).toNat<(da.map F8_).length),Hs (iM F8_ h4),zC2 0 h5];obtain c4|c4:=zF ah
    ·obtain⟨g6,ah⟩:=gdE c4.2;obtain⟨ov,h6,r9,h7,ah⟩:=yj ah;exact yB (H:=zx ((xVi zr 54 1 0 cu k_).or ((xVi zr 46 1 0 cu k_).or ((xVi zr 41 1 0 cu k_).or zZ)))) ep ((da.set kj.toNat ov),w64 (kj+1)) ah (Z4++[c4,Hn (⟨rfl,rfl⟩:T.d (.atom (WF 1 cu k_))=T.d (.atom (WF 1 cu k_))/\some cu=some cu),Hn (⟨g6.1,g6.2,(iL F8_ h6).2⟩:(0:Int)<=k_/\(0:Int)<=k2/\(k_+k2).toNat<(da.map F8_).length),Hs (iM F8_ h6),Hn (iL F8_ h7),Hs (iM F8_ h7),Hs (iM F8_ h7),Hl (sM F8_ da kj ov)])
    exact yB (H:=zx ((xVi zr 46 1 0 cu k_).or ((xVi zr 41 1 0 cu k_).or zZ))) ep (da,kj) c4.2 (Z4++[c4])
   cases c3.2;cases hl2;exact yB (H:=zx ((xVl zr 34 32 1 0 cu k_ (by kernel_rfl)).or zZ)) db (da,kj) ae (Z3++[c3])
  exact yB bg () c2.2 (Z2++[c2])
 cases c1.2;cases hl1;exact yB ar () aa (Z1++[c1])
def xD:yi:=spR (α:=TA) (ρ:=TA) 112 (λx=>[zhL x]) (λr=>(eOs 1 true F8_) r) (λx=>w9 x) [true] (znz)
def XG:∀x r,(λx=>w9 x) x=some r->(KG.add xD).run 112 ((KG.add xD).norm 112 ((λx=>[zhL x]) x))=some ((λr=>(eOs 1 true F8_) r) r):=λx r h=>zm7 h rfl
def XJ:(KG.add xD).gives 112=[true]:=zh8
def wX [H:HS X0 l62]:xD.Ok prog:=by refine z9p ?_;rintro s_ r0 aa;refine zY true func112 λE hE=>?_;cases aa;exact yE (H:=zx ((xCl zr 8).or X0)) hE [Ha (lnM F8_ s_),Ha (lnM F8_ s_),Hn (mT _:(0:Int)<=((s_.length:Nat):Int)),Hn (mT _:(0:Int)<=((s_.length:Nat):Int)),Hn (clB F8_ s_),Ha (clE 1 F8_ s_)]
def l63:List yi:=XA 91 ua sy YZ::l62
def z3D [H:HS X0 l62]:OkH l63:=yS1 true func91 λl_ r0 aa E hE=>by
 refine yK 11 [] [2] (zI QB r0) (λz=>[(2,.d (I z))]) [0,2] [Hh (.cut 1)] ?_ λJ1 ar=>?_
 ·rintro n_ aa;cases aa;exact yE hE []
 refine yMb 11210 [J1] [2,5,6,7] (λx=>[(2,.d (I x.1)),(7,.d (I x.2))]) aa  [Ha (lnM F8_ l_)] λt2 aa ⟨ca,x7⟩ m2 av ae hl1 J2 au=>?_;obtain c0|c0:=zF ae
 ·obtain⟨bi,h0,ae⟩:=zt c0.2;cases ae;exact yB au _ hl1 [c0,Hi F8_ h0,Ha (lnM sy bi)]
 cases c0.2;cases hl1;exact yB ar ca aa [c0]
def l64:List yi:=XA 104 ua (eT2 XM sy) xA::l63
def z2m [H:HS X0 l63]:OkH l64:=yS1 false func104 λl_ r0 aa E hE=>by
 obtain⟨r_,h0,aa⟩:=zt aa;refine yC 111 [] [4] [zC1 8 h0,Hh (.cut 0)] ?_;obtain⟨sorted,h1,aa⟩:=zt aa;refine z6f (by kernel_rfl) (x:=(sub [1,1,0] (zbd f104))) (y:=(sub [1,1,1] (zbd f104))) 4 (λst1=>Own.canon [4] st1=ofL [(4,.own (eOs 1 false F8_ sorted))]) (λjo=>yF (H:=zx ((Za (P:=prog) vF [4] (z9r zjb (f:=F8_) (t:=false) (v:=jo) (λ_=>rfl) (λ_=>rfl) (λx y c h=>(zk2 3 h :)) h1) 10).or X0)) .normal [(4,.own (eOs 1 false F8_ sorted))] [Hn (W6 (f:=.fn 136 []) (xs:=[.atom jo,.fn 125 []]) (ls:=[(jo,eOs 1 false F8_ r_)]) (r:=.tup []) (ys:=[eOs 1 false F8_ sorted]) [.atom jo,.fn 125 []] (show Ji [.atom jo,.fn 125 []] [.atom jo,.fn 125 []] from inferInstance))] λst0 h0=>⟨rfl,h0⟩) λst1 h1=>z4A h1 ?_;obtain⟨ai,h2,ak,h3,aa⟩:=yj aa;let Z0:List HO:=[zC2 1 h2,Hh (.g [true]),Hn XJ,Hx (.a ((eOs 1 true F8_) ak)) (XG ai _ h3),Ha (lnM F8_ ak)];obtain c0|c0:=zF aa
 ·cases c0.2;exact yEx (H:=zx ((z3y zr (wX (H:=zd 1)) 13).or X0)) hE (Z0++(rpN 4 (Hb c0) [qT,Hm (shM F8_ F8_ [])])) (.tup [eSl 1 true F4_ [],I 3]) (show LeV (.tup [eSl 1 true F4_ [],I 3]) (.tup [eSl 1 true F4_ ([]:TA),I 3]) from inferInstance)
 obtain⟨am,h4,aa⟩:=zt c0.2;let Z1:List HO:=(Z0++[Hb c0,Hb c0,zg 0,Hm (shM F8_ F8_ ak),Hs (zf1 0 h4 (loC z6j ak<|loN)),Hb c0,Hb c0]);obtain c1|c1:=zF aa
 ·cases c1.2;exact yEx (H:=zx ((z3y zr (wX (H:=zd 1)) 13).or X0)) hE (Z1++[c1,Hm (shM F8_ F8_ [])]) (.tup [eSl 1 true F4_ [],I 3]) (show LeV (.tup [eSl 1 true F4_ [],I 3]) (.tup [eSl 1 true F4_ ([]:TA),I 3]) from inferInstance)
 refine yC (H:=zx ((z3y zr (wX (H:=zd 1)) 13).or X0)) 111111 [] [4] (Z1++[Hb c1,Hh (.cut 0)]) ?_;refine z4z (y:=eOs 1 true F8_ ak) (by kernel_rfl) 4 (by kernel_rfl) (by kernel_rfl) λjo hv4=>?_;refine yKs 111111 [] [4] (zI X1 r0) (λz=>[(4,.own (eOs 1 true (eFl 1 sy) z))]) [Hh (.cut 0)] ?_ λJ1 ar=>?_
 ·rintro out aa;obtain⟨hfl0,aa⟩:=gdE aa;cases aa;exact yEx hE [Hm (shM (eFl 1 sy) (eFl 1 sy) out)] (.tup [eSl 1 true (eFl 1 sy) out,I 0]) (haveI:=flA (s:=1) (t:=1) (b:=true) (f:=sy) hfl0;show LeV (.tup [eSl 1 true (eFl 1 sy) out,I 0]) (.tup [eSl 1 true F4_ (out.map (·.1)),I 0]) from inferInstance)
 obtain⟨t2,ht2,aa⟩:=zt c1.2;refine yLx (H:=zx ((xVl zr 23 32 1 4 jo (0:Int) (by kernel_rfl)).or ((xMw prog 22 4 1 jo).or X0))) 111111210 [J1] (λs=>wp ak s.1 s.2) (λx=>[(4,.own (eOs 1 true (eFl 1 sy) x.1)),(22,.d (.atom (WF 1 jo (0:Int)))),(23,.d (I ((ak.length-(0:Int).toNat:Nat):Int))),(24,.d (I x.2))]) ((ak.map λq=>(q,false)),0) ht2 [(4,.own (eOs 1 true F8_ ak)),(22,.d (.atom (WF 1 jo (0:Int)))),(23,.d (I ((ak.length-(0:Int).toNat:Nat):Int))),(24,.d (I 0))] inferInstance [Hn (rfl:some jo=some jo),Hn (⟨rfl,rfl⟩:T.d (.atom (WF 1 jo (0:Int)))=T.d (.atom (WF 1 jo (0:Int)))/\some jo=some jo),Hx (.a (.atom (.int .i64 ((ak.length-(0:Int).toNat:Nat):Int)))) (vlM F8_ ak (0:Int).toNat)] λ⟨ax,ga⟩ m2 av ae hl1 J2 au=>?_;obtain c2|c2:=zF ae
 ·obtain⟨g0,ae⟩:=gdE c2.2;obtain⟨dn,h5,az,h6,bn,h7,jr,h8,ae⟩:=z2N ae;cases ae;exact yB (H:=zx ((xVi zr 27 1 4 jo (0:Int)).or X0)) au _ hl1 [Hb c2,Hn (⟨rfl,rfl⟩:T.d (.atom (WF 1 jo (0:Int)))=T.d (.atom (WF 1 jo (0:Int)))/\some jo=some jo),Hn (⟨g0.1,g0.2,(iL (eFl 1 sy) h5).2⟩:(0:Int)<=0/\(0:Int)<=ga/\(0+ga).toNat<(ax.map (eFl 1 sy)).length),Hs (iM (eFl 1 sy) h5),Hk [] (z0q (hat 17)) (zf1 17 h6 (loC (eSl 1 dn.2 sy) dn.1<|loN)),zg 16,Hm (shM sy sy az),Hs (zf1 16 h7 (loC F8_ az<|loN)),Hm (shM sy sy az),Hn (iL (eFl 1 sy) h8),Hs (iM (eFl 1 sy) h8),Hs (iM (eFl 1 sy) h8),Hl (sM (eFl 1 sy) ax ga (bn,true))]
 cases c2.2;cases hl1;exact yB ar ax aa [Hb c2]
def l65:List yi:=Zb 115 ua sy (eT2 XM sy) Zm::l64
def z4P [H:HS X0 l64]:OkH l65:=yS2 false func115 λl_ inputs r0 aa E hE=>by
 obtain⟨r_,h0,aa⟩:=zt aa;let Z0:List HO:=[zC2 10 h0];obtain c0|c0:=zF aa
 ·cases c0.2;exact yE hE (Z0++[c0,Hm (shM F8_ F8_ [])])
 obtain⟨ai,h1,aa⟩:=zt c0.2;cases aa;exact yE hE (Z0++[c0,zC1 0 h1])
def l66:List yi:=XA 70 yG (eT2 XM sy) qH::l65
def z0U [H:HS X0 l65]:OkH l66:=yS1 false func70 λm_ r0 aa E hE=>by
 obtain⟨r_,h0,aa⟩:=zt aa;let Z0:List HO:=[zC1 31 h0];obtain c0|c0:=zF aa
 ·cases c0.2;exact yE hE (Z0++[c0,Hm (shM F8_ F8_ [])])
 obtain c1|c1:=zF c0.2
 ·cases c1.2;exact yE hE (Z0++[c0,c1,Hm (shM F8_ F8_ [])])
 obtain⟨ai,h1,aa⟩:=zt c1.2;let Z1:List HO:=(Z0++[c0,c1,zC1 16 h1]);obtain c2|c2:=zF aa
 ·cases c2.2;exact yE hE (Z1++[c2,Hm (shM F8_ F8_ [])])
 obtain⟨ak,h2,aa⟩:=zt c2.2;cases aa;exact yE hE (Z1++[c2,Hk [] (z0q (hat 0)) (zf2 0 h2 (loC XM ai.1<|loC sy m_.Inputs<|loN))])
def l67:List yi:=z18 119 sy sy sy (eT2 XM sy) Wo::l66
def z7d:XH prog:=((W0 zr (.inl 83) [82]).or X0)
def z6o [H:HS z7d l66]:OkH l67:=yS3 false func119 λinputs from_ to r0 aa E hE=>by
 obtain c0|c0:=zF aa
 ·cases c0.2;exact yE hE [c0,Hm (shM F8_ F8_ [])]
 obtain c1|c1:=zF c0.2
 ·cases c1.2;exact yE hE [c0,c1,c1,c1,qT,Hm (shM F8_ F8_ [])]
 let Z0:List HO:=[c0,c1,c1,c1];obtain c2|c2:=zF c1.2
 ·cases c2.2;exact yE hE (Z0++[c2,Hm (shM F8_ F8_ [])])
 obtain c3|c3:=zF c2.2
 ·cases c3.2;exact yE hE (Z0++[c2,c3,Hm (shM F8_ F8_ [])])
 obtain⟨t1,ht1,aa⟩:=zt c3.2;refine yMx 1111111110 [] [0,1,2,8,9,10,11] (λx=>[(8,.own (eOs 1 false F8_ x.1)),(9,.own (eOs 1 false F8_ x.2.1)),(10,.d (I x.2.2.1)),(11,.d (I x.2.2.2))]) ht1 [(8,.own (eOs 1 true F8_ [])),(9,.own (eOs 1 true F4_ ([[]]))),(10,.d (I 0)),(11,.d (I 0))] (Z0++[c2,c3,Hh (.v 5 [9]),Hm (shM F5_ F4_ ([[]]:TA))]) λ⟨out,ay,n_,k_⟩ m1 av ae hl1 J1 ar=>?_;refine yN 11111111100 [J1] [0,1,2,8,9,10,11,45,46,49,50,51,52,58] (λz:TA×TA×Int×Int×Bool×Bool=>Un k_ z.1 z.2.1 z.2.2.1 z.2.2.2.1 z.2.2.2.2.1 z.2.2.2.2.2=some av) (λz=>[(8,.own (eOs 1 false F8_ z.1)),(9,.own (eOs 1 false F8_ z.2.1)),(10,.d (I z.2.2.1)),(45,.d (I z.2.2.2.1)),(46,.d (B z.2.2.2.2.1)),(49,.d (I k_)),(50,.d (I to)),(51,.d (B (decide (k_<to)))),(52,.d (B (decide (k_<to)))),(58,.d (B z.2.2.2.2.2))]) [0,1,2,8,9,10,11] [Hh (.cut 0)] ?_ λJ2 au=>?_
 ·rintro⟨aj,cq,ca,ri,nh,oz⟩ ae;cases ae;exact yB ar _ hl1 []
 refine yNs 1111111110020 [J1,J2] [0,1,2,8,9,10,11] (λz:TA×Int=>ZV inputs to ay k_ z.1 z.2=some av) (λz=>[(8,.own (eOs 1 false F8_ z.1)),(10,.d (I z.2))]) [Hh (.cut 0)] ?_ λJ3 bg=>?_
 ·rintro⟨ax,cd⟩ ae;refine yN 11111111100201 [J1,J2] [0,1,2,8,9,10,11,45,46,49,50,51,52,58] (zI (ZU inputs to ay k_ ax cd) av) (λz=>[(45,.d (I cd)),(46,.d (B (decide (cd > 65536)))),(49,.d (I k_)),(50,.d (I to)),(51,.d (B (decide (k_<to)))),(52,.d (B (decide (k_<to)))),(58,.d (B z))]) [0,1,2,8,9,10,11] [Hh (.cut 0)] ?_ λJ4 db=>?_
  ·rintro il ae;obtain c4|c4:=zF ae
   ·obtain⟨r_,h0,ae⟩:=zt c4.2;cases ae;cases hl1;cases aa;exact yE hE [c4,zg 2,Hm (shM F8_ F8_ ax),Hs (zf1 2 h0 (loC ua ax<|loN)),Hm (shM F8_ F8_ ax)]
   refine yN 11111111100201111 [J1,J2] [0,1,2,8,10,11,12,45,46,49,50,51,52,58] (zI (Um k_ ax cd il) av) (λz=>[(12,.own (eOs 1 false F8_ z))]) [0,1,2,8,9,10,11,12,45,46,49,50,51,52,58] [c4,Hh (.cut 1)] ?_ λJ5 dc=>?_
   ·rintro next ae
    exact yB au (ax,next,cd,cd,decide (cd>65536),il) ae []
   obtain⟨t6,kb,ae⟩:=zt c4.2;refine yMx 11111111100201111210 [J1,J2,J5] [0,1,2,8,9,10,11,12,45,46,49,50,51,52,58,67,68,69] (λx=>[(12,.own (eOs 1 false F8_ x.1)),(69,.d (I x.2))]) kb [(12,.own (eOs 1 true F8_ [])),(69,.d (I 0))] [Ha (lnM F8_ ay)] λ⟨cr,lc⟩ m6 dj ah hl2 J6 ep=>?_;obtain c5|c5:=zF ah
   ·refine yNs 11111111100201111210011 [J1,J2,J5,J6] [0,1,2,8,9,10,11,12,45,46,49,50,51,52,58,67,68,69] (zI (Ul lc) dj) (λz=>[(12,.own (eOs 1 false F8_ z))]) [c5,Hh (.cut 0)] ?_ λJ7 gw=>?_
    ·rintro ff ah;cases ah;exact yB ep _ hl2 []
    obtain⟨a8,h1,t8,ht8,ah⟩:=yj c5.2;refine yM 1111111110020111121001120110 [J1,J2,J5,J6,J7] [0,1,2,8,9,10,11,12,14,45,46,49,50,51,52,58,67,68,69,73,74] (λx=>[(12,.own (eOs 1 false F8_ x.1)),(74,.d (I x.2))]) ht8  [Hn (iL F8_ h1),Hs (iM F8_ h1)] λ⟨cb,ld⟩ m8 nb aw hl3 J8 lq=>?_;obtain c6|c6:=zF aw
    ·obtain⟨ai,h2,aw⟩:=zt c6.2;obtain⟨g0,aw⟩:=gdE aw;obtain⟨g1,aw⟩:=gdE aw;cases aw;exact yB lq _ hl3 [c6,zC1 19 h2,Hq (dM sy [ld]),Hn (dM sy [ld]),Hn (aN sy sy g0 (by simp)),Hl (aM sy ai [ld]),Hm (shM sy sy (ai++[ld])),Hq (dM F8_ [(ai++[ld])]),Hn (dM F8_ [(ai++[ld])]),Hn (aL F8_ F8_ g1),Hl (aM F8_ cb [(ai++[ld])])]
    cases c6.2;cases hl3;exact yB gw cb ah [c6]
   cases c5.2;cases hl2;exact yB dc cr ae [c5]
  let Z1:List HO:=[Ha (lnM F8_ ax)];obtain c7|c7:=zF ae
  ·cases c7.2;cases hl1;cases aa;exact yE hE (Z1++(Hb c7::Hb c7::Hb c7::(rpN 7 qT [Hm (shM F8_ F8_ [])])))
  obtain c8|c8:=zF c7.2
  ·cases c8.2;cases hl1;cases aa;exact yE hE (Z1++(Hb c7::Hb c7::Hb c7::(rpN 6 (Hb c8) [qT,Hm (shM F8_ F8_ [])])))
  let Z2:List HO:=(Z1++(Hb c7::Hb c7::Hb c7::(rpN 4 (Hb c8) [])));obtain c9|c9:=zF c8.2
  ·let Z3:List HO:=(Z2++[c9,c9,Ha (lnM F8_ ay),c9,c9,c9,c8,c9,c8]);obtain c10|c10:=zF c9.2
   ·cases c10.2;cases hl1;cases aa;exact yE hE (Z3++[c10,Hm (shM F8_ F8_ [])])
   exact yB db (decide ((w64 (((ay.length:Nat):Int)*inputs))>4096)) c10.2 (Z3++[c10])
  exact yB db false c9.2 (Z2++(rpN 5 (Hb c9) [c8,c9,c8,qF]))
 obtain c11|c11:=zF ae
 ·obtain⟨g2,ae⟩:=gdE c11.2;exact yB bg ((out++ay),w64 (n_+(w64 (k_*((ay.length:Nat):Int))))) ae [c11,Hq (dM F8_ ay),Hn (dM F8_ ay),Hn (aL F8_ F8_ g2),Hl (aM F8_ out ay),Ha (lnM F8_ ay)]
 exact yB bg (out,n_) c11.2 [c11]
def l68:List yi:=Zb 73 sy sy (eT2 XM sy) Wp::l67
def z4O [H:HS X0 l67]:OkH l68:=yS2 false func73 λinputs k_ r0 aa E hE=>by obtain⟨r_,h0,aa⟩:=zt aa;cases aa;exact yE hE [zC3 0 h0]
def l69:List yi:=XA 90 ua eB WT::l68
def z3F [H:HS X0 l68]:OkH l69:=yS1 true func90 λl_ r0 aa E hE=>by
 refine yK 11 [] [] (λz:Unit=>W5=some r0) (λz=>[]) [0] [Hh (.cut 1)] ?_ λJ1 ar=>?_
 ·rintro⟨⟩ aa;cases aa;exact yE hE []
 refine yMb 11210 [J1] [0,3] (λx=>[(3,.d (I x))]) aa  [] λt2 aa i_ m2 av ae hl1 J2 au=>?_;let Z0:List HO:=[Ha (lnM F8_ l_)];obtain c0|c0:=zF ae
 ·obtain⟨bi,h0,ew,h1,r_,h2,ae⟩:=Zc c0.2;let Z1:List HO:=(Z0++[c0,Hi F8_ h0,Hi F8_ h1,zC2 8 h2]);obtain c1|c1:=zF ae
  ·cases c1.2;cases hl1;cases aa;exact yE hE (Z1++[c1])
  cases c1.2;exact yB au _ hl1 (Z1++[c1])
 cases c0.2;cases hl1;exact yB ar () aa (Z0++[c0])
def l70:List yi:=Zb 54 ua sy sy j8::l69
def z3I [H:HS X0 l69]:OkH l70:=yS2 true func54 λl_ inputs r0 aa E hE=>by
 obtain⟨r_,h0,aa⟩:=zt aa;let Z0:List HO:=[zC2 15 h0];obtain c0|c0:=zF aa
 ·cases c0.2;exact yE hE (Z0++[c0])
 obtain⟨ai,h1,aa⟩:=zt c0.2;let Z1:List HO:=(Z0++[c0,zC1 0 h1]);obtain c1|c1:=zF aa
 ·cases c1.2;exact yE hE (Z1++[c1])
 obtain⟨ak,h2,aa⟩:=zt c1.2;let Z2:List HO:=(Z1++[c1,zC1 6 h2]);obtain c2|c2:=zF aa
 ·cases c2.2;exact yE hE (Z2++[c2])
 cases c2.2;exact yE hE (Z2++[c2])
def l71:List yi:=Zb 103 sy zo3 sy Wn::l70
def z4N [H:HS X0 l70]:OkH l71:=yS2 true func103 λinputs l_ r0 aa E hE=>by
 refine yK 11 [] [] (λz:Unit=>WR=some r0) (λz=>[]) [0,1] [Hh (.cut 1)] ?_ λJ1 ar=>?_
 ·rintro⟨⟩ aa;cases aa;exact yE hE []
 refine yMb 11210 [J1] [0,8,9,10] (λx=>[(10,.d (I x))]) aa  [Ha (lnM ua l_)] λt2 aa gi m2 av ae hl1 J2 au=>?_;obtain c0|c0:=zF ae
 ·obtain⟨bi,h0,r_,h1,ae⟩:=yj c0.2;let Z0:List HO:=[c0,Hi ua h0,zC2 0 h1];obtain c1|c1:=zF ae
  ·cases c1.2;cases hl1;cases aa;exact yE hE (Z0++[c1])
  cases c1.2;exact yB au _ hl1 (Z0++[c1])
 cases c0.2;cases hl1;exact yB ar () aa [c0]
def l72:List yi:=XA 166 F8_ JX Jw::l71
def z6n [H:HS X0 l71]:OkH l72:=yS1 true func166 λw_ r0 aa E hE=>by
 obtain⟨g0,aa⟩:=gdE aa;refine yK 111 [] [3] (zI KT r0) (λz=>[(3,.own (eOs 1 true (eI .u8) z))]) [0,3] [Ha (lnM sy w_),Hn (rL g0),Ha (rM 1 (eI .u8) ((w_.length:Nat):Int) (0:Int)),Hh (.cut 0)] ?_ λJ1 ar=>?_
 ·rintro b_ aa;cases aa;exact yE (H:=zx ((zo8 prog zgz).or X0)) hE [Hx (.a (JX (u8s b_))) (stM b_)]
 refine yMb 111210 [J1] [3,9,10,11] (λx=>[(3,.own (eOs 1 true (eI .u8) x.1)),(11,.d (I x.2))]) aa  [Ha (lnM sy w_)] λt2 aa ⟨kw,ig⟩ m2 av ae hl1 J2 au=>?_;obtain c0|c0:=zF ae
 ·obtain⟨fc,h0,dx,h1,ae⟩:=yj c0.2;cases ae;exact yB au _ hl1 [c0,Hi sy h0,Hn (iL (eI .u8) h1),Hs (iM (eI .u8) h1),Hs (iM (eI .u8) h1),Hl (sM (eI .u8) kw ig (IntKind.u8.wrap (fc)))]
 cases c0.2;cases hl1;exact yB ar kw aa [c0]
def l73:List yi:=z18 147 ua ua sy (eT2 XM sy) ZW::l72
def z2n [H:HS X0 l72]:OkH l73:=yS3 false func147 λa_ b_ inputs r0 aa E hE=>by
 obtain⟨r_,h0,aa⟩:=zt aa;let Z0:List HO:=[zg 1,Hm (shM ua ua ([a_,b_])),Hs (zf2 1 h0 (loC sy inputs<|loC (eSl 1 true ua) [a_,b_]<|loN))];obtain c0|c0:=zF aa
 ·cases c0.2;exact yE hE (Z0++[c0,Hm (shM F8_ F8_ [])])
 refine yK (H:=zx ((zi6 prog 26).or X0)) 111111 [] [11] (zI jU r0) (λz=>[(11,.own (eOs 1 false F8_ z))]) [0,1,9,10,11] (Z0++[c0,Hh (.cut 3)]) ?_ λJ1 ar=>?_
 ·rintro out aa;obtain⟨ai,h1,aa⟩:=zt aa;cases aa;exact yE hE [zg 8,Hm (shM F8_ F8_ out),Hs (zf1 8 h1 (loC ua out<|loN)),Hm (shM F8_ F8_ out)]
 obtain⟨t2,ht2,aa⟩:=zt c0.2;refine yMx 111111210 [J1] [1,9,10,11,27,28,29] (λx=>[(9,.own (.opq (Qu (Y9 JX eB x.1)))),(10,.d (I x.2.1)),(11,.own (eOs 1 false F8_ x.2.2.1)),(29,.d (I x.2.2.2))]) ht2 [(9,.own (.opq (Qu (Y9 JX eB ([]:List ((List UInt8)×Bool)))))),(10,.d (I 0)),(11,.own (eOs 1 true F8_ [])),(29,.d (I 0))] [Ha (lnM F8_ a_)] λ⟨kh,n_,aj,fg⟩ m2 av ae hl1 J2 au=>?_;obtain c1|c1:=zF ae
 ·refine yNs 111111210011 [J1,J2] [1,9,10,11,27,28,29] (λz:(List ((List UInt8)×Bool))×Int×TA=>jT fg z.1 z.2.1 z.2.2=some av) (λz=>[(9,.own (.opq (Qu (Y9 JX eB z.1)))),(10,.d (I z.2.1)),(11,.own (eOs 1 false F8_ z.2.2))]) [c1,Hh (.cut 0)] ?_ λJ3 bg=>?_
  ·rintro⟨gn,ca,ax⟩ ae;cases ae;exact yB au _ hl1 []
  obtain⟨dv,h2,t4,ht4,ae⟩:=yj c1.2;refine yM 11111121001120110 [J1,J2,J3] [1,9,10,11,13,27,28,29,33,34,35] (λx=>[(9,.own (.opq (Qu (Y9 JX eB x.1)))),(10,.d (I x.2.1)),(11,.own (eOs 1 false F8_ x.2.2.1)),(35,.d (I x.2.2.2))]) ht4  [Hi F8_ h2,Ha (lnM F8_ b_)] λ⟨eu,cd,bo,ib⟩ m4 dj ah hl2 J4 db=>?_;obtain c2|c2:=zF ah
  ·obtain⟨dx,h3,ak,h4,ah⟩:=yj c2.2;obtain⟨g0,ah⟩:=gdE ah;let Z1:List HO:=[c2,Hi F8_ h3,zC1 25 h4,Hn (apM sy g0),Hl (aM sy ak dx),Ha (lnM sy (ak++dx))];obtain c3|c3:=zF ah
   ·cases c3.2;cases hl2;cases ae;cases hl1;cases aa;exact yE (H:=zx ((xAp zr 42).or X0)) hE (Z1++[c3,Hm (shM F8_ F8_ [])])
   refine yN (H:=zx ((xAp zr 42).or X0)) 1111112100112011001100111 [J1,J2,J3,J4] [1,9,10,11,13,27,28,29,33,34,35] (λz:(List ((List UInt8)×Bool))×Int×TA=>uH ib z.1 z.2.1 z.2.2=some dj) (λz=>[(9,.own (.opq (Qu (Y9 JX eB z.1)))),(10,.d (I z.2.1)),(11,.own (eOs 1 false F8_ z.2.2))]) [1,9,10,11,13,16,27,28,29,33,34,35] (Z1++[c3,Hh (.cut 0)]) ?_ λJ5 dc=>?_
   ·rintro⟨oc,lf,gx⟩ ah;let Z2:List HO:=[Ha (lnM F8_ gx)];obtain c4|c4:=zF ah
    ·cases c4.2;cases hl2;cases ae;cases hl1;cases aa;exact yE hE (Z2++[c4,c4,c4,qT,Hm (shM F8_ F8_ [])])
    obtain c5|c5:=zF c4.2
    ·cases c5.2;cases hl2;cases ae;cases hl1;cases aa;exact yE hE (Z2++[c4,c4,c4,c5,Hm (shM F8_ F8_ [])])
    cases c5.2;exact yB db _ hl2 (Z2++[c4,c4,c4,c5])
   obtain⟨am,h5,val,h6,ah⟩:=yj c3.2;replace h6:=yH h6;let Z3:List HO:=[zC1 0 h5,Hn (⟨rfl,rfl,z69 (λ_=>rfl) eu⟩:A.opq (Qu (Y9 JX eB eu))=A.opq (Qu (Y9 JX eB eu))/\z4f (JX am)=true/\∀p∈Y9 JX eB eu,z4f p.1=true),Hx (.a (eB val)) ((znB (f:=JX) (g:=eB) (z0:=false) (z:=.atom (.bool false)) rfl am eu).trans (congrArg eB h6))];obtain c6|c6:=zF ah
   ·obtain⟨g1,ah⟩:=gdE c6.2;exact yB (H:=zx ((zmC zah 52 (Y9 JX eB eu) (Y9 JX eB (z1F eu am true))).or ((z97 zah 50 (Y9 JX eB eu)).or X0))) dc ((z1F eu am true),w64 (cd+(((ak++dx).length:Nat):Int)),(bo++[(ak++dx)])) ah (Z3++[c6,Hn (⟨rfl,rfl,rfl,rfl,z69 (λ_=>rfl) eu⟩:T.own (.opq (Qu (Y9 JX eB eu)))=T.own (.opq (Qu (Y9 JX eB eu)))/\0=0/\z4f (JX am)=true/\(eB true).isD=true/\∀p∈Y9 JX eB eu,z4f p.1=true),Hn (z9U (f:=JX) (g:=eB) am true eu),Hq (dM F8_ [(ak++dx)]),Hn (dM F8_ [(ak++dx)]),Hn (aL F8_ F8_ g1),Hl (aM F8_ bo [(ak++dx)]),Ha (lnM sy (ak++dx))])
   exact yB (H:=zx ((z97 zah 50 (Y9 JX eB eu)).or X0)) dc (eu,cd,bo) c6.2 (Z3++[c6])
  cases c2.2;cases hl2;exact yB bg (eu,cd,bo) ae [c2]
 cases c1.2;cases hl1;exact yB ar aj aa [c1]
def l74:List yi:=Zb 116 yG sy (eT2 XM sy) Z7::l73
def Kp [H:HS X0 l73]:OkH l74:=yS2 false func116 λm_ k_ r0 aa E hE=>by
 obtain⟨r_,h0,aa⟩:=zt aa;let Z0:List HO:=[zC1 7 h0];obtain c0|c0:=zF aa
 ·cases c0.2;exact yE hE (Z0++[c0,Hm (shM F8_ F8_ [])])
 obtain c1|c1:=zF c0.2
 ·cases c1.2;exact yE hE (Z0++[c0,c1,Hm (shM F8_ F8_ [])])
 obtain⟨ai,h1,aa⟩:=zt c1.2;let Z1:List HO:=(Z0++[c0,c1,zC2 5 h1]);obtain c2|c2:=zF aa
 ·cases c2.2;exact yE hE (Z1++[c2,Hm (shM F8_ F8_ [])])
 obtain⟨ak,h2,aa⟩:=zt c2.2;cases aa;exact yE hE (Z1++[c2,Hk [] (z0q (hat 0)) (zf3 0 h2 (loC XM r_.1<|loC XM ai.1<|loC sy m_.Inputs<|loN))])
def l75:List yi:=XA 71 yG (eT2 XM sy) wV::l74
def Qo [H:HS X0 l74]:OkH l75:=yS1 false func71 λm_ r0 aa E hE=>by obtain⟨r_,h0,aa⟩:=zt aa;cases aa;exact yE hE [zC2 0 h0]
def l76:List yi:=XA 148 sy (Kj 167 (eSp sy)) Y8::l75
def z2F [H:HS X0 l75]:OkH l76:=yS1 true func148 λn_ r0 aa E hE=>by cases aa;exact yE hE []
abbrev QA (x0:Int)(YY:σ->z0F)(x6:Int)(js:σ):List (Nat×T):=[(0,.own (.opq (YY js).q)),(1,.d (.sptr (I x0))),(5,.d (I x0)),(6,.d (I x6))]
abbrev Qy (x0:Int)(YY:σ->z0F)(x6:Int)(gg:σ)(b_:Int):List (Nat×T):=[(0,.own (.opq (YY gg).q)),(1,.d (.sptr (I x0))),(3,.d (I x6)),(4,.d (I b_)),(5,.d (I x0)),(6,.d (I x6))]
abbrev Qz (x0:Int)(YY:σ->z0F)(dw:σ)(x6:Int):List (Nat×T):=[(0,.own (.opq (YY dw).q)),(1,.d (.sptr (I x0))),(5,.d (I x0)),(6,.d (I x6))]
def Vx [H:HS X0 l76](x0:Int):z6h prog (.fn 167 [.sptr (I x0)]) (λ(x:Int×Int) (_:Bool) (_:Value)=>[sy x.1,sy x.2]) (@v8 x0):=by
 refine z1O (tt:=vF) (nt:=f167.ntmps) (body:=zbd f167) zr func167 rfl (by kernel_rfl) rfl rfl (by show(2:Nat)<=22;decide) ?_;intro σ yv YY yy hy sg r0 aa E hE;obtain⟨t1,ht1,aa⟩:=zt aa;refine yL 110 [] (λs=>ZA x0 yy s.1 s.2) (λx=>Qz x0 YY x.1 x.2) (sg,0) ht1  [] λ⟨dw,x6⟩ m1 av ae hl1 J1 ar=>?_;obtain c0|c0:=zF ae
 ·refine yKs 110011 [J1] [0,1,5,6] (zI (ZB x6) av) (λz=>QA x0 YY x6 z) [c0,Hh (.cut 0)] ?_ λJ2 au=>?_
  ·rintro js ae;cases ae;exact yB ar _ hl1 []
  obtain⟨t3,ht3,ae⟩:=zt c0.2;refine yL 11001120110 [J1,J2] (λs=>qD x0 yy x6 s.1 s.2) (λx=>Qy x0 YY x6 x.1 x.2) (dw,w64 (x6+1)) ht3  [] λ⟨gg,b_⟩ m3 dj ah hl2 J3 bg=>?_;obtain c1|c1:=zF ah
  ·obtain⟨yr,h0,ah⟩:=zt c1.2;let Z0:List HO:=[c1,Hn (z12 (yv:=yv) (Y:=YY) (enc:=(λ(x:Int×Int) (_:Bool) (_:Value)=>[sy x.1,sy x.2])) (s:=gg) (x:=(x6,b_)) (s':=yr.1) (b:=yr.2) (v:=.nilFunc) [sy x6,sy b_] (show Ji [sy x6,sy b_] [sy x6,sy b_] from inferInstance))];obtain c2|c2:=zF ah
   ·cases c2.2;cases hl2;cases ae;cases hl1;cases aa;exact yF (H:=zx ((Uh (P:=prog) vF hy 19 (s:=gg) (x:=(x6,b_)) (s':=yr.1) (b:=yr.2) .nilFunc h0).or X0)) .ret [(0,.own (.opq (YY yr.1).q))] (Z0++[c2]) λst0 h0=>hE _ st0 (.inr rfl) h0
   cases c2.2;exact yB (H:=zx ((Uh (P:=prog) vF hy 19 (s:=gg) (x:=(x6,b_)) (s':=yr.1) (b:=yr.2) .nilFunc h0).or X0)) bg _ hl2 (Z0++[c2])
  cases c1.2;cases hl2;exact yB au gg ae [c1]
 cases c0.2;cases hl1;cases aa;exact yF .normal [(0,.own (.opq (YY dw).q))] [c0] λst0 h0=>hE _ st0 (.inl rfl) h0
def l77:List yi:=Zb 118 sy sy eB UK::l76
def z2G [H:HS X0 l76]:OkH l77:=yS2 true func118 λa_ b_ r0 aa E hE=>by cases aa;exact yE hE []
def l78:List yi:=Zb 187 sy z3x eB ZJ::l77
def z0f [H:HS X0 l77]:OkH l78:=yS2 true func187 λs_ x1 r0 aa E hE=>by
 obtain c0|c0:=zF aa
 ·cases c0.2;exact yE hE (rpN 6 (Hb c0) [])
 cases c0.2;exact yE hE (rpN 4 (Hb c0) [Ha (lnM yO x1.Rows),c0,c0])
def vp:yi:=spF (α:=TB×z6) (ρ:=Int) 156 (λx=>[F8_ x.1,(Kj 187 z3x) x.2]) (λr=>sy r) (λx=>xg x.1 x.2) [] (by rintro⟨a0,a1⟩ ⟨b0,b1⟩ h;have e0:=qh.inj (f:=F8_) _ _ (List.cons.inj h).1;replace h:=(List.cons.inj h).2;have e1:=qh.inj (f:=(Kj 187 z3x)) _ _ (List.cons.inj h).1;subst e0 e1;rfl)
def ZT [H:HS X0 l78]:vp.Ok prog:=by
 refine Ut ?_;rintro⟨s_,f_⟩ r0 aa;refine zY true func156 λE hE=>?_;refine yK 11 [] [] (λz:Unit=>vq=some r0) (λz=>[]) [0,1] [Hh (.cut 1)] ?_ λJ1 ar=>?_
 ·rintro⟨⟩ aa;cases aa;exact yE hE []
 refine yMb 11210 [J1] [0,1,7,8] (λx=>[(8,.d (I x))]) aa  [Ha (lnM sy s_)] λt2 aa x8 m2 av ae hl1 J2 au=>?_;obtain c0|c0:=zF ae
 ·obtain⟨eb,h0,r_,h1,ae⟩:=yj c0.2;let Z0:List HO:=[c0,Hi sy h0,zC2 0 h1];obtain c1|c1:=zF ae
  ·cases c1.2;cases hl1;cases aa;exact yE hE (Z0++[c1])
  cases c1.2;exact yB au _ hl1 (Z0++[c1])
 cases c0.2;cases hl1;exact yB ar () aa [c0]
def wH:yi:=spF (α:=TB×z6) (ρ:=Bool) 126 (λx=>[F8_ x.1,(Kj 187 z3x) x.2]) (λr=>eB r) (λx=>xI x.1 x.2) [] (by rintro⟨a0,a1⟩ ⟨b0,b1⟩ h;have e0:=qh.inj (f:=F8_) _ _ (List.cons.inj h).1;replace h:=(List.cons.inj h).2;have e1:=qh.inj (f:=(Kj 187 z3x)) _ _ (List.cons.inj h).1;subst e0 e1;rfl)
def wL [H:HS X0 l78]:wH.Ok prog:=by refine Ut ?_;rintro⟨s_,f_⟩ r0 aa;refine zY true func126 λE hE=>?_;obtain⟨r_,h0,aa⟩:=zt aa;cases aa;exact yE (H:=zx ((z3y zr (ZT (H:=zd 0)) 7).or X0)) hE [Hc (Ctr.add_has KG vp) (x:=(s_,f_)) h0 (loC F8_ s_<|loC (Kj 187 z3x) f_<|loN)]
def l79:List yi:=Zb 168 yG F8_ sy XQ::l78
def z2s [H:HS X0 l78]:OkH l79:=yS2 true func168 λm_ l_ r0 aa E hE=>by
 obtain⟨r_,h0,aa⟩:=zt aa;let Z0:List HO:=[zC1 53 h0];obtain c0|c0:=zF aa
 ·cases c0.2;exact yE hE (Z0++[c0])
 obtain⟨ai,h1,aa⟩:=zt c0.2;let Z1:List HO:=(Z0++[c0,Hc (Ctr.add_has KG wH) (x:=(l_,m_)) h1 (loC F8_ l_<|loC (Kj 187 z3x) m_<|loN)]);obtain c1|c1:=zF aa
 ·cases c1.2;exact yE (H:=zx ((z3y zr (wL (H:=zd 0)) 13).or X0)) hE (Z1++[c1])
 cases c1.2;exact yE (H:=zx ((z3y zr (wL (H:=zd 0)) 13).or X0)) hE (Z1++[c1])
def l80:List yi:=XA 188 yG (Kj 199 z3x) Us::l79
def z2t [H:HS X0 l79]:OkH l80:=yS1 true func188 λm_ r0 aa E hE=>by cases aa;exact yE hE []
abbrev Qx (x0:z6)(YY:σ->z0F)(x8:Int)(js:σ):List (Nat×T):=[(0,.own (.opq (YY js).q)),(1,.d (.sptr (yG x0))),(7,.d (I ((x0.Rows.length:Nat):Int))),(8,.d (I x8))]
abbrev Qv (x0:z6)(YY:σ->z0F)(x8:Int)(gg:σ)(t_:Int):List (Nat×T):=[(0,.own (.opq (YY gg).q)),(1,.d (.sptr (yG x0))),(3,.d (I x8)),(4,.d (I t_)),(7,.d (I ((x0.Rows.length:Nat):Int))),(8,.d (I x8))]
abbrev Qw (x0:z6)(YY:σ->z0F)(dw:σ)(x8:Int):List (Nat×T):=[(0,.own (.opq (YY dw).q)),(1,.d (.sptr (yG x0))),(7,.d (I ((x0.Rows.length:Nat):Int))),(8,.d (I x8))]
def z0g [H:HS X0 l80](x0:z6):z6h prog (.fn 199 [.sptr (.agg [I x0.Inputs,I x0.Outputs,eSl 1 false yO x0.Rows])]) (λ(x:Int×Int) (_:Bool) (_:Value)=>[sy x.1,sy x.2]) (@uj x0):=by
 refine z1O (tt:=vF) (nt:=f199.ntmps) (body:=zbd f199) zr func199 rfl (by kernel_rfl) rfl rfl (by show(2:Nat)<=26;decide) ?_;intro σ yv YY yy hy sg r0 aa E hE;obtain⟨t1,ht1,aa⟩:=zt aa;refine yL 110 [] (λs=>Zr x0 yy s.1 s.2) (λx=>Qw x0 YY x.1 x.2) (sg,0) ht1  [Ha (lnM yO x0.Rows)] λ⟨dw,x8⟩ m1 av ae hl1 J1 ar=>?_;obtain c0|c0:=zF ae
 ·refine yKs 110011 [J1] [0,1,7,8] (zI (Zs x8) av) (λz=>Qx x0 YY x8 z) [c0,Hh (.cut 0)] ?_ λJ2 au=>?_
  ·rintro js ae;cases ae;exact yB ar _ hl1 []
  obtain⟨t3,ht3,ae⟩:=zt c0.2;refine yL 11001120110 [J1,J2] (λs=>qo x0 yy x8 s.1 s.2) (λx=>Qv x0 YY x8 x.1 x.2) (dw,w64 (x8+1)) ht3  [] λ⟨gg,t_⟩ m3 dj ah hl2 J3 bg=>?_;let Z0:List HO:=[Ha (lnM yO x0.Rows)];obtain c1|c1:=zF ah
  ·obtain⟨yr,h0,ah⟩:=zt c1.2;let Z1:List HO:=(Z0++[c1,Hn (z12 (yv:=yv) (Y:=YY) (enc:=(λ(x:Int×Int) (_:Bool) (_:Value)=>[sy x.1,sy x.2])) (s:=gg) (x:=(x8,t_)) (s':=yr.1) (b:=yr.2) (v:=.nilFunc) [sy x8,sy t_] (show Ji [sy x8,sy t_] [sy x8,sy t_] from inferInstance))]);obtain c2|c2:=zF ah
   ·cases c2.2;cases hl2;cases ae;cases hl1;cases aa;exact yF (H:=zx ((Uh (P:=prog) vF hy 23 (s:=gg) (x:=(x8,t_)) (s':=yr.1) (b:=yr.2) .nilFunc h0).or X0)) .ret [(0,.own (.opq (YY yr.1).q))] (Z1++[c2]) λst0 h0=>hE _ st0 (.inr rfl) h0
   cases c2.2;exact yB (H:=zx ((Uh (P:=prog) vF hy 23 (s:=gg) (x:=(x8,t_)) (s':=yr.1) (b:=yr.2) .nilFunc h0).or X0)) bg _ hl2 (Z1++[c2])
  cases c1.2;cases hl2;exact yB au gg ae (Z0++[c1])
 cases c0.2;cases hl1;cases aa;exact yF .normal [(0,.own (.opq (YY dw).q))] [c0] λst0 h0=>hE _ st0 (.inl rfl) h0
def xC:yi:=spR (α:=TB×Int) (ρ:=TB) 202 (λx:TB×Int=>[F4_ x.1,sy x.2]) (λr:TB=>F7_ r) (λx:TB×Int=>xu x.1 x.2) [] (zoK)
def XF:∀x r,(λx:TB×Int=>xu x.1 x.2) x=some r->(KG.add xC).run 202 ((KG.add xC).norm 202 ((λx:TB×Int=>[F4_ x.1,sy x.2]) x))=some ((λr:TB=>F7_ r) r):=λx r h=>zm7 (F:=λx:TB×Int=>xu x.1 x.2) (x:=x) h rfl
def XI:(KG.add xC).gives 202=[]:=zh8
def W3 [H:HS X0 l80]:xC.Ok prog:=by
 refine z9p ?_;rintro⟨l,n⟩ r0 aa;cases l with
 |cons a l=>cases aa
 |nil=>
  have h1:0<n/\n<=1000000:=by
   have h2:(decide (0<n)&&decide (n<=1000000))=true:=by
    cases h:(decide (0<n)&&decide (n<=1000000)) with
    |true=>rfl
    |false=>have h3:(bif (true&&(decide (0<n)&&decide (n<=1000000))) then some [] else none)=some r0:=aa;rw[h]at h3;cases h3
   simpa using h2
  have h3:(bif (true&&(decide (0<n)&&decide (n<=1000000))) then some ([]:TB) else none)=some r0:=aa;rw[decide_eq_true h1.1,decide_eq_true h1.2]at h3;cases h3;exact zaJ n h1.1 h1.2
def l81:List yi:=XA 200 ua F7_ wO::l80
def WP [H:HS X0 l80]:OkH l81:=yS1 true func200 λslices r0 aa E hE=>by
 refine yNs 111 [] [0,3] (zI (vw slices) r0) (λz=>[(3,.d (I z))]) [Hh (.cut 2)] ?_ λJ1 ar=>?_
 ·rintro size aa;obtain⟨r_,h0,aa⟩:=zt aa;refine yK (H:=zx ((z3y zr (W3 (H:=zd 0)) 24).or X0)) 11111 [] [6] (zI vu r0) (λz=>[(6,.own (eOs 1 false sy z))]) [0,6] [Hh (.g []),Hn XI,Hx (.a (F7_ r_)) (XF ([],size) _ h0),Hh (.cut 0)] ?_ λJ2 au=>?_
  ·rintro mr aa;cases aa;exact yE hE []
  refine yMb 11111210 [J2] [6,25,26,27] (λx=>[(6,.own (eOs 1 false sy x.1)),(27,.d (I x.2))]) aa  [Ha (lnM F8_ slices)] λt3 aa ⟨iu,pc⟩ m3 av ae hl1 J3 bg=>?_;obtain c0|c0:=zF ae
  ·obtain⟨lu,h1,ae⟩:=zt c0.2;obtain⟨g0,ae⟩:=gdE ae;cases ae;exact yB bg _ hl1 [c0,Hi F8_ h1,Hn (dM sy lu),Hn (aL sy sy g0),Hl (aM sy iu lu)]
  cases c0.2;cases hl1;exact yB au iu aa [c0]
 refine yMb 111210 [J1] [0,3,9,10,11] (λx=>[(3,.d (I x.1)),(11,.d (I x.2))]) aa  [Ha (lnM F8_ slices)] λt4 aa ⟨l8,ig⟩ m4 av ae hl1 J4 db=>?_;obtain c1|c1:=zF ae
 ·obtain⟨ly,h2,ae⟩:=zt c1.2;let Z0:List HO:=[c1,Hi F8_ h2,Ha (lnM sy ly)];obtain c2|c2:=zF ae
  ·cases c2.2
  cases c2.2;exact yB db _ hl1 (Z0++[c2])
 cases c1.2;cases hl1;exact yB ar l8 aa [c1]
abbrev Vw (n_:Int)(f_:ArN 64 (ArN 64 TB))(out:TB):List (Nat×T):=[(0,.own (.box (xo 64 (xo 64 (eNl 1 sy)) f_))),(4,.d (I n_)),(11,.own (eOs 1 false sy out))]
abbrev Vv (m_:z6)(t_:Int)(n_:Int)(f_:ArN 64 (ArN 64 TB))(ap:List z7)(i7:Int):List (Nat×T):=[(0,.own (.box (xo 64 (xo 64 (eNl 1 sy)) f_))),(3,.d (I t_)),(4,.d (I n_)),(6,.own (.box (yG m_))),(11,.own (eOs 1 true sy [])),(19,.d (eSl 2 false wk ap)),(20,.d (I ((ap.length:Nat):Int))),(21,.d (I i7))]
abbrev Vu (m_:z6)(t_:Int)(n_:Int)(f_:ArN 64 (ArN 64 TB))(ap:List z7)(i7:Int):List (Nat×T):=[(0,.own (.box (xo 64 (xo 64 (eNl 1 sy)) f_))),(3,.d (I t_)),(4,.d (I n_)),(6,.own (.box (yG m_))),(11,.own (eOs 1 true sy [])),(19,.d (eSl 2 false wk ap)),(20,.d (I ((ap.length:Nat):Int))),(21,.d (I i7))]
def YU [H:HS X0 l81](bz:Value):∀(m_:z6) (s_:Int) (t_:Int) (n_:Int) (f_:ArN 64 (ArN 64 TB)) (r0:TB×ArN 64 (ArN 64 TB)),vo m_ s_ t_ n_ f_=some r0->qd prog (.fn 189 []) [.atom bz,.agg [I m_.Inputs,I m_.Outputs,eSl 1 false yO m_.Rows],I s_,I t_,I n_] ([bz].zip [.box (xo 64 (xo 64 (eNl 1 sy)) f_)]) (eNl 1 sy r0.1) [.box (xo 64 (xo 64 (eNl 1 sy)) r0.2)]:=by
 intro m_ s_ t_ n_ f_ r0 aa;refine zau (tt:=vF) (nt:=f189.ntmps) (body:=zbd f189) [0] zr func189 rfl (by kernel_rfl) rfl rfl (by show(5:Nat)<=85;decide) (by decide) rfl rfl rfl rfl (λE hG hE=>?_) rfl;unfold vo at aa;refine yA (H:=zx ((xRe prog 10 (.atom (.slice none 0 0)) (eNl 1 sy ([]:TB)) (zeV 1)).or ((W0 zr (.inl 76) [66]).or X0))) 11 [] [(0,.own (.box (xo 64 (xo 64 (eNl 1 sy)) f_))),(2,.d (I s_)),(3,.d (I t_)),(4,.d (I n_)),(6,.own (.box (yG m_)))] [Hn (rfl:T.d (.atom (.slice none 0 0))=T.d (.atom (.slice none 0 0)))] ?_;refine zeo (c':=(sub [1,0] (zbd f189))) (by kernel_rfl) hG ?_;refine yJ (H:=zx ((W0 zr (.inl 76) [66]).or X0)) 11011 [] [0,4,11] (λz:TB=>vg n_ f_ z=some r0) (λz=>Vw n_ f_ z) [(0,.own (.box (xo 64 (xo 64 (eNl 1 sy)) f_))),(2,.d (I s_)),(3,.d (I t_)),(4,.d (I n_)),(6,.own (.box (yG m_))),(11,.own (eOs 1 true sy []))] [Hh (.cut 2)] ?_ λJ1 ar=>?_
 ·rintro out aa;unfold vg at aa;obtain c0|c0:=zF aa
  ·obtain rfl:=yH c0.2;exact yF (H:=zx ((xRe prog 10 (.atom (.slice none 0 0)) (eNl 1 sy ([]:TB)) (zeV 1)).or ((W0 zr (.inl 76) [66]).or X0))) .ret [(0,.own (.box (xo 64 (xo 64 (eNl 1 sy)) f_))),(10,.d (eNl 1 sy ([]:TB)))] [Ha (lnM sy out),c0,Hn (rfl:T.d (.atom (.slice none 0 0))=T.d (.atom (.slice none 0 0)))] λst0 h0=>hE _ st0 (.inr rfl) (Xo h0 ⟨⟨rfl,rfl⟩,trivial⟩) (znE h0 rfl rfl)
  obtain⟨r_,h0,aa⟩:=zt c0.2;obtain⟨g0,aa⟩:=gdE aa;obtain rfl:=yH aa;exact yF (H:=zx ((xRe prog 10 (eSl 1 true sy r_) (eNl 1 sy r_) (λS v q=>(LeA.slNl 1 true sy g0).repV q)).or ((W0 zr (.inl 76) [66]).or X0))) .ret [(0,.own (.box (xo 64 (xo 64 (eNl 1 sy)) f_))),(10,.d (eNl 1 sy r_))] [Ha (lnM sy out),c0,zg 34,Hm (shM sy sy out),Hs (zf1 34 h0 (loC F8_ out<|loN)),Hm (shM sy sy out),Hn (rfl:T.d (eSl 1 true sy r_)=T.d (eSl 1 true sy r_))] λst0 h0=>hE _ st0 (.inr rfl) (Xo h0 ⟨⟨rfl,rfl⟩,trivial⟩) (znE h0 rfl rfl)
 obtain⟨ap,h1,t2,ht2,aa⟩:=yj aa;refine yL (H:=zx ((W0 zr (.inl 76) [66]).or X0)) 11011210 [J1] (λs=>xY m_ t_ n_ f_ ap s) (λx=>Vu m_ t_ n_ f_ ap x) 0 ht2  [Hi yO h1,Ha (lnM wk ap)] λi7 m2 av ae hl1 J2 au=>?_;try unfold xY at ae;obtain c1|c1:=zF ae
 ·refine yJ (H:=zx ((W0 zr (.inl 76) [66]).or X0)) 11011210011 [J1,J2] [0,3,4,6,11,19,20,21] (λz:Unit=>xy i7=some av) (λz=>Vv m_ t_ n_ f_ ap i7) [(0,.own (.box (xo 64 (xo 64 (eNl 1 sy)) f_))),(3,.d (I t_)),(4,.d (I n_)),(6,.own (.box (yG m_))),(11,.own (eOs 1 true sy [])),(19,.d (eSl 2 false wk ap)),(20,.d (I ((ap.length:Nat):Int))),(21,.d (I i7))] [c1,Hh (.cut 0)] ?_ λJ3 bg=>?_
  ·rintro⟨⟩ ae;unfold xy at ae;obtain rfl:=yH ae;exact yB (H:=zx ((W0 zr (.inl 76) [66]).or X0)) au _ hl1 []
  obtain⟨al,h2,du,h3,bp,h4,ae⟩:=Zc c1.2;let Z0:List HO:=[Hi wk h2,Hi yO h3,Hi wk h4];obtain c2|c2:=zF ae
  ·obtain rfl:=yH c2.2;obtain rfl:=hl1;exact yBx (H:=zx ((W0 zr (.inl 76) [66]).or X0)) ar [i7] aa [(0,.own (.box (xo 64 (xo 64 (eNl 1 sy)) f_))),(4,.d (I n_)),(11,.own (eOs 1 true sy ([i7])))] inferInstance (Z0++[c2])
  obtain c3|c3:=zF c2.2
  ·let Z1:List HO:=(Z0++(Hb c2::(rpN 4 (Hb c3) [])));obtain c4|c4:=zF c3.2
   ·obtain⟨cell,h5,co,h6,ae⟩:=yj c4.2;let Z2:List HO:=(Z1++(rpN 7 (Hb c4) (Hn (⟨UP (by kernel_rfl) f_ (i0 h5),(iL (xo 64 (eNl 1 sy)) h5).2⟩:jP vF 246 ((f_.l).map (xo 64 (eNl 1 sy))) al.To=true/\al.To.toNat<((f_.l).map (xo 64 (eNl 1 sy))).length)::Hb c4::Hh (.f)::Hs (iM (xo 64 (eNl 1 sy)) h5)::Hn (⟨UP (by kernel_rfl) cell (i0 h6),(iL (eNl 1 sy) h6).2⟩:jP vF 221 ((cell.l).map (eNl 1 sy)) bp.To=true/\bp.To.toNat<((cell.l).map (eNl 1 sy)).length)::Hb c4::Hh (.f)::Hs (iM (xo 64 (eNl 1 sy)) h5)::Hh (.f)::Hs (iM (eNl 1 sy) h6)::Hn (rfl:T.d (eNl 1 sy co)=T.d (eNl 1 sy co))::Hb c4::Ha (lnM sy co)::(rpN 4 (Hb c4) []))));obtain c5|c5:=zF ae
    ·obtain⟨iv,h7,d9,h8,ai,h9,ae⟩:=Zc c5.2;obtain rfl:=yH ae;obtain rfl:=hl1;exact yB (H:=zx ((xLs zr 75 (eNl 1 sy d9) (eSl 1 false sy d9) inferInstance).or ((xBl zr 66).or ((xLs zr 59 (eNl 1 sy co) (eSl 1 false sy co) inferInstance).or ((W0 zr (.inl 76) [66]).or X0))))) ar ai aa (Z2++[c5,Hn (⟨UP (by kernel_rfl) f_ (i0 h7),(iL (xo 64 (eNl 1 sy)) h7).2⟩:jP vF 246 ((f_.l).map (xo 64 (eNl 1 sy))) al.To=true/\al.To.toNat<((f_.l).map (xo 64 (eNl 1 sy))).length),Hh (.op 9),Hh (.f),Hs (iM (xo 64 (eNl 1 sy)) h7),Hn (⟨UP (by kernel_rfl) iv (i0 h8),(iL (eNl 1 sy) h8).2⟩:jP vF 221 ((iv.l).map (eNl 1 sy)) bp.To=true/\bp.To.toNat<((iv.l).map (eNl 1 sy)).length),Hh (.op 0),Hh (.f),Hs (iM (xo 64 (eNl 1 sy)) h7),Hh (.f),Hs (iM (eNl 1 sy) h8),Hn (rfl:T.d (eNl 1 sy d9)=T.d (eNl 1 sy d9)),Hm (shM sy sy ([i7])),zg 0,Hm (shM F8_ F8_ ([[i7],d9])),Hs (zf1 0 h9 (loC z6j [[i7],d9]<|loN)),Hm (shM F8_ F8_ ([[i7],d9]))])
    exact yB (H:=zx ((xLs zr 59 (eNl 1 sy co) (eSl 1 false sy co) inferInstance).or ((W0 zr (.inl 76) [66]).or X0))) bg () c5.2 (Z2++[c5])
   exact yB (H:=zx ((W0 zr (.inl 76) [66]).or X0)) bg () c4.2 (Z1++(rpN 14 (Hb c4) [qF]))
  exact yB (H:=zx ((W0 zr (.inl 76) [66]).or X0)) bg () c3.2 (Z0++(Hb c2::(rpN 4 (Hb c3) (rpN 15 qF []))))
 obtain rfl:=yH c1.2;obtain rfl:=hl1;exact yBx (H:=zx ((W0 zr (.inl 76) [66]).or X0)) ar ([]:TB) aa [(0,.own (.box (xo 64 (xo 64 (eNl 1 sy)) f_))),(4,.d (I n_)),(11,.own (eOs 1 true sy []))] inferInstance [c1]
def Jo [H:HS X0 l81](bz:Value):∀(s_:Int) (t_:Int) (w_:TB) (f_:ArN 64 (ArN 64 TB)) (r0:ArN 64 (ArN 64 TB)),uc s_ t_ w_ f_=some r0->qd prog (.fn 190 []) [.atom bz,I s_,I t_,eNl 1 sy w_] ([bz].zip [.box (xo 64 (xo 64 (eNl 1 sy)) f_)]) (.tup []) [.box (xo 64 (xo 64 (eNl 1 sy)) r0)]:=by intro s_ t_ w_ f_ r0 aa;refine z4n (tt:=vF) (nt:=f190.ntmps) (body:=zbd f190) [0] zr func190 rfl (by kernel_rfl) rfl rfl (by show(4:Nat)<=22;decide) (by decide) rfl rfl (λE hE=>?_) rfl;unfold uc at aa;refine zhy 0 (v:=bz) ⟨_,rfl⟩ (by kernel_rfl) λb0 hb0=>?_;subst hb0;obtain⟨cell,h0,co,h1,arr,h2,aa⟩:=Zc aa;replace h2:=yH h2;obtain⟨arr1,h3,aa⟩:=zt aa;replace h3:=yH h3;obtain⟨iv,h4,d9,h5,arr2,h6,aa⟩:=Zc aa;replace h6:=yH h6;obtain⟨pt,h7,aa⟩:=zt aa;replace h7:=yH h7;obtain rfl:=yH aa;exact yF (H:=zx ((xIr zr 21 0 t_.toNat b0).or ((xRi zr 20 64 64 b0).or ((xNr prog 19 b0).or ((xMv prog 11 0 (z1t b0) rfl).or X0))))) .normal [(0,.own (.box (xo 64 (xo 64 (eNl 1 sy)) pt)))] [Hn (rfl:some (z1t b0)=some (z1t b0)),Hn (⟨UP (by kernel_rfl) f_ (i0 h0),(iL (xo 64 (eNl 1 sy)) h0).2⟩:jP vF 246 ((f_.l).map (xo 64 (eNl 1 sy))) s_=true/\s_.toNat<((f_.l).map (xo 64 (eNl 1 sy))).length),Hh (.op 10),Hh (.f),Hs (iM (xo 64 (eNl 1 sy)) h0),Hn (⟨UP (by kernel_rfl) cell (i0 h1),(iL (eNl 1 sy) h1).2⟩:jP vF 221 ((cell.l).map (eNl 1 sy)) t_=true/\t_.toNat<((cell.l).map (eNl 1 sy)).length),Hh (.op 0),Hh (.f),Hs (iM (xo 64 (eNl 1 sy)) h0),Hh (.f),Hs (iM (eNl 1 sy) h1),Hh (.f),Hs (iM (xo 64 (eNl 1 sy)) h0),Hh (.f),Hs (iM (eNl 1 sy) h1),Hx (.l ((arr.l).map (eNl 1 sy))) ((ArN.setL (eNl 1 sy) cell t_ w_).trans (congrArg (λq=>(ArN.l q).map (eNl 1 sy)) h2)),Hx (.l ((arr1.l).map (xo 64 (eNl 1 sy)))) ((ArN.setL (xo 64 (eNl 1 sy)) f_ s_ arr).trans (congrArg (λq=>(ArN.l q).map (xo 64 (eNl 1 sy))) h3)),Hn (rfl:T.d (.atom (z1t b0))=T.d (.atom (z1t b0))),Hn (⟨rfl,i0 h4,zfu (x:=arr1) h4⟩:T.d (.atom (z1t b0))=T.d (.atom (z1t b0))/\0<=t_/\t_.toNat<64),Hn (⟨⟨congrArg (λk=>T.d (.atom (.pointer (some ⟨b0,k,none⟩)))) (zhz (f:=(xo 64 (eNl 1 sy))) arr1 h4).symm,(iL (xo 64 (eNl 1 sy)) h4).2⟩,rfl⟩:(T.d (.atom (.pointer (some ⟨b0,t_.toNat*64,none⟩)))=T.d (.atom (.pointer (some ⟨b0,A.sizes (((arr1.l).map (xo 64 (eNl 1 sy))).take t_.toNat),none⟩)))/\t_.toNat<((arr1.l).map (xo 64 (eNl 1 sy))).length)/\some (z1t b0)=some (z1t b0)),Hh (.op 2),Hh (.f),Hs (iM (xo 64 (eNl 1 sy)) h4),Hn (⟨UP (by kernel_rfl) iv (i0 h5),(iL (eNl 1 sy) h5).2⟩:jP vF 221 ((iv.l).map (eNl 1 sy)) s_=true/\s_.toNat<((iv.l).map (eNl 1 sy)).length),Hh (.op 0),Hh (.f),Hs (iM (xo 64 (eNl 1 sy)) h4),Hh (.f),Hs (iM (eNl 1 sy) h5),Hh (.f),Hs (iM (xo 64 (eNl 1 sy)) h4),Hh (.f),Hs (iM (eNl 1 sy) h5),Hx (.l ((arr2.l).map (eNl 1 sy))) ((ArN.setL (eNl 1 sy) iv s_ w_).trans (congrArg (λq=>(ArN.l q).map (eNl 1 sy)) h6)),Hx (.l ((pt.l).map (xo 64 (eNl 1 sy)))) ((ArN.setL (xo 64 (eNl 1 sy)) arr1 t_ arr2).trans (congrArg (λq=>(ArN.l q).map (xo 64 (eNl 1 sy))) h7))] λst0 h0=>hE _ st0 (.inl rfl) (Xo h0 ⟨⟨rfl,rfl⟩,trivial⟩)
def l82:List yi:=XA 169 yG (eBx (xo 64 (xo 64 (eNl 1 sy)))) ub::l81
abbrev U0 (f_:ArN 64 (ArN 64 TB)):List (Nat×T):=[(3,.own (.box (.box (xo 64 (xo 64 (eNl 1 sy)) f_))))]
abbrev VZ (m_:z6)(n_:Int)(ni:ArN 64 (ArN 64 TB)):List (Nat×T):=[(1,.own (.box (yG m_))),(3,.own (.box (.box (xo 64 (xo 64 (eNl 1 sy)) ni)))),(4,.own (.box (I n_)))]
abbrev VW (m_:z6)(n_:Int)(now:List zX)(od:ArN 64 (ArN 64 TB))(pd:Int):List (Nat×T):=[(1,.own (.box (yG m_))),(3,.own (.box (.box (xo 64 (xo 64 (eNl 1 sy)) od)))),(4,.own (.box (I n_))),(48,.d (eSl 4 false (zO sy sy (eNl 1 sy) eB) now)),(49,.d (I ((now.length:Nat):Int))),(50,.d (I pd))]
abbrev VY (m_:z6)(n_:Int)(p9:ArN 64 (ArN 64 TB))(now:List zX):List (Nat×T):=[(1,.own (.box (yG m_))),(3,.own (.box (.box (xo 64 (xo 64 (eNl 1 sy)) p9)))),(4,.own (.box (I n_))),(5,.own (.box (eOs 4 false (zO sy sy (eNl 1 sy) eB) now)))]
abbrev wF (m_:z6)(n_:Int)(ai:z6)(j9:ArN 64 (ArN 64 TB))(jk:List zX):List (Nat×T):=[(1,.own (.box (yG m_))),(3,.own (.box (.box (xo 64 (xo 64 (eNl 1 sy)) j9)))),(4,.own (.box (I n_))),(5,.own (.box (eOs 4 false (zO sy sy (eNl 1 sy) eB) jk))),(22,.d (.fn 199 [.sptr (.agg [I ai.Inputs,I ai.Outputs,eSl 1 false yO ai.Rows])]))]
abbrev VX (m_:z6)(ky:ArN 64 (ArN 64 TB))(n_:Int):List (Nat×T):=[(1,.own (.box (yG m_))),(3,.own (.box (.box (xo 64 (xo 64 (eNl 1 sy)) ky)))),(4,.own (.box (I n_)))]
def Jn [H:HS X0 l81]:OkH l82:=by
 refine zO1 λm_ r0 aa=>?_;try unfold ub at aa;refine z4w (tt:=vF) (rs:=[(true,2,none)]) (n:=⟨f169.ntmps,[]⟩) (body:=zbd f169) zr func169 rfl (by kernel_rfl) rfl rfl (by show(1:Nat)<=65;decide) λE hE=>?_
 refine yJ 111 [] [3] (λz:ArN 64 (ArN 64 TB)=>vT z=some r0) (λz=>U0 z) [(1,.own (.box (yG m_))),(3,.own (.box (.box (xo 64 (xo 64 (eNl 1 sy)) (ArN.rep 64 (ArN.rep 64 ([]:TB)))))))] [Hh (.cut 2)] ?_ λJ1 ar=>?_
 ·rintro f_ aa;unfold vT at aa;obtain rfl:=yH aa;let ZE:List HO:=[];exact z29 X0 zr H.ok z1B hE 4000 (hs:=hoH ZE) (x:=(.box (xo 64 (xo 64 (eNl 1 sy)) f_))) (hoB ZE) (by kernel_rfl) (LeV.refl _)
 obtain⟨t2,ht2,aa⟩:=zt aa;refine yL 111210 [J1] (λs=>vQ m_ s.1 s.2) (λx=>VX m_ x.1 x.2) ((ArN.rep 64 (ArN.rep 64 ([]:TB))),1) ht2  [] λ⟨ky,n_⟩ m2 av ae hl1 J2 au=>?_;try unfold vQ at ae
 let Z0:List HO:=[Ha (lnM yO m_.Rows)];obtain c0|c0:=zF ae
 ·refine yJ 11121001 [J1,J2] [1,3,4] (λz:ArN 64 (ArN 64 TB)=>vS n_ z=some av) (λz=>VZ m_ n_ z) [(1,.own (.box (yG m_))),(3,.own (.box (.box (xo 64 (xo 64 (eNl 1 sy)) ky)))),(4,.own (.box (I n_)))] (Z0++[c0,Hh (.cut 0)]) ?_ λJ3 bg=>?_
  ·rintro ni ae;unfold vS at ae;obtain rfl:=yH ae;exact yB au _ hl1 []
  refine yJ 11121001201 [J1,J2,J3] [1,3,4,5] (λz:ArN 64 (ArN 64 TB)×List zX=>vR n_ z.1 z.2=some av) (λz=>VY m_ n_ z.1 z.2) [(1,.own (.box (yG m_))),(3,.own (.box (.box (xo 64 (xo 64 (eNl 1 sy)) ky)))),(4,.own (.box (I n_))),(5,.own (.box (eOs 4 true (zO sy sy F8_ eB) [])))] [Hh (.cut 1)] ?_ λJ4 db=>?_
  ·rintro⟨p9,now⟩ ae;unfold vR at ae;obtain⟨t5,ht5,ae⟩:=zt ae;refine yL 11121001201110 [J1,J2,J3] (λs=>wv now s.1 s.2) (λx=>VW m_ n_ now x.1 x.2) (p9,0) ht5  [Hh (.v 0 [5]),Hm (shM (zO sy sy (eNl 1 sy) eB) (zO sy sy (eNl 1 sy) eB) now),Hh (.v 1 [5]),Ha (lnM (zO sy sy (eNl 1 sy) eB) now)] λ⟨od,pd⟩ m5 dj ah hl2 J5 dc=>?_;try unfold wv at ah;obtain c1|c1:=zF ah
   ·obtain⟨ic,h0,r_,h1,ah⟩:=yj c1.2;obtain rfl:=yH ah;exact yB (H:=zx ((z98 (P:=prog) vF 3 0 (fa:=.fn 190 []) (z:=.box (xo 64 (xo 64 (eNl 1 sy)) od)) (z':=.box (xo 64 (xo 64 (eNl 1 sy)) r_)) (r:=.tup []) (xl:=[]) (xr:=[sy ic.S,sy ic.T,(eNl 1 sy) ic.Word]) rfl rfl (λv=>Jo (H:=zd 0) v _ _ _ _ _ h1) 61).or X0)) dc _ hl2 [c1,Hi (zO sy sy (eNl 1 sy) eB) h0,Hn (⟨rfl,leP (show Ji [] [] from inferInstance),leP (show Ji [sy ic.S,sy ic.T,(eNl 1 sy) ic.Word] [sy ic.S,sy ic.T,(eNl 1 sy) ic.Word] from inferInstance),rfl,rfl⟩:([.fn 190 []]:List A)=[.fn 190 []]/\LeP [] []/\LeP [sy ic.S,sy ic.T,(eNl 1 sy) ic.Word] [sy ic.S,sy ic.T,(eNl 1 sy) ic.Word]/\T.als 3 [.deref] 0 0=T.als 3 [.deref] 0 0/\T.own (.box (.box (xo 64 (xo 64 (eNl 1 sy)) od)))=T.own (.box (.box (xo 64 (xo 64 (eNl 1 sy)) od))))]
   obtain rfl:=yH c1.2;obtain rfl:=hl2;exact yB bg od ae [c1]
  obtain⟨ai,h2,t6,kb,ae⟩:=yj c0.2;refine yAt (sub [1,1,2,1,0,0,1,2,0,1,2,1,0] (zbd f169)) (frs [1,1,2,1,0,0,1,2,0,1,2,1,0] [J1,J2,J3,J4] (zbd f169) []) [(1,.own (.box (yG m_))),(3,.own (.box (.box (xo 64 (xo 64 (eNl 1 sy)) ky)))),(4,.own (.box (I n_))),(5,.own (.box (eOs 4 true (zO sy sy (eNl 1 sy) eB) []))),(22,.d (.fn 199 [.sptr (.agg [I ai.Inputs,I ai.Outputs,eSl 1 false yO ai.Rows])]))] [zC1 1 h2] λst0 h0=>?_;refine KJ (g:=.tmp 22) (ps:=[23,24]) (assign:=(sub [1,1,2,1,0,0,1,2,0,1,2,1,0,0] (zbd f169))) (body:=(sub [1,1,2,1,0,0,1,2,0,1,2,1,0,1] (zbd f169))) (K:=199) (caps:=[.sptr (.agg [I ai.Inputs,I ai.Outputs,eSl 1 false yO ai.Rows])]) (by kernel_rfl) [1,3,4,5,22] (λs=>wF m_ n_ ai s.1 s.2) (λz=>nomatch z) (λz=>nomatch z) ((λ(x:Int×Int) (_:Bool) (_:Value)=>[sy x.1,sy x.2])) (F:=@uj ai) (λs x=>yZ m_ n_ s.1 s.2 x.1 x.2) (ky,([]:List zX)) t6 _ h0 inferInstance (by kernel_rfl) (by decide) (λ_=>rfl) (by rintro⟨⟩) (by kernel_rfl) (λ_ _ _=>rfl) (z0g (H:=zd 1) ai) kb ?_ ?_
  ·rintro sr ⟨j9,jk⟩ ⟨kx,ga⟩ vr dj ah;replace ah:yZ m_ n_ j9 jk kx ga=some dj:=ah;unfold yZ at ah;refine yF .normal [(1,.own (.box (yG m_))),(3,.own (.box (.box (xo 64 (xo 64 (eNl 1 sy)) j9)))),(4,.own (.box (I n_))),(5,.own (.box (eOs 4 false (zO sy sy (eNl 1 sy) eB) jk))),(6,.d (I kx)),(7,.d (I ga)),(22,.d (.fn 199 [.sptr (.agg [I ai.Inputs,I ai.Outputs,eSl 1 false yO ai.Rows])]))] [] λst0 h0=>⟨rfl,z4A h0 ?_⟩;obtain⟨cell,h3,co,h4,ah⟩:=yj ah;let Z1:List HO:=[Hn (⟨UP (by kernel_rfl) j9 (i0 h3),(iL (xo 64 (eNl 1 sy)) h3).2⟩:jP vF 246 ((j9.l).map (xo 64 (eNl 1 sy))) kx=true/\kx.toNat<((j9.l).map (xo 64 (eNl 1 sy))).length),Hh (.op 5),Hh (.f),Hs (iM (xo 64 (eNl 1 sy)) h3),Hn (⟨UP (by kernel_rfl) cell (i0 h4),(iL (eNl 1 sy) h4).2⟩:jP vF 221 ((cell.l).map (eNl 1 sy)) ga=true/\ga.toNat<((cell.l).map (eNl 1 sy)).length),Hh (.op 0),Hh (.f),Hs (iM (xo 64 (eNl 1 sy)) h3),Hh (.f),Hs (iM (eNl 1 sy) h4),Hn (⟨rfl,rfl⟩:T.d (eNl 1 sy co)=T.d (eNl 1 sy co)/\T.d (.atom (.slice none 0 0))=T.d (.atom (.slice none 0 0)))];obtain c2|c2:=zF ah
   ·obtain rfl:=yH c2.2;exact yF (H:=zx ((zi5 zr 32 51 1 (co.map sy) true (!co.isEmpty) (by kernel_rfl) (nlB true sy co)).or X0)) .normal (wF m_ n_ ai j9 jk) (Z1++[c2]) λst0 h0=>⟨rfl,_,h0,LeL.refl _⟩
   obtain⟨ak,h5,ah⟩:=zt c2.2;let Z2:List HO:=(Z1++[c2,Hn (⟨rfl,leP (show Ji [] [] from inferInstance),leP (show Ji [yG m_,sy kx,sy ga,sy n_] [yG m_,sy kx,sy ga,sy n_] from inferInstance),rfl,rfl⟩:([.fn 189 []]:List A)=[.fn 189 []]/\LeP [] []/\LeP [yG m_,sy kx,sy ga,sy n_] [yG m_,sy kx,sy ga,sy n_]/\T.als 3 [.deref] 0 0=T.als 3 [.deref] 0 0/\T.own (.box (.box (xo 64 (xo 64 (eNl 1 sy)) j9)))=T.own (.box (.box (xo 64 (xo 64 (eNl 1 sy)) j9)))),Hn (⟨rfl,rfl⟩:T.d (eNl 1 sy ak.1)=T.d (eNl 1 sy ak.1)/\T.d (.atom (.slice none 0 0))=T.d (.atom (.slice none 0 0)))]);obtain c3|c3:=zF ah
   ·obtain⟨g0,ah⟩:=gdE c3.2;obtain rfl:=yH ah;exact yF (H:=zx ((zi5 zr 40 51 1 (ak.1.map sy) true (!ak.1.isEmpty) (by kernel_rfl) (nlB true sy ak.1)).or ((z98 (P:=prog) vF 3 0 (fa:=.fn 189 []) (z:=.box (xo 64 (xo 64 (eNl 1 sy)) j9)) (z':=.box (xo 64 (xo 64 (eNl 1 sy)) ak.2)) (r:=eNl 1 sy ak.1) (xl:=[]) (xr:=[yG m_,sy kx,sy ga,sy n_]) rfl rfl (λv=>YU (H:=zd 0) v _ _ _ _ _ _ h5) 38).or ((zi5 zr 32 51 1 (co.map sy) true (!co.isEmpty) (by kernel_rfl) (nlB true sy co)).or X0)))) .normal (wF m_ n_ ai ak.2 (jk++[(zX.mk kx ga ak.1 false)])) (Z2++[c3,Hq (dM (zO sy sy (eNl 1 sy) eB) [(zX.mk kx ga ak.1 false)]),Hn (dM (zO sy sy (eNl 1 sy) eB) [(zX.mk kx ga ak.1 false)]),Hn (aL (zO sy sy (eNl 1 sy) eB) (zO sy sy (eNl 1 sy) eB) g0),Hl (aM (zO sy sy (eNl 1 sy) eB) jk [(zX.mk kx ga ak.1 false)])]) λst0 h0=>⟨rfl,_,h0,LeL.refl _⟩
   obtain rfl:=yH c3.2;exact yF (H:=zx ((zi5 zr 40 51 1 (ak.1.map sy) true (!ak.1.isEmpty) (by kernel_rfl) (nlB true sy ak.1)).or ((z98 (P:=prog) vF 3 0 (fa:=.fn 189 []) (z:=.box (xo 64 (xo 64 (eNl 1 sy)) j9)) (z':=.box (xo 64 (xo 64 (eNl 1 sy)) ak.2)) (r:=eNl 1 sy ak.1) (xl:=[]) (xr:=[yG m_,sy kx,sy ga,sy n_]) rfl rfl (λv=>YU (H:=zd 0) v _ _ _ _ _ _ h5) 38).or ((zi5 zr 32 51 1 (co.map sy) true (!co.isEmpty) (by kernel_rfl) (nlB true sy co)).or X0)))) .normal (wF m_ n_ ai ak.2 jk) (Z2++[c3]) λst0 h0=>⟨rfl,_,h0,LeL.refl _⟩
  rcases t6 with⟨j9,jk⟩|z
  ·dsimp only at ae;exact Xz (by kernel_rfl) (db _ [(1,.own (.box (yG m_))),(3,.own (.box (.box (xo 64 (xo 64 (eNl 1 sy)) j9)))),(4,.own (.box (I n_))),(5,.own (.box (eOs 4 false (zO sy sy (eNl 1 sy) eB) jk)))] (j9,jk) ae (show Own.canon [1,3,4,5] _=ofL _ by kernel_rfl) inferInstance)
  cases z
 obtain rfl:=yH c0.2;obtain rfl:=hl1;exact yB ar ky aa (Z0++[c0])
def l83:List yi:=z18 149 yG sy sy (eT3 F4_ eB sy) uL::l82
def Kk [H:HS X0 l82]:OkH l83:=yS3 false func149 λm_ s_ t_ r0 aa E hE=>by
 obtain⟨r_,h0,aa⟩:=zt aa;let Z0:List HO:=[zg 3,Hm (shM sy sy ([s_,t_])),Hs (zf2 3 h0 (loC yG m_<|loC F4_ [s_,t_]<|loN))];obtain c0|c0:=zF aa
 ·cases c0.2;exact yE hE (Z0++[c0,Hm (shM sy sy [])])
 obtain⟨ai,h1,cell,h2,co,h3,ak,h4,am,h5,aa⟩:=zkx c0.2;cases aa;exact yE (H:=zx ((xLs zr 26 (eNl 1 sy co) (eSl 1 false sy co) inferInstance).or X0)) hE (Z0++[c0,zC1 0 h1,Hn (⟨UP (by kernel_rfl) ai (i0 h2),(iL (xo 64 (eNl 1 sy)) h2).2⟩:jP vF 246 ((ai.l).map (xo 64 (eNl 1 sy))) s_=true/\s_.toNat<((ai.l).map (xo 64 (eNl 1 sy))).length),Hh (.op 4),Hh (.f),Hs (iM (xo 64 (eNl 1 sy)) h2),Hn (⟨UP (by kernel_rfl) cell (i0 h3),(iL (eNl 1 sy) h3).2⟩:jP vF 221 ((cell.l).map (eNl 1 sy)) t_=true/\t_.toNat<((cell.l).map (eNl 1 sy)).length),Hh (.op 0),Hh (.f),Hs (iM (xo 64 (eNl 1 sy)) h2),Hh (.f),Hs (iM (eNl 1 sy) h3),Hn (rfl:T.d (eNl 1 sy co)=T.d (eNl 1 sy co)),zC1 36 h4,zg 35,Hm (shM sy sy ak),Hs (zf1 35 h5 (loC F8_ ak<|loN)),Hm (shM sy sy ak),Ha (lnM sy am)])
def l84:List yi:=Zb 117 yG (zhU 118) (eT2 XM sy) XX::l83
abbrev Ke (m_:z6)(x5:Int)(out:TA):List (Nat×T):=[(2,.own (.box (yG m_))),(4,.own (.box (eOs 1 true F8_ []))),(5,.own (.box (I x5))),(6,.own (.box (eOs 1 false F4_ out)))]
abbrev wW (m_:z6)(ai:Int)(ge:Int)(aj:TA):List (Nat×T):=[(2,.own (.box (yG m_))),(3,.own (.box (.fn 118 []))),(4,.own (.box (eOs 1 true F8_ []))),(5,.own (.box (I ge))),(6,.own (.box (eOs 1 false F4_ aj))),(15,.d (.fn 167 [.sptr (I ai)]))]
def z2E [H:HS X0 l83]:OkH l84:=yS2 false func117 λm_ is r0 aa E hE=>by
 refine yJ 111 [] [2,4,5,6] (λz:Int×TA=>kV m_ z.1 z.2=some r0) (λz=>Ke m_ z.1 z.2) [(2,.own (.box (yG m_))),(3,.own (.box (.fn 118 []))),(4,.own (.box (eOs 1 true F8_ []))),(5,.own (.box (I 0))),(6,.own (.box (eOs 1 true F8_ [])))] [Hh (.cut 2)] ?_ λJ1 ar=>?_
 ·rintro⟨x5,out⟩ aa;unfold kV at aa;obtain⟨r_,h0,aa⟩:=zt aa;obtain rfl:=yH aa;exact yE hE [zg 18,Hm (shM F4_ F4_ out),Hs (zf2 18 h0 (loC zo5 out<|loC sy m_.Inputs<|loN)),Hm (shM F4_ F4_ out)]
 obtain⟨ai,h1,t2,ht2,aa⟩:=yj aa;refine yAt (sub [1,1,2,1,0] (zbd f117)) (frs [1,1,2,1,0] [J1] (zbd f117) []) [(2,.own (.box (yG m_))),(3,.own (.box (.fn 118 []))),(4,.own (.box (eOs 1 true F8_ []))),(5,.own (.box (I 0))),(6,.own (.box (eOs 1 true F4_ []))),(15,.d (.fn 167 [.sptr (I ai)]))] [Ha (lnM yO m_.Rows),zC1 7 h1] λst0 h0=>?_;refine KJ (g:=.tmp 15) (ps:=[16,17]) (assign:=(sub [1,1,2,1,0,0] (zbd f117))) (body:=(sub [1,1,2,1,0,1] (zbd f117))) (K:=167) (caps:=[.sptr (I ai)]) (by kernel_rfl) [2,3,4,5,6,15] (λs=>wW m_ ai s.1 s.2) (λs=>wW m_ ai s.1 s.2) (λs=>Code.ret) ((λ(x:Int×Int) (_:Bool) (_:Value)=>[sy x.1,sy x.2])) (F:=@v8 ai) (λs x=>vC m_ s.1 s.2 x.1 x.2) (0,([]:TA)) t2 _ h0 inferInstance (by kernel_rfl) (by decide) (λ_=>rfl) (λ_=>rfl) (by kernel_rfl) (λ_ _ _=>rfl) (Vx (H:=zd 7) ai) ht2 ?_ ?_
 ·rintro qg ⟨ge,aj⟩ ⟨ft,ba⟩ vr av ae;replace ae:vC m_ ge aj ft ba=some av:=ae;unfold vC at ae;refine yF .normal [(2,.own (.box (yG m_))),(3,.own (.box (.fn 118 []))),(4,.own (.box (eOs 1 true F8_ []))),(5,.own (.box (I ge))),(6,.own (.box (eOs 1 false F4_ aj))),(7,.d (I ft)),(8,.d (I ba)),(15,.d (.fn 167 [.sptr (I ai)]))] [] λst0 h0=>⟨rfl,z4A h0 ?_⟩;obtain⟨ak,h2,ae⟩:=zt ae;let Z0:List HO:=[zC2 6 h2];obtain c0|c0:=zF ae
  ·obtain rfl:=yH c0.2;exact yF .normal (wW m_ ai ge aj) (Z0++[c0]) λst0 h0=>⟨rfl,_,h0,LeL.refl _⟩
  obtain⟨am,h3,ae⟩:=zt c0.2;let Z1:List HO:=(Z0++[c0,zC3 0 h3]);obtain c1|c1:=zF ae
  ·obtain rfl:=yH c1.2;exact yF .ret (wW m_ ai am.2.2 aj) (Z1++[c1]) λst0 h0=>⟨rfl,_,h0,LeL.refl _⟩
  obtain⟨g0,ae⟩:=gdE c1.2;obtain rfl:=yH ae;exact yF .normal (wW m_ ai ge (aj++[am.1])) (Z1++[c1,Hq (dM F4_ [am.1]),Hn (dM F4_ [am.1]),Hn (aL F4_ F4_ g0),Hl (aM F4_ aj [am.1])]) λst0 h0=>⟨rfl,_,h0,LeL.refl _⟩
 rcases t2 with⟨ge,aj⟩|z
 ·dsimp only at aa;exact Xz (by kernel_rfl) (ar _ [(2,.own (.box (yG m_))),(4,.own (.box (eOs 1 true F8_ []))),(5,.own (.box (I ge))),(6,.own (.box (eOs 1 false F4_ aj)))] (ge,aj) aa (show Own.canon [2,4,5,6] _=ofL _ by kernel_rfl) inferInstance)
 obtain⟨ge,aj⟩:=z;dsimp only at aa;show AWP _ _ (Code.ret) _ _;obtain rfl:=yH aa;exact yE hE [Hm (shM F8_ F8_ [])]
def l85:List yi:=XA 72 yG (eT2 XM sy) Qd::l84
def z4Z [H:HS X0 l84]:OkH l85:=yS1 false func72 λm_ r0 aa E hE=>by
 obtain⟨r_,h0,aa⟩:=zt aa;let Z0:List HO:=[zC1 41 h0];obtain c0|c0:=zF aa
 ·cases c0.2;exact yE hE (Z0++[c0,Hm (shM F8_ F8_ [])])
 obtain⟨ai,h1,aa⟩:=zt c0.2;cases aa;exact yE hE (Z0++[c0,zC2 0 h1])
def l86:List yi:=Zb 74 sy sy (eT2 XM sy) WU::l85
def z3H [H:HS X0 l85]:OkH l86:=yS2 false func74 λinputs k_ r0 aa E hE=>by obtain⟨r_,h0,aa⟩:=zt aa;cases aa;exact yE hE [zC3 18 h0]
def l87:List yi:=XA 75 ua ua X4::l86
def z3J [H:HS X0 l86]:OkH l87:=yS1 false func75 λl_ r0 aa E hE=>by
 let Z0:List HO:=[Ha (lnM F8_ l_)];obtain c0|c0:=zF aa
 ·cases c0.2;exact yEl hE (Z0++[c0,Hm (shM F5_ F4_ ([[]]))])
 cases c0.2;exact yE hE (Z0++[Hb c0])
def l88:List yi:=z18 120 sy sy (eSp sy) eB Vl::l87
def z3P [H:HS X0 l87]:OkH l88:=yS3 true func120 λa_ b_ x2 r0 aa E hE=>by
 obtain c0|c0:=zF aa
 ·cases c0.2;exact yE hE (rpN 4 (Hb c0) [])
 cases c0.2;exact yE hE (rpN 4 (Hb c0) [])
def X5:yi:=spF (α:=z6×Int) (ρ:=TA×Int) 117 (λx=>[yG x.1,(Kj 120 (eSp sy)) x.2]) (λr=>.tup [XM r.1,sy r.2]) (λx=>ui x.1 x.2) [] (by rintro⟨a0,a1⟩ ⟨b0,b1⟩ h;have e0:=qh.inj (f:=yG) _ _ (List.cons.inj h).1;replace h:=(List.cons.inj h).2;have e1:=qh.inj (f:=(Kj 120 (eSp sy))) _ _ (List.cons.inj h).1;subst e0 e1;rfl)
abbrev Ue (m_:z6)(x5:Int)(out:TA):List (Nat×T):=[(2,.own (.box (yG m_))),(4,.own (.box (eOs 1 true F8_ []))),(5,.own (.box (I x5))),(6,.own (.box (eOs 1 false F4_ out)))]
abbrev xG (m_:z6)(is:Int)(ai:Int)(ge:Int)(aj:TA):List (Nat×T):=[(2,.own (.box (yG m_))),(3,.own (.box (.fn 120 [.sptr (I is)]))),(4,.own (.box (eOs 1 true F8_ []))),(5,.own (.box (I ge))),(6,.own (.box (eOs 1 false F4_ aj))),(15,.d (.fn 167 [.sptr (I ai)]))]
def Jv [H:HS X0 l88]:X5.Ok prog:=by
 refine Ut ?_;rintro⟨m_,is⟩ r0 aa;try unfold ui at aa;refine zY false func117 λE hE=>?_;refine yJ 111 [] [2,4,5,6] (λz:Int×TA=>u7 m_ z.1 z.2=some r0) (λz=>Ue m_ z.1 z.2) [(2,.own (.box (yG m_))),(3,.own (.box (.fn 120 [.sptr (I is)]))),(4,.own (.box (eOs 1 true F8_ []))),(5,.own (.box (I 0))),(6,.own (.box (eOs 1 true F8_ [])))] [Hh (.cut 2)] ?_ λJ1 ar=>?_
 ·rintro⟨x5,out⟩ aa;unfold u7 at aa;obtain⟨r_,h0,aa⟩:=zt aa;obtain rfl:=yH aa;exact yE hE [zg 23,Hm (shM F4_ F4_ out),Hs (zf2 23 h0 (loC zo5 out<|loC sy m_.Inputs<|loN)),Hm (shM F4_ F4_ out)]
 obtain⟨ai,h1,t2,ht2,aa⟩:=yj aa;refine yAt (sub [1,1,2,1,0] (zbd f117)) (frs [1,1,2,1,0] [J1] (zbd f117) []) [(2,.own (.box (yG m_))),(3,.own (.box (.fn 120 [.sptr (I is)]))),(4,.own (.box (eOs 1 true F8_ []))),(5,.own (.box (I 0))),(6,.own (.box (eOs 1 true F4_ []))),(15,.d (.fn 167 [.sptr (I ai)]))] [Ha (lnM yO m_.Rows),zC1 12 h1] λst0 h0=>?_;refine KJ (g:=.tmp 15) (ps:=[16,17]) (assign:=(sub [1,1,2,1,0,0] (zbd f117))) (body:=(sub [1,1,2,1,0,1] (zbd f117))) (K:=167) (caps:=[.sptr (I ai)]) (by kernel_rfl) [2,3,4,5,6,15] (λs=>xG m_ is ai s.1 s.2) (λs=>xG m_ is ai s.1 s.2) (λs=>Code.ret) ((λ(x:Int×Int) (_:Bool) (_:Value)=>[sy x.1,sy x.2])) (F:=@v8 ai) (λs x=>yu m_ is s.1 s.2 x.1 x.2) (0,([]:TA)) t2 _ h0 inferInstance (by kernel_rfl) (by decide) (λ_=>rfl) (λ_=>rfl) (by kernel_rfl) (λ_ _ _=>rfl) (Vx (H:=zd 12) ai) ht2 ?_ ?_
 ·rintro qg ⟨ge,aj⟩ ⟨ft,ba⟩ vr av ae;replace ae:yu m_ is ge aj ft ba=some av:=ae;unfold yu at ae;refine yF .normal [(2,.own (.box (yG m_))),(3,.own (.box (.fn 120 [.sptr (I is)]))),(4,.own (.box (eOs 1 true F8_ []))),(5,.own (.box (I ge))),(6,.own (.box (eOs 1 false F4_ aj))),(7,.d (I ft)),(8,.d (I ba)),(15,.d (.fn 167 [.sptr (I ai)]))] [] λst0 h0=>⟨rfl,z4A h0 ?_⟩;obtain⟨ak,h2,ae⟩:=zt ae;let Z0:List HO:=[zC3 0 h2];obtain c0|c0:=zF ae
  ·obtain rfl:=yH c0.2;exact yF .normal (xG m_ is ai ge aj) (Z0++[c0]) λst0 h0=>⟨rfl,_,h0,LeL.refl _⟩
  obtain⟨am,h3,ae⟩:=zt c0.2;let Z1:List HO:=(Z0++[c0,zC3 5 h3]);obtain c1|c1:=zF ae
  ·obtain rfl:=yH c1.2;exact yF .ret (xG m_ is ai am.2.2 aj) (Z1++[c1]) λst0 h0=>⟨rfl,_,h0,LeL.refl _⟩
  obtain⟨g0,ae⟩:=gdE c1.2;obtain rfl:=yH ae;exact yF .normal (xG m_ is ai ge (aj++[am.1])) (Z1++[c1,Hq (dM F4_ [am.1]),Hn (dM F4_ [am.1]),Hn (aL F4_ F4_ g0),Hl (aM F4_ aj [am.1])]) λst0 h0=>⟨rfl,_,h0,LeL.refl _⟩
 rcases t2 with⟨ge,aj⟩|z
 ·dsimp only at aa;exact Xz (by kernel_rfl) (ar _ [(2,.own (.box (yG m_))),(4,.own (.box (eOs 1 true F8_ []))),(5,.own (.box (I ge))),(6,.own (.box (eOs 1 false F4_ aj)))] (ge,aj) aa (show Own.canon [2,4,5,6] _=ofL _ by kernel_rfl) inferInstance)
 obtain⟨ge,aj⟩:=z;dsimp only at aa;show AWP _ _ (Code.ret) _ _;obtain rfl:=yH aa;exact yE hE [Hm (shM F8_ F8_ [])]
def l89:List yi:=Zb 76 yG sy (eT2 XM sy) JU::l88
def z6r [H:HS X0 l88]:OkH l89:=yS2 false func76 λm_ s_ r0 aa E hE=>by
 obtain⟨r_,h0,aa⟩:=zt aa;let Z0:List HO:=[zC1 45 h0];obtain c0|c0:=zF aa
 ·cases c0.2;exact yE hE (Z0++[c0,Hm (shM F8_ F8_ [])])
 obtain c1|c1:=zF c0.2
 ·cases c1.2;exact yE hE (Z0++(Hb c0::(rpN 6 (Hb c1) [qT,Hm (shM F8_ F8_ [])])))
 let Z1:List HO:=(Z0++(Hb c0::(rpN 4 (Hb c1) [Ha (lnM yO m_.Rows),c1,c1])));obtain c2|c2:=zF c1.2
 ·cases c2.2;exact yE hE (Z1++[c2,Hm (shM F8_ F8_ [])])
 obtain⟨ai,h1,aa⟩:=zt c2.2;cases aa;exact yE (H:=zx ((z3y zr (Jv (H:=zd 0)) 23).or X0)) hE (Z1++[c2,Hc (Ctr.add_has KG X5) (x:=(m_,s_)) h1 (loC yG m_<|loC (Kj 120 (eSp sy)) s_<|loN)])
def l90:List yi:=Zb 36 yG sy (eT2 (ePo QL) sy) qL::l89
def z0e [H:HS X0 l89]:OkH l90:=yS2 false func36 λm_ bound r0 aa E hE=>by
 refine yC 111 [] [1,2,6] [Hh (.cut 2)] ?_;refine z4z (y:=.box (.agg [.agg [I m_.Inputs,I m_.Outputs,eSl 1 false yO m_.Rows],eOs 1 true F8_ [],eOs 1 true F8_ [],eOs 1 true F8_ [],eOs 1 true ua [],eOs 1 true F8_ [],eOs 1 true F8_ []])) (by kernel_rfl) 6 (by kernel_rfl) (by kernel_rfl) λmf hv6=>?_;obtain⟨r_,h0,ai,h1,ak,h2,am,h3,az,h4,aa⟩:=zkx aa;refine yN 111111111 [] [2,6] (λz:Unit=>Zo m_ r_ ai ak am az=some r0) (λz=>[]) [2,6,7] [zC1 23 h0,Hn (⟨rfl,by decide⟩:true=true/\0<5),zC1 14 h1,Hn (⟨rfl,by decide⟩:true=true/\1<5),zC1 4 h2,Hn (⟨rfl,by decide⟩:true=true/\2<5),Ha (lnM yO m_.Rows),zC2 21 h3,Hn (⟨rfl,by decide⟩:true=true/\3<5),Ha (lnM yO m_.Rows),zC2 3 h4,Hn (⟨rfl,by decide⟩:true=true/\4<5),Hh (.cut 0)] ?_ λJ1 ar=>?_
 ·rintro⟨⟩ aa;obtain⟨bn,h5,aa⟩:=zt aa;refine yK 11111111111 [] [6] (zI (Wr m_ r_ ai am az bn) r0) (λz=>[(6,.own (.box (.agg [yG m_,eSl 1 true F4_ r_.1,eSl 1 true F4_ ai.1,eSl 1 false F8_ bn,eOs 1 false ua z,eSl 1 true F4_ am.1,eSl 1 true F4_ az.1])))]) [2,6] [Hk [] (z0q (hat 2)) (zf1 2 h5 (loC XM ak.1 <| loN)),Hh (.cut 0)] ?_ λJ2 au=>?_
  ·rintro lh aa;cases aa;exact yEx hE [Hm (shM ua ua lh)] (.tup [.sptr (.agg [.agg [I m_.Inputs,I m_.Outputs,eSl 1 false yO m_.Rows],eSl 1 true F4_ r_.1,eSl 1 true F4_ ai.1,eSl 1 false F8_ bn,eSl 1 false ua lh,eSl 1 true F4_ am.1,eSl 1 true F4_ az.1]),I 0]) (show LeV (.tup [.sptr (.agg [.agg [I m_.Inputs,I m_.Outputs,eSl 1 false yO m_.Rows],eSl 1 true F4_ r_.1,eSl 1 true F4_ ai.1,eSl 1 false F8_ bn,eSl 1 false ua lh,eSl 1 true F4_ am.1,eSl 1 true F4_ az.1]),I 0]) (.tup [.dop (poQ (some (.agg [.agg [I m_.Inputs,I m_.Outputs,eSl 1 false yO m_.Rows],eSl 1 false F8_ r_.1,eSl 1 false F8_ ai.1,eSl 1 false F8_ bn,eSl 1 false ua lh,eSl 1 false F8_ am.1,eSl 1 false F8_ az.1]))),I 0]) from inferInstance)
  obtain⟨t3,ht3,aa⟩:=zt aa;refine yMx 11111111111210 [J2] [2,6,91,92] (λx=>[(6,.own (.box (.agg [yG m_,eSl 1 true F4_ r_.1,eSl 1 true F4_ ai.1,eSl 1 false F8_ bn,eOs 1 false ua x.1,eSl 1 true F4_ am.1,eSl 1 true F4_ az.1]))),(92,.d (I x.2))]) ht3 [(6,.own (.box (.agg [yG m_,eSl 1 true F4_ r_.1,eSl 1 true F4_ ai.1,eSl 1 false F8_ bn,eOs 1 true ua [],eSl 1 true F4_ am.1,eSl 1 true F4_ az.1]))),(92,.d (I 0))] [Ha (lnM yO m_.Rows)] λ⟨j4,oe⟩ m3 av ae hl1 J3 bg=>?_;obtain c0|c0:=zF ae
  ·obtain⟨cx,h6,ae⟩:=zt c0.2;let Z0:List HO:=[Hb c0,zC2 0 h6];obtain c1|c1:=zF ae
   ·cases c1.2;cases hl1;cases aa;exact yEx hE (Z0++[c1]) (.tup [.atom (.pointer none),I cx.2]) (show LeV (.tup [.atom (.pointer none),I cx.2]) (.tup [.dop (poQ none),I cx.2]) from inferInstance)
   obtain⟨gb,h7,ae⟩:=zt c1.2;obtain⟨g0,ae⟩:=gdE ae;cases ae;exact yB (H:=zx ((xNc prog 113 6 mf).or ((xMv prog 104 6 mf hv6).or X0))) bg _ hl1 (Z0++[Hb c1,Hn (rfl:some mf=some mf),Hk [] (z0q (hat 2)) (zf1 2 h7 (loC XM cx.1<|loN)),Hq (dM ua [gb]),Hn (dM ua [gb]),Hn (aL ua ua g0),Hl (aM ua j4 [gb]),Hn (⟨rfl,rfl⟩:T.d (.atom mf)=T.d (.atom mf)/\some mf=some mf)])
  cases c0.2;cases hl1;exact yB au j4 aa [Hb c0]
 obtain c2|c2:=zF aa
 ·cases c2.2;exact yEx hE [Hh (.u 70),qT,c2] (.tup [.atom (.pointer none),I r_.2]) (show LeV (.tup [.atom (.pointer none),I r_.2]) (.tup [.dop (poQ none),I r_.2]) from inferInstance)
 let Z1:List HO:=[Hh (.u 70),qT,Hb c2,qT];obtain c3|c3:=zF c2.2
 ·cases c3.2;exact yEx hE (Z1++[c3]) (.tup [.atom (.pointer none),I ai.2]) (show LeV (.tup [.atom (.pointer none),I ai.2]) (.tup [.dop (poQ none),I ai.2]) from inferInstance)
 obtain c4|c4:=zF c3.2
 ·cases c4.2;exact yEx hE (Z1++[c3,qT,c4]) (.tup [.atom (.pointer none),I ak.2]) (show LeV (.tup [.atom (.pointer none),I ak.2]) (.tup [.dop (poQ none),I ak.2]) from inferInstance)
 obtain c5|c5:=zF c4.2
 ·cases c5.2;exact yEx hE (Z1++[c3,qT,c4,qT,c5]) (.tup [.atom (.pointer none),I am.2]) (show LeV (.tup [.atom (.pointer none),I am.2]) (.tup [.dop (poQ none),I am.2]) from inferInstance)
 let Z2:List HO:=(Z1++[Hb c3,qT,Hb c4,qT,Hb c5,qT]);obtain c6|c6:=zF c5.2
 ·cases c6.2;exact yEx hE (Z2++[c6]) (.tup [.atom (.pointer none),I az.2]) (show LeV (.tup [.atom (.pointer none),I az.2]) (.tup [.dop (poQ none),I az.2]) from inferInstance)
 exact yB ar () c6.2 (Z2++[Hb c6,qF])
def xz [H:HS X0 l90](bz:Value):∀(parts:TA) (b_:zb) (r0:zb×Bool),xm parts b_=some r0->z7e prog 219 [.atom bz,eSl 1 false F8_ parts] ([bz].zip [.box (.agg [eOs 16 false F2_ b_.nodes_,I b_.leaves_,I b_.most_])]) r0.2 (.iface 124 (.agg #[])) (.tup []) [.box (.agg [eOs 16 false F2_ r0.1.nodes_,I r0.1.leaves_,I r0.1.most_])]:=by
 intro parts b_ r0 aa;refine z4m (tt:=vF) (nt:=f219.ntmps) (body:=zbd f219) [0] zr func219 rfl (by kernel_rfl) rfl rfl (by show(2:Nat)<=105;decide) (by decide) rfl rfl rfl (λE hE hD=>?_);refine yK 111 [] [0] (λz:List (zy Int)×Int=>Zq b_ z.1 z.2=some r0) (λz=>[(0,.own (.box (.agg [eOs 16 false F2_ z.1,I z.2,I b_.most_])))]) [0,1,4,5] [Hh (.cut 2)] ?_ λJ1 ar=>?_
 ·rintro⟨br,cp⟩ aa;obtain c0|c0:=zF aa
  ·refine yC 111110 [] [0] [c0,Hh (.stp 0)] ?_;cases c0.2;exact yP (H:=zx ((zfA prog 104 124 underlying124).or X0)) 2 [] λst0=>hD rfl st0
  cases c0.2;exact yF .normal [(0,.own (.box (.agg [eOs 16 false F2_ br,I cp,I b_.most_])))] [c0] λst0 h0=>hE rfl _ st0 (.inl rfl) (Xo h0 ⟨⟨rfl,rfl⟩,trivial⟩)
 refine yMb 111210 [J1] [0,4,5,11,12,13] (λx=>[(0,.own (.box (.agg [eOs 16 false F2_ x.1,I x.2.1,I b_.most_]))),(4,.d (.atom (.int .i32 x.2.2.1))),(5,.d (B x.2.2.2.1)),(13,.d (I x.2.2.2.2))]) aa  [Ha (lnM F8_ parts)] λt2 aa ⟨bh,cj,at_,nq,fq⟩ m2 av ae hl1 J2 au=>?_;obtain c1|c1:=zF ae
 ·refine yNs 111210011 [J1,J2] [0,4,5,11,12,13] (λz:List (zy Int)×Int×Int×Bool=>Zp fq z.1 z.2.1 z.2.2.1 z.2.2.2=some av) (λz=>[(0,.own (.box (.agg [eOs 16 false F2_ z.1,I z.2.1,I b_.most_]))),(4,.d (.atom (.int .i32 z.2.2.1))),(5,.d (B z.2.2.2))]) [c1,Hh (.cut 0)] ?_ λJ3 bg=>?_
  ·rintro⟨bm,ce,ia,nj⟩ ae;cases ae;exact yB au _ hl1 []
  obtain⟨fl,h0,t4,ht4,ae⟩:=yj c1.2;refine yM 11121001120110 [J1,J2,J3] [0,4,5,11,12,13,17,18,19] (λx=>[(0,.own (.box (.agg [eOs 16 false F2_ x.1,I x.2.1,I b_.most_]))),(4,.d (.atom (.int .i32 x.2.2.1))),(5,.d (B x.2.2.2.1)),(19,.d (I x.2.2.2.2))]) ht4  [Hi F8_ h0,Ha (lnM sy fl)] λ⟨aq,bc,gc,ka,dy⟩ m4 dj ah hl2 J4 db=>?_;obtain c2|c2:=zF ah
  ·obtain⟨dt,h1,je,h2,cell,h3,ah⟩:=Zc c2.2;refine yN 111210011201100110011 [J1,J2,J3,J4] [0,5,10,11,12,13,17,18,19] (λz:List (zy Int)×Int×Bool×Int=>vn dy z.1 z.2.1 z.2.2.1 z.2.2.2=some dj) (λz=>[(0,.own (.box (.agg [eOs 16 false F2_ z.1,I z.2.1,I b_.most_]))),(5,.d (B z.2.2.1)),(10,.d (.atom (.int .i32 z.2.2.2)))]) [0,4,5,9,10,11,12,13,17,18,19] [c2,Hi sy h1,Hn (iL F2_ h2),Hs (iM F2_ h2),Hn (⟨arJ (by kernel_rfl) (i0 h3),(iL (eI .i32) h3).2⟩:jP vF 162 ((zy.toL je).map (eI .i32)) dt=true/\dt.toNat<((zy.toL je).map (eI .i32)).length),Hh (.op 0),Hh (.f),Hx (.a (eOs 16 false F2_ aq)) (rfl:some (eOs 16 false F2_ aq:A)=some (eOs 16 false F2_ aq)),Hs (iM F2_ h2),Hh (.f),Hs (iM (eI .i32) h3),Hh (.cut 0)] ?_ λJ5 dc=>?_
   ·rintro⟨ct,cg,nk,next⟩ ah;cases ah;exact yB db _ hl2 []
   obtain c3|c3:=zF ah
   ·refine yN 1112100112011001100112101 [J1,J2,J3,J4,J5] [0,4,9,10,11,12,13,17,18,19] (zI (yl aq gc dy dt) dj) (λz=>[(0,.own (.box (.agg [eOs 16 false F2_ aq,I z,I b_.most_])))]) [0,4,5,9,10,11,12,13,17,18,19] [c3,Ha (lnM F2_ aq),Hh (.cut 0)] ?_ λJ6 ep=>?_
    ·rintro eg ah;obtain⟨iw,h4,co,h5,arr,h6,ah⟩:=Zc ah;replace h6:=yH h6;obtain⟨g0,ah⟩:=gdE ah;exact yB dc (((aq.set gc.toNat arr)++([(zy.mk 0 0 0 0 0 0 0 0 0 0 0 0 0 0 0 0)]:List (zy Int))),eg,true,IntKind.i32.wrap (((aq.length:Nat):Int))) ah [Hn (iL F2_ h4),Hs (iM F2_ h4),Hn (⟨arJ (by kernel_rfl) (i0 h5),(iL (eI .i32) h5).2⟩:jP vF 162 ((zy.toL iw).map (eI .i32)) dt=true/\dt.toNat<((zy.toL iw).map (eI .i32)).length),Hh (.op 0),Hh (.f),Hx (.a (eOs 16 false F2_ aq)) (rfl:some (eOs 16 false F2_ aq:A)=some (eOs 16 false F2_ aq)),Hs (iM F2_ h4),Hh (.f),Hs (iM (eI .i32) h5),Hh (.f),Hx (.a (eOs 16 false F2_ aq)) (rfl:some (eOs 16 false F2_ aq:A)=some (eOs 16 false F2_ aq)),Hs (iM F2_ h4),Hh (.f),Hs (iM (eI .i32) h5),Hx (.l ((zy.toL arr).map (eI .i32))) ((zy.setL (eI .i32) iw dt (IntKind.i32.wrap (((aq.length:Nat):Int)))).trans (congrArg (λq=>(zy.toL q).map (eI .i32)) h6)),Hl (sM F2_ aq gc arr),Hx (.l [eOs 16 false F2_ (aq.set gc.toNat arr),I eg,I b_.most_]) (rfl:([eOs 16 false F2_ (aq.set gc.toNat arr),I eg,I b_.most_]:List A)=[eOs 16 false F2_ (aq.set gc.toNat arr),I eg,I b_.most_]),Hq (dM F2_ ([(zy.mk 0 0 0 0 0 0 0 0 0 0 0 0 0 0 0 0)]:List (zy Int))),Hn (dM F2_ ([(zy.mk 0 0 0 0 0 0 0 0 0 0 0 0 0 0 0 0)]:List (zy Int))),Hn (aL F2_ F2_ g0),Hl (aM F2_ (aq.set gc.toNat arr) ([(zy.mk 0 0 0 0 0 0 0 0 0 0 0 0 0 0 0 0)]:List (zy Int)))]
    obtain c4|c4:=zF c3.2
    ·obtain c5|c5:=zF c4.2
     ·let Z0:List HO:=(Hb c4::Hb c4::Hb c4::(rpN 5 (Hb c5) [Ha (lnM F2_ aq),c5,c4,c5,c4]));obtain c6|c6:=zF c5.2
      ·exact yB ep (w64 (bc+1)) c6.2 (Z0++(rpN 9 (Hb c6) [c4,c6,c4,qT]))
      obtain⟨dp,h7,ah⟩:=zt c6.2;let Z1:List HO:=(Z0++(rpN 6 (Hb c6) [Hn (iL F2_ h7),c6,Hs (iM F2_ h7),c6,c6,c4,c6,c4]));obtain c7|c7:=zF ah
      ·exact yB ep (w64 (bc+1)) c7.2 (Z1++[c7])
      exact yB ep bc c7.2 (Z1++[c7])
     obtain⟨em,h8,ah⟩:=zt c5.2;let Z2:List HO:=(Hb c4::Hb c4::Hb c4::(rpN 6 (Hb c5) (Hb c4::Hb c5::Hb c4::(rpN 6 qF [Hn (iL F2_ h8),qF,Hs (iM F2_ h8),qF,qF,c4,qF,c4]))));obtain c8|c8:=zF ah
     ·exact yB ep (w64 (bc+1)) c8.2 (Z2++[c8])
     exact yB ep bc c8.2 (Z2++[c8])
    exact yB ep bc c4.2 (rpN 7 (Hb c4) [qF])
   exact yB dc (aq,bc,ka,cell) c3.2 [c3]
  cases c2.2;cases hl2;exact yB bg (aq,bc,gc,ka) ae [c2]
 cases c1.2;cases hl1;exact yB ar (bh,cj) aa [c1]
def Qj [H:HS X0 l90](bz:Value):∀(x0:UR) (x_:zD) (b_:zb) (r0:zb×Bool),wN x0 x_ b_=some r0->z7e prog 218 [.agg [],.sptr (.agg [.agg [I x_.m_.Inputs,I x_.m_.Outputs,eSl 1 false yO x_.m_.Rows],eSl 1 false F8_ x_.q_,eSl 1 false F8_ x_.p_,eSl 1 false F8_ x_.all_,eSl 1 false ua x_.each_,eSl 1 false F8_ x_.short_,eSl 1 false F8_ x_.exact_]),.atom bz] ([bz].zip [.box (.agg [eOs 16 false F2_ b_.nodes_,I b_.leaves_,I b_.most_])]) r0.2 (.iface 124 (.agg #[])) (.tup []) [.box (.agg [eOs 16 false F2_ r0.1.nodes_,I r0.1.leaves_,I r0.1.most_])]:=by
 intro x0 x_ b_ r0 aa;refine z4m (tt:=vF) (nt:=f218.ntmps) (body:=zbd f218) [2] zr func218 rfl (by kernel_rfl) rfl rfl (by show(3:Nat)<=48;decide) (by decide) rfl rfl rfl (λE hE hD=>?_);refine yMb 1110 [] [1,2,15,16,17] (λx=>[(2,.own (.box (.agg [eOs 16 false F2_ x.1,I x.2.1,I x.2.2.1]))),(17,.d (I x.2.2.2))]) aa  [Ha (lnM F8_ x_.p_)] λt1 aa ⟨br,cp,fm,ba⟩ m1 av ae hl1 J1 ar=>?_;obtain c0|c0:=zF ae
 ·refine yNs 1110011 [J1] [1,2,15,16,17] (λz:List (zy Int)×Int×Int=>Y1 ba z.1 z.2.1 z.2.2=some av) (λz=>[(2,.own (.box (.agg [eOs 16 false F2_ z.1,I z.2.1,I z.2.2])))]) [c0,Hh (.cut 0)] ?_ λJ2 au=>?_
  ·rintro⟨bh,cj,fh⟩ ae;cases ae;exact yB ar _ hl1 []
  obtain⟨bj,h0,t3,ht3,ae⟩:=yj c0.2;refine yM 111001120110 [J1,J2] [1,2,7,15,16,17,24,25,26] (λx=>[(2,.own (.box (.agg [eOs 16 false F2_ x.1,I x.2.1,I x.2.2.1]))),(26,.d (I x.2.2.2))]) ht3  [Hi F8_ h0,Ha (lnM F8_ x_.short_)] λ⟨bm,ce,d0,gk⟩ m3 dj ah hl2 J3 bg=>?_;obtain c1|c1:=zF ah
  ·refine yNs 111001120110011 [J1,J2,J3] [1,2,7,15,16,17,24,25,26] (λz:List (zy Int)×Int×Int=>Y0 gk z.1 z.2.1 z.2.2=some dj) (λz=>[(2,.own (.box (.agg [eOs 16 false F2_ z.1,I z.2.1,I z.2.2])))]) [c1,Hh (.cut 0)] ?_ λJ4 db=>?_
   ·rintro⟨aq,bc,fj⟩ ah;cases ah;exact yB bg _ hl2 []
   obtain⟨a6,h1,t5,ht5,ah⟩:=yj c1.2;refine yM 11100112011001120110 [J1,J2,J3,J4] [1,2,7,9,15,16,17,24,25,26,33,34,35] (λx=>[(2,.own (.box (.agg [eOs 16 false F2_ x.1,I x.2.1,I x.2.2.1]))),(35,.d (I x.2.2.2))]) ht5  [Hi F8_ h1,Ha (lnM F8_ x_.all_)] λ⟨ct,cg,dz,ib⟩ m5 nb aw hl3 J5 dc=>?_;obtain c2|c2:=zF aw
   ·obtain⟨fy,h2,aw⟩:=zt c2.2;refine yC 11100112011001120110011001 [J1,J2,J3,J4,J5] [1,2,7,9,11,15,16,17,24,25,26,33,34,35] [c2,Hi F8_ h2,Hh (.stp 0)] ?_;obtain⟨r_,h3,aw⟩:=zt aw;obtain c3|c3:=zF aw
    ·cases c3.2;cases hl3;cases ah;cases hl2;cases ae;cases hl1;cases aa;exact yD 5 [2] ((xz (H:=zd 0) bz _ _ _ h3).2 c3.1) [.atom bz,z6j [bj,a6,fy]] inferInstance [Hm (shM F8_ F8_ ([bj,a6,fy]))] λst0=>hD rfl st0
    cases c3.2;exact yB (H:=zx ((Za (P:=prog) vF [2] ((xz (H:=zd 0) bz _ _ _ h3).1 c3.1) 44).or X0)) dc _ hl3 [Hm (shM F8_ F8_ ([bj,a6,fy])),Hn (W6 (f:=.fn 219 []) (xs:=[.atom bz,ua [bj,a6,fy]]) (ls:=[(bz,.box (.agg [eOs 16 false F2_ ct,I cg,I dz]))]) (r:=.tup []) (ys:=[.box (.agg [eOs 16 false F2_ r_.1.nodes_,I r_.1.leaves_,I r_.1.most_])]) [.atom bz,z6j [bj,a6,fy]] (show Ji [.atom bz,z6j [bj,a6,fy]] [.atom bz,ua [bj,a6,fy]] from inferInstance))]
   cases c2.2;cases hl3;exact yB db (ct,cg,dz) ah [c2]
  cases c1.2;cases hl2;exact yB au (bm,ce,d0) ae [c1]
 cases c0.2;cases hl1;cases aa;exact yF .normal [(2,.own (.box (.agg [eOs 16 false F2_ br,I cp,I fm])))] [c0] λst0 h0=>hE rfl _ st0 (.inl rfl) (Xo h0 ⟨⟨rfl,rfl⟩,trivial⟩)
def l91:List yi:=z18 228 ua F8_ (zhU 125) (eT2 sy eB) yR::l90
def qn [H:HS X0 l90]:OkH l91:=yS3 false func228 λx_ target cmp r0 aa E hE=>by
 refine yN 1111 [] [0,1,2,8,9] (zI (yp x_ target) r0) (λz=>[(9,.d (I z))]) [0,1,2,8,9,10] [Ha (lnM F8_ x_),Hh (.cut 1)] ?_ λJ1 ar=>?_
 ·rintro i_ aa;obtain c0|c0:=zF aa
  ·obtain⟨mq,h0,r_,h1,aa⟩:=yj c0.2;cases aa;exact yE hE (rpN 4 (Hb c0) [Hi F8_ h0,c0,c0,c0,zC2 30 h1,c0,c0])
  cases c0.2;exact yE hE (rpN 9 (Hb c0) [])
 refine yMb 111120 [J1] [0,1,2,8,9,10] (λx=>[(9,.d (I x.1)),(10,.d (I x.2))]) aa  [] λt2 aa ⟨fk,j_⟩ m2 av ae hl1 J2 au=>?_;obtain c1|c1:=zF ae
 ·obtain⟨l7,h2,ai,h3,ae⟩:=yj c1.2;let Z0:List HO:=[c1,Hi F8_ h2,zC2 30 h3];obtain c2|c2:=zF ae
  ·cases c2.2;exact yB (H:=zx ((zmD prog).or X0)) au _ hl1 (Z0++[c2])
  cases c2.2;exact yB (H:=zx ((zmD prog).or X0)) au _ hl1 (Z0++[c2])
 cases c1.2;cases hl1;exact yB ar fk aa [c1]
def l92:List yi:=Zb 225 ua F8_ eB z0r::l91
def z8u [H:HS X0 l91]:OkH l92:=yS2 true func225 λl_ w_ r0 aa E hE=>by obtain⟨r_,h0,aa⟩:=zt aa;cases aa;exact yE hE [zC3 0 h0]
def l93:List yi:=Zb 224 F8_ zl6 eB jR::l92
def z0K [H:HS X0 l92]:OkH l93:=yS2 true func224 λw_ x1 r0 aa E hE=>by obtain⟨r_,h0,aa⟩:=zt aa;cases aa;exact yE hE [zC2 0 h0]
def l94:List yi:=Zb 227 ua (Kj 224 zl6) sy wY::l93
def YV [H:HS X0 l93]:OkH l94:=yS2 true func227 λs_ f_ r0 aa E hE=>by
 refine yK 11 [] [] (λz:Unit=>uw=some r0) (λz=>[]) [0,1] [Hh (.cut 1)] ?_ λJ1 ar=>?_
 ·rintro⟨⟩ aa;cases aa;exact yE hE []
 refine yMb 11210 [J1] [0,1,7,8] (λx=>[(8,.d (I x))]) aa  [Ha (lnM F8_ s_)] λt2 aa x8 m2 av ae hl1 J2 au=>?_;obtain c0|c0:=zF ae
 ·obtain⟨eb,h0,r_,h1,ae⟩:=yj c0.2;let Z0:List HO:=[c0,Hi F8_ h0,zC2 0 h1];obtain c1|c1:=zF ae
  ·cases c1.2;cases hl1;cases aa;exact yE hE (Z0++[c1])
  cases c1.2;exact yB au _ hl1 (Z0++[c1])
 cases c0.2;cases hl1;exact yB ar () aa [c0]
def l95:List yi:=Zb 223 zhL (Kj 224 zl6) zhL xE [true,false]::l94
def uC:XH prog:=((zmF zr 41).or X0)
def Yv [H:HS uC l94]:OkH l95:=yS2 true func223 λs_ kz r0 aa E hE=>by
 refine z4z (y:=eOs 1 false F8_ s_) rfl 0 (by kernel_rfl) (by kernel_rfl) λcu hv0=>?_;obtain⟨r_,h0,aa⟩:=zt aa;let Z0:List HO:=[zg 0,Hm (shM F8_ F8_ s_),Hs (zf2 0 h0 (loC ua s_<|loC (Kj 224 zl6) kz<|loN))];obtain c0|c0:=zF aa
 ·cases c0.2;exact yE hE (Z0++[c0])
 refine yK 1111 [] [0,5] (λz:TA×Int=>yX z.1 z.2=some r0) (λz=>[(0,.own (eOs 1 false F8_ z.1)),(5,.d (I z.2))]) [0,1,5] (Z0++[c0,Hh (.cut 0)]) ?_ λJ1 ar=>?_
 ·rintro⟨bk,i_⟩ aa;obtain⟨g0,aa⟩:=gdE aa;obtain⟨g1,aa⟩:=gdE aa;obtain⟨g2,aa⟩:=gdE aa;cases aa;exact yE (H:=zx ((xVc zr 38 1 0 cu i_).or ((xVw zr 38 0 cu).or uC))) hE [Hn (⟨.inl rfl,rfl⟩:(T.als 0 [] 0 0=T.als 0 [] 0 0\/T.als 0 [] 0 0=T.d (.atom cu))/\some cu=some cu),Hn (⟨g0.1,cuB F8_ g0⟩:(0:Int)<=i_/\i_.toNat<=(bk.map F8_).length),Hn (⟨rfl,rfl⟩:T.d (.atom (WF 1 cu i_))=T.d (.atom (WF 1 cu i_))/\some cu=some cu),Hn (⟨g1.1,cuB F8_ g1,dM F8_ bk⟩:(0:Int)<=i_/\i_.toNat<=(bk.map F8_).length/\A.areD (bk.map F8_)=true),Hx (.l ((bk.take i_.toNat++List.replicate (bk.length-i_.toNat) []).map F8_)) (vcM F8_ bk i_.toNat ([]:TB)),Hn g2.1,Hn (cuB F8_ g2),Hl (cuM F8_ (bk.take i_.toNat++List.replicate (bk.length-i_.toNat) []) i_)]
 refine yMb 1111210 [J1] [0,1,5,6] (λx=>[(0,.own (eOs 1 false F8_ x.1)),(5,.d (I x.2.1)),(6,.d (I x.2.2))]) c0.2  [] λt2 aa ⟨da,fk,j_⟩ m2 av ae hl1 J2 au=>?_;let Z1:List HO:=[Ha (lnM F8_ da)];obtain c1|c1:=zF ae
 ·refine yNs 111121001 [J1,J2] [0,1,5,6] (λz:TA×Int=>yk j_ z.1 z.2=some av) (λz=>[(0,.own (eOs 1 false F8_ z.1)),(5,.d (I z.2))]) (Z1++[c1,Hh (.cut 0)]) ?_ λJ3 bg=>?_
  ·rintro⟨ng,qa⟩ ae;cases ae;exact yB au _ hl1 []
  obtain⟨eb,h1,ai,h2,ae⟩:=yj c1.2;let Z2:List HO:=[Hn (iL F8_ h1),Hs (iM F8_ h1),zC2 1 h2];obtain c2|c2:=zF ae
  ·obtain⟨nn,h3,ae⟩:=zt c2.2;exact yB bg ((da.set fk.toNat eb),w64 (fk+1)) ae (Z2++[c2,Hn (iL F8_ h3),Hs (iM F8_ h3),Hs (iM F8_ h3),Hl (sM F8_ da fk eb)])
  exact yB bg (da,fk) c2.2 (Z2++[c2])
 cases c1.2;cases hl1;exact yB ar (da,fk) aa (Z1++[c1])
def l96:List yi:=z18 221 ua ua sy (eT2 XM sy) Zn::l95
def z3G [H:HS X0 l95]:OkH l96:=yS3 false func221 λa_ b_ inputs r0 aa E hE=>by
 obtain⟨r_,h0,aa⟩:=zt aa;let Z0:List HO:=[zg 24,Hm (shM ua ua ([a_,b_])),Hs (zf2 24 h0 (loC sy inputs<|loC (eSl 1 true ua) [a_,b_]<|loN))];obtain c0|c0:=zF aa
 ·cases c0.2;exact yE hE (Z0++[c0,Hm (shM F8_ F8_ [])])
 obtain⟨ai,h1,ak,h2,am,h3,aa⟩:=Zc c0.2;cases aa;exact yE hE (Z0++[c0,zC1 40 h1,zC2 0 h2,zg 31,Hm (shM F8_ F8_ ak),Hs (zf1 31 h3 (loC ua ak<|loN)),Hm (shM F8_ F8_ ak)])
def l97:List yi:=Zb 92 yG sy sy v7::l96
def z0i [H:HS X0 l96]:OkH l97:=yS2 true func92 λm_ s_ r0 aa E hE=>by
 obtain⟨r_,h0,aa⟩:=zt aa;let Z0:List HO:=[zC1 71 h0];obtain c0|c0:=zF aa
 ·cases c0.2;exact yE hE (Z0++[c0])
 obtain c1|c1:=zF c0.2
 ·cases c1.2;exact yE hE (Z0++(Hb c0::(rpN 6 (Hb c1) [qT])))
 let Z1:List HO:=(Z0++(Hb c0::(rpN 4 (Hb c1) [Ha (lnM yO m_.Rows),c1,c1])));obtain c2|c2:=zF c1.2
 ·cases c2.2;exact yE hE (Z1++[c2])
 cases c2.2;exact yE hE (Z1++[c2])
def l98:List yi:=z18 94 yG sy F8_ (λr:TB×Int=>.opq (US [some (F5_ r.1),some (sy r.2)])) Y6::l97
def z2B [H:HS X0 l97]:OkH l98:=by
 refine zO3 λm_ s_ w_ r0 aa=>?_;refine z4w (tt:=vF) (rs:=[(true,6,none),(false,7,none)]) (n:=⟨f94.ntmps,[]⟩) (body:=zbd f94) zr func94 rfl (by kernel_rfl) rfl rfl (by show(3:Nat)<=43;decide) λE hE=>?_;obtain⟨g0,aa⟩:=gdE aa;refine yK 111 [] [1,8] (λz:Int×TB=>Xq z.1 z.2=some r0) (λz=>[(1,.d (I z.1)),(8,.own (eOs 1 true sy z.2))]) [1,2,3,8] [Ha (lnM sy w_),Hn (rL g0),Ha (rM 1 sy ((w_.length:Nat):Int) (0:Int)),Hh (.cut 0)] ?_ λJ1 ar=>?_
 ·rintro⟨bk,out⟩ aa;cases aa;let ZE:List HO:=[];exact z29 X0 zr H.ok z1B hE 4000 (hs:=hoH ZE) (x:=(.opq (US [some (eOs 1 true sy out),some (I bk)]))) (hoB ZE) (by kernel_rfl) (LeV.refl _)
 refine yMb 111210 [J1] [1,3,8,15,16,17] (λx=>[(1,.d (I x.1)),(8,.own (eOs 1 true sy x.2.1)),(17,.d (I x.2.2))]) aa  [Ha (lnM sy w_)] λt2 aa ⟨da,aj,ba⟩ m2 av ae hl1 J2 au=>?_;obtain c0|c0:=zF ae
 ·obtain⟨fc,h0,r_,h1,ae⟩:=yj c0.2;refine yN 1112100110011 [J1,J2] [3,8,9,11,15,16,17] (λz:Int×Int=>vB aj ba z.1 z.2=some av) (λz=>[(11,.own (.box (.agg [I z.1,I z.2])))]) [1,3,8,9,10,11,15,16,17] [c0,Hi sy h0,zC0 77 h1,Hh (.cut 0)] ?_ λJ3 bg=>?_
  ·rintro⟨gz,nr⟩ ae;obtain⟨dn,h2,ae⟩:=zt ae;cases ae;exact yB au _ hl1 [Hn (iL sy h2),Hs (iM sy h2),Hs (iM sy h2),Hl (sM sy aj ba nr)]
  obtain c1|c1:=zF ae
  ·obtain⟨ap,h3,al,h4,ae⟩:=yj c1.2;exact yB bg (al.To,al.Out) ae [c1,Hi yO h3,Hi wk h4]
  exact yB bg (r_.To,r_.Out) c1.2 [c1]
 cases c0.2;cases hl1;exact yB ar (da,aj) aa [c0]
def l99:List yi:=z18 226 yG sy F8_ (eT2 sy sy) qR::l98
def z0l [H:HS X0 l98]:OkH l99:=yS3 false func226 λm_ s_ w_ r0 aa E hE=>by
 obtain⟨r_,h0,aa⟩:=zt aa;let Z0:List HO:=[zC2 1 h0];obtain c0|c0:=zF aa
 ·cases c0.2;exact yE hE (Z0++[c0])
 obtain⟨ai,h1,aa⟩:=zt c0.2;let Z1:List HO:=(Z0++[c0,zC2 45 h1]);obtain c1|c1:=zF aa
 ·cases c1.2;exact yE hE (Z1++[c1])
 obtain⟨ak,h2,aa⟩:=zt c1.2;cases aa;exact yE (H:=zx ((z0b prog 31 [none,some (I ak.2)]).or ((z0b prog 30 [some (eOs 1 true sy ak.1),some (I ak.2)]).or X0))) hE (Z1++[c1,zC3 0 h2,Hn (⟨rfl,rfl⟩:T.own (.opq (US [some (eOs 1 true sy ak.1),some (I ak.2)]))=T.own (.opq (US [some (eOs 1 true sy ak.1),some (I ak.2)]))/\1=1),Hn (⟨rfl,rfl⟩:T.own (.opq (US [none,some (I ak.2)]))=T.own (.opq (US [none,some (I ak.2)]))/\1=1)])
end Go.Own
end
