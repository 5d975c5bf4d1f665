/- -/
import Derived.Test.YtedigoohmnbjfaaGreatPartE
noncomputable section
set_option linter.unusedVariables false
set_option linter.defProp false
set_option linter.unusedSimpArgs false
namespace Go.Own
open Go.Proofs.Tryz
open Go.Proofs
set_option maxRecDepth 100000
set_option maxHeartbeats 8000000
def X0:XH prog:=xB zu
def z8A:prog.follows .mixedOrders=true:=by kernel_rfl
def zkO {l:List y7}{s:y7}(h:((l.map y7.k).contains s.k)=false):∀t∈l,t.k≠s.k:=λt ht e=>by rw[List.contains_eq_mem,<-e,decide_eq_true (List.mem_map_of_mem ht)]at h;cases h
class HS (X:outParam (XH prog)) (l:outParam (List y7)) where
 c:Ctr
 ok:Zl prog c
 has:∀t∈l,c.Has t
noncomputable abbrev zbd (f:Func):Code:=f.body.getD .skip
def zoh:ResultVar->Nat×TD
 |.tmp t=>(t,none)
 |.cell t c=>(t,some c)
noncomputable abbrev rsO (f:Func):=f.results.toList.map zoh
theorem zkd (f:Func):f.results=((rsO f).map z5I).toArray:=by
 have:z5I ∘ zoh=id:=funext λr=>by cases r<;>rfl
 simp[mn,this]
def OkH:List y7->Prop
 |s::_=>s.Ok prog
 |[]=>True
def eT2 {α β:Type}(f:α->A)(g:β->A)(r:α×β):A:=.tup [f r.1,g r.2]
def eT3 {α β γ:Type}(f:α->A)(g:β->A)(h:γ->A)(r:α×β×γ):A:=.tup [f r.1,g r.2.1,h r.2.2]
def ziA {ρ:Type}(k:Nat)(er:ρ->A)(F:Option ρ)(g:List Bool:=[]):y7:=spF (α:=Unit) k (λ_=>[]) er (λ_=>F) g λ_ _ _=>rfl
section
variable {α β γ δ ε ρ:Type}
noncomputable abbrev Inj (f:α->A):Prop:=∀x y,f x=f y->x=y
def Yo (k:Nat)(e1:α->A)(er:ρ->A)(F:α->Option ρ)(g:List Bool:=[])(i1:Inj e1:=by exact jK.inj):y7:=spF k (λx=>[e1 x]) er F g λx y h=>i1 _ _ (List.cons.inj h).1
def uR (k:Nat)(e1:α->A)(e2:β->A)(er:ρ->A)(F:α->β->Option ρ)(g:List Bool:=[])(i1:Inj e1:=by exact jK.inj)(i2:Inj e2:=by exact jK.inj):y7:=spF (α:=α×β) k (λx=>[e1 x.1,e2 x.2]) er (λx=>F x.1 x.2) g λx y h=>by simp at h;exact Prod.ext (i1 _ _ h.1) (i2 _ _ h.2)
def z2N (k:Nat)(e1:α->A)(e2:β->A)(e3:γ->A)(er:ρ->A)(F:α->β->γ->Option ρ)(g:List Bool:=[])(i1:Inj e1:=by exact jK.inj)(i2:Inj e2:=by exact jK.inj)(i3:Inj e3:=by exact jK.inj):y7:=spF (α:=α×β×γ) k (λx=>[e1 x.1,e2 x.2.1,e3 x.2.2]) er (λx=>F x.1 x.2.1 x.2.2) g λx y h=>by simp at h;exact Prod.ext (i1 _ _ h.1) (Prod.ext (i2 _ _ h.2.1) (i3 _ _ h.2.2))
def zh8 (k:Nat)(e1:α->A)(e2:β->A)(e3:γ->A)(e4:δ->A)(er:ρ->A)(F:α->β->γ->δ->Option ρ)(g:List Bool:=[])(i1:Inj e1:=by exact jK.inj)(i2:Inj e2:=by exact jK.inj)(i3:Inj e3:=by exact jK.inj)(i4:Inj e4:=by exact jK.inj):y7:=spF (α:=α×β×γ×δ) k (λx=>[e1 x.1,e2 x.2.1,e3 x.2.2.1,e4 x.2.2.2]) er (λx=>F x.1 x.2.1 x.2.2.1 x.2.2.2) g λx y h=>by simp at h;exact Prod.ext (i1 _ _ h.1) (Prod.ext (i2 _ _ h.2.1) (Prod.ext (i3 _ _ h.2.2.1) (i4 _ _ h.2.2.2)))
variable {X:XH prog}{l:List y7}[H:HS X l]{k:Nat}{e1:α->A}{e2:β->A}{e3:γ->A}{e4:δ->A}{er:ρ->A}{g:List Bool}{i1:Inj e1}{i2:Inj e2}{i3:Inj e3}{i4:Inj e4}{a:α}{b:β}{c:γ}{d:δ}{r:ρ}{vs:List A}{F0:Option ρ}{F1:α->Option ρ}{F2:α->β->Option ρ}{F3:α->β->γ->Option ρ}{F4:α->β->γ->δ->Option ρ}
noncomputable abbrev zx (Y:XH prog):HS Y l:=⟨H.c,H.ok,H.has⟩
noncomputable abbrev zd {Y m}(n:Nat)(h:l.drop n=m:=by rfl):HS Y m:=⟨H.c,H.ok,λt q=>H.has t (rO (h▸q))⟩
noncomputable abbrev za {Y:XH prog}(s:y7)(hs:s.Ok prog)(h:((l.map y7.k).contains s.k)=false:=by kernel_rfl):HS Y (s::l):=⟨H.c.add s,Ctr.add_ok H.ok hs,λt q=>(pl.1 q).elim (λe=>e▸Ctr.add_has _ _) λq=>(H.has t q).add (zkO h t q)⟩
def hat (i:Nat){s:y7}(h:l[i]?=some s:=by rfl):H.c.Has s:=H.has s (pI h)
def Hk (g:List Bool){k:Nat}{vs:List A}{r:A}(zg:H.c.gives k=g)(h:H.c.run k (H.c.norm k vs)=some r):HO:=([.g g,.a r],[ob zg,ob h])
def zg (i:Nat){s:y7}(h:l[i]?=some s:=by rfl):HO:=Hg (hat i h).gives
noncomputable abbrev zR [H:HS X l](k:Nat)(vs:List A)(r:A):Prop:=H.c.run k (H.c.norm k vs)=some r
def zf0 (i:Nat)(hr:F0=some r)(za:vs.map A.loose=[])(h:l[i]?=some (ziA k er F0 g):=by rfl):zR k vs (er r):=ziE (x:=()) (hat i h) hr za
def zf1 (i:Nat)(hr:F1 a=some r)(za:vs.map A.loose=[e1 a])(h:l[i]?=some (Yo k e1 er F1 g i1):=by rfl):zR k vs (er r):=ziE (hat i h) hr za
def zf2 (i:Nat)(hr:F2 a b=some r)(za:vs.map A.loose=[e1 a,e2 b])(h:l[i]?=some (uR k e1 e2 er F2 g i1 i2):=by rfl):zR k vs (er r):=ziE (x:=(a,b)) (hat i h) hr za
def zf3 (i:Nat)(hr:F3 a b c=some r)(za:vs.map A.loose=[e1 a,e2 b,e3 c])(h:l[i]?=some (z2N k e1 e2 e3 er F3 g i1 i2 i3):=by rfl):zR k vs (er r):=ziE (x:=(a,b,c)) (hat i h) hr za
def zf4 (i:Nat)(hr:F4 a b c d=some r)(za:vs.map A.loose=[e1 a,e2 b,e3 c,e4 d])(h:l[i]?=some (zh8 k e1 e2 e3 e4 er F4 g i1 i2 i3 i4):=by rfl):zR k vs (er r):=ziE (x:=(a,b,c,d)) (hat i h) hr za
def zC0 (i:Nat)(hr:F0=some r)(h:l[i]?=some (ziA k er F0 g):=by rfl):HO:=Hk g (z2u (hat i h)) (zf0 i hr loN h)
def zC1 (i:Nat)(hr:F1 a=some r)(h:l[i]?=some (Yo k e1 er F1 g i1):=by rfl)(za:[e1 a].map A.loose=[e1 a]:=by exact loC _ _ loN):HO:=Hk g (z2u (hat i h)) (zf1 i hr za h)
def zC2 (i:Nat)(hr:F2 a b=some r)(h:l[i]?=some (uR k e1 e2 er F2 g i1 i2):=by rfl)(za:[e1 a,e2 b].map A.loose=[e1 a,e2 b]:=by exact loC _ _ (loC _ _ loN)):HO:=Hk g (z2u (hat i h)) (zf2 i hr za h)
def zC3 (i:Nat)(hr:F3 a b c=some r)(h:l[i]?=some (z2N k e1 e2 e3 er F3 g i1 i2 i3):=by rfl)(za:[e1 a,e2 b,e3 c].map A.loose=[e1 a,e2 b,e3 c]:=by exact loC _ _ (loC _ _ (loC _ _ loN))):HO:=Hk g (z2u (hat i h)) (zf3 i hr za h)
def zC4 (i:Nat)(hr:F4 a b c d=some r)(h:l[i]?=some (zh8 k e1 e2 e3 e4 er F4 g i1 i2 i3 i4):=by rfl)(za:[e1 a,e2 b,e3 c,e4 d].map A.loose=[e1 a,e2 b,e3 c,e4 d]:=by exact loC _ _ (loC _ _ (loC _ _ (loC _ _ loN)))):HO:=Hk g (z2u (hat i h)) (zf4 i hr za h)
include H in
def zk2 (i:Nat)(hr:F2 a b=some r)(h:l[i]?=some (uR k e1 e2 er F2 g i1 i2):=by rfl):uQ prog k [e1 a,e2 b] (er r):=zhZ H.ok (hat i h) (x:=(a,b)) hr
variable {fn:Func}{pn:List (Nat×Value)}{n:Fr}{Q:Exit->St->Prop}{c:Code}{fs:List Fm}{st:St}{σ τ:Type}{J:St->Prop}
noncomputable abbrev hEt (keep:Bool)(rs:List (Nat×TD))(r:A)(E:St->Prop):Prop:=∀st x R U,ziC wD keep rs st=some (x,R,U)->LeV x r->E st
noncomputable abbrev zN (fn:Func)(pn:List (Nat×Value)):Fr:=⟨fn.ntmps,pn⟩
noncomputable abbrev zW (fn:Func)(pn:List (Nat×Value))(Q:Exit->St->Prop)(c:Code)(fs:List Fm)(s:St):Prop:=AWP prog (zN fn pn) c s (Qf prog (zN fn pn) fs Q)
def zOk (f:Func)(n:Nat):Bool:=f.body.isSome && !(f.name == "runtime.NumGoroutine")&&Nat.ble n f.ntmps
noncomputable abbrev zB (keep:Bool)(fn:Func)(r:A)(vs:List A):Prop:=∀E,hEt keep (rsO fn) r E->zW fn [] (zfM E) (zbd fn) [] (ofL (z9I 0 vs))
def ySp {k:Nat}{r:A}{ls:List A}(keep:Bool)(hf:prog.funcs[k]?=some fn)(h:zB keep fn r ls){m:Nat}(hz:zOk fn m=true)(hm:ls.length=m):uQ prog k ls r:=by subst hm;simp only[zOk,pB,nY]at hz;obtain⟨b,hb⟩:=nJ.1 hz.1.1;exact zff (tt:=wD) (keep:=keep) (rs:=rsO fn) (n:=⟨fn.ntmps,[]⟩) (body:=zbd fn) zu hf hz.1.2 (by simp[zbd,hb]) rfl (zkd fn) (Nat.le_of_ble_eq_true hz.2) h
def zY {k:Nat}{r:A}{ls:List A}(keep:Bool)(hf:prog.funcs[k]?=some fn)(h:zB keep fn r ls)(hz:zOk fn ls.length=true:=by kernel_rfl):uQ prog k ls r:=ySp keep hf h hz rfl
def zO1 (h:∀a r,F1 a=some r->uQ prog k [e1 a] (er r)):(Yo k e1 er F1 g i1).Ok prog:=UX λx r q=>h x r q
def zO2 (h:∀a b r,F2 a b=some r->uQ prog k [e1 a,e2 b] (er r)):(uR k e1 e2 er F2 g i1 i2).Ok prog:=UX λx r q=>h x.1 x.2 r q
def zO3 (h:∀a b c r,F3 a b c=some r->uQ prog k [e1 a,e2 b,e3 c] (er r)):(z2N k e1 e2 e3 er F3 g i1 i2 i3).Ok prog:=UX λx r q=>h x.1 x.2.1 x.2.2 r q
def zO4 (h:∀a b c d r,F4 a b c d=some r->uQ prog k [e1 a,e2 b,e3 c,e4 d] (er r)):(zh8 k e1 e2 e3 e4 er F4 g i1 i2 i3 i4).Ok prog:=UX λx r q=>h x.1 x.2.1 x.2.2.1 x.2.2.2 r q
def yS0 (keep:Bool)(hf:prog.funcs[k]?=some fn)(h:∀r,F0=some r->zB keep fn (er r) [])(hz:zOk fn 0=true:=by kernel_rfl):(ziA k er F0 g).Ok prog:=UX λ_ r q=>ySp keep hf (h r q) hz rfl
def yS1 (keep:Bool)(hf:prog.funcs[k]?=some fn)(h:∀a r,F1 a=some r->zB keep fn (er r) [e1 a])(hz:zOk fn 1=true:=by kernel_rfl):(Yo k e1 er F1 g i1).Ok prog:=zO1 λa r q=>ySp keep hf (h a r q) hz rfl
def yS2 (keep:Bool)(hf:prog.funcs[k]?=some fn)(h:∀a b r,F2 a b=some r->zB keep fn (er r) [e1 a,e2 b])(hz:zOk fn 2=true:=by kernel_rfl):(uR k e1 e2 er F2 g i1 i2).Ok prog:=zO2 λa b r q=>ySp keep hf (h a b r q) hz rfl
def yS3 (keep:Bool)(hf:prog.funcs[k]?=some fn)(h:∀a b c r,F3 a b c=some r->zB keep fn (er r) [e1 a,e2 b,e3 c])(hz:zOk fn 3=true:=by kernel_rfl):(z2N k e1 e2 e3 er F3 g i1 i2 i3).Ok prog:=zO3 λa b c r q=>ySp keep hf (h a b c r q) hz rfl
def yS4 (keep:Bool)(hf:prog.funcs[k]?=some fn)(h:∀a b c d r,F4 a b c d=some r->zB keep fn (er r) [e1 a,e2 b,e3 c,e4 d])(hz:zOk fn 4=true:=by kernel_rfl):(zh8 k e1 e2 e3 e4 er F4 g i1 i2 i3 i4).Ok prog:=zO4 λa b c d r q=>ySp keep hf (h a b c d r q) hz rfl
section
variable {E:St->Prop}{r:A}{keep:Bool}{rs:List (Nat×TD)}(hE:hEt keep rs r E)(L:List HO)
noncomputable abbrev zrE [H:HS X l](n:Fr)(keep:Bool)(rs:List (Nat×TD))(c:Code)(fs:List Fm)(st:St)(L:List HO):=zmg X wD H.c n keep rs 4000 c fs st (hoH L)
include hE in
theorem yEx (x:A)(hle:LeV x r)(e:zrE n keep rs c fs st L=some (x,hoO L):=by kernel_rfl):AWP prog n c st (Qf prog n fs (zfM E)):=zli X zu H.ok z8A hE 4000 (hoB L) (by rw[<-z8V];exact e) hle
include hE in
theorem yE (e:zrE n keep rs c fs st L=some (r,hoO L):=by kernel_rfl):AWP prog n c st (Qf prog n fs (zfM E)):=yEx hE L r (LeV.refl _) e
def vE (r:Option (A×List Prop)):A:=match r with|some (x,_)=>x|none=>.dead 0
include hE in
theorem yEl (e:zrE n keep rs c fs st L=some (vE (zrE n keep rs c fs st L),hoO L):=by kernel_rfl)(e2:(vE (zrE n keep rs c fs st L)).loose=r:=by kernel_rfl):AWP prog n c st (Qf prog n fs (zfM E)):=yEx hE L _ ⟨λ_ _ _ _ q=>e2▸q.loose⟩ e
end
noncomputable abbrev zzq [H:HS X l](n:Fr)(ks:TC)(c:Code)(fs:List Fm)(st:St)(L:List HO):=zmf X wD H.c n ks 4000 c fs st (hoH L)
def yW {ks:TC}{s:z9e}{s0:St}(L:List HO)(e:zzq n ks c fs st L=some (s,s0,hoO L))(h:∀st0,canon ks st0=s0->s.sem prog n Q st0):AWP prog n c st (Qf prog n fs Q) :=
 zil X zu H.ok z8A ks 4000 (hoB L) (by rw[<-z8V];exact e) h
noncomputable abbrev hJt (ks:TC)(J:St->Prop)(Inv:τ->Prop)(S:τ->List (Nat×T)):Prop:=∀st' l' z,Inv z->Own.canon ks st'=ofL l'->LeL l' (S z)->J st'
variable {live:TC}{S:τ->List (Nat×T)}{Inv:τ->Prop}
def yBx (hJ:hJt live J Inv S)(z:τ)(hz:Inv z)(l:List (Nat×T))(hl:LeL l (S z))(L:List HO)(e:zzq n live c fs st L=some (.back J,ofL l,hoO L):=by kernel_rfl):AWP prog n c st (Qf prog n fs Q):=yW L e λst0 h0=>hJ st0 _ z hz h0 hl
def yB (hJ:hJt live J Inv S)(z:τ)(hz:Inv z)(L:List HO)(e:zzq n live c fs st L=some (.back J,ofL (S z),hoO L):=by kernel_rfl):AWP prog n c st (Qf prog n fs Q):=yBx hJ z hz _ (LeL.refl _) L e
def yF (ex:Exit)(l:List (Nat×T))(L:List HO)(h:∀st0,Own.canon (z15 l) st0=ofL l->Q ex st0)(e:zzq n (z15 l) c fs st L=some (.fin ex,ofL l,hoO L):=by kernel_rfl):AWP prog n c st (Qf prog n fs Q):=yW L e h
def yAt (c':Code)(fs':List Fm)(l:List (Nat×T))(L:List HO)(h:∀st0,Own.canon (z15 l) st0=ofL l->AWP prog n c' st0 (Qf prog n fs' Q))(e:zzq n (z15 l) c fs st L=some (.at c' fs',ofL l,hoO L):=by kernel_rfl):AWP prog n c st (Qf prog n fs Q):=yW L e h
def yD (i:Nat)(L:TC){k:Nat}{xs0:List A}{ls:List (Value×A)}{pv:Value}(hd:KS prog k xs0 ls pv)(xs:List A)(hx:Jp xs xs0)(Lh:List HO)(hQ:∀st',Q (.panic (jW pv)) st')(e:znh X wD H.c n c i L st (hoH Lh)=some ([.fn k []],xs,ls,hoO Lh):=by kernel_rfl):AWP prog n c st (Qf prog n fs Q):=yD6 X zu H.ok i L hd xs hx Lh e hQ
def yP (i:Nat){T:Nat}{v:Value}(Lh:List HO)(hQ:∀st',Q (.panic (jW (.iface T v))) st')(e:zmo X wD H.c n c i st (hoH Lh)=some (.atom (.iface T v),hoO Lh):=by kernel_rfl):AWP prog n c st (Qf prog n fs Q):=yP6 X zu H.ok i Lh e hQ
def dgL (n:Nat):TC:=Nat.rec (motive:=λ_=>Nat->TC->TC) (λ_ l=>l) (λ_ ih m l=>if m<10 then l else ih (m/10) (m%10::l)) 40 n []
noncomputable instance (n:Nat):OfNat TC n:=⟨dgL n⟩
noncomputable abbrev zzt (p:TC)(d:Nat)(fn:Func):Code:=sub (p++[d]) (zbd fn)
noncomputable abbrev zzp (p:TC)(fn:Func):Code:=sub p (zbd fn)
noncomputable abbrev zzm (p:TC)(Js:List (St->Prop))(fn:Func):=frs p Js (zbd fn) []
noncomputable abbrev zzr [H:HS X l](fn:Func)(pn:List (Nat×Value))(ks:TC)(c:Code)(fs:List Fm)(st:St)(L:List HO):=zzq (zN fn pn) ks c fs st L
noncomputable abbrev zzs [H:HS X l](fn:Func)(pn:List (Nat×Value))(ks:TC)(c:Code)(fs:List Fm)(st:St)(L:List HO):St:=stO (zzr fn pn ks c fs st L)
noncomputable abbrev zzu (p:TC)(Js:List (St->Prop))(fn:Func)(s:St)(L:List HO):Option (z9e×St×List Prop):=some (.at (zzp p fn) (zzm p Js fn),s,hoO L)
noncomputable abbrev zzv (fn:Func)(pn:List (Nat×Value))(Q:Exit->St->Prop)(p:TC)(Js:List (St->Prop))(Inv:σ->Prop)(S:σ->St):Prop:=∀z,Inv z->zW fn pn Q (zzt p 1 fn) (zzm p Js fn) (S z)
noncomputable abbrev zzw (fn:Func)(pn:List (Nat×Value))(Q:Exit->St->Prop)(p:TC)(Js:List (St->Prop))(live:TC)(Inv:σ->Prop)(S:σ->List (Nat×T))(s:St):Prop:=∀J:St->Prop,hJt live J Inv S->zW fn pn Q (zzt p 2 fn) (.pre J::zzm p Js fn) s
noncomputable abbrev rdT (fn:Func)(pn:List (Nat×Value))(Q:Exit->St->Prop)(p:TC)(Js:List (St->Prop))(ks:TC)(f:σ->Option (LR σ τ))(t:τ)(S:σ->List (Nat×T)):Prop:=∀x m lr,f x=some lr->zoU f m t lr->∀J:St->Prop,hJt ks J (λx'=>KB f m x'=some t) S->zW fn pn Q (zzt p 0 fn) (.pre J::zzm p Js fn) (ofL (S x))
variable (path:TC)(Js:List (St->Prop))
theorem yC (ks:TC)(L:List HO)(h:zW fn pn Q (zzp path fn) (zzm path Js fn) (zzs fn pn ks c fs st L))(e:zzr fn pn ks c fs st L=zzu path Js fn (zzs fn pn ks c fs st L) L:=by kernel_rfl):zW fn pn Q c fs st:=yW L e λst0 h0=>AWP.canon ks (by rw[h0];exact h)
theorem yA (l:List (Nat×T))(L:List HO)(h:zW fn pn Q (zzp path fn) (zzm path Js fn) (ofL l))(e:zzr fn pn (z15 l) c fs st L=zzu path Js fn (ofL l) L:=by kernel_rfl):zW fn pn Q c fs st:=yW L e λst0 h0=>z5c h0 h
section
variable {f:σ->Option (LR σ τ)}{t:τ}
theorem yLx (f:σ->Option (LR σ τ))(S:σ->List (Nat×T))(x0:σ){t:τ}(ht:loop f x0=some t)(l:List (Nat×T))(hl:LeL l (S x0))(L:List HO)(round:rdT fn pn Q path Js (z15 l) f t S)(e:zzr fn pn (z15 l) c fs st L=zzu path Js fn (ofL l) L:=by kernel_rfl)(e2:zzp path fn=.loop (zzt path 0 fn):=by kernel_rfl)(hk:∀x,z15 (S x)=z15 l:=by exact λ_=>rfl):zW fn pn Q c fs st:=by refine yW L e λst0 h0=>?_;refine zfm (X:=σ×Nat) e2 (z15 l) (λx=>KB f x.2 x.1=some t) (λx=>x.2) (λx=>S x.1) (x0,Ur) _ h0 hl ht ?_;rintro⟨x,k⟩ hx J hJ;obtain⟨m,lr,rfl,hf,hr⟩:=zmx hx;exact round x m lr hf hr J λst' l' x' h1 h2 h3=>hJ st' l' (x',m) h1 (gA m) h2 h3
theorem yL (f:σ->Option (LR σ τ))(S:σ->List (Nat×T))(x0:σ){t:τ}(ht:loop f x0=some t)(L:List HO)(round:rdT fn pn Q path Js (z15 (S x0)) f t S)(e:zzr fn pn (z15 (S x0)) c fs st L=zzu path Js fn (ofL (S x0)) L:=by kernel_rfl)(e2:zzp path fn=.loop (zzt path 0 fn):=by kernel_rfl)(hk:∀x,z15 (S x)=z15 (S x0):=by exact λ_=>rfl):zW fn pn Q c fs st:=yLx path Js f S x0 ht _ (LeL.refl _) L round e e2 hk
variable (ks:TC)(dl:σ->List (Nat×T)){x0:σ}
theorem yM (ht:loop f x0=some t)(L:List HO)(round:rdT fn pn Q path Js ks f t λx=>clS ks (zzs fn pn ks c fs st L) (dl x))(e:zzr fn pn ks c fs st L=zzu path Js fn (ofL (clS ks (zzs fn pn ks c fs st L) (dl x0))) L:=by kernel_rfl)(e2:zzp path fn=.loop (zzt path 0 fn):=by kernel_rfl):zW fn pn Q c fs st:=by
 have hk:∀x,z15 (clS ks (zzs fn pn ks c fs st L) (dl x))=ks:=λx=>z8O _ _ _;refine yLx path Js f (λx=>clS ks (zzs fn pn ks c fs st L) (dl x)) x0 ht _ (LeL.refl _) L ?_ (by rw[hk];exact e) e2 λx=>by rw[hk,hk]
 rw[hk];exact round
theorem yMb {ρ':Type}{k:τ->Option ρ'}{r:ρ'}(hb:Option.bind (loop f x0) k=some r)(L:List HO)(round:∀t,k t=some r->rdT fn pn Q path Js ks f t λx=>clS ks (zzs fn pn ks c fs st L) (dl x))(e:zzr fn pn ks c fs st L=zzu path Js fn (ofL (clS ks (zzs fn pn ks c fs st L) (dl x0))) L:=by kernel_rfl)(e2:zzp path fn=.loop (zzt path 0 fn):=by kernel_rfl):zW fn pn Q c fs st:=by obtain⟨t,ht,h⟩:=zn hb;exact yM path Js ks dl ht L (round t h) e e2
def okT:T->Bool
 |.own _|.d _|.gone=>true
 |.als _ p _ _=>p.isEmpty
 |_=>false
theorem zkv {x:T}(h:okT x=true):LeT x x:=by
 cases x with
 |own x=>exact⟨x,rfl,inferInstance⟩
 |d x=>exact⟨x,rfl,inferInstance⟩
 |gone=>rfl
 |als r p er ec=>cases p with
  |nil=>exact⟨rfl,rfl⟩
  |cons a p=>cases h
 |_=>cases h
theorem zgh {s:St}:∀{d d':List (Nat×T)},z1o d d'->z15 d=z15 d'->∀{ks:TC},(ks.all λk=>okT (s k).t)=true->z1o (clS ks s d) (clS ks s d')
 |_,_,_,_,[],_=>z1o.nil
 |d,d',hd,hk,k::ks,h=>by
  simp only[List.all_cons,pB]at h;refine z1o.cons' ?_ (zgh hd hk h.2);have q:=(hd.ent k).2.2;clear hd;induction d generalizing d' with
  |nil=>cases d' with
   |nil=>exact zkv h.1
   |cons y d'=>cases hk
  |cons x d ih=>cases d' with
   |nil=>cases hk
   |cons y d'=>
    simp only[z15,gE,List.cons.injEq]at hk;simp only[ofL,hk.1]at q;simp only[List.lookup,hk.1];by_cases e:k=y.1
    ·subst e;simpa using q
    simp only[e,if_false]at q;rw[show(k==y.1)=false by simpa using e];exact ih _ hk.2 q
theorem yMx (ht:loop f x0=some t)(d0:List (Nat×T))(L:List HO)(round:rdT fn pn Q path Js ks f t λx=>clS ks (zzs fn pn ks c fs st L) (dl x))(e:zzr fn pn ks c fs st L=zzu path Js fn (ofL (clS ks (zzs fn pn ks c fs st L) d0)) L:=by kernel_rfl)(e2:zzp path fn=.loop (zzt path 0 fn):=by kernel_rfl)(ho:(ks.all λk=>okT (zzs fn pn ks c fs st L k).t)=true:=by kernel_rfl)(hk:z15 d0=z15 (dl x0):=by rfl)(hd:z1o d0 (dl x0):=by infer_instance):zW fn pn Q c fs st:=by
 have hk:∀d,z15 (clS ks (zzs fn pn ks c fs st L) d)=ks:=λd=>z8O _ _ _;refine yLx path Js f (λx=>clS ks (zzs fn pn ks c fs st L) (dl x)) x0 ht (clS ks (zzs fn pn ks c fs st L) d0) ⟨.inr (zgh hd ‹_› ho)⟩ L ?_ (by rw[hk];exact e) e2 λx=>by rw[hk,hk]
 rw[hk];exact round
end
noncomputable abbrev zI {ρ:Type}(F:σ->Option ρ)(r:ρ)(z:σ):Prop:=F z=some r
variable (live:TC)(Inv:σ->Prop)(S:σ->List (Nat×T))
theorem yK (ks:TC)(L:List HO)(h1:zzv fn pn Q path Js Inv λz=>ofL (S z))(h2:zzw fn pn Q path Js live Inv S (zzs fn pn ks c fs st L))(e:zzr fn pn ks c fs st L=zzu path Js fn (zzs fn pn ks c fs st L) L:=by kernel_rfl)(e2:zzp path fn=.seq (zzt path 2 fn) (zzt path 1 fn):=by kernel_rfl):zW fn pn Q c fs st:=by refine yW L e λst0 h0=>?_;show AWP prog _ (zzp path fn) st0 _;rw[e2];refine AWP.canon ks ?_;rw[h0];refine AWP.nextC live λK hK=>h2 K λst' l' z hz he hl=>hK st' ?_;rw[he];exact zfn hl (h1 z hz)
theorem yJ (l:List (Nat×T))(L:List HO)(h1:zzv fn pn Q path Js Inv λz=>ofL (S z))(h2:zzw fn pn Q path Js live Inv S (ofL l))(e:zzr fn pn (z15 l) c fs st L=zzu path Js fn (ofL l) L:=by kernel_rfl)(e2:zzp path fn=.seq (zzt path 2 fn) (zzt path 1 fn):=by kernel_rfl):zW fn pn Q c fs st:=yW L e λst0 h0=>zfo e2 live (z15 l) _ h0 Inv S h1 h2
theorem yN (ks:TC)(L:List HO)(h1:zzv fn pn Q path Js Inv λz=>ofL (clS live (zzs fn pn ks c fs st L) (S z)))(h2:zzw fn pn Q path Js live Inv (λz=>clS live (zzs fn pn ks c fs st L) (S z)) (zzs fn pn ks c fs st L))(e:zzr fn pn ks c fs st L=zzu path Js fn (zzs fn pn ks c fs st L) L:=by kernel_rfl)(e2:zzp path fn=.seq (zzt path 2 fn) (zzt path 1 fn):=by kernel_rfl):zW fn pn Q c fs st:=yK path Js live Inv _ ks L h1 h2 e e2
theorem yNs (L:List HO)(h1:zzv fn pn Q path Js Inv λz=>ofL (clS live (zzs fn pn live c fs st L) (S z)))(h2:zzw fn pn Q path Js live Inv (λz=>clS live (zzs fn pn live c fs st L) (S z)) (zzs fn pn live c fs st L))(e:zzr fn pn live c fs st L=zzu path Js fn (zzs fn pn live c fs st L) L:=by kernel_rfl)(e2:zzp path fn=.seq (zzt path 2 fn) (zzt path 1 fn):=by kernel_rfl):zW fn pn Q c fs st:=yK path Js live Inv _ live L h1 h2 e e2
theorem yKs (L:List HO)(h1:zzv fn pn Q path Js Inv λz=>ofL (S z))(h2:zzw fn pn Q path Js live Inv S (zzs fn pn live c fs st L))(e:zzr fn pn live c fs st L=zzu path Js fn (zzs fn pn live c fs st L) L:=by kernel_rfl)(e2:zzp path fn=.seq (zzt path 2 fn) (zzt path 1 fn):=by kernel_rfl):zW fn pn Q c fs st:=yK path Js live Inv S live L h1 h2 e e2
end
def Hb {t b:Bool}{p:Prop}(h:t=b/\p):HO:=Hq h.1
noncomputable instance {t b:Bool}{p:Prop}(h:t=b/\p):CoeDep (t=b/\p) h HO:=⟨Hb h⟩
def ya {α β γ:Type}{x:Option α}{f:α->Option β}{g:α->β->Option γ}{r:γ}(h:Option.bind x (λu=>Option.bind (f u) (g u))=some r):∃u,x=some u/\∃v,f u=some v/\g u v=some r:=by obtain⟨u,h,q⟩:=zn h;exact⟨u,h,zn q⟩
def jI {α β γ δ:Type}{x:Option α}{f:α->Option β}{g:α->β->Option γ}{k:α->β->γ->Option δ}{r:δ}(h:Option.bind x (λu=>Option.bind (f u) λv=>Option.bind (g u v) (k u v))=some r):∃u,x=some u/\∃v,f u=some v/\∃w,g u v=some w/\k u v w=some r:=by obtain⟨u,h,q⟩:=zn h;exact⟨u,h,ya q⟩
def z6P {α β γ δ ε:Type}{x:Option α}{f:α->Option β}{g:α->β->Option γ}{k:α->β->γ->Option δ}{l:α->β->γ->δ->Option ε}{r:ε}(h:Option.bind x (λu=>Option.bind (f u) λv=>Option.bind (g u v) λw=>Option.bind (k u v w) (l u v w))=some r):∃u,x=some u/\∃v,f u=some v/\∃w,g u v=some w/\∃y,k u v w=some y/\l u v w y=some r:=by obtain⟨u,h,q⟩:=zn h;exact⟨u,h,jI q⟩
def z7X {α β γ δ ε ζ:Type}{x:Option α}{f:α->Option β}{g:α->β->Option γ}{k:α->β->γ->Option δ}{l:α->β->γ->δ->Option ε}{m:α->β->γ->δ->ε->Option ζ}{r:ζ}(h:Option.bind x (λu=>Option.bind (f u) λv=>Option.bind (g u v) λw=>Option.bind (k u v w) λy=>Option.bind (l u v w y) (m u v w y))=some r):∃u,x=some u/\∃v,f u=some v/\∃w,g u v=some w/\∃y,k u v w=some y/\∃z,l u v w y=some z/\m u v w y z=some r:=by obtain⟨u,h,q⟩:=zn h;exact⟨u,h,z6P q⟩
def zho:zlI prog 22 9:=zh6 (e:=5) underlying22 underlying5 underlying9
def zbf:zcz prog 218 9 4 z4Q (.atom (.bool false)):=zeo underlying218 underlying9 ⟨.bool false,λw=>z84 (f:=Tryz.t4) (by kernel_rfl) rfl w,λS=>yT.2 ⟨rfl,rfl⟩⟩ rfl
def z6n:zcz prog 254 259 3 (z9E [.i64,.i64,.i64,.i64,.i64,.i64,.i64,.i64,.i64,.i64,.i64,.i64,.i64,.i64,.i64,.i64,.i64,.i64,.i64,.i64,.i64,.i64,.i64,.i64,.i64,.i64,.i64,.i64,.i64,.i64,.i64,.i64,.i64]) (.atom (.int .i64 0)):=zep underlying254 _ underlying259 (exq Go.Ex.zof) (z87.eqn rfl) rfl ⟨.int .i64 0,λw=>z84 (f:=Tryz.t3) (by kernel_rfl) rfl w,λS=>yT.2 ⟨rfl,rfl⟩⟩ rfl
def zi1:z9h prog 99 0 3 0:=zbQ underlying99 _ rfl rfl rfl
def zjW:ziu prog 136 1 false:=zdJ zu (t:=51) Tryz.so136 rfl rfl (by kernel_rfl) (by decide)
def l0:List y7:=[]
abbrev s7:=eI .i64
def l1:List y7:=uR 68 F6_ s7 s7 Yi::l0
def z3b [H:HS X0 l0]:OkH l1:=yS2 true func68 λl_ k_ r0 aa E hE=>by
 obtain c0|c0:=zC aa
 ·obtain⟨bi,h0,aa⟩:=zn c0.2;cases aa;exact yE hE [Ha (lnM (eI .u16) l_),c0,Hi (eI .u16) h0]
 cases c0.2;exact yE hE [Ha (lnM (eI .u16) l_),c0]
def l2:List y7:=Yo 34 zoW xe QS::l1
def z5C [H:HS X0 l1]:OkH l2:=yS1 false func34 λx_ r0 aa E hE=>by
 let u0:=(w64 (1+(w64 (Int.tmod x_.j 3))));let u1:=(w64 (1+(w64 (Int.tmod x_.m 3))));let u2:=(w64 (1+(w64 (Int.tmod x_.G 6))));obtain⟨g0,aa⟩:=gdE aa;obtain⟨g1,aa⟩:=gdE aa;obtain⟨g2,aa⟩:=gdE aa;refine yNs 1111 [] [1,2,3,4] (zI (VP x_) r0) (λz=>[(4,.own (.box (.agg [I u0,I u1,eOs 1 false YH z])))]) [Hn g0,Hn g1,Hn g2,Hh (.cut 3)] ?_ λJ1 ar=>?_
 ·rintro gj aa;refine yNs 11111 [] [1,2,3,4] (zI (VO x_) r0) (λz=>[(4,.own (.box (.agg [I u0,I u1,eOs 1 false YH z])))]) [Hh (.cut 0)] ?_ λJ2 au=>?_
  ·rintro bq aa;refine yN 111111 [] [2,4] (zI (VN x_) r0) (λz=>[(4,.own (.box (.agg [I u0,I u1,eOs 1 false YH z])))]) [1,2,3,4] [Hh (.cut 0)] ?_ λJ3 bg=>?_
   ·rintro cm aa;cases aa;exact yE hE [Hm (shM YH xZ cm)]
   refine yMb 111111210 [J3] [1,2,3,4,13] (λx=>[(4,.own (.box (.agg [I u0,I u1,eOs 1 false YH x.1]))),(13,.d (I x.2))]) aa  [] λt4 aa ⟨gu,s_⟩ m4 av ae hl1 J4 db=>?_;obtain c0|c0:=zC ae
   ·refine yNs 11111121001 [J3,J4] [1,2,3,4,13] (zI (VL s_) av) (λz=>[(4,.own (.box (.agg [I u0,I u1,eOs 1 false YH z])))]) [c0,Hh (.cut 0)] ?_ λJ5 dc=>?_
    ·rintro gl ae;cases ae;exact yB db _ hl1 []
    refine yMb 111111210012010 [J3,J4,J5] [1,2,3,4,13,14] (λx=>[(4,.own (.box (.agg [I u0,I u1,eOs 1 false YH x.1]))),(14,.d (I x.2))]) c0.2  [] λt6 ae ⟨ik,i_⟩ m6 dj ah hl2 J6 ep=>?_;obtain c1|c1:=zC ah
    ·refine yNs 11111121001201001 [J3,J4,J5,J6] [1,2,3,4,13,14] (zI (YV i_) dj) (λz=>[(4,.own (.box (.agg [I u0,I u1,eOs 1 false YH z])))]) [c1,Hh (.cut 0)] ?_ λJ7 gw=>?_
     ·rintro mg ah;cases ah;exact yB ep _ hl2 []
     obtain⟨pj,h0,om,h1,ah⟩:=ya c1.2;let Z0:List HO:=[Hn (iL YH h0),Hs (iM YH h0),Hs (iM YH h0),Hn (iL uS h1),Hs (iM YH h0),Hs (iM uS h1),Hs (iM YH h0),Hs (iM uS h1)];obtain c2|c2:=zC ah
     ·obtain⟨k0,h2,r_,h3,ah⟩:=ya c2.2;obtain⟨g3,ah⟩:=gdE ah;obtain⟨kr,h4,ah⟩:=zn ah;exact yB gw (ik.set s_.toNat (k0.set i_.toNat (z8.mk (Int.tmod r_ u2) kr.r))) ah (Z0++[c2,Hn (iL YH h2),Hs (iM YH h2),zC2 0 h3,Hn g3,Hs (iM YH h2),Hn (iL uS h4),Hs (iM YH h2),Hs (iM uS h4),Hs (iM YH h2),Hs (iM uS h4),Hs (iM YH h2),Hs (iM uS h4),Hl (sM uS k0 i_ (z8.mk (Int.tmod r_ u2) kr.r)),Hl (sM YH ik s_ (k0.set i_.toNat (z8.mk (Int.tmod r_ u2) kr.r)))])
     exact yB gw ik c2.2 (Z0++[c2])
    cases c1.2;cases hl2;exact yB dc ik ae [c1]
   cases c0.2;cases hl1;exact yB bg gu aa [c0]
  refine yMb 11111210 [J2] [1,2,3,4,9] (λx=>[(4,.own (.box (.agg [I u0,I u1,eOs 1 false YH x.1]))),(9,.d (I x.2))]) aa  [] λt8 aa ⟨cn,bk⟩ m8 av ae hl1 J8 lq=>?_;obtain c3|c3:=zC ae
  ·refine yNs 1111121001 [J2,J8] [1,2,3,4,9] (zI (VK bk) av) (λz=>[(4,.own (.box (.agg [I u0,I u1,eOs 1 false YH z])))]) [c3,Hh (.cut 0)] ?_ λJ9 qe=>?_
   ·rintro mh ae;cases ae;exact yB lq _ hl1 []
   refine yNs 1111121001201 [J2,J8,J9] [1,2,3,4,9,10] (zI (WK x_ cn bk) av) (λz=>[(10,.own (eOs 1 false s7 z))]) [Hh (.cut 1)] ?_ λJ10 hJ10=>?_
   ·rintro free ae;obtain⟨nz,h5,ae⟩:=zn ae;refine yN 111112100120111 [J2,J8,J9] [1,2,3,4,9,12] (zI (uF x_ cn bk) av) (λz=>[(12,.d (I z))]) [1,2,3,4,9,10,12] [Hn (iL s7 h5),Hs (iM s7 h5),Hh (.cut 0)] ?_ λse pw=>?_
    ·rintro k_ ae;obtain⟨g4,ae⟩:=gdE ae;obtain⟨k9,h6,ae⟩:=zn ae;obtain⟨g5,ae⟩:=gdE ae;obtain⟨ku,h7,ae⟩:=zn ae;exact yB qe (cn.set (w64 (Int.tdiv k_ u0)).toNat (k9.set (Int.tmod k_ u0).toNat (z8.mk bk ku.r))) ae [Hn g4,Hn (iL YH h6),Hs (iM YH h6),Hn g5,Hs (iM YH h6),Hn (iL uS h7),Hs (iM YH h6),Hs (iM uS h7),Hs (iM YH h6),Hs (iM uS h7),Hs (iM YH h6),Hs (iM uS h7),Hl (sM uS k9 (Int.tmod k_ u0) (z8.mk bk ku.r)),Hl (sM YH cn (w64 (Int.tdiv k_ u0)) (k9.set (Int.tmod k_ u0).toNat (z8.mk bk ku.r)))]
    let Z1:List HO:=[Ha (lnM (eI .u8) x_.Tree)];obtain c4|c4:=zC ae
    ·obtain⟨px,h8,ae⟩:=zn c4.2;obtain⟨g6,ae⟩:=gdE ae;obtain⟨ol,h9,ae⟩:=zn ae;exact yB pw ol ae (Z1++[c4,Hi (eI .u8) h8,Ha (lnM s7 free),Hn g6,Hn (iL s7 h9),Hs (iM s7 h9)])
    exact yB pw nz c4.2 (Z1++[c4])
   obtain⟨t12,ht12,ae⟩:=zn c3.2;refine yMx 1111121001201210 [J2,J8,J9,J10] [1,2,3,4,9,10,11] (λx=>[(10,.own (eOs 1 false s7 x.1)),(11,.d (I x.2))]) ht12 [(10,.own (eOs 1 true s7 [])),(11,.d (I 0))] [] λ⟨ke,de⟩ sn dj ah hl2 sm si=>?_;obtain c5|c5:=zC ah
   ·refine yNs 111112100120121001 [J2,J8,J9,J10,sm] [1,2,3,4,9,10,11] (zI (Y1 de) dj) (λz=>[(10,.own (eOs 1 false s7 z))]) [c5,Hh (.cut 0)] ?_ λJ13 hJ13=>?_
    ·rintro n7 ah;cases ah;exact yB si _ hl2 []
    obtain⟨g7,ah⟩:=gdE c5.2;obtain⟨oy,h10,ah⟩:=zn ah;obtain⟨g8,ah⟩:=gdE ah;obtain⟨n8,h11,ah⟩:=zn ah;let Z2:List HO:=[Hn g7,Hn (iL YH h10),Hs (iM YH h10),Hn g8,Hs (iM YH h10),Hn (iL uS h11),Hs (iM YH h10),Hs (iM uS h11),Hs (iM YH h10),Hs (iM uS h11)];obtain c6|c6:=zC ah
    ·obtain⟨g9,ah⟩:=gdE c6.2;exact yB hJ13 (ke++[de]) ah (Z2++[c6,Hq (dM s7 [de]),Hn (dM s7 [de]),Hn (aL s7 s7 g9),Hl (aM s7 ke [de])])
    exact yB hJ13 ke c6.2 (Z2++[c6])
   cases c5.2;cases hl2;exact yB hJ10 ke ae [c5]
  cases c3.2;cases hl1;exact yB au cn aa [c3]
 obtain⟨sa,ht14,aa⟩:=zn aa;refine yMx 1111210 [J1] [1,2,3,4,5] (λx=>[(4,.own (.box (.agg [I u0,I u1,eOs 1 false YH x.1]))),(5,.d (I x.2))]) ht14 [(4,.own (.box (.agg [I u0,I u1,eOs 1 true YH []]))),(5,.d (I 0))] [] λ⟨fe,da⟩ sp av ae hl1 r7 sj=>?_;obtain c7|c7:=zC ae
 ·refine yNs 111121001 [J1,r7] [1,2,3,4,5] (zI (WJ da) av) (λz=>[(4,.own (.box (.agg [I u0,I u1,eOs 1 false YH z])))]) [c7,Hh (.cut 0)] ?_ λJ15 hJ15=>?_
  ·rintro lw ae;cases ae;exact yB sj _ hl1 []
  refine yNs 111121001201 [J1,r7,J15] [1,2,3,4,5,6] (zI (WI fe da) av) (λz=>[(6,.own (eOs 2 false uS z))]) [Hh (.cut 1)] ?_ λJ16 hJ16=>?_
  ·rintro row ae;obtain⟨g10,ae⟩:=gdE ae;exact yB hJ15 (fe++[row]) ae [Hq (oC YH row []),Hn (aL YH YH g10),Hl (aM YH fe [row])]
  obtain⟨t17,ht17,ae⟩:=zn c7.2;refine yMx 111121001201210 [J1,r7,J15,J16] [1,2,3,4,5,6,7] (λx=>[(6,.own (eOs 2 false uS x.1)),(7,.d (I x.2))]) ht17 [(6,.own (eOs 2 true uS [])),(7,.d (I 0))] [] λ⟨bu,fk⟩ m17 dj ah hl2 sq sk=>?_;obtain c8|c8:=zC ah
  ·obtain⟨ai,h12,ah⟩:=zn c8.2;obtain⟨g11,ah⟩:=gdE ah;obtain⟨g12,ah⟩:=gdE ah;obtain⟨g13,ah⟩:=gdE ah;cases ah;exact yB sk _ hl2 [c8,zC2 0 h12,Hn g11,Hn g12,Hq (dM uS ([(z8.mk (-1) (Int.tmod (w64 (Int.tdiv ai u2)) u1))]:List z8)),Hn (dM uS ([(z8.mk (-1) (Int.tmod (w64 (Int.tdiv ai u2)) u1))]:List z8)),Hn (aL uS uS g13),Hl (aM uS bu ([(z8.mk (-1) (Int.tmod (w64 (Int.tdiv ai u2)) u1))]:List z8))]
  cases c8.2;cases hl2;exact yB hJ16 bu ae [c8]
 cases c7.2;cases hl1;exact yB ar fe aa [c7]
def l3:List y7:=zh8 85 xe (eSl 1 false (eSl 1 false eB)) s7 s7 s7 VA::l2
def z4m [H:HS X0 l2]:OkH l3:=yS4 true func85 λm_ bl s_ t_ r0 aa E hE=>by
 refine yK 11 [] [] (λz:Unit=>Jy=some r0) (λz=>[]) [1,2,3,4] [Hh (.cut 1)] ?_ λJ1 ar=>?_
 ·rintro⟨⟩ aa;cases aa;exact yE hE []
 refine yMb 11210 [J1] [1,2,3,4,9] (λx=>[(9,.d (I x))]) aa  [] λt2 aa i_ m2 av ae hl1 J2 au=>?_;obtain c0|c0:=zC ae
 ·refine yN 1121001 [J1,J2] [1,2,3,4,9,41,42,43,47,48,58] (λz:Int×Bool×Bool×Bool×Bool×Bool=>jC i_ z.1 z.2.1 z.2.2.1 z.2.2.2.1 z.2.2.2.2.1 z.2.2.2.2.2=some av) (λz=>[(41,.d (I z.1)),(42,.d (B z.2.1)),(43,.d (B z.2.2.1)),(47,.d (B z.2.2.2.1)),(48,.d (B z.2.2.2.2.1)),(58,.d (B z.2.2.2.2.2))]) [1,2,3,4,9] [c0,Hh (.cut 0)] ?_ λJ3 bg=>?_
  ·rintro⟨rc,re,my,rf,rg,oz⟩ ae;cases ae;exact yB au _ hl1 []
  obtain⟨ap,h0,al,h1,du,h2,bp,h3,ae⟩:=z6P c0.2;let Z0:List HO:=[Hi xZ h0,Hi uS h1,Hi xZ h2,Hi uS h3];obtain c1|c1:=zC ae
  ·cases c1.2;cases hl1;cases aa;exact yE hE (Z0++(rpN 8 (Hb c1) [qT]))
  let Z1:List HO:=(Z0++(rpN 4 (Hb c1) []));obtain c2|c2:=zC c1.2
  ·let Z2:List HO:=(Z1++[c2,c2,c2,c1,c2,c1]);obtain c3|c3:=zC c2.2
   ·obtain⟨jp,h4,gm,h5,ae⟩:=ya c3.2;let Z3:List HO:=(Z2++(rpN 4 (Hb c3) (Hi (eSl 1 false eB) h4::(rpN 4 (Hb c3) [Hi eB h5,c3,c1,c3,c1]))));obtain c4|c4:=zC ae
    ·cases c4.2;cases hl1;cases aa;exact yE hE (Z3++[c4])
    exact yB bg (al.o,decide (al.o>=0),decide (al.o>=0),decide (bp.o>=0),decide (bp.o>=0),gm) c4.2 (Z3++[c4])
   exact yB bg (al.o,decide (al.o>=0),decide (al.o>=0),decide (bp.o>=0),decide (bp.o>=0),false) c3.2 (Z2++(rpN 9 (Hb c3) [c1,c3,c1,qF]))
  exact yB bg (al.o,decide (al.o>=0),decide (al.o>=0),false,false,false) c2.2 (Z1++(Hb c2::Hb c2::Hb c2::Hb c1::Hb c2::Hb c1::(rpN 9 qF [c1,qF,c1,qF])))
 cases c0.2;cases hl1;exact yB ar () aa [c0]
def l4:List y7:=uR 52 xe s7 (eOs 1 false (eOs 1 true eB)) Wc::l3
def z37 [H:HS X0 l3]:OkH l4:=yS2 true func52 λm_ k_ r0 aa E hE=>by
 refine yNs 1111 [] [1,2,5,6] (zI (XB m_ k_) r0) (λz=>[(6,.own (eOs 1 false (eOs 1 true eB) z))]) [Ha (lnM xZ m_.i),Hh (.cut 1)] ?_ λJ1 ar=>?_
 ·rintro bl aa;refine yK 11111 [] [6] (zI XA r0) (λz=>[(6,.own (eOs 1 false (eOs 1 true eB) z))]) [1,2,5,6] [Hh (.cut 0)] ?_ λJ2 au=>?_
  ·rintro nl aa;cases aa;exact yE hE []
  refine yMb 11111210 [J2] [1,2,5,6,8] (λx=>[(6,.own (eOs 1 false (eOs 1 true eB) x.1)),(8,.d (I x.2))]) aa  [] λt3 aa ⟨dg,round⟩ m3 av ae hl1 J3 bg=>?_;obtain c0|c0:=zC ae
  ·refine yNs 1111121001 [J2,J3] [1,2,5,6,8] (zI (Xz round) av) (λz=>[(6,.own (eOs 1 false (eOs 1 true eB) z))]) [c0,Hh (.cut 0)] ?_ λJ4 db=>?_
   ·rintro mi ae;cases ae;exact yB bg _ hl1 []
   refine yN 1111121001201 [J2,J3,J4] [1,2,5,8,9] (zI (Xy round) av) (λz=>[(9,.own (eOs 1 false (eOs 1 true eB) z))]) [1,2,5,6,8,9] [Hh (.cut 1)] ?_ λJ5 dc=>?_
   ·rintro next ae
    exact yB db next ae []
   obtain⟨t6,kb,ae⟩:=zn c0.2;refine yMx 1111121001201210 [J2,J3,J4,J5] [1,2,5,6,8,9,10] (λx=>[(9,.own (eOs 1 false (eOs 1 true eB) x.1)),(10,.d (I x.2))]) kb [(9,.own (eOs 1 true (eOs 1 true eB) [])),(10,.d (I 0))] [Hh (.n 3 [6]),Hm (shM (eOs 1 true eB) (eSl 1 true eB) dg)] λ⟨cr,s_⟩ m6 dj ah hl2 J6 ep=>?_;obtain c1|c1:=zC ah
   ·refine yNs 111112100120121001 [J2,J3,J4,J5,J6] [1,2,5,6,8,9,10] (zI (Xx s_) dj) (λz=>[(9,.own (eOs 1 false (eOs 1 true eB) z))]) [c1,Hh (.cut 0)] ?_ λJ7 gw=>?_
    ·rintro ff ah;cases ah;exact yB ep _ hl2 []
    obtain⟨g0,ah⟩:=gdE c1.2;obtain⟨g1,ah⟩:=gdE ah;refine yMb 11111210012012100120110 [J2,J3,J4,J5,J6,J7] [1,2,5,6,8,9,10,11] (λx=>[(9,.own (eOs 1 false (eOs 1 true eB) x.1)),(11,.d (I x.2))]) ah  [Hn (rL g0),Ha (rM 1 eB ((m_.i.length:Nat):Int) false),Hq (oC (eOs 1 true eB) (List.replicate ((m_.i.length:Nat):Int).toNat false) []),Hn (aL (eOs 1 true eB) (eOs 1 true eB) g1),Hl (aM (eOs 1 true eB) cr [(List.replicate ((m_.i.length:Nat):Int).toNat false)])] λt8 ah ⟨cb,t_⟩ m8 nb aw hl3 J8 lq=>?_;obtain c2|c2:=zC aw
    ·obtain⟨jq,h0,jp,h1,gm,h2,aw⟩:=jI c2.2;let Z0:List HO:=[c2,Hn (iL (eOs 1 true eB) h0),Hs (iM (eOs 1 true eB) h0),Hi (eSl 1 true eB) h1,Hi eB h2];obtain c3|c3:=zC aw
     ·obtain⟨qm,h3,aw⟩:=zn c3.2;cases aw;exact yB lq _ hl3 (Z0++(rpN 7 (Hb c3) [Hs (iM (eOs 1 true eB) h0),Hn (iL eB h3),Hs (iM (eOs 1 true eB) h0),Hs (iM eB h3),Hs (iM (eOs 1 true eB) h0),Hs (iM eB h3),Hl (sM eB jq t_ true),Hl (sM (eOs 1 true eB) cb s_ (jq.set t_.toNat true))]))
     obtain⟨r_,h4,py,h5,aw⟩:=ya c3.2;cases aw;exact yB lq _ hl3 (Z0++(rpN 5 (Hb c3) [Hk [] (z2u (hat 0)) (zf4 0 h4 (loC xe m_<|loC (eSl 1 false (eSl 1 true eB)) dg<|loC s7 s_<|loC s7 t_<|loN)),c3,c3,Hs (iM (eOs 1 true eB) h0),Hn (iL eB h5),Hs (iM (eOs 1 true eB) h0),Hs (iM eB h5),Hs (iM (eOs 1 true eB) h0),Hs (iM eB h5),Hl (sM eB jq t_ (r_==1)),Hl (sM (eOs 1 true eB) cb s_ (jq.set t_.toNat (r_==1)))]))
    cases c2.2;cases hl3;exact yB gw cb ah [c2]
   cases c1.2;cases hl2;exact yB dc cr ae [c1]
  cases c0.2;cases hl1;exact yB au dg aa [c0]
 obtain⟨t9,ht9,aa⟩:=zn aa;refine yMx 1111210 [J1] [1,2,5,6,7] (λx=>[(6,.own (eOs 1 false (eOs 1 true eB) x.1)),(7,.d (I x.2))]) ht9 [(6,.own (eOs 1 true (eOs 1 true eB) [])),(7,.d (I 0))] [] λ⟨jz,bk⟩ m9 av ae hl1 J9 qe=>?_;obtain c4|c4:=zC ae
 ·obtain⟨g2,ae⟩:=gdE c4.2;obtain⟨g3,ae⟩:=gdE ae;cases ae;exact yB qe _ hl1 [c4,Hn (rL g2),Ha (rM 1 eB ((m_.i.length:Nat):Int) false),Hq (oC (eOs 1 true eB) (List.replicate ((m_.i.length:Nat):Int).toNat false) []),Hn (aL (eOs 1 true eB) (eOs 1 true eB) g3),Hl (aM (eOs 1 true eB) jz [(List.replicate ((m_.i.length:Nat):Int).toNat false)])]
 cases c4.2;cases hl1;exact yB ar jz aa [c4]
def l5:List y7:=Yo 157 (eSl 1 false (eSl 1 false eB)) F7_ Za::l4
def z01 [H:HS X0 l4]:OkH l5:=yS1 true func157 λbl r0 aa E hE=>by
 refine yK 1111 [] [3] (zI Wb r0) (λz=>[(3,.own (eOs 1 false s7 z))]) [0,3,4] [Hh (.cut 3)] ?_ λJ1 ar=>?_
 ·rintro out aa;cases aa;exact yE hE []
 obtain⟨t2,ht2,aa⟩:=zn aa;refine yMx 1111210 [J1] [0,3,4,5] (λx=>[(3,.own (eOs 1 false s7 x.1)),(4,.d (I x.2.1)),(5,.d (I x.2.2))]) ht2 [(3,.own (eOs 1 true s7 [])),(4,.d (I 0)),(5,.d (I 0))] [] λ⟨aj,n_,s_⟩ m2 av ae hl1 J2 au=>?_;let Z0:List HO:=[Ha (lnM (eSl 1 false eB) bl)];obtain c0|c0:=zC ae
 ·refine yNs 111121001 [J1,J2] [0,3,4,5] (λz:TB×Int=>Z9 s_ z.1 z.2=some av) (λz=>[(3,.own (eOs 1 false s7 z.1)),(4,.d (I z.2))]) (Z0++[c0,Hh (.cut 0)]) ?_ λJ3 bg=>?_
  ·rintro⟨ax,ca⟩ ae;cases ae;exact yB au _ hl1 []
  refine yNs 111121001201 [J1,J2,J3] [0,3,4,5,6] (zI (kZ aj n_ s_) av) (λz=>[(6,.d (I z))]) [Hh (.cut 1)] ?_ λJ4 db=>?_
  ·rintro b_ ae;refine yNs 1111210012011 [J1,J2,J3] [0,3,4,5,6] (λz:Int×Int=>va aj s_ z.1 z.2=some av) (λz=>[(4,.d (I z.1)),(6,.d (I z.2))]) [Hh (.cut 0)] ?_ λJ5 dc=>?_
   ·rintro⟨cd,kw⟩ ae;obtain⟨g0,ae⟩:=gdE ae;exact yB bg ((aj++[kw]),cd) ae [Hq (dM s7 [kw]),Hn (dM s7 [kw]),Hn (aL s7 s7 g0),Hl (aM s7 aj [kw])]
   obtain c1|c1:=zC ae
   ·exact yB dc (w64 (n_+1),n_) c1.2 [c1]
   exact yB dc (n_,b_) c1.2 [c1]
  refine yMb 111121001201210 [J1,J2,J3,J4] [0,3,4,5,6,7] (λx=>[(6,.d (I x.1)),(7,.d (I x.2))]) c0.2  [] λt6 ae ⟨oq,t_⟩ m6 dj ah hl2 J6 ep=>?_;obtain c2|c2:=zC ah
  ·refine yNs 11112100120121001 [J1,J2,J3,J4,J6] [0,3,4,5,6,7] (zI (uM t_) dj) (λz=>[(6,.d (I z))]) [c2,Hh (.cut 0)] ?_ λJ7 gw=>?_
   ·rintro pz ah;cases ah;exact yB ep _ hl2 []
   obtain⟨jp,h0,gm,h1,ah⟩:=ya c2.2;let Z1:List HO:=[Hi (eSl 1 false eB) h0,Hi eB h1];obtain c3|c3:=zC ah
   ·obtain⟨dn,h2,ah⟩:=zn c3.2;exact yB gw dn ah (Z1++[c3,Hn (iL s7 h2),Hs (iM s7 h2)])
   exact yB gw oq c3.2 (Z1++[c3])
  cases c2.2;cases hl2;exact yB db oq ae [c2]
 cases c0.2;cases hl1;exact yB ar aj aa (Z0++[c0])
def l6:List y7:=uR 129 xe s7 F7_ Qi::l5
def z36 [H:HS X0 l5]:OkH l6:=yS2 true func129 λm_ k_ r0 aa E hE=>by obtain⟨r_,h0,ai,h1,aa⟩:=ya aa;cases aa;exact yE hE [zC2 1 h0,zg 0,Hm (shM (eOs 1 true eB) (eSl 1 true eB) r_),Hs (zf1 0 h1 (loC (eSl 1 false (eSl 1 true eB)) r_<|loN)),Hm (shM (eOs 1 true eB) (eSl 1 true eB) r_)]
def l7:List y7:=Yo 97 xe F7_ Zb::l6
def z1w [H:HS X0 l6]:OkH l7:=yS1 true func97 λm_ r0 aa E hE=>by obtain⟨r_,h0,aa⟩:=zn aa;cases aa;exact yE hE [Ha (lnM xZ m_.i),zC2 0 h0]
def l8:List y7:=z2N 101 xe s7 s7 uS V5::l7
def z5y [H:HS X0 l7]:OkH l8:=yS3 false func101 λm_ s_ i_ r0 aa E hE=>by
 obtain c0|c0:=zC aa
 ·cases c0.2;exact yE hE [c0]
 obtain⟨ap,h0,al,h1,aa⟩:=ya c0.2;cases aa;exact yE hE [c0,Hi xZ h0,Hi uS h1]
def l9:List y7:=z2N 84 xe s7 F8_ s7 XC::l8
def Kg:∀(x y:z6×Int×TB),(λx=>[xe x.1,s7 x.2.1,F8_ x.2.2]) x=(λx=>[xe x.1,s7 x.2.1,F8_ x.2.2]) y->x=y:=zpA
def jM (mz:z6->Int->TB->Option Int):y7:=spF (α:=z6×Int×TB) (ρ:=Int) 84 (λx=>[xe x.1,s7 x.2.1,F8_ x.2.2]) (λr=>s7 r) (λx=>mz x.1 x.2.1 x.2.2) [] (by intro x y h;exact(congrArg (λ(p:z6×Int×TB)=>p) (show x=y from Kg x y h)))
def z1y (mz:z6->Int->TB->Option Int)[H:HS X0 (jM mz::l8)]:(jM (Zd mz)).Ok prog:=by
 refine UX ?_;rintro⟨m_,s_,w_⟩ r0 aa;refine zY true func84 λE hE=>?_;obtain c0|c0:=zC aa
 ·cases c0.2;exact yE hE [Ha (lnM s7 w_),c0]
 obtain⟨fc,h0,r_,h1,aa⟩:=ya c0.2;obtain⟨g0,aa⟩:=gdE aa;obtain⟨ai,h2,aa⟩:=zn aa;cases aa;exact yE (H:=zx ((zp3 zu zi1).or X0)) hE [Ha (lnM s7 w_),c0,Hi s7 h0,zC3 1 h1,Hn (slA g0),Hn (zjY s7 g0),Ha (slE 1 false s7 w_ (1:Int).toNat),Hc (hat 0 (s:=jM mz)) (x:=(m_,r_.o,(w_.drop (1:Int).toNat))) h2 (loC xe m_<|loC s7 r_.o<|loC F8_ (w_.drop (1:Int).toNat)<|loN)]
def z4p [H:HS X0 l8]:OkH l9:=by
 have H:∀n,(jM (Zc n)).Ok prog:=by
  intro n;induction n with
  |zero=>exact UX λ_ _ h=>nomatch (show none=some _ from h)
  |succ n ih=>exact z1y _ (H:=za _ ih)
 exact zO3 λa b c r h=>zaj (x:=(a,b,c)) (H _) h
def l10:List y7:=uR 152 F8_ s7 F7_ X4::l9
def z5w [H:HS X0 l9]:OkH l10:=yS2 true func152 λw_ inputs r0 aa E hE=>by
 obtain⟨g0,aa⟩:=gdE aa;refine yK 111 [] [5] (zI YN r0) (λz=>[(5,.own (eOs 1 false s7 z))]) [1,5] [Hn (dM s7 w_),Hn (aL s7 s7 g0),Hl (aM0 s7 w_),Hh (.cut 0)] ?_ λJ1 ar=>?_
 ·rintro out aa;obtain⟨g1,aa⟩:=gdE aa;cases aa;exact yE hE [Hq (dM s7 ([0]:TB)),Hn (dM s7 ([0]:TB)),Hn (aL s7 s7 g1),Hl (aM s7 out ([0]:TB))]
 refine yMb 111210 [J1] [1,5,6] (λx=>[(5,.own (eOs 1 false s7 x.1)),(6,.d (I x.2))]) aa  [Ha (lnM s7 w_)] λt2 aa ⟨aj,k_⟩ m2 av ae hl1 J2 au=>?_;obtain c0|c0:=zC ae
 ·obtain⟨dn,h0,ae⟩:=zn c0.2;let Z0:List HO:=[c0,Hn (iL s7 h0),Hs (iM s7 h0)];obtain c1|c1:=zC ae
  ·obtain⟨jr,h1,o7,h2,ae⟩:=ya c1.2;cases ae;cases hl1;cases aa;exact yE hE (Z0++[c1,Hn (iL s7 h1),Hs (iM s7 h1),Hn (iL s7 h2),Hs (iM s7 h2),Hs (iM s7 h2),Hl (sM s7 aj k_ (w64 (jr+1)))])
  obtain⟨o8,h3,ae⟩:=zn c1.2;cases ae;exact yB au _ hl1 (Z0++[c1,Hn (iL s7 h3),Hs (iM s7 h3),Hs (iM s7 h3),Hl (sM s7 aj k_ 0)])
 cases c0.2;cases hl1;exact yB ar aj aa [c0]
def l11:List y7:=uR 122 xe s7 (eT2 z6W (eSl 1 true eB)) VD::l10
def z5k:XH prog:=((X8 zu (.inr 48) [8]).or X0)
def z4n [H:HS z5k l10]:OkH l11:=yS2 false func122 λm_ from_ r0 aa E hE=>by
 obtain⟨g0,aa⟩:=gdE aa;obtain⟨g1,aa⟩:=gdE aa;refine yK 1111 [] [6,7] (λz:TA×List Bool=>WD z.1 z.2=some r0) (λz=>[(6,.own (eOs 1 true F8_ z.1)),(7,.own (eOs 1 true eB z.2))]) [1,2,6,7] [Ha (lnM xZ m_.i),Hn (rL g0),Ha (rM 1 F5_ ((m_.i.length:Nat):Int) ([]:TB)),Hh (.v 0 [6]),Hm (shM F5_ F4_ (List.replicate ((m_.i.length:Nat):Int).toNat ([]:TB))),Ha (lnM xZ m_.i),Hn (rL g1),Ha (rM 1 eB ((m_.i.length:Nat):Int) false),Hh (.cut 0)] ?_ λJ1 ar=>?_
 ·rintro⟨l_,is⟩ aa;cases aa;exact yE hE [Hm (shM F8_ F8_ l_),Hm (shM eB eB is)]
 obtain⟨t2,ht2,aa⟩:=zn aa;refine yMx 1111210 [J1] [1,2,6,7,8] (λx=>[(6,.own (eOs 1 true F8_ x.1)),(7,.own (eOs 1 true eB x.2.1)),(8,.own (eOs 1 false s7 x.2.2))]) ht2 [(6,.own (eOs 1 true F4_ (List.replicate ((m_.i.length:Nat):Int).toNat ([]:TB)))),(7,.own (eOs 1 true eB (List.replicate ((m_.i.length:Nat):Int).toNat false))),(8,.own (eOs 1 true s7 []))] [] λ⟨dr,ii,w_⟩ m2 av ae hl1 J2 au=>?_;let Z0:List HO:=[Ha (lnM s7 w_),Ha (lnM xZ m_.i)];obtain c0|c0:=zC ae
 ·refine yNs 111121001 [J1,J2] [1,2,6,7,8] (λz:TA×List Bool=>uD m_ w_ z.1 z.2=some av) (λz=>[(6,.own (eOs 1 true F8_ z.1)),(7,.own (eOs 1 true eB z.2))]) (Z0++[c0,Hh (.n 1 [8]),Hm (shM s7 s7 w_),Hh (.cut 0)]) ?_ λJ3 bg=>?_
  ·rintro⟨j6,p0⟩ ae;obtain⟨r_,h0,ae⟩:=zn ae;cases ae;exact yB au _ hl1 [zC2 0 h0]
  obtain⟨ai,h1,ae⟩:=zn c0.2;let Z1:List HO:=[zC3 1 h1];obtain c1|c1:=zC ae
  ·obtain⟨pq,h2,ae⟩:=zn c1.2;let Z2:List HO:=(Z1++[c1,c1,c1,Hn (iL eB h2),c1,Hs (iM eB h2),c1,c1]);obtain c2|c2:=zC ae
   ·obtain⟨r8,h3,bi,h4,ae⟩:=ya c2.2;exact yB bg ((dr.set ai.toNat w_),(ii.set ai.toNat true)) ae (Z2++[c2,Hn (iL eB h3),Hs (iM eB h3),Hs (iM eB h3),Hl (sM eB ii ai true),Hn (iL F8_ h4),Hs (iM F8_ h4),Hs (iM F8_ h4),Hl (sM F8_ dr ai w_)])
   exact yB bg (dr,ii) c2.2 (Z2++[c2])
  exact yB bg (dr,ii) c1.2 (Z1++(rpN 6 (Hb c1) [qF]))
 cases c0.2;cases hl1;exact yB ar (dr,ii) aa (Z0++[c0])
def l12:List y7:=Yo 81 xe (eT2 z6W (eSl 1 true eB)) Yf::l11
def z38 [H:HS X0 l11]:OkH l12:=yS1 false func81 λm_ r0 aa E hE=>by obtain⟨r_,h0,aa⟩:=zn aa;cases aa;exact yE hE [zC2 0 h0]
def l13:List y7:=uR 143 F8_ F8_ s7 QI::l12
def z5x [H:HS X0 l12]:OkH l13:=yS2 true func143 λa_ b_ r0 aa E hE=>by
 let Z0:List HO:=[Ha (lnM s7 a_),Ha (lnM s7 b_)];obtain c0|c0:=zC aa
 ·let Z1:List HO:=(Z0++[c0,Ha (lnM s7 a_),Ha (lnM s7 b_)]);obtain c1|c1:=zC c0.2
  ·cases c1.2;exact yE hE (Z1++[c1])
  cases c1.2;exact yE hE (Z1++[c1])
 refine yK 111 [] [] (λz:Unit=>Kw=some r0) (λz=>[]) [0,1] (Z0++[c0,Hh (.cut 0)]) ?_ λJ1 ar=>?_
 ·rintro⟨⟩ aa;cases aa;exact yE hE []
 refine yMb 111210 [J1] [0,1,5] (λx=>[(5,.d (I x))]) c0.2  [] λt2 aa i_ m2 av ae hl1 J2 au=>?_;obtain c2|c2:=zC ae
 ·obtain⟨dv,h0,dx,h1,ae⟩:=ya c2.2;let Z2:List HO:=[Ha (lnM s7 a_),c2,Hi s7 h0,Hi s7 h1];obtain c3|c3:=zC ae
  ·obtain⟨i6,h2,l6,h3,ae⟩:=ya c3.2;let Z3:List HO:=(Z2++[c3,Hi s7 h2,Hi s7 h3]);obtain c4|c4:=zC ae
   ·cases c4.2;cases hl1;cases aa;exact yE hE (Z3++[c4])
   cases c4.2;cases hl1;cases aa;exact yE hE (Z3++[c4])
  cases c3.2;exact yB au _ hl1 (Z2++[c3])
 cases c2.2;cases hl1;exact yB ar () aa [Ha (lnM s7 a_),c2]
def l14:List y7:=Yo 109 xe F7_ VE::l13
abbrev z0w (out:TB):List (Nat×T):=[(5,.own (eOs 1 false s7 out))]
abbrev z0v (r_:TA×List Bool)(s_:Int)(ax:TB):List (Nat×T):=[(3,.d (eSl 1 true F8_ r_.1)),(4,.d (eSl 1 true eB r_.2)),(5,.own (eOs 1 false s7 ax)),(6,.d (I s_))]
abbrev z0u (r_:TA×List Bool)(aj:TB)(s_:Int)(k_:Int):List (Nat×T):=[(3,.d (eSl 1 true F8_ r_.1)),(4,.d (eSl 1 true eB r_.2)),(5,.own (eOs 1 false s7 aj)),(6,.d (I s_)),(7,.d (I k_))]
abbrev z0s (r_:TA×List Bool)(aj:TB)(s_:Int)(de:Int):List (Nat×T):=[(3,.d (eSl 1 true F8_ r_.1)),(4,.d (eSl 1 true eB r_.2)),(5,.own (eOs 1 false s7 aj)),(6,.d (I s_)),(7,.d (I de))]
abbrev z0t (r_:TA×List Bool)(aj:TB)(s_:Int):List (Nat×T):=[(3,.d (eSl 1 true F8_ r_.1)),(4,.d (eSl 1 true eB r_.2)),(5,.own (eOs 1 false s7 aj)),(6,.d (I s_))]
def z5l:XH prog:=((X8 zu (.inl 49) []).or ((X8 zu (.inl 47) [5]).or X0))
def z4o [H:HS z5l l13]:OkH l14:=yS1 true func109 λm_ r0 aa E hE=>by
 obtain⟨r_,h0,aa⟩:=zn aa;refine yJ 1111 [] [5] (λz:TB=>WE z=some r0) (λz=>z0w z) [(3,.d (eSl 1 true F8_ r_.1)),(4,.d (eSl 1 true eB r_.2)),(5,.own (eOs 1 true s7 []))] [zC1 1 h0,Hh (.cut 1)] ?_ λJ1 ar=>?_
 ·rintro out aa;unfold WE at aa;obtain rfl:=w9 aa;exact yE hE []
 obtain⟨t2,ht2,aa⟩:=zn aa;refine yLx 1111210 [J1] (λs=>jE r_ s.1 s.2) (λx=>z0t r_ x.1 x.2) (([]:TB),0) ht2 [(3,.d (eSl 1 true F8_ r_.1)),(4,.d (eSl 1 true eB r_.2)),(5,.own (eOs 1 true s7 [])),(6,.d (I 0))] inferInstance [] λ⟨aj,s_⟩ m2 av ae hl1 J2 au=>?_;try unfold jE at ae
 let Z0:List HO:=[Ha (lnM F8_ r_.1)];obtain c0|c0:=zC ae
 ·refine yJ 111121001 [J1,J2] [3,4,5,6] (λz:TB=>uE s_ z=some av) (λz=>z0v r_ s_ z) [(3,.d (eSl 1 true F8_ r_.1)),(4,.d (eSl 1 true eB r_.2)),(5,.own (eOs 1 false s7 aj)),(6,.d (I s_))] (Z0++[c0,Hh (.cut 0)]) ?_ λJ3 bg=>?_
  ·rintro ax ae;unfold uE at ae;obtain rfl:=w9 ae;exact yB au _ hl1 []
  obtain⟨u_,h1,ae⟩:=zn c0.2;obtain c1|c1:=zC ae
  ·exact yB bg aj c1.2 [Hi eB h1,c1]
  refine yJ 1111210012011 [J1,J2,J3] [3,4,5,6,7] (λz:Int=>ZV aj s_ z=some av) (λz=>z0u r_ aj s_ z) [(3,.d (eSl 1 true F8_ r_.1)),(4,.d (eSl 1 true eB r_.2)),(5,.own (eOs 1 false s7 aj)),(6,.d (I s_)),(7,.d (I 0))] [Hi eB h1,c1,Hh (.cut 1)] ?_ λJ4 db=>?_
  ·rintro k_ ae;unfold ZV at ae;obtain⟨g0,ae⟩:=gdE ae;obtain⟨g1,ae⟩:=gdE ae;obtain⟨g2,ae⟩:=gdE ae;obtain⟨g3,ae⟩:=gdE ae;obtain⟨g4,ae⟩:=gdE ae;exact yB bg ((((aj.drop 0).take (k_.toNat-0))++[s_])++(aj.drop k_.toNat)) ae [Hm (shM s7 s7 aj),Hn (slB g0),Hn (zdL s7 g0),Ha (slM 1 false s7 aj 0 k_.toNat),Hn (dM s7 ((aj.drop 0).take (k_.toNat-0))),Hn (aL s7 s7 g1),Hl (aM0 s7 ((aj.drop 0).take (k_.toNat-0))),Hq (dM s7 [s_]),Hn (dM s7 [s_]),Hn (aL s7 s7 g2),Hl (aM s7 ((aj.drop 0).take (k_.toNat-0)) [s_]),Hn (slA g3),Hn (zjY s7 g3),Ha (slE 1 false s7 aj k_.toNat),Hn (dM s7 (aj.drop k_.toNat)),Hn (aL s7 s7 g4),Hl (aM s7 (((aj.drop 0).take (k_.toNat-0))++[s_]) (aj.drop k_.toNat))]
  obtain⟨t5,ht5,ae⟩:=zn c1.2;refine yL 111121001201120 [J1,J2,J3,J4] (λs=>jD r_ aj s_ s) (λx=>z0s r_ aj s_ x) 0 ht5  [] λde m5 dj ah hl2 J5 dc=>?_;try unfold jD at ah;obtain c2|c2:=zC ah
  ·obtain⟨dn,h2,qp,h3,qq,h4,ai,h5,ah⟩:=z6P c2.2;let Z1:List HO:=(Ha (lnM s7 aj)::(rpN 4 (Hb c2) (Hn (iL s7 h2)::Hb c2::Hs (iM s7 h2)::Hb c2::Hi F8_ h3::(rpN 4 (Hb c2) [Hi F8_ h4,c2,c2,zC2 0 h5,c2,c2]))));obtain c3|c3:=zC ah
   ·obtain rfl:=w9 c3.2;exact yB dc _ hl2 (Z1++[c3])
   obtain rfl:=w9 c3.2;obtain rfl:=hl2;exact yB db de ae (Z1++[c3])
  obtain rfl:=w9 c2.2;obtain rfl:=hl2;exact yB db de ae (Ha (lnM s7 aj)::(rpN 14 (Hb c2) [qF]))
 obtain rfl:=w9 c0.2;obtain rfl:=hl1;exact yB ar aj aa (Z0++[c0])
def l15:List y7:=Yo 66 xe F7_ kA::l14
def z34 [H:HS X0 l14]:OkH l15:=yS1 true func66 λm_ r0 aa E hE=>by
 obtain⟨r_,h0,ai,h1,aa⟩:=ya aa;refine yK 11111 [] [5] (zI Xw r0) (λz=>[(5,.own (eOs 1 false s7 z))]) [3,4,5] [zC1 7 h0,zC1 0 h1,Hh (.cut 1)] ?_ λJ1 ar=>?_
 ·rintro out aa;cases aa;exact yE hE []
 obtain⟨t2,ht2,aa⟩:=zn aa;refine yMx 11111210 [J1] [3,4,5,6] (λx=>[(5,.own (eOs 1 false s7 x.1)),(6,.d (I x.2))]) ht2 [(5,.own (eOs 1 true s7 [])),(6,.d (I 0))] [] λ⟨aj,k_⟩ m2 av ae hl1 J2 au=>?_;obtain c0|c0:=zC ae
 ·refine yNs 1111121001 [J1,J2] [3,4,5,6] (zI (qo k_) av) (λz=>[(5,.own (eOs 1 false s7 z))]) [Ha (lnM s7 ai),c0,Hh (.cut 0)] ?_ λJ3 bg=>?_
  ·rintro ax ae;cases ae;exact yB au _ hl1 []
  refine yNs 1111121001201 [J1,J2,J3] [3,4,5,6,7] (zI (Xv ai aj k_) av) (λz=>[(7,.d (I z))]) [Hh (.cut 1)] ?_ λJ4 db=>?_
  ·rintro there ae;obtain c1|c1:=zC ae
   ·obtain⟨dm,h2,ae⟩:=zn c1.2;obtain⟨g0,ae⟩:=gdE ae;exact yB bg (aj++[dm]) ae [c1,Hn (iL s7 h2),Hs (iM s7 h2),Hq (dM s7 [dm]),Hn (dM s7 [dm]),Hn (aL s7 s7 g0),Hl (aM s7 aj [dm])]
   exact yB bg aj c1.2 [c1]
  refine yMb 1111121001201210 [J1,J2,J3,J4] [3,4,5,6,7,8] (λx=>[(7,.d (I x.1)),(8,.d (I x.2))]) c0.2  [] λt5 ae ⟨ee,n_⟩ m5 dj ah hl2 J5 dc=>?_;obtain c2|c2:=zC ah
  ·refine yNs 111112100120121001 [J1,J2,J3,J4,J5] [3,4,5,6,7,8] (zI (kX n_) dj) (λz=>[(7,.d (I z))]) [c2,Hh (.cut 0)] ?_ λJ6 ep=>?_
   ·rintro nc ah;cases ah;exact yB dc _ hl2 []
   obtain⟨ip,h3,n9,h4,oa,h5,qr,h6,ah⟩:=z6P c2.2;let Z0:List HO:=[Hn (iL s7 h3),Hs (iM s7 h3),Hn (iL s7 h4),Hs (iM s7 h4),Hn (iL s7 h5),Hs (iM s7 h5),Hn (iL s7 h6),Hs (iM s7 h6)];obtain c3|c3:=zC ah
   ·exact yB ep 1 c3.2 (Z0++[c3])
   exact yB ep ee c3.2 (Z0++[c3])
  cases c2.2;cases hl2;exact yB db ee ae [c2]
 cases c0.2;cases hl1;exact yB ar aj aa [Ha (lnM s7 ai),c0]
def l16:List y7:=uR 110 xe s7 (eOs 1 true eB) YO::l15
def z1x [H:HS X0 l15]:OkH l16:=yS2 true func110 λm_ from_ r0 aa E hE=>by
 obtain⟨g0,aa⟩:=gdE aa;obtain⟨mj,h0,aa⟩:=zn aa;refine yK 1111 [] [5] (zI YC r0) (λz=>[(5,.own (eOs 1 true eB z))]) [2,5] [Ha (lnM xZ m_.i),Hn (rL g0),Ha (rM 1 eB ((m_.i.length:Nat):Int) false),Hn (iL eB h0),Hs (iM eB h0),Hs (iM eB h0),Hl (sM eB (List.replicate ((m_.i.length:Nat):Int).toNat false) from_ true),Hh (.cut 0)] ?_ λJ1 ar=>?_
 ·rintro out aa;cases aa;exact yE hE []
 refine yMb 1111210 [J1] [2,5,6] (λx=>[(5,.own (eOs 1 true eB x.1)),(6,.d (I x.2))]) aa  [] λt2 aa ⟨aj,round⟩ m2 av ae hl1 J2 au=>?_;let Z0:List HO:=[Ha (lnM xZ m_.i)];obtain c0|c0:=zC ae
 ·refine yNs 111121001 [J1,J2] [2,5,6] (zI (YB round) av) (λz=>[(5,.own (eOs 1 true eB z))]) (Z0++[c0,Hh (.cut 0)]) ?_ λJ3 bg=>?_
  ·rintro ax ae;cases ae;exact yB au _ hl1 []
  refine yMb 1111210012010 [J1,J2,J3] [2,5,6,7] (λx=>[(5,.own (eOs 1 true eB x.1)),(7,.d (I x.2))]) c0.2  [] λt4 ae ⟨bo,s_⟩ m4 dj ah hl2 J4 db=>?_;let Z1:List HO:=[Ha (lnM xZ m_.i)];obtain c1|c1:=zC ah
  ·refine yNs 111121001201001 [J1,J2,J3,J4] [2,5,6,7] (zI (YA s_) dj) (λz=>[(5,.own (eOs 1 true eB z))]) (Z1++[c1,Hh (.cut 0)]) ?_ λJ5 dc=>?_
   ·rintro gx ah;cases ah;exact yB db _ hl2 []
   refine yMb 1111210012010012010 [J1,J2,J3,J4,J5] [2,5,6,7,8] (λx=>[(5,.own (eOs 1 true eB x.1)),(8,.d (I x.2))]) c1.2  [] λt6 ah ⟨kg,i_⟩ m6 nb aw hl3 J6 ep=>?_;obtain c2|c2:=zC aw
   ·refine yNs 111121001201001201001 [J1,J2,J3,J4,J5,J6] [2,5,6,7,8] (zI (uu i_) nb) (λz=>[(5,.own (eOs 1 true eB z))]) [c2,Hh (.cut 0)] ?_ λJ7 gw=>?_
    ·rintro o9 aw;cases aw;exact yB ep _ hl3 []
    obtain⟨ap,h1,al,h2,dn,h3,aw⟩:=jI c2.2;let Z2:List HO:=[Hi xZ h1,Hi uS h2,Hn (iL eB h3),Hs (iM eB h3)];obtain c3|c3:=zC aw
    ·obtain c4|c4:=zC c3.2
     ·obtain⟨jr,h4,aw⟩:=zn c4.2;exact yB gw (kg.set al.o.toNat true) aw (Z2++[c3,c3,c3,c4,Hn (iL eB h4),Hs (iM eB h4),Hs (iM eB h4),Hl (sM eB kg al.o true)])
     exact yB gw kg c4.2 (Z2++[c3,c3,c3,c4])
    exact yB gw kg c3.2 (Z2++[c3,c3,c3,qF])
   cases c2.2;cases hl3;exact yB dc kg ah [c2]
  cases c1.2;cases hl2;exact yB bg bo ae (Z1++[c1])
 cases c0.2;cases hl1;exact yB ar aj aa (Z0++[c0])
def l17:List y7:=Yo 67 xe F7_ Ku::l16
def z7b [H:HS X0 l16]:OkH l17:=yS1 true func67 λm_ r0 aa E hE=>by
 obtain⟨r_,h0,ai,h1,ak,h2,aa⟩:=jI aa;refine yK 111111 [] [6] (zI Qg r0) (λz=>[(6,.own (eOs 1 false s7 z))]) [3,4,5,6] [zC1 9 h0,zC1 1 h1,zC2 0 h2,Hh (.cut 1)] ?_ λJ1 ar=>?_
 ·rintro out aa;cases aa;exact yE hE []
 obtain⟨t2,ht2,aa⟩:=zn aa;refine yMx 111111210 [J1] [3,4,5,6,7] (λx=>[(6,.own (eOs 1 false s7 x.1)),(7,.d (I x.2))]) ht2 [(6,.own (eOs 1 true s7 [])),(7,.d (I 0))] [] λ⟨aj,s_⟩ m2 av ae hl1 J2 au=>?_;obtain c0|c0:=zC ae
 ·refine yNs 11111121001 [J1,J2] [3,4,5,6,7] (zI (Qe s_) av) (λz=>[(6,.own (eOs 1 false s7 z))]) [Ha (lnM s7 r_),c0,Hh (.cut 0)] ?_ λJ3 bg=>?_
  ·rintro ax ae;cases ae;exact yB au _ hl1 []
  refine yNs 11111121001201 [J1,J2,J3] [3,4,5,6,7,8] (zI (Qd aj s_) av) (λz=>[(8,.d (I z))]) [Hh (.cut 1)] ?_ λJ4 db=>?_
  ·rintro k_ ae;obtain⟨g0,ae⟩:=gdE ae;exact yB bg (aj++[k_]) ae [Hq (dM s7 [k_]),Hn (dM s7 [k_]),Hn (aL s7 s7 g0),Hl (aM s7 aj [k_])]
  refine yMb 11111121001201210 [J1,J2,J3,J4] [3,4,5,6,7,8,9] (λx=>[(8,.d (I x.1)),(9,.d (I x.2))]) c0.2  [] λt5 ae ⟨de,n_⟩ m5 dj ah hl2 J5 dc=>?_;obtain c1|c1:=zC ah
  ·refine yNs 1111112100120121001 [J1,J2,J3,J4,J5] [3,4,5,6,7,8,9] (zI (Ye n_) dj) (λz=>[(8,.d (I z))]) [Ha (lnM s7 ai),c1,Hh (.cut 0)] ?_ λJ6 ep=>?_
   ·rintro kj ah;cases ah;exact yB dc _ hl2 []
   obtain⟨dm,h3,ah⟩:=zn c1.2;let Z0:List HO:=[Hn (iL eB h3),Hs (iM eB h3)];obtain c2|c2:=zC ah
   ·obtain⟨ip,h4,n9,h5,oa,h6,ah⟩:=jI c2.2;let Z1:List HO:=(Z0++(rpN 4 (Hb c2) [Hn (iL s7 h4),c2,Hs (iM s7 h4),c2,Hn (iL s7 h5),c2,Hs (iM s7 h5),c2,c2,c2,Hn (iL s7 h6),c2,Hs (iM s7 h6),c2,c2]));obtain c3|c3:=zC ah
    ·exact yB ep n_ c3.2 (Z1++[c3])
    exact yB ep de c3.2 (Z1++[c3])
   exact yB ep de c2.2 (Z0++(rpN 13 (Hb c2) [qF]))
  cases c1.2;cases hl2;exact yB db de ae [Ha (lnM s7 ai),c1]
 cases c0.2;cases hl1;exact yB ar aj aa [Ha (lnM s7 r_),c0]
def l18:List y7:=Yo 33 xe xe YM::l17
def z1v [H:HS X0 l17]:OkH l18:=yS1 false func33 λm_ r0 aa E hE=>by
 obtain⟨r_,h0,ai,h1,aa⟩:=ya aa;refine yN 11111 [] [2,5] (zI (Yx m_) r0) (λz=>[(5,.own (.box (.agg [I m_.j,I m_.m,eOs 1 false YH z])))]) [1,2,3,4,5] [zC1 2 h0,zC1 0 h1,Hh (.cut 1)] ?_ λJ1 ar=>?_
 ·rintro gy aa;cases aa;exact yE hE [Hm (shM YH xZ gy)]
 obtain⟨t2,ht2,aa⟩:=zn aa;refine yMx 11111210 [J1] [1,2,3,4,5,6] (λx=>[(5,.own (.box (.agg [I m_.j,I m_.m,eOs 1 false YH x.1]))),(6,.d (I x.2))]) ht2 [(5,.own (.box (.agg [I m_.j,I m_.m,eOs 1 true YH []]))),(6,.d (I 0))] [] λ⟨bt,k_⟩ m2 av ae hl1 J2 au=>?_;obtain c0|c0:=zC ae
 ·refine yNs 1111121001 [J1,J2] [1,2,3,4,5,6] (zI (Yw k_) av) (λz=>[(5,.own (.box (.agg [I m_.j,I m_.m,eOs 1 false YH z])))]) [Ha (lnM s7 r_),c0,Hh (.cut 0)] ?_ λJ3 bg=>?_
  ·rintro gp ae;cases ae;exact yB au _ hl1 []
  refine yNs 1111121001201 [J1,J2,J3] [1,2,3,4,5,6,7] (zI (Yv bt k_) av) (λz=>[(7,.own (eOs 2 false uS z))]) [Hh (.cut 1)] ?_ λJ4 db=>?_
  ·rintro row ae;obtain⟨g0,ae⟩:=gdE ae;exact yB bg (bt++[row]) ae [Hq (oC YH row []),Hn (aL YH YH g0),Hl (aM YH bt [row])]
  obtain⟨t5,ht5,ae⟩:=zn c0.2;refine yMx 1111121001201210 [J1,J2,J3,J4] [1,2,3,4,5,6,7,8] (λx=>[(7,.own (eOs 2 false uS x.1)),(8,.d (I x.2))]) ht5 [(7,.own (eOs 2 true uS [])),(8,.d (I 0))] [] λ⟨bu,i_⟩ m5 dj ah hl2 J5 dc=>?_;obtain c1|c1:=zC ah
  ·obtain⟨dm,h2,ap,h3,al,h4,ah⟩:=jI c1.2;refine yNs 111112100120121001001 [J1,J2,J3,J4,J5] [1,2,3,4,5,6,7,8,9] (zI (ut bu i_ al) dj) (λz=>[(9,.own (.box (.agg [I z,I al.r])))]) [c1,Hn (iL s7 h2),Hs (iM s7 h2),Hi xZ h3,Hi uS h4,Hh (.cut 0)] ?_ λJ6 ep=>?_
   ·rintro gz ah;obtain⟨g1,ah⟩:=gdE ah;cases ah;exact yB dc _ hl2 [Hq (dM uS [(z8.mk gz al.r)]),Hn (dM uS [(z8.mk gz al.r)]),Hn (aL uS uS g1),Hl (aM uS bu [(z8.mk gz al.r)])]
   obtain c2|c2:=zC ah
   ·obtain⟨ip,h5,ah⟩:=zn c2.2;exact yB ep ip ah [c2,Hn (iL s7 h5),Hs (iM s7 h5)]
   exact yB ep al.o c2.2 [c2]
  cases c1.2;cases hl2;exact yB db bu ae [c1]
 cases c0.2;cases hl1;exact yB ar bt aa [Ha (lnM s7 r_),c0]
def l19:List y7:=Yo 9 zoV xe QR::l18
def z5B [H:HS X0 l18]:OkH l19:=yS1 false func9 λx_ r0 aa E hE=>by obtain⟨g0,aa⟩:=gdE aa;obtain⟨r_,h0,ai,h1,aa⟩:=ya aa;cases aa;exact yE hE [Hn g0,zC1 16 h0,zC1 0 h1]
def l20:List y7:=ziA 124 uS ug::l19
def z1A [H:HS X0 l19]:OkH l20:=yS0 false func124 λr0 aa E hE=>by cases aa;exact yE hE []
def l21:List y7:=uR 88 xe uS eB YR::l20
def z1B [H:HS X0 l20]:OkH l21:=yS2 true func88 λm_ x_ r0 aa E hE=>by
 obtain⟨r_,h0,aa⟩:=zn aa;let Z0:List HO:=[zC0 0 h0];obtain c0|c0:=zC aa
 ·cases c0.2;exact yE hE (Z0++(rpN 10 (Hb c0) []))
 let Z1:List HO:=(Z0++(rpN 4 (Hb c0) []));obtain c1|c1:=zC c0.2
 ·let Z2:List HO:=(Z1++(rpN 5 (Hb c1) [Ha (lnM xZ m_.i),c1,c0,c1,c0]));obtain c2|c2:=zC c1.2
  ·let Z3:List HO:=(Z2++[c2,c2,c2,c0,c2,c0]);obtain c3|c3:=zC c2.2
   ·cases c3.2;exact yE hE (Z3++(rpN 5 (Hb c3) [c0,c3,c0]))
   cases c3.2;exact yE hE (Z3++(rpN 5 (Hb c3) [c0,c3,c0]))
  cases c2.2;exact yE hE (Z2++(Hb c2::Hb c2::Hb c2::Hb c0::Hb c2::Hb c0::(rpN 5 qF [c0,qF,c0])))
 cases c1.2;exact yE hE (Z1++(rpN 6 (Hb c1) (Hb c0::Hb c1::Hb c0::qF::qF::qF::Hb c0::qF::Hb c0::(rpN 5 qF [c0,qF,c0]))))
def l22:List y7:=uR 87 uS z43 eB YE::l21
def K8 [H:HS X0 l21]:OkH l22:=yS2 true func87 λx_ x1 r0 aa E hE=>by obtain⟨r_,h0,aa⟩:=zn aa;cases aa;exact yE hE [zC2 0 h0]
def l23:List y7:=uR 123 xZ (KW 87 z43) s7 xm::l22
def ji [H:HS X0 l22]:OkH l23:=yS2 true func123 λs_ f_ r0 aa E hE=>by
 refine yK 11 [] [] (λz:Unit=>wk=some r0) (λz=>[]) [0,1] [Hh (.cut 1)] ?_ λJ1 ar=>?_
 ·rintro⟨⟩ aa;cases aa;exact yE hE []
 refine yMb 11210 [J1] [0,1,7,8] (λx=>[(8,.d (I x))]) aa  [Ha (lnM uS s_)] λt2 aa x8 m2 av ae hl1 J2 au=>?_;obtain c0|c0:=zC ae
 ·obtain⟨eb,h0,r_,h1,ae⟩:=ya c0.2;let Z0:List HO:=[c0,Hi uS h0,zC2 0 h1];obtain c1|c1:=zC ae
  ·cases c1.2;cases hl1;cases aa;exact yE hE (Z0++[c1])
  cases c1.2;exact yB au _ hl1 (Z0++[c1])
 cases c0.2;cases hl1;exact yB ar () aa [c0]
def l24:List y7:=uR 86 xZ (KW 87 z43) eB yd::l23
def uU [H:HS X0 l23]:OkH l24:=yS2 true func86 λs_ f_ r0 aa E hE=>by obtain⟨r_,h0,aa⟩:=zn aa;cases aa;exact yE hE [zC2 0 h0]
def l25:List y7:=Yo 53 xe s7 xq::l24
def z10 [H:HS X0 l24]:OkH l25:=yS1 true func53 λm_ r0 aa E hE=>by
 obtain c0|c0:=zC aa
 ·cases c0.2;exact yE hE (rpN 4 (Hb c0) (rpN 6 qT []))
 let Z0:List HO:=(rpN 4 (Hb c0) []);obtain c1|c1:=zC c0.2
 ·cases c1.2;exact yE hE (Z0++(rpN 5 (Hb c1) [qT]))
 let Z1:List HO:=(Z0++[c1,c1,c1,Ha (lnM xZ m_.i),c1,c1]);obtain c2|c2:=zC c1.2
 ·cases c2.2;exact yE hE (Z1++[c2])
 obtain c3|c3:=zC c2.2
 ·cases c3.2;exact yE hE (Z1++(Hb c2::(rpN 4 (Hb c3) (rpN 6 qT []))))
 let Z2:List HO:=(Z1++(Hb c2::(rpN 4 (Hb c3) [])));obtain c4|c4:=zC c3.2
 ·cases c4.2;exact yE hE (Z2++(rpN 5 (Hb c4) [qT]))
 let Z3:List HO:=(Z2++[c4,c4,c4,Ha (lnM xZ m_.i),c4,c4]);obtain c5|c5:=zC c4.2
 ·cases c5.2;exact yE hE (Z3++[c5])
 refine yK 1111 [] [] (λz:Unit=>V9=some r0) (λz=>[]) [1] (Z3++[c5,Hh (.cut 0)]) ?_ λJ1 ar=>?_
 ·rintro⟨⟩ aa;cases aa;exact yE hE []
 refine yMb 1111210 [J1] [1,34,35,36] (λx=>[(36,.d (I x))]) c5.2  [Ha (lnM xZ m_.i),Hh (.n 1 [1])] λt2 aa kl m2 av ae hl1 J2 au=>?_;obtain c6|c6:=zC ae
 ·obtain⟨ap,h0,ae⟩:=zn c6.2;let Z4:List HO:=[c6,Hi xZ h0,Ha (lnM uS ap)];obtain c7|c7:=zC ae
  ·cases c7.2;cases hl1;cases aa;exact yE hE (Z4++(rpN 4 (Hb c7) [qT]))
  obtain⟨r_,h1,ae⟩:=zn c7.2;let Z5:List HO:=(Z4++[c7,c7,c7,zC2 0 h1,c7]);obtain c8|c8:=zC ae
  ·cases c8.2;cases hl1;cases aa;exact yE hE (Z5++[c8])
  cases c8.2;exact yB au _ hl1 (Z5++[c8])
 cases c6.2;cases hl1;exact yB ar () aa [c6]
def l26:List y7:=Yo 98 xe (zpE (zne s7 (KW 130 z43)) (zne s7 (KW 132 z43)) (zne s7 (KW 133 z43))) XD::l25
def z02 [H:HS X0 l25]:OkH l26:=yS1 false func98 λm_ r0 aa E hE=>by cases aa;exact yE hE []
def l27:List y7:=Yo 172 xe (KW 192 z43) WG::l26
def z0Z [H:HS X0 l26]:OkH l27:=yS1 true func172 λm_ r0 aa E hE=>by cases aa;exact yE hE []
variable {σ:Type}
abbrev UL (x0:z6)(YY:σ->z1n)(gi:Int)(js:σ):List (Nat×T):=[(0,.own (.opq (YY js).q)),(8,.d (eSl 1 false xZ x0.i)),(9,.d (I ((x0.i.length:Nat):Int))),(10,.d (I gi))]
abbrev UJ (x0:z6)(YY:σ->z1n)(gi:Int)(ap:List z8)(gg:σ)(ba:Int):List (Nat×T):=[(0,.own (.opq (YY gg).q)),(3,.d (I gi)),(8,.d (eSl 1 false xZ x0.i)),(9,.d (I ((x0.i.length:Nat):Int))),(10,.d (I gi)),(15,.d (eSl 2 false uS ap)),(16,.d (I ((ap.length:Nat):Int))),(17,.d (I ba))]
abbrev UK (x0:z6)(YY:σ->z1n)(dw:σ)(gi:Int):List (Nat×T):=[(0,.own (.opq (YY dw).q)),(8,.d (eSl 1 false xZ x0.i)),(9,.d (I ((x0.i.length:Nat):Int))),(10,.d (I gi))]
def K7 [H:HS X0 l27](x0:z6):z6V prog (.fn 192 [.sptr (.agg [I x0.j,I x0.m,eSl 1 false xZ x0.i])]) (λ(x:qY Int×z8) (_:Bool) (_:Value)=>[F0_ x.1,uS x.2]) (@jQ x0):=by
 refine z2m (tt:=wD) (nt:=f192.ntmps) (body:=zbd f192) zu func192 rfl (by kernel_rfl) rfl rfl (by show(2:Nat)<=31;decide) ?_;intro σ yv YY yy hy sg r0 aa E hE;obtain⟨t1,ht1,aa⟩:=zn aa;refine yL 110 [] (λs=>uh x0 yy s.1 s.2) (λx=>UK x0 YY x.1 x.2) (sg,0) ht1  [Ha (lnM xZ x0.i)] λ⟨dw,gi⟩ m1 av ae hl1 J1 ar=>?_;obtain c0|c0:=zC ae
 ·refine yKs 110011 [J1] [0,8,9,10] (zI (jU gi) av) (λz=>UL x0 YY gi z) [c0,Hh (.cut 0)] ?_ λJ2 au=>?_
  ·rintro js ae;cases ae;exact yB ar _ hl1 []
  obtain⟨ap,h0,t3,ht3,ae⟩:=ya c0.2;refine yL 11001120110 [J1,J2] (λs=>wM yy gi ap s.1 s.2) (λx=>UJ x0 YY gi ap x.1 x.2) (dw,0) ht3  [Hi xZ h0,Ha (lnM uS ap)] λ⟨gg,ba⟩ m3 dj ah hl2 J3 bg=>?_;obtain c1|c1:=zC ah
  ·obtain⟨al,h1,yr,h2,ah⟩:=ya c1.2;let Z0:List HO:=[c1,Hi uS h1,Hn (z1L (yv:=yv) (Y:=YY) (enc:=(λ(x:qY Int×z8) (_:Bool) (_:Value)=>[F0_ x.1,uS x.2])) (s:=gg) (x:=((qY.mk gi ba),al)) (s':=yr.1) (b:=yr.2) (v:=.nilFunc) [F0_ (qY.mk gi ba),uS al] (show Jp [F0_ (qY.mk gi ba),uS al] [F0_ (qY.mk gi ba),uS al] from inferInstance))];obtain c2|c2:=zC ah
   ·cases c2.2;cases hl2;cases ae;cases hl1;cases aa;exact yF (H:=zx ((UO (P:=prog) wD hy 27 (s:=gg) (x:=((qY.mk gi ba),al)) (s':=yr.1) (b:=yr.2) .nilFunc h2).or X0)) .ret [(0,.own (.opq (YY yr.1).q))] (Z0++[c2]) λst0 h0=>hE _ st0 (.inr rfl) h0
   cases c2.2;exact yB (H:=zx ((UO (P:=prog) wD hy 27 (s:=gg) (x:=((qY.mk gi ba),al)) (s':=yr.1) (b:=yr.2) .nilFunc h2).or X0)) bg _ hl2 (Z0++[c2])
  cases c1.2;cases hl2;exact yB au gg ae [c1]
 cases c0.2;cases hl1;cases aa;exact yF .normal [(0,.own (.opq (YY dw).q))] [c0] λst0 h0=>hE _ st0 (.inl rfl) h0
def l28:List y7:=Yo 173 (eSl 2 false F0_) (eSl 2 true F0_) ue::l27
def Wp [H:HS X0 l27]:OkH l28:=yS1 true func173 λs_ r0 aa E hE=>by obtain⟨g0,aa⟩:=gdE aa;cases aa;exact yE hE [Ha (lnM F0_ s_),Ha (lnM F0_ s_),Hn (slB g0),Hn (slC g0),Hn (zjZ F0_ g0),Ha (zo6 2 F0_ s_ 0 ((s_.length:Nat):Int).toNat)]
def l29:List y7:=Yo 158 xe (eSl 2 true F0_) Ze::l28
def Ja [H:HS X0 l28]:OkH l29:=yS1 true func158 λm_ r0 aa E hE=>by
 refine yK 111 [] [3] (zI qD r0) (λz=>[(3,.own (.box (eOs 2 false F0_ z)))]) [1,3] [Hh (.cut 2)] ?_ λJ1 ar=>?_
 ·rintro out aa;obtain⟨r_,h0,aa⟩:=zn aa;cases aa;exact yE hE [zg 0,Hm (shM F0_ F0_ out),Hs (zf1 0 h0 (loC (eSl 2 false F0_) out<|loN)),Hm (shM F0_ F0_ out)]
 obtain⟨ai,h1,t2,ht2,aa⟩:=ya aa;refine yAt (sub [1,1,2,1,0] (zbd f158)) (frs [1,1,2,1,0] [J1] (zbd f158) []) [(3,.own (.box (eOs 2 true F0_ []))),(7,.d (.fn 192 [.sptr (.agg [I ai.j,I ai.m,eSl 1 false xZ ai.i])]))] [zC1 1 h1] λst0 h0=>?_;refine z0o (g:=.tmp 7) (ps:=[8,9]) (assign:=(sub [1,1,2,1,0,0] (zbd f158))) (body:=(sub [1,1,2,1,0,1] (zbd f158))) (K:=192) (caps:=[.sptr (.agg [I ai.j,I ai.m,eSl 1 false xZ ai.i])]) (by kernel_rfl) [3,7] (λs=>[(3,.own (.box (eOs 2 false F0_ s))),(7,.d (.fn 192 [.sptr (.agg [I ai.j,I ai.m,eSl 1 false xZ ai.i])]))]) (λz=>nomatch z) (λz=>nomatch z) ((λ(x:qY Int×z8) (_:Bool) (_:Value)=>[F0_ x.1,uS x.2])) (F:=@jQ ai) (λs x=>yx s x.1 x.2) ([]:List (qY Int)) t2 _ h0 inferInstance (by kernel_rfl) (by decide) (λ_=>rfl) (by rintro⟨⟩) (by kernel_rfl) (λ_ _ _=>rfl) (K7 (H:=zd 1) ai) ht2 ?_ ?_
 ·rintro qg aj ⟨x8,x9⟩ vr av ae;replace ae:yx aj x8 x9=some av:=ae;refine yF .normal [(3,.own (.box (eOs 2 false F0_ aj))),(4,.own (.box (F0_ x8))),(5,.own (.box (uS x9))),(7,.d (.fn 192 [.sptr (.agg [I ai.j,I ai.m,eSl 1 false xZ ai.i])]))] [] λst0 h0=>⟨rfl,z5c h0 ?_⟩;obtain⟨ak,h2,ae⟩:=zn ae;let Z0:List HO:=[zC0 8 h2];obtain c0|c0:=zC ae
  ·obtain⟨g0,ae⟩:=gdE c0.2;cases ae;exact yF .normal ([(3,.own (.box (eOs 2 false F0_ (aj++[x8])))),(7,.d (.fn 192 [.sptr (.agg [I ai.j,I ai.m,eSl 1 false xZ ai.i])]))]) (Z0++[c0,Hq (dM F0_ [x8]),Hn (dM F0_ [x8]),Hn (aL F0_ F0_ g0),Hl (aM F0_ aj [x8])]) λst0 h0=>⟨rfl,_,h0,LeL.refl _⟩
  cases c0.2;exact yF .normal ([(3,.own (.box (eOs 2 false F0_ aj))),(7,.d (.fn 192 [.sptr (.agg [I ai.j,I ai.m,eSl 1 false xZ ai.i])]))]) (Z0++[c0]) λst0 h0=>⟨rfl,_,h0,LeL.refl _⟩
 rcases t2 with aj|z
 ·dsimp only at aa;exact XS (by kernel_rfl) (ar _ [(3,.own (.box (eOs 2 false F0_ aj)))] aj aa (show Own.canon [3] _=ofL _ by kernel_rfl) inferInstance)
 cases z
def l30:List y7:=Yo 131 xe (eT2 eB s7) qQ::l29
def JI [H:HS X0 l29]:OkH l30:=yS1 false func131 λm_ r0 aa E hE=>by
 obtain⟨r_,h0,aa⟩:=zn aa;let Z0:List HO:=[zC1 4 h0];obtain c0|c0:=zC aa
 ·cases c0.2;exact yE hE (Z0++[c0])
 obtain⟨ai,h1,aa⟩:=zn c0.2;cases aa;exact yE hE (Z0++[c0,zC1 0 h1,Ha (lnM F0_ ai)])
def l31:List y7:=Yo 130 z43 eB ZH::l30
def JH [H:HS X0 l30]:OkH l31:=yS1 true func130 λx0 r0 aa E hE=>by obtain⟨r_,h0,aa⟩:=zn aa;cases aa;exact yE hE [zC1 0 h0]
def Up [H:HS X0 l31](bz:Value)(md:Value)(me:Value):∀(fu:Nat) (s_:Int) (y0:List Bool) (y1:z6) (r0:List Bool×z6),yf fu s_ y0 y1=some r0->qH prog (.fn 144 [.atom bz,.atom md,.atom me]) [I s_] ([bz,md,me].zip [.box (eOs 1 true eB y0),.box (.agg [I y1.j,I y1.m,eSl 1 false xZ y1.i]),.box (.fn 144 [.atom bz,.atom md,.atom me])]) (.tup []) [.box (eOs 1 true eB r0.1),.box (.agg [I r0.2.j,I r0.2.m,eSl 1 false xZ r0.2.i]),.box (.fn 144 [.atom bz,.atom md,.atom me])]:=by
 intro fu;induction fu with
 |zero=>intro s_ y0 y1 r0 aa;exact nomatch (show none=some r0 from aa)
 |succ fu ih=>
  intro s_ y0 y1 r0 aa;replace aa:wP (yf fu) s_ y0 y1=some r0:=aa;generalize yf fu=mz at ih aa;refine z4Y (tt:=wD) (nt:=f144.ntmps) (body:=zbd f144) [1,2,3] zu func144 rfl (by kernel_rfl) rfl rfl (by show(4:Nat)<=33;decide) (by decide) rfl rfl (λE hE=>?_) rfl;obtain c0|c0:=zC aa
  ·cases c0.2;exact yF .ret [(1,.own (.box (eOs 1 true eB y0))),(2,.own (.box (.agg [I y1.j,I y1.m,eSl 1 false xZ y1.i]))),(3,.own (.box (.fn 144 [.atom bz,.atom md,.atom me])))] (rpN 5 (Hb c0) [qT]) λst0 h0=>hE _ st0 (.inr rfl) (XF h0 ⟨⟨rfl,rfl⟩,⟨⟨rfl,rfl⟩,⟨⟨rfl,rfl⟩,trivial⟩⟩⟩)
  obtain⟨sb,h0,aa⟩:=zn c0.2;let Z0:List HO:=[c0,c0,c0,Hn (iL eB h0),c0,Hs (iM eB h0),c0];obtain c1|c1:=zC aa
  ·cases c1.2;exact yF .ret [(1,.own (.box (eOs 1 true eB y0))),(2,.own (.box (.agg [I y1.j,I y1.m,eSl 1 false xZ y1.i]))),(3,.own (.box (.fn 144 [.atom bz,.atom md,.atom me])))] (Z0++[c1]) λst0 h0=>hE _ st0 (.inr rfl) (XF h0 ⟨⟨rfl,rfl⟩,⟨⟨rfl,rfl⟩,⟨⟨rfl,rfl⟩,trivial⟩⟩⟩)
  obtain⟨sf,h1,ap,h2,t1,ht1,aa⟩:=jI c1.2;refine yM 11110 [] [1,2,3,22,23,24] (λx=>[(1,.own (.box (eOs 1 true eB x.1))),(2,.own (.box (.agg [I x.2.1,I x.2.2.1,eSl 1 false xZ x.2.2.2.1]))),(24,.d (I x.2.2.2.2))]) ht1  (Z0++[c1,Hn (iL eB h1),Hs (iM eB h1),Hs (iM eB h1),Hl (sM eB y0 s_ true),Hi xZ h2,Ha (lnM uS ap)]) λ⟨x1,jt,jd,la,ga⟩ m1 av ae hl1 J1 ar=>?_;obtain c2|c2:=zC ae
  ·obtain⟨al,h3,r_,h4,ae⟩:=ya c2.2;cases ae;exact yB (H:=zx ((qZ (P:=prog) wD [1,2,3] (ih _ _ _ _ h4) 31).or X0)) ar _ hl1 [c2,Hi uS h3,Hn (Yr (f:=.fn 144 [.atom bz,.atom md,.atom me]) (xs:=[s7 al.o]) (ls:=[(bz,.box (eOs 1 true eB x1)),(md,.box (.agg [I jt,I jd,eSl 1 false xZ la])),(me,.box (.fn 144 [.atom bz,.atom md,.atom me]))]) (r:=.tup []) (ys:=[.box (eOs 1 true eB r_.1),.box (.agg [I r_.2.j,I r_.2.m,eSl 1 false xZ r_.2.i]),.box (.fn 144 [.atom bz,.atom md,.atom me])]) [s7 al.o] (show Jp [s7 al.o] [s7 al.o] from inferInstance))]
  cases c2.2;cases hl1;cases aa;exact yF .normal [(1,.own (.box (eOs 1 true eB x1))),(2,.own (.box (.agg [I jt,I jd,eSl 1 false xZ la]))),(3,.own (.box (.fn 144 [.atom bz,.atom md,.atom me])))] [c2] λst0 h0=>hE _ st0 (.inl rfl) (XF h0 ⟨⟨rfl,rfl⟩,⟨⟨rfl,rfl⟩,⟨⟨rfl,rfl⟩,trivial⟩⟩⟩)
def l32:List y7:=uR 164 (eSl 1 false eB) eB s7 uI::l31
def WQ [H:HS X0 l31]:OkH l32:=yS2 true func164 λs_ v_ r0 aa E hE=>by
 refine yK 11 [] [] (λz:Unit=>jB=some r0) (λz=>[]) [0,1] [Hh (.cut 1)] ?_ λJ1 ar=>?_
 ·rintro⟨⟩ aa;cases aa;exact yE hE []
 refine yMb 11210 [J1] [0,1,7,8] (λx=>[(8,.d (I x))]) aa  [Ha (lnM eB s_)] λt2 aa x8 m2 av ae hl1 J2 au=>?_;obtain c0|c0:=zC ae
 ·obtain⟨eb,h0,ae⟩:=zn c0.2;obtain c1|c1:=zC ae
  ·cases c1.2;cases hl1;cases aa;exact yE hE [c0,Hi eB h0,c1]
  cases c1.2;exact yB au _ hl1 [c0,Hi eB h0,c1]
 cases c0.2;cases hl1;exact yB ar () aa [c0]
def l33:List y7:=uR 145 (eSl 1 false eB) eB eB xR::l32
def Xb [H:HS X0 l32]:OkH l33:=yS2 true func145 λs_ v_ r0 aa E hE=>by obtain⟨r_,h0,aa⟩:=zn aa;cases aa;exact yE hE [zC2 0 h0]
def l34:List y7:=Yo 113 xe (eT2 eB s7) vb::l33
def Jb [H:HS X0 l33]:OkH l34:=yS1 false func113 λm_ r0 aa E hE=>by
 obtain⟨r_,h0,aa⟩:=zn aa;let Z0:List HO:=[zC1 8 h0];obtain c0|c0:=zC aa
 ·cases c0.2;exact yE hE (Z0++[c0])
 obtain⟨g0,aa⟩:=gdE c0.2;refine yC 11111 [] [1,5,6] (Z0++[c0,Ha (lnM xZ m_.i),Hn (rL g0),Ha (rM 1 eB ((m_.i.length:Nat):Int) false),Hh (.cut 1)]) ?_;refine zcf (by kernel_rfl) 5 λkc=>?_;refine zcf (by kernel_rfl) 1 λqj=>?_;refine zcf (by kernel_rfl) 6 λmf=>?_;obtain⟨ai,h1,ak,h2,aa⟩:=ya aa;cases aa;exact yE (H:=zx ((qZ (P:=prog) wD [5,1,6] (Up (H:=zd 2) kc qj mf Ur _ _ _ _ h1) 18).or ((xMk prog wD).or X0))) hE [Hn (Yr (f:=.fn 144 [.atom kc,.atom qj,.atom mf]) (xs:=[s7 0]) (ls:=[(kc,.box (eOs 1 true eB (List.replicate ((m_.i.length:Nat):Int).toNat false))),(qj,.box (.agg [I m_.j,I m_.m,eSl 1 false xZ m_.i])),(mf,.box (.fn 144 [.atom kc,.atom qj,.atom mf]))]) (r:=.tup []) (ys:=[.box (eOs 1 true eB ai.1),.box (.agg [I ai.2.j,I ai.2.m,eSl 1 false xZ ai.2.i]),.box (.fn 144 [.atom kc,.atom qj,.atom mf])]) [s7 0] (show Jp [s7 0] [s7 0] from inferInstance)),zg 0,Hm (shM eB eB ai.1),Hs (zf2 0 h2 (loC (eSl 1 true eB) ai.1<|loC eB false<|loN))]
def l35:List y7:=Yo 132 z43 eB ZG::l34
def JG [H:HS X0 l34]:OkH l35:=yS1 true func132 λx0 r0 aa E hE=>by obtain⟨r_,h0,aa⟩:=zn aa;cases aa;exact yE hE [zC1 0 h0]
def l36:List y7:=Yo 159 xe (KW 174 z43) Wt::l35
def z0U [H:HS X0 l35]:OkH l36:=yS1 true func159 λm_ r0 aa E hE=>by cases aa;exact yE hE []
def l37:List y7:=z2N 193 xe F8_ s7 F9_ ki::l36
def z2Z [H:HS X0 l36]:OkH l37:=yS3 false func193 λm_ p_ s_ r0 aa E hE=>by
 refine yN 111 [] [6,7] (zI Xn r0) (λz=>[(7,.own (.box (F9_ z)))]) [1,2,3,6,7] [Hh (.cut 2)] ?_ λJ1 ar=>?_
 ·rintro out aa;cases aa;exact yE hE []
 obtain⟨ap,h0,t2,ht2,aa⟩:=ya aa;refine yM 111210 [J1] [1,6,7,14,15,16] (λx=>[(7,.own (.box (F9_ x.1))),(16,.d (I x.2))]) ht2  [Hi xZ h0,Ha (lnM uS ap)] λ⟨aj,ft⟩ m2 av ae hl1 J2 au=>?_;obtain c0|c0:=zC ae
 ·refine yNs 111210011 [J1,J2] [1,6,7,14,15,16] (zI (kQ ft) av) (λz=>[(7,.own (.box (F9_ z)))]) [c0,Hh (.cut 0)] ?_ λJ3 bg=>?_
  ·rintro ax ae;cases ae;exact yB au _ hl1 []
  obtain⟨al,h1,cell,h2,arr,h3,ae⟩:=jI c0.2;replace h3:=w9 h3;let Z0:List HO:=[Hi uS h1,Hn (⟨arJ (by kernel_rfl) (i0 h2),(iL F0_ h2).2⟩:vT wD 256 ((zz.toL aj).map F0_) ft=true/\ft.toNat<((zz.toL aj).map F0_).length),Hh (.op 9),Hh (.f),Hs (iM F0_ h2),Hh (.f),Hs (iM F0_ h2),Hx (.l ((zz.toL arr).map F0_)) ((zz.setL F0_ aj ft (qY.mk al.r (-1))).trans (congrArg (λq=>(zz.toL q).map F0_) h3))];obtain c1|c1:=zC ae
  ·obtain⟨bj,h4,co,h5,arr1,h6,ae⟩:=jI c1.2;replace h6:=w9 h6;exact yB bg arr1 ae (Z0++[c1,Hi s7 h4,Hn (⟨arJ (by kernel_rfl) (i0 h5),(iL F0_ h5).2⟩:vT wD 256 ((zz.toL arr).map F0_) ft=true/\ft.toNat<((zz.toL arr).map F0_).length),Hh (.op 2),Hh (.f),Hs (iM F0_ h5),Hn (⟨rfl,by decide⟩:true=true/\1<2),Hh (.op 0),Hh (.f),Hs (iM F0_ h5),Hh (.f),Hx (.a (I co.e1)) (rfl:some (I co.e1:A)=some (I co.e1)),Hh (.f),Hs (iM F0_ h5),Hh (.f),Hx (.a (I co.e1)) (rfl:some (I co.e1:A)=some (I co.e1)),Hx (.l [I co.e0,I bj]) (rfl:[I co.e0,I bj]=[I co.e0,I bj]),Hx (.l ((zz.toL arr1).map F0_)) ((zz.setL F0_ arr ft (qY.mk co.e0 bj)).trans (congrArg (λq=>(zz.toL q).map F0_) h6))])
  exact yB bg arr c1.2 (Z0++[c1])
 cases c0.2;cases hl1;exact yB ar aj aa [c0]
def l38:List y7:=uR 175 xe F8_ F5_ kT::l37
def KZ [H:HS X0 l37]:OkH l38:=yS2 true func175 λm_ p_ r0 aa E hE=>by
 let u0:=(z9E [.i64,.i64,.i64,.i64,.i64,.i64,.i64,.i64,.i64,.i64,.i64,.i64,.i64,.i64,.i64,.i64,.i64,.i64,.i64,.i64,.i64,.i64,.i64,.i64,.i64,.i64,.i64,.i64,.i64,.i64,.i64,.i64,.i64]);obtain⟨g0,aa⟩:=gdE aa;refine yK (H:=zx ((ziS prog 12).or X0)) 1111 [] [6] (zI kS r0) (λz=>[(6,.own (eOs 1 true s7 z))]) [1,2,5,6] [Ha (lnM s7 p_),Hn (rL g0),Ha (rM 1 s7 ((p_.length:Nat):Int) (0:Int)),Hh (.cut 0)] ?_ λJ1 ar=>?_
 ·rintro out aa;cases aa;exact yE hE []
 refine yMb 1111210 [J1] [1,2,5,6,16,17,18] (λx=>[(5,.own (.opq (Ji (Yk z0L s7 x.1)))),(6,.own (eOs 1 true s7 x.2.1)),(18,.d (I x.2.2))]) aa  [Ha (lnM s7 p_)] λt2 aa ⟨names,aj,gh⟩ m2 av ae hl1 J2 au=>?_;obtain c0|c0:=zC ae
 ·obtain⟨bj,h0,r_,h1,ae⟩:=ya c0.2;refine yNs 11112100110011 [J1,J2] [1,2,5,6,7,9,16,17,18] (zI (v6 aj gh bj r_) av) (λz=>[(5,.own (.opq (Ji (Yk z0L s7 z))))]) [c0,Hi s7 h0,zC3 0 h1,Hh (.cut 0)] ?_ λJ3 bg=>?_
  ·rintro jf ae;obtain⟨val,h2,ae⟩:=zn ae;replace h2:=w9 h2;obtain⟨dn,h3,ae⟩:=zn ae;cases ae;exact yB (H:=zx ((z9Y z6n 45 (Yk z0L s7 jf)).or X0)) au _ hl1 [Hn (⟨rfl,rfl,z6L (λ_=>rfl) jf⟩:A.opq (Ji (Yk z0L s7 jf))=A.opq (Ji (Yk z0L s7 jf))/\u0 (z0L (zK.mk bj r_))=true/\∀p∈Yk z0L s7 jf,u0 p.1=true),Hx (.a (s7 val)) ((zoy (f:=z0L) (g:=s7) (z0:=0) (z:=.atom (.int .i64 0)) rfl (zK.mk bj r_) jf).trans (congrArg s7 h2)),Hn (iL s7 h3),Hs (iM s7 h3),Hs (iM s7 h3),Hl (sM s7 aj gh val)]
  obtain⟨rh,h4,ae⟩:=zn ae;replace h4:=w9 h4;let Z0:List HO:=[Hn (⟨rfl,rfl,z6L (λ_=>rfl) names⟩:A.opq (Ji (Yk z0L s7 names))=A.opq (Ji (Yk z0L s7 names))/\u0 (z0L (zK.mk bj r_))=true/\∀p∈Yk z0L s7 names,u0 p.1=true),Hx (.a (.tup [I rh,B ((Vj names (zK.mk bj r_)).isSome)])) ((zpD (f:=z0L) (g:=s7) (z0:=0) (z:=.atom (.int .i64 0)) rfl (zK.mk bj r_) names).trans (congrArg (λx=>A.tup [s7 x,.atom (.bool (Vj names (zK.mk bj r_)).isSome)]) h4))];obtain c1|c1:=zC ae
  ·exact yB (H:=zx ((znA z6n 37 (Yk z0L s7 names) (Yk z0L s7 (z2h names (zK.mk bj r_) ((names.length:Nat):Int)))).or ((zlR z6n 40 (Yk z0L s7 names)).or ((z9Y z6n 32 (Yk z0L s7 names)).or X0)))) bg (z2h names (zK.mk bj r_) ((names.length:Nat):Int)) c1.2 (Z0++[c1,Hn (rfl:A.opq (Ji (Yk z0L s7 names))=A.opq (Ji (Yk z0L s7 names))),Hx (aLn names.length) (zi6 z0L s7 names),Hn (⟨rfl,rfl,rfl,rfl,z6L (λ_=>rfl) names⟩:T.own (.opq (Ji (Yk z0L s7 names)))=T.own (.opq (Ji (Yk z0L s7 names)))/\0=0/\u0 (z0L (zK.mk bj r_))=true/\(s7 ((names.length:Nat):Int)).isD=true/\∀p∈Yk z0L s7 names,u0 p.1=true),Hn (zaR (f:=z0L) (g:=s7) (zK.mk bj r_) ((names.length:Nat):Int) names)])
  exact yB (H:=zx ((z9Y z6n 32 (Yk z0L s7 names)).or X0)) bg names c1.2 (Z0++[c1])
 cases c0.2;cases hl1;exact yB ar aj aa [c0]
def l39:List y7:=uR 56 F8_ F8_ eB vA::l38
def Un [H:HS X0 l38]:OkH l39:=yS2 true func56 λs1 s2 r0 aa E hE=>by
 let Z0:List HO:=[Ha (lnM s7 s1),Ha (lnM s7 s2)];obtain c0|c0:=zC aa
 ·cases c0.2;exact yE hE (Z0++[c0])
 refine yK 111 [] [] (λz:Unit=>ud=some r0) (λz=>[]) [0,1] (Z0++[c0,Hh (.cut 0)]) ?_ λJ1 ar=>?_
 ·rintro⟨⟩ aa;cases aa;exact yE hE []
 refine yMb 111210 [J1] [0,1,12,13] (λx=>[(13,.d (I x))]) c0.2  [Ha (lnM s7 s1)] λt2 aa fq m2 av ae hl1 J2 au=>?_;obtain c1|c1:=zC ae
 ·obtain⟨pa,h0,nw,h1,ae⟩:=ya c1.2;let Z1:List HO:=[c1,Hi s7 h0,Hi s7 h1];obtain c2|c2:=zC ae
  ·cases c2.2;cases hl1;cases aa;exact yE hE (Z1++[c2])
  cases c2.2;exact yB au _ hl1 (Z1++[c2])
 cases c1.2;cases hl1;exact yB ar () aa [c1]
abbrev UI (x0:z6)(YY:σ->z1n)(dw:σ)(p_:TB):List (Nat×T):=[(0,.own (.opq (YY dw).q)),(1,.d (.sptr (xe x0))),(3,.own (eOs 1 true s7 p_))]
def K5 [H:HS X0 l39](x0:z6):z6V prog (.fn 174 [.sptr (.agg [I x0.j,I x0.m,eSl 1 false xZ x0.i])]) (λ(x:TB) (_:Bool) (_:Value)=>[F8_ x]) (@jN x0):=by
 refine z2m (tt:=wD) (nt:=f174.ntmps) (body:=zbd f174) zu func174 rfl (by kernel_rfl) rfl rfl (by show(2:Nat)<=19;decide) ?_;intro σ yv YY yy hy sg r0 aa E hE;obtain⟨g0,aa⟩:=gdE aa;obtain⟨t1,ht1,aa⟩:=zn aa;refine yL 110 [] (λs=>uf x0 yy s.1 s.2) (λx=>UI x0 YY x.1 x.2) (sg,(List.replicate ((x0.i.length:Nat):Int).toNat (0:Int))) ht1  [Ha (lnM xZ x0.i),Hn (rL g0),Ha (rM 1 s7 ((x0.i.length:Nat):Int) (0:Int))] λ⟨dw,p_⟩ m1 av ae hl1 J1 ar=>?_;obtain⟨yr,h0,ae⟩:=zn ae;let Z0:List HO:=[Hm (shM s7 s7 p_),Hn (z1L (yv:=yv) (Y:=YY) (enc:=(λ(x:TB) (_:Bool) (_:Value)=>[F8_ x])) (s:=dw) (x:=p_) (s':=yr.1) (b:=yr.2) (v:=.nilFunc) [F4_ p_] (show Jp [F4_ p_] [F8_ p_] from inferInstance))];obtain c0|c0:=zC ae
 ·obtain⟨r_,h1,ai,h2,ae⟩:=ya c0.2;let Z1:List HO:=(Z0++[c0,Hk [] (z2u (hat 1)) (zf2 1 h1 (loC xe x0 <| loC F4_ p_ <| loN)),zg 0,Hm (shM s7 s7 r_),Hs (zf2 0 h2 (loC F4_ p_ <| loC F4_ r_ <| loN))]);obtain c1|c1:=zC ae
  ·cases c1.2;cases hl1;cases aa;exact yF (H:=zx ((UO (P:=prog) wD hy 11 (s:=dw) (x:=p_) (s':=yr.1) (b:=yr.2) .nilFunc h0).or X0)) .ret [(0,.own (.opq (YY yr.1).q))] (Z1++[c1]) λst0 h0=>hE _ st0 (.inr rfl) h0
  cases c1.2;exact yB (H:=zx ((UO (P:=prog) wD hy 11 (s:=dw) (x:=p_) (s':=yr.1) (b:=yr.2) .nilFunc h0).or X0)) ar _ hl1 (Z1++[c1])
 cases c0.2;cases hl1;cases aa;exact yF (H:=zx ((UO (P:=prog) wD hy 11 (s:=dw) (x:=p_) (s':=yr.1) (b:=yr.2) .nilFunc h0).or X0)) .normal [(0,.own (.opq (YY yr.1).q))] (Z0++[c0]) λst0 h0=>hE _ st0 (.inl rfl) h0
def l40:List y7:=Yo 134 xe (eT3 F8_ s7 s7) kV::l39
def z00 [H:HS X0 l39]:OkH l40:=yS1 false func134 λm_ r0 aa E hE=>by
 obtain⟨r_,h0,aa⟩:=zn aa;let Z0:List HO:=[Hh (.v 2 [2]),Hm (shM s7 s7 []),zC1 14 h0];obtain c0|c0:=zC aa
 ·cases c0.2;exact yEl hE (Z0++[c0,Hm (shM s7 s7 [])])
 refine yK 1111 [] [2,3] (λz:TB×Int=>kU z.1 z.2=some r0) (λz=>[(2,.own (.box (eSl 1 false s7 z.1))),(3,.own (.box (I z.2)))]) [1,2,3] (Z0++[Hb c0,Hh (.cut 1)]) ?_ λJ1 ar=>?_
 ·rintro⟨p_,n_⟩ aa;cases aa;exact yE hE []
 obtain⟨ai,h1,t2,ht2,aa⟩:=ya c0.2;refine yAt (sub [1,1,1,2,1,0] (zbd f134)) (frs [1,1,1,2,1,0] [J1] (zbd f134) []) [(2,.own (.box (eSl 1 true s7 []))),(3,.own (.box (I (-1)))),(13,.d (.fn 174 [.sptr (.agg [I ai.j,I ai.m,eSl 1 false xZ ai.i])]))] [zC1 3 h1] λst0 h0=>?_;refine z0o (g:=.tmp 13) (ps:=[14]) (assign:=(sub [1,1,1,2,1,0,0] (zbd f134))) (body:=(sub [1,1,1,2,1,0,1] (zbd f134))) (K:=174) (caps:=[.sptr (.agg [I ai.j,I ai.m,eSl 1 false xZ ai.i])]) (by kernel_rfl) [2,3,13] (λs=>[(2,.own (.box (eSl 1 false s7 s.1))),(3,.own (.box (I s.2))),(13,.d (.fn 174 [.sptr (.agg [I ai.j,I ai.m,eSl 1 false xZ ai.i])]))]) (λz=>nomatch z) (λz=>nomatch z) ((λ(x:TB) (_:Bool) (_:Value)=>[F8_ x])) (F:=@jN ai) (λs x=>v7 s.1 s.2 x) (([]:TB),(-1)) t2 _ h0 inferInstance (by kernel_rfl) (by decide) (λ_=>rfl) (by rintro⟨⟩) (by kernel_rfl) (λ_ _ _=>rfl) (K5 (H:=zd 0) ai) ht2 ?_ ?_
 ·rintro qg ⟨nv,ca⟩ kq vr av ae;replace ae:v7 nv ca kq=some av:=ae;refine yF .normal [(2,.own (.box (eSl 1 false s7 nv))),(3,.own (.box (I ca))),(6,.d (eSl 1 false s7 kq)),(13,.d (.fn 174 [.sptr (.agg [I ai.j,I ai.m,eSl 1 false xZ ai.i])]))] [] λst0 h0=>⟨rfl,z5c h0 ?_⟩;cases ae;exact yF .normal ([(2,.own (.box (eSl 1 false s7 kq))),(3,.own (.box (I (w64 (ca+1))))),(13,.d (.fn 174 [.sptr (.agg [I ai.j,I ai.m,eSl 1 false xZ ai.i])]))]) [] λst0 h0=>⟨rfl,_,h0,LeL.refl _⟩
 rcases t2 with⟨nv,ca⟩|z
 ·dsimp only at aa;exact XS (by kernel_rfl) (ar _ [(2,.own (.box (eSl 1 false s7 nv))),(3,.own (.box (I ca)))] (nv,ca) aa (show Own.canon [2,3] _=ofL _ by kernel_rfl) inferInstance)
 cases z
def l41:List y7:=Yo 135 F8_ s7 uK::l40
def J0 [H:HS X0 l40]:OkH l41:=yS1 true func135 λx_ r0 aa E hE=>by
 obtain c0|c0:=zC aa
 ·cases c0.2
 obtain⟨mq,h0,aa⟩:=zn c0.2;refine yK 1111 [] [3] (zI q9 r0) (λz=>[(3,.d (I z))]) [0,3] [Ha (lnM s7 x_),c0,Hi s7 h0,Hh (.cut 0)] ?_ λJ1 ar=>?_
 ·rintro m_ aa;cases aa;exact yE hE []
 refine yMb 1111210 [J1] [0,3,4] (λx=>[(3,.d (I x.1)),(4,.d (I x.2))]) aa  [] λt2 aa ⟨pb,i_⟩ m2 av ae hl1 J2 au=>?_;obtain c1|c1:=zC ae
 ·obtain⟨l7,h1,ae⟩:=zn c1.2;cases ae;exact yB au _ hl1 [Ha (lnM s7 x_),c1,Hi s7 h1]
 cases c1.2;cases hl1;exact yB ar pb aa [Ha (lnM s7 x_),c1]
def l42:List y7:=Yo 133 z43 eB ZF::l41
def JF [H:HS X0 l41]:OkH l42:=yS1 true func133 λx0 r0 aa E hE=>by obtain⟨r_,h0,ai,h1,aa⟩:=ya aa;cases aa;exact yE hE [zC1 1 h0,zC1 0 h1,Ha (lnM s7 r_.1)]
def l43:List y7:=Yo 58 xe s7 we::l42
def K6 [H:HS X0 l42]:OkH l43:=yS1 true func58 λm_ r0 aa E hE=>by
 obtain⟨r_,h0,aa⟩:=zn aa;let Z0:List HO:=[zC1 17 h0];obtain c0|c0:=zC aa
 ·cases c0.2;exact yE hE (Z0++[c0])
 refine yK 111 [] [] (λz:Unit=>jT=some r0) (λz=>[]) [1] (Z0++[c0,Hh (.cut 0)]) ?_ λJ1 ar=>?_
 ·rintro⟨⟩ aa;cases aa;exact yE hE []
 obtain⟨ai,h1,ak,h2,aa⟩:=ya c0.2;let Z1:List HO:=[zC1 16 h1,Hh (.u 70),qT,zC1 11 h2];obtain c1|c1:=zC aa
 ·cases c1.2;exact yE hE (Z1++[c1])
 obtain⟨am,h3,aa⟩:=zn c1.2;let Z2:List HO:=(Z1++[c1,qT,zC1 7 h3]);obtain c2|c2:=zC aa
 ·cases c2.2;exact yE hE (Z2++[c2])
 obtain⟨az,h4,aa⟩:=zn c2.2;let Z3:List HO:=(Z2++[c2,qT,zC1 0 h4]);obtain c3|c3:=zC aa
 ·cases c3.2;exact yE hE (Z3++[c3])
 exact yB ar () c3.2 (Z3++[c3,qF])
def l44:List y7:=uR 25 xe s7 s7 Yb::l43
def z2W [H:HS X0 l43]:OkH l44:=yS2 true func25 λm_ bound r0 aa E hE=>by
 obtain⟨r_,h0,aa⟩:=zn aa;let Z0:List HO:=[zC1 0 h0];obtain c0|c0:=zC aa
 ·cases c0.2;exact yE hE (Z0++[c0])
 let Z1:List HO:=(Z0++[c0,Ha (lnM xZ m_.i)]);obtain c1|c1:=zC c0.2
 ·cases c1.2;exact yE hE (Z1++(rpN 7 (Hb c1) [qT]))
 let Z2:List HO:=(Z1++(rpN 4 (Hb c1) [Ha (lnM xZ m_.i),c1,c1,c1]));obtain c2|c2:=zC c1.2
 ·cases c2.2;exact yE hE (Z2++[c2])
 cases c2.2;exact yE hE (Z2++[c2])
def l45:List y7:=uR 165 xe s7 (zpF 186 z43 (eSp s7)) Wn::l44
def z0P [H:HS X0 l44]:OkH l45:=yS2 true func165 λm_ from_ r0 aa E hE=>by cases aa;exact yE hE []
abbrev Uu (x0:z6)(YY:σ->z1n)(cw:zk)(yr:σ×Bool)(ap:List z8)(jl:Int)(eu:List Bool)(nd:List zk):List (Nat×T):=[(0,.own (.opq (YY yr.1).q)),(1,.d (.sptr (xe x0))),(4,.own (eOs 1 true eB eu)),(5,.own (eDq 3 Zn nd)),(6,.own (.box (Zn cw))),(36,.d (eSl 2 false uS ap)),(37,.d (I ((ap.length:Nat):Int))),(38,.d (I jl))]
abbrev Us (x0:z6)(YY:σ->z1n)(cw:zk)(yr:σ×Bool)(ap:List z8)(gn:List Bool)(fx:List zk)(jl:Int):List (Nat×T):=[(0,.own (.opq (YY yr.1).q)),(1,.d (.sptr (xe x0))),(4,.own (eOs 1 true eB gn)),(5,.own (eDq 3 Zn fx)),(6,.own (.box (Zn cw))),(36,.d (eSl 2 false uS ap)),(37,.d (I ((ap.length:Nat):Int))),(38,.d (I jl))]
abbrev Ut (x0:z6)(YY:σ->z1n)(dw:σ)(kh:List Bool)(d8:List zk):List (Nat×T):=[(0,.own (.opq (YY dw).q)),(1,.d (.sptr (xe x0))),(4,.own (eOs 1 true eB kh)),(5,.own (eDq 3 Zn d8))]
def K1 [H:HS X0 l45](x0:z6)(x1:Int):z6V prog (.fn 186 [.sptr (.agg [I x0.j,I x0.m,eSl 1 false xZ x0.i]),.sptr (I x1)]) (λ(x:zk) (_:Bool) (_:Value)=>[Zn x]) (@jL x0 x1):=by
 refine z2m (tt:=wD) (nt:=f186.ntmps) (body:=zbd f186) zu func186 rfl (by kernel_rfl) rfl rfl (by show(3:Nat)<=68;decide) ?_;intro σ yv YY yy hy sg r0 aa E hE;obtain⟨g0,aa⟩:=gdE aa;obtain⟨mj,h0,t1,ht1,aa⟩:=ya aa;refine yLx 11110 [] (λs=>vV x0 yy s.1 s.2.1 s.2.2) (λx=>Ut x0 YY x.1 x.2.1 x.2.2) (sg,((List.replicate ((x0.i.length:Nat):Int).toNat false).set x1.toNat true),([(zk.mk x1 (-1) (-1))]:List zk)) ht1 [(0,.own (.opq (YY sg).q)),(1,.d (.sptr (xe x0))),(4,.own (eOs 1 true eB ((List.replicate ((x0.i.length:Nat):Int).toNat false).set x1.toNat true))),(5,.own (eOs 3 true Zn ([(zk.mk x1 (-1) (-1))])))] inferInstance [Ha (lnM xZ x0.i),Hn (rL g0),Ha (rM 1 eB ((x0.i.length:Nat):Int) false),Hn (iL eB h0),Hs (iM eB h0),Hs (iM eB h0),Hl (sM eB (List.replicate ((x0.i.length:Nat):Int).toNat false) x1 true)] λ⟨dw,kh,d8⟩ m1 av ae hl1 J1 ar=>?_;let Z0:List HO:=[Hn (rfl:eDq 3 Zn d8=A.opq (z23 3 (d8.map Zn)).q),Ha (lnM Zn d8)];obtain c0|c0:=zC ae
 ·refine yC (H:=zx ((xQl zu 20 244 3 (d8.map Zn) (by kernel_rfl)).or X0)) 11110010 [J1] [0,1,4,5] (Z0++[c0,Hh (.cut 0)]) ?_;obtain⟨cw,h1,ae⟩:=zn c0.2;refine z6R (by kernel_rfl) (x:=(sub [1,1,1,0,0,1,0,0] (zbd f186))) (y:=(sub [1,1,1,0,0,1,0,1] (zbd f186))) 5 (λst1=>Own.canon [0,1,4,5,6] st1=ofL [(0,.own (.opq (YY dw).q)),(1,.d (.sptr (xe x0))),(4,.own (eOs 1 true eB kh)),(5,.own (eDq 3 Zn d8)),(6,.own (.box (Zn cw)))]) (λkc=>yF (H:=zx ((xQd zu 24 3 5 kc (0:Int) (d8.map Zn) (Zn cw)).or ((xQi zu 23 3 5 kc (d8.map Zn)).or X0))) .normal [(0,.own (.opq (YY dw).q)),(1,.d (.sptr (xe x0))),(4,.own (eOs 1 true eB kh)),(5,.own (eDq 3 Zn d8)),(6,.own (.box (Zn cw)))] [Hn (⟨rfl,rfl,rfl,rfl,i0 h1,(iL Zn h1).2⟩:T.als 5 [] 0 0=T.als 5 [] 0 0/\some kc=some kc/\T.own (eDq 3 Zn d8)=T.own (eDq 3 Zn d8)/\some 3=some 3/\(0:Int)<=0/\(0:Int).toNat<(d8.map Zn).length),Hn (⟨rfl,rfl,rfl,iM Zn h1,rfl,K0.isD cw⟩:T.d (.atom (z9B 3 kc (0:Int)))=T.d (.atom (z9B 3 kc (0:Int)))/\some kc=some kc/\T.own (eDq 3 Zn d8)=T.own (eDq 3 Zn d8)/\(d8.map Zn)[(0:Int).toNat]?=some (Zn cw)/\true=true/\(Zn cw).isD=true)] λst0 h0=>⟨rfl,h0⟩) λst1 h1=>z5c h1 ?_;obtain⟨g1,ae⟩:=gdE ae;obtain⟨yr,h2,ae⟩:=zn ae;let Z1:List HO:=[Hn (rfl:eDq 3 Zn d8=A.opq (z23 3 (d8.map Zn)).q),Hn (⟨g1.1,cuB Zn g1⟩:(0:Int)<=1/\(1:Int).toNat<=(d8.map Zn).length),Hn (drM Zn d8 (1:Int).toNat),Hn (z1L (yv:=yv) (Y:=YY) (enc:=(λ(x:zk) (_:Bool) (_:Value)=>[Zn x])) (s:=dw) (x:=cw) (s':=yr.1) (b:=yr.2) (v:=.nilFunc) [Zn cw] (show Jp [Zn cw] [Zn cw] from inferInstance))];obtain c1|c1:=zC ae
  ·cases c1.2;cases hl1;cases aa;exact yF (H:=zx ((UO (P:=prog) wD hy 29 (s:=dw) (x:=cw) (s':=yr.1) (b:=yr.2) .nilFunc h2).or ((xQs zu 26 3 (d8.map Zn) ((d8.drop (1:Int).toNat).map Zn)).or X0))) .ret [(0,.own (.opq (YY yr.1).q))] (Z1++[c1]) λst0 h0=>hE _ st0 (.inr rfl) h0
  obtain⟨ap,h3,t2,ht2,ae⟩:=ya c1.2;refine yL (H:=zx ((UO (P:=prog) wD hy 29 (s:=dw) (x:=cw) (s':=yr.1) (b:=yr.2) .nilFunc h2).or ((xQs zu 26 3 (d8.map Zn) ((d8.drop (1:Int).toNat).map Zn)).or X0))) 1111001011110 [J1] (λs=>wF cw yr ap s.1 s.2.1 s.2.2) (λx=>Us x0 YY cw yr ap x.1 x.2.1 x.2.2) (kh,(d8.drop (1:Int).toNat),0) ht2  (Z1++[c1,Hi xZ h3,Ha (lnM uS ap)]) λ⟨gn,fx,jl⟩ m2 dj ah hl2 J2 au=>?_;obtain c2|c2:=zC ah
  ·refine yKs 1111001011110011 [J1,J2] [0,1,4,5,6,36,37,38] (λz:List Bool×List zk=>yZ jl z.1 z.2=some dj) (λz=>Uu x0 YY cw yr ap jl z.1 z.2) [c2,Hh (.cut 0)] ?_ λJ3 bg=>?_
   ·rintro⟨eu,nd⟩ ah;cases ah;exact yB au _ hl2 []
   obtain⟨al,h4,ah⟩:=zn c2.2;let Z2:List HO:=[Hi uS h4];obtain c3|c3:=zC ah
   ·obtain⟨p7,h5,ah⟩:=zn c3.2;let Z3:List HO:=(Z2++(rpN 4 (Hb c3) [Hn (iL eB h5),c3,Hs (iM eB h5),c3,c3]));obtain c4|c4:=zC ah
    ·obtain⟨ra,h6,ah⟩:=zn c4.2;obtain⟨g2,ah⟩:=gdE ah;exact yB (H:=zx ((xQa zu 66 3 (fx.map Zn) ((fx++[(zk.mk al.o cw.D jl)]).map Zn)).or X0)) bg ((gn.set al.o.toNat true),(fx++[(zk.mk al.o cw.D jl)])) ah (Z3++[c4,Hn (iL eB h6),Hs (iM eB h6),Hs (iM eB h6),Hl (sM eB gn al.o true),Hn (⟨rfl,dM Zn [(zk.mk al.o cw.D jl)],rfl⟩:3=3/\A.areD ([(zk.mk al.o cw.D jl)].map Zn)=true/\true=true),Hn (⟨rfl,aL Zn Zn g2,dM Zn fx⟩:eDq 3 Zn fx=A.opq (z23 3 (fx.map Zn)).q/\(fx.map Zn).length+([(zk.mk al.o cw.D jl)].map Zn).length<=lim/\A.areD (fx.map Zn)=true),Hn (aM Zn fx [(zk.mk al.o cw.D jl)])])
    exact yB bg (gn,fx) c4.2 (Z3++[c4])
   exact yB bg (gn,fx) c3.2 (Z2++(rpN 7 (Hb c3) [qF]))
  cases c2.2;cases hl2;cases ae;exact yB ar _ hl1 [c2]
 cases c0.2;cases hl1;cases aa;exact yF (H:=zx ((xQl zu 20 244 3 (d8.map Zn) (by kernel_rfl)).or X0)) .normal [(0,.own (.opq (YY dw).q))] (Z0++[c0]) λst0 h0=>hE _ st0 (.inl rfl) h0
def l46:List y7:=Yo 139 F8_ F7_ ye::l45
def Uo [H:HS X0 l45]:OkH l46:=yS1 true func139 λs_ r0 aa E hE=>by
 refine zce rfl 0 (sz:=1) (t:=false) (es:=s_.map s7) (by kernel_rfl) λcu hv0 hn=>?_;rcases hn with⟨hn0,he0⟩|hn0
 ·obtain⟨_,aa⟩:=gdE aa;rw[show s_=[] from List.map_eq_nil_iff.1 he0]at aa;cases aa;exact yEl (H:=zx ((zlt zu 4 51 (by kernel_rfl) hn0).or ((xMv prog 3 0 cu hv0).or X0))) hE [Hn (rfl:some cu=some cu),Hn (⟨rfl,rfl⟩:T.d (.atom cu)=T.d (.atom cu)/\T.d (.atom (.slice none 0 0))=T.d (.atom (.slice none 0 0))),qT]
 obtain⟨g0,aa⟩:=gdE aa;cases aa;exact yE (H:=zx ((zlt zu 4 51 (by kernel_rfl) hn0).or ((xMv prog 3 0 cu hv0).or X0))) hE [Hn (rfl:some cu=some cu),Hn (⟨rfl,rfl⟩:T.d (.atom cu)=T.d (.atom cu)/\T.d (.atom (.slice none 0 0))=T.d (.atom (.slice none 0 0))),qF,Hn (dM s7 s_),Hn (aL s7 s7 g0),Hl (aM0 s7 s_)]
def l47:List y7:=Yo 111 F8_ F4_ zQ::l46
def UQ [H:HS X0 l46]:OkH l47:=yS1 true func111 λs_ r0 aa E hE=>by obtain⟨g0,aa⟩:=gdE aa;cases aa;exact yE hE [Ha (lnM s7 s_),Ha (lnM s7 s_),Hn (slB g0),Hn (slC g0),Hn (zjZ s7 g0),Ha (zo6 1 s7 s_ 0 ((s_.length:Nat):Int).toNat)]
def l48:List y7:=uR 146 xe s7 (eT2 kC (eSl 1 true eB)) Vl::l47
def z4a [H:HS X0 l47]:OkH l48:=yS2 false func146 λm_ from_ r0 aa E hE=>by
 obtain⟨g0,aa⟩:=gdE aa;obtain⟨g1,aa⟩:=gdE aa;refine yK (H:=zx ((xMs zu 12 51).or X0)) 111 [] [6,7] (λz:TA×List Bool=>Wm z.1 z.2=some r0) (λz=>[(6,.own (.box (eOs 1 true F4_ z.1))),(7,.own (.box (eOs 1 true eB z.2)))]) [1,2,6,7] [Ha (lnM xZ m_.i),Hn (rL g0),Ha (rM 1 F4_ ((m_.i.length:Nat):Int) ([]:TB)),Ha (lnM xZ m_.i),Hn (rL g1),Ha (rM 1 eB ((m_.i.length:Nat):Int) false),Hh (.cut 0)] ?_ λJ1 ar=>?_
 ·rintro⟨l_,is⟩ aa;cases aa;exact yE hE [Hm (shM F4_ F4_ l_),Hm (shM eB eB is)]
 obtain⟨r_,h0,t2,ht2,aa⟩:=ya aa;refine yAt (sub [1,1,2,1,0] (zbd f146)) (frs [1,1,2,1,0] [J1] (zbd f146) []) [(6,.own (.box (eOs 1 true F4_ (List.replicate ((m_.i.length:Nat):Int).toNat ([]:TB))))),(7,.own (.box (eOs 1 true eB (List.replicate ((m_.i.length:Nat):Int).toNat false)))),(19,.d (.fn 186 [.sptr (.agg [I r_.1.j,I r_.1.m,eSl 1 false xZ r_.1.i]),.sptr (I r_.2)]))] [zC2 2 h0] λst0 h0=>?_;refine z0o (g:=.tmp 19) (ps:=[20]) (assign:=(sub [1,1,2,1,0,0] (zbd f146))) (body:=(sub [1,1,2,1,0,1] (zbd f146))) (K:=186) (caps:=[.sptr (.agg [I r_.1.j,I r_.1.m,eSl 1 false xZ r_.1.i]),.sptr (I r_.2)]) (by kernel_rfl) [6,7,19] (λs=>[(6,.own (.box (eOs 1 true F4_ s.1))),(7,.own (.box (eOs 1 true eB s.2))),(19,.d (.fn 186 [.sptr (.agg [I r_.1.j,I r_.1.m,eSl 1 false xZ r_.1.i]),.sptr (I r_.2)]))]) (λz=>nomatch z) (λz=>nomatch z) ((λ(x:zk) (_:Bool) (_:Value)=>[Zn x])) (F:=@jL r_.1 r_.2) (λs x=>wv s.1 s.2 x) ((List.replicate ((m_.i.length:Nat):Int).toNat ([]:TB)),(List.replicate ((m_.i.length:Nat):Int).toNat false)) t2 _ h0 inferInstance (by kernel_rfl) (by decide) (λ_=>rfl) (by rintro⟨⟩) (by kernel_rfl) (λ_ _ _=>rfl) (K1 (H:=zd 2) r_.1 r_.2) ht2 ?_ ?_
 ·rintro qg ⟨dr,ii⟩ jn vr av ae;replace ae:wv dr ii jn=some av:=ae;refine yF .normal [(6,.own (.box (eOs 1 true F4_ dr))),(7,.own (.box (eOs 1 true eB ii))),(8,.own (.box (Zn jn))),(19,.d (.fn 186 [.sptr (.agg [I r_.1.j,I r_.1.m,eSl 1 false xZ r_.1.i]),.sptr (I r_.2)]))] [] λst0 h0=>⟨rfl,z5c h0 ?_⟩;obtain⟨pq,h1,ae⟩:=zn ae;let Z0:List HO:=[Hn (iL eB h1),Hs (iM eB h1),Hs (iM eB h1),Hl (sM eB ii jn.D true)];obtain c0|c0:=zC ae
  ·obtain⟨bi,h2,ai,h3,ae⟩:=ya c0.2;obtain⟨g2,ae⟩:=gdE ae;obtain⟨ak,h4,ew,h5,ae⟩:=ya ae;cases ae;exact yF .normal ([(6,.own (.box (eOs 1 true F4_ (dr.set jn.D.toNat ak)))),(7,.own (.box (eOs 1 true eB (ii.set jn.D.toNat true)))),(19,.d (.fn 186 [.sptr (.agg [I r_.1.j,I r_.1.m,eSl 1 false xZ r_.1.i]),.sptr (I r_.2)]))]) (Z0++[c0,Hn (iL F4_ h2),Hs (iM F4_ h2),Hk [] (z2u (hat 1)) (zf1 1 h3 (loC F4_ bi<|loN)),Hq (dM s7 [jn.N]),Hn (dM s7 [jn.N]),Hn (aL s7 s7 g2),Hl (aM s7 ai [jn.N]),zg 0,Hm (shM s7 s7 (ai++[jn.N])),Hs (zf1 0 h4 (loC F8_ (ai++[jn.N])<|loN)),Hm (shM s7 s7 (ai++[jn.N])),Hn (iL F4_ h5),Hs (iM F4_ h5),Hs (iM F4_ h5),Hl (sM F4_ dr jn.D ak)]) λst0 h0=>⟨rfl,_,h0,LeL.refl _⟩
  cases c0.2;exact yF .normal ([(6,.own (.box (eOs 1 true F4_ dr))),(7,.own (.box (eOs 1 true eB (ii.set jn.D.toNat true)))),(19,.d (.fn 186 [.sptr (.agg [I r_.1.j,I r_.1.m,eSl 1 false xZ r_.1.i]),.sptr (I r_.2)]))]) (Z0++[c0]) λst0 h0=>⟨rfl,_,h0,LeL.refl _⟩
 rcases t2 with⟨dr,ii⟩|z
 ·dsimp only at aa;exact XS (by kernel_rfl) (ar _ [(6,.own (.box (eOs 1 true F4_ dr))),(7,.own (.box (eOs 1 true eB ii)))] (dr,ii) aa (show Own.canon [6,7] _=ofL _ by kernel_rfl) inferInstance)
 cases z
def l49:List y7:=Yo 114 xe (eT3 kC (eSl 1 true eB) s7) W4::l48
def z2R [H:HS X0 l48]:OkH l49:=yS1 false func114 λm_ r0 aa E hE=>by
 obtain⟨r_,h0,aa⟩:=zn aa;let Z0:List HO:=[zC1 23 h0];obtain c0|c0:=zC aa
 ·cases c0.2;exact yE hE (Z0++[c0,Hm (shM F8_ F8_ []),Hm (shM eB eB [])])
 obtain⟨ai,h1,aa⟩:=zn c0.2;cases aa;exact yE hE (Z0++[c0,zC2 0 h1])
def l50:List y7:=uR 127 s7 (eSp s7) eB Vk::l49
def z1r [H:HS X0 l49]:OkH l50:=yS2 true func127 λc_ x1 r0 aa E hE=>by
 obtain c0|c0:=zC aa
 ·cases c0.2;exact yE hE (rpN 4 (Hb c0) [])
 cases c0.2;exact yE hE (rpN 4 (Hb c0) [])
def l51:List y7:=uR 156 F8_ (KW 127 (eSp s7)) s7 vH::l50
def XT [H:HS X0 l50]:OkH l51:=yS2 true func156 λs_ f_ r0 aa E hE=>by
 refine yK 11 [] [] (λz:Unit=>qb=some r0) (λz=>[]) [0,1] [Hh (.cut 1)] ?_ λJ1 ar=>?_
 ·rintro⟨⟩ aa;cases aa;exact yE hE []
 refine yMb 11210 [J1] [0,1,7,8] (λx=>[(8,.d (I x))]) aa  [Ha (lnM s7 s_)] λt2 aa x8 m2 av ae hl1 J2 au=>?_;obtain c0|c0:=zC ae
 ·obtain⟨eb,h0,r_,h1,ae⟩:=ya c0.2;let Z0:List HO:=[c0,Hi s7 h0,zC2 0 h1];obtain c1|c1:=zC ae
  ·cases c1.2;cases hl1;cases aa;exact yE hE (Z0++[c1])
  cases c1.2;exact yB au _ hl1 (Z0++[c1])
 cases c0.2;cases hl1;exact yB ar () aa [c0]
def l52:List y7:=uR 126 F8_ (KW 127 (eSp s7)) eB wL::l51
def Yp [H:HS X0 l51]:OkH l52:=yS2 true func126 λs_ f_ r0 aa E hE=>by obtain⟨r_,h0,aa⟩:=zn aa;cases aa;exact yE hE [zC2 0 h0]
def l53:List y7:=uR 93 F8_ s7 s7 jS::l52
def z49 [H:HS X0 l52]:OkH l53:=yS2 true func93 λw_ inputs r0 aa E hE=>by
 obtain c0|c0:=zC aa
 ·cases c0.2;exact yE hE (rpN 4 (Hb c0) [qT])
 let Z0:List HO:=[c0,c0,Ha (lnM s7 w_),c0,c0];obtain c1|c1:=zC c0.2
 ·cases c1.2;exact yE hE (Z0++[c1])
 obtain c2|c2:=zC c1.2
 ·cases c2.2;exact yE hE (Z0++(Hb c1::(rpN 4 (Hb c2) [qT])))
 obtain⟨r_,h0,aa⟩:=zn c2.2;let Z1:List HO:=(Z0++[c1,c2,c2,c2,zC2 0 h0,c2]);obtain c3|c3:=zC aa
 ·cases c3.2;exact yE hE (Z1++[c3])
 cases c3.2;exact yE hE (Z1++[c3])
def l54:List y7:=uR 89 yp s7 s7 Xf::l53
def z4c [H:HS X0 l53]:OkH l54:=yS2 true func89 λl_ inputs r0 aa E hE=>by
 obtain c0|c0:=zC aa
 ·cases c0.2;exact yE hE (rpN 4 (Hb c0) [qT])
 let Z0:List HO:=[c0,c0,Ha (lnM F8_ l_),c0,c0];obtain c1|c1:=zC c0.2
 ·cases c1.2;exact yE hE (Z0++[c1])
 obtain c2|c2:=zC c1.2
 ·cases c2.2;exact yE hE (Z0++[c1,c2])
 refine yK 1111 [] [] (λz:Unit=>Jr=some r0) (λz=>[]) [0,1] (Z0++[c1,c2,Hh (.cut 0)]) ?_ λJ1 ar=>?_
 ·rintro⟨⟩ aa;cases aa;exact yE hE []
 refine yMb 1111210 [J1] [1,17,18,19] (λx=>[(19,.d (I x))]) c2.2  [Ha (lnM F8_ l_)] λt2 aa dy m2 av ae hl1 J2 au=>?_;obtain c3|c3:=zC ae
 ·obtain⟨bi,h0,r_,h1,ae⟩:=ya c3.2;let Z1:List HO:=[c3,Hi F8_ h0,zC2 0 h1];obtain c4|c4:=zC ae
  ·cases c4.2;cases hl1;cases aa;exact yE hE (Z1++[c4])
  cases c4.2;exact yB au _ hl1 (Z1++[c4])
 cases c3.2;cases hl1;exact yB ar () aa [c3]
def l55:List y7:=Yo 105 yp z0M xW::l54
def Vn [H:HS X0 l54]:OkH l55:=yS1 true func105 λs_ r0 aa E hE=>by
 refine zce rfl 0 (sz:=1) (t:=false) (es:=s_.map F8_) (by kernel_rfl) λcu hv0 hn=>?_;rcases hn with⟨hn0,he0⟩|hn0
 ·obtain⟨_,aa⟩:=gdE aa;rw[show s_=[] from List.map_eq_nil_iff.1 he0]at aa;cases aa;exact yEl (H:=zx ((zlt zu 4 32 (by kernel_rfl) hn0).or ((xMv prog 3 0 cu hv0).or X0))) hE [Hn (rfl:some cu=some cu),Hn (⟨rfl,rfl⟩:T.d (.atom cu)=T.d (.atom cu)/\T.d (.atom (.slice none 0 0))=T.d (.atom (.slice none 0 0))),qT]
 obtain⟨g0,aa⟩:=gdE aa;cases aa;exact yE (H:=zx ((zlt zu 4 32 (by kernel_rfl) hn0).or ((xMv prog 3 0 cu hv0).or X0))) hE [Hn (rfl:some cu=some cu),Hn (⟨rfl,rfl⟩:T.d (.atom cu)=T.d (.atom cu)/\T.d (.atom (.slice none 0 0))=T.d (.atom (.slice none 0 0))),qF,Hn (dM F8_ s_),Hn (aL F8_ F8_ g0),Hl (aM0 F8_ s_)]
def l56:List y7:=Yo 171 s7 eB YW::l55
def z1E [H:HS X0 l55]:OkH l56:=yS1 true func171 λx_ r0 aa E hE=>by cases aa;exact yE hE []
def l57:List y7:=uR 154 s7 s7 s7 qE::l56
def z04 [H:HS X0 l56]:OkH l57:=yS2 true func154 λx_ y_ r0 aa E hE=>by
 obtain⟨r_,h0,ai,h1,aa⟩:=ya aa;let Z0:List HO:=[zC1 0 h0,zC1 0 h1];obtain c0|c0:=zC aa
 ·obtain c1|c1:=zC c0.2
  ·cases c1.2;exact yE hE (Z0++[c0,c1])
  cases c1.2;exact yE hE (Z0++[c0,c1])
 obtain c2|c2:=zC c0.2
 ·cases c2.2;exact yE hE (Z0++[c0,c2])
 obtain c3|c3:=zC c2.2
 ·cases c3.2;exact yE hE (Z0++[c0,c2,c3])
 obtain c4|c4:=zC c3.2
 ·cases c4.2;exact yE hE (Z0++[c0,c2,c3,c4])
 cases c4.2;exact yE hE (Z0++[c0,c2,c3,c4])
def l58:List y7:=uR 155 F8_ F8_ s7 wO::l57
def WR [H:HS X0 l57]:OkH l58:=yS2 true func155 λs1 s2 r0 aa E hE=>by
 refine yNs 11 [] [0,1] (λz:Unit=>vn s1 s2=some r0) (λz=>[]) [Hh (.cut 1)] ?_ λJ1 ar=>?_
 ·rintro⟨⟩ aa;let Z0:List HO:=[Ha (lnM s7 s1),Ha (lnM s7 s2)];obtain c0|c0:=zC aa
  ·cases c0.2;exact yE hE (Z0++[c0])
  cases c0.2;exact yE hE (Z0++[c0])
 refine yMb 11210 [J1] [0,1,9,10,11] (λx=>[(11,.d (I x))]) aa  [Ha (lnM s7 s1)] λt2 aa ig m2 av ae hl1 J2 au=>?_;obtain c1|c1:=zC ae
 ·obtain⟨pa,h0,ae⟩:=zn c1.2;let Z1:List HO:=[c1,Hi s7 h0,Ha (lnM s7 s2)];obtain c2|c2:=zC ae
  ·cases c2.2;cases hl1;cases aa;exact yE hE (Z1++[c2])
  obtain⟨nw,h1,r_,h2,ae⟩:=ya c2.2;let Z2:List HO:=(Z1++[c2,Hi s7 h1,zC2 0 h2]);obtain c3|c3:=zC ae
  ·cases c3.2;cases hl1;cases aa;exact yE hE (Z2++[c3])
  cases c3.2;exact yB au _ hl1 (Z2++[c3])
 cases c1.2;cases hl1;exact yB ar () aa [c1]
def l59:List y7:=Yo 153 F8_ s7 QU::l58
def z5E [H:HS X0 l58]:OkH l59:=yS1 true func153 λvals r0 aa E hE=>by
 refine yN 111 [] [3] (λz:Unit=>VW=some r0) (λz=>[]) [0,3] [Hh (.cut 2)] ?_ λJ1 ar=>?_
 ·rintro⟨⟩ aa;cases aa;exact yE hE []
 refine yMb 111210 [J1] [3,6,7,8] (λx=>[(8,.d (I x))]) aa  [Ha (lnM s7 vals)] λt2 aa x8 m2 av ae hl1 J2 au=>?_;obtain c0|c0:=zC ae
 ·obtain⟨pr,h0,ae⟩:=zn c0.2;obtain c1|c1:=zC ae
  ·cases c1.2;cases hl1;cases aa;exact yE hE [c0,Hi s7 h0,c1]
  cases c1.2;exact yB au _ hl1 [c0,Hi s7 h0,c1]
 cases c0.2;cases hl1;exact yB ar () aa [c0]
def l60:List y7:=uR 125 F8_ F8_ s7 yI::l59
def z1q [H:HS X0 l59]:OkH l60:=yS2 true func125 λa_ b_ r0 aa E hE=>by obtain⟨r_,h0,ai,h1,ak,h2,aa⟩:=jI aa;cases aa;exact yE hE [Ha (lnM s7 a_),Ha (lnM s7 b_),zC2 2 h0,zC2 1 h1,zg 0,Hm (shM s7 s7 ([r_,ai])),Hs (zf1 0 h2 (loC F4_ [r_,ai]<|loN))]
def l61:List y7:=uR 138 F8_ F8_ eB jj::l60
def z0Q [H:HS X0 l60]:OkH l61:=yS2 true func138 λa_ b_ r0 aa E hE=>by obtain⟨r_,h0,aa⟩:=zn aa;cases aa;exact yE hE [zC2 0 h0]
def l62:List y7:=uR 137 z0M (ziG 138) z0M xy [true,false]::l61
def y5:XH prog:=((znD zu 64).or X0)
def Yq [H:HS y5 l61]:OkH l62:=yS2 true func137 λs_ eq r0 aa E hE=>by
 refine z5b (y:=eOs 1 false F8_ s_) rfl 0 (by kernel_rfl) (by kernel_rfl) λcu hv0=>?_;let Z0:List HO:=[Ha (lnM F8_ s_)];obtain c0|c0:=zC aa
 ·cases c0.2;exact yE hE (Z0++[c0])
 refine yN 111 [] [0] (λz:Unit=>vU s_=some r0) (λz=>[]) [0,1] (Z0++[c0,Hh (.cut 0)]) ?_ λJ1 ar=>?_
 ·rintro⟨⟩ aa;cases aa;exact yE hE []
 refine yMb 111210 [J1] [0,1,5] (λx=>[(5,.d (I x))]) c0.2  [] λt2 aa k_ m2 av ae hl1 J2 au=>?_;let Z1:List HO:=[Ha (lnM F8_ s_)];obtain c1|c1:=zC ae
 ·refine yNs 11121001 [J1,J2] [0,1,5] (λz:Unit=>xV k_=some av) (λz=>[]) (Z1++[c1,Hh (.cut 0)]) ?_ λJ3 bg=>?_
  ·rintro⟨⟩ ae;cases ae;exact yB au _ hl1 []
  obtain⟨eb,h0,nn,h1,r_,h2,ae⟩:=jI c1.2;let Z2:List HO:=[Hn (iL F8_ h0),Hs (iM F8_ h0),Hn (iL F8_ h1),Hs (iM F8_ h1),zC2 0 h2];obtain c2|c2:=zC ae
  ·obtain⟨g0,ae⟩:=gdE c2.2;refine yK (H:=zx ((xAs prog 6 (Ve 1 cu k_)).or ((xVw zu 31 0 cu).or y5))) 1112100120101 [J1,J2,J3] [0,5] (λz:TA×Int=>yh z.1 z.2=some av) (λz=>[(0,.own (eOs 1 false F8_ z.1)),(5,.d (I z.2))]) [0,1,5,6] (Z2++[c2,Hn (⟨.inl rfl,rfl⟩:(T.als 0 [] 0 0=T.als 0 [] 0 0\/T.als 0 [] 0 0=T.d (.atom cu))/\some cu=some cu),Hn (⟨g0.1,cuB F8_ g0⟩:(0:Int)<=k_/\k_.toNat<=(s_.map F8_).length),Hn (rfl:T.d (.atom (Ve 1 cu k_))=T.d (.atom (Ve 1 cu k_))),Hh (.cut 1)]) ?_ λJ4 db=>?_
   ·rintro⟨bk,de⟩ ae;obtain⟨g1,ae⟩:=gdE ae;obtain⟨g2,ae⟩:=gdE ae;obtain⟨g3,ae⟩:=gdE ae;cases ae;cases hl1;cases aa;exact yE (H:=zx ((xVc zu 61 1 0 cu de).or ((xVw zu 61 0 cu).or y5))) hE [Hn (⟨.inl rfl,rfl⟩:(T.als 0 [] 0 0=T.als 0 [] 0 0\/T.als 0 [] 0 0=T.d (.atom cu))/\some cu=some cu),Hn (⟨g1.1,cuB F8_ g1⟩:(0:Int)<=de/\de.toNat<=(bk.map F8_).length),Hn (⟨rfl,rfl⟩:T.d (.atom (Ve 1 cu de))=T.d (.atom (Ve 1 cu de))/\some cu=some cu),Hn (⟨g2.1,cuB F8_ g2,dM F8_ bk⟩:(0:Int)<=de/\de.toNat<=(bk.map F8_).length/\A.areD (bk.map F8_)=true),Hx (.l ((bk.take de.toNat++List.replicate (bk.length-de.toNat) []).map F8_)) (vcM F8_ bk de.toNat ([]:TB)),Hn g3.1,Hn (cuB F8_ g3),Hl (cuM F8_ (bk.take de.toNat++List.replicate (bk.length-de.toNat) []) de)]
   refine yMb 1112100120101210 [J1,J2,J3,J4] [0,1,5,6,7] (λx=>[(0,.own (eOs 1 false F8_ x.1)),(5,.d (I x.2.1)),(7,.d (I x.2.2))]) ae  [] λt5 ae ⟨da,kj,k2⟩ m5 dj ah hl2 J5 dc=>?_;let Z3:List HO:=[Hn (⟨rfl,rfl⟩:T.d (.atom (Ve 1 cu k_))=T.d (.atom (Ve 1 cu k_))/\some cu=some cu),Hx (.a (.atom (.int .i64 ((da.length-k_.toNat:Nat):Int)))) (vlM F8_ da k_.toNat)];obtain c3|c3:=zC ah
   ·refine yNs (H:=zx ((xVl zu 34 32 1 0 cu k_ (by kernel_rfl)).or y5)) 111210012010121001 [J1,J2,J3,J4,J5] [0,1,5,6,7] (λz:TA×Int=>yg k2 z.1 z.2=some dj) (λz=>[(0,.own (eOs 1 false F8_ z.1)),(5,.d (I z.2))]) (Z3++[c3,Hh (.cut 0)]) ?_ λJ6 ep=>?_
    ·rintro⟨ng,p8⟩ ah;cases ah;exact yB dc _ hl2 []
    obtain⟨g4,ah⟩:=gdE c3.2;obtain⟨ot,h3,ah⟩:=zn ah;obtain⟨g5,ah⟩:=gdE ah;obtain⟨ou,h4,ai,h5,ah⟩:=ya ah;let Z4:List HO:=[Hn (⟨rfl,rfl⟩:T.d (.atom (Ve 1 cu k_))=T.d (.atom (Ve 1 cu k_))/\some cu=some cu),Hn (⟨g4.1,g4.2,(iL F8_ h3).2⟩:(0:Int)<=k_/\(0:Int)<=k2/\(k_+k2).toNat<(da.map F8_).length),Hs (iM F8_ h3),Hn (⟨rfl,rfl⟩:T.d (.atom (Ve 1 cu k_))=T.d (.atom (Ve 1 cu k_))/\some cu=some cu),Hn (⟨g5.1,g5.2,(iL F8_ h4).2⟩:(0:Int)<=k_/\(0:Int)<=w64 (k2-1)/\(k_+(w64 (k2-1))).toNat<(da.map F8_).length),Hs (iM F8_ h4),zC2 0 h5];obtain c4|c4:=zC ah
    ·obtain⟨g6,ah⟩:=gdE c4.2;obtain⟨ov,h6,r9,h7,ah⟩:=ya ah;exact yB (H:=zx ((xVi zu 54 1 0 cu k_).or ((xVi zu 46 1 0 cu k_).or ((xVi zu 41 1 0 cu k_).or y5)))) ep ((da.set kj.toNat ov),w64 (kj+1)) ah (Z4++[c4,Hn (⟨rfl,rfl⟩:T.d (.atom (Ve 1 cu k_))=T.d (.atom (Ve 1 cu k_))/\some cu=some cu),Hn (⟨g6.1,g6.2,(iL F8_ h6).2⟩:(0:Int)<=k_/\(0:Int)<=k2/\(k_+k2).toNat<(da.map F8_).length),Hs (iM F8_ h6),Hn (iL F8_ h7),Hs (iM F8_ h7),Hs (iM F8_ h7),Hl (sM F8_ da kj ov)])
    exact yB (H:=zx ((xVi zu 46 1 0 cu k_).or ((xVi zu 41 1 0 cu k_).or y5))) ep (da,kj) c4.2 (Z4++[c4])
   cases c3.2;cases hl2;exact yB (H:=zx ((xVl zu 34 32 1 0 cu k_ (by kernel_rfl)).or y5)) db (da,kj) ae (Z3++[c3])
  exact yB bg () c2.2 (Z2++[c2])
 cases c1.2;cases hl1;exact yB ar () aa (Z1++[c1])
def xH:y7:=spR (α:=TA) (ρ:=TA) 112 (λx=>[z0M x]) (λr=>(eOs 1 true F8_) r) (λx=>wp x) [true] (zow)
def XY:∀x r,(λx=>wp x) x=some r->(KX.add xH).run 112 ((KX.add xH).norm 112 ((λx=>[z0M x]) x))=some ((λr=>(eOs 1 true F8_) r) r):=λx r h=>znc h rfl
def W0:(KX.add xH).gives 112=[true]:=zhY
def vh [H:HS X0 l62]:xH.Ok prog:=by refine zai ?_;rintro s_ r0 aa;refine zY true func112 λE hE=>?_;cases aa;exact yE (H:=zx ((xCl zu 8).or X0)) hE [Ha (lnM F8_ s_),Ha (lnM F8_ s_),Hn (nB _:(0:Int)<=((s_.length:Nat):Int)),Hn (nB _:(0:Int)<=((s_.length:Nat):Int)),Hn (clB F8_ s_),Ha (clE 1 F8_ s_)]
def l63:List y7:=Yo 91 yp s7 Xd::l62
def z4b [H:HS X0 l62]:OkH l63:=yS1 true func91 λl_ r0 aa E hE=>by
 refine yK 11 [] [2] (zI Jq r0) (λz=>[(2,.d (I z))]) [0,2] [Hh (.cut 1)] ?_ λJ1 ar=>?_
 ·rintro n_ aa;cases aa;exact yE hE []
 refine yMb 11210 [J1] [2,5,6,7] (λx=>[(2,.d (I x.1)),(7,.d (I x.2))]) aa  [Ha (lnM F8_ l_)] λt2 aa ⟨ca,x7⟩ m2 av ae hl1 J2 au=>?_;obtain c0|c0:=zC ae
 ·obtain⟨bi,h0,ae⟩:=zn c0.2;cases ae;exact yB au _ hl1 [c0,Hi F8_ h0,Ha (lnM s7 bi)]
 cases c0.2;cases hl1;exact yB ar ca aa [c0]
def l64:List y7:=Yo 104 yp (eT2 kC s7) xD::l63
def z2S [H:HS X0 l63]:OkH l64:=yS1 false func104 λl_ r0 aa E hE=>by
 obtain⟨r_,h0,aa⟩:=zn aa;refine yC 111 [] [4] [zC1 8 h0,Hh (.cut 0)] ?_;obtain⟨sorted,h1,aa⟩:=zn aa;refine z6R (by kernel_rfl) (x:=(sub [1,1,0] (zbd f104))) (y:=(sub [1,1,1] (zbd f104))) 4 (λst1=>Own.canon [4] st1=ofL [(4,.own (eOs 1 false F8_ sorted))]) (λjo=>yF (H:=zx ((qZ (P:=prog) wD [4] (zak zjW (f:=F8_) (t:=false) (v:=jo) (λ_=>rfl) (λ_=>rfl) (λx y c h=>(zk2 3 h :)) h1) 10).or X0)) .normal [(4,.own (eOs 1 false F8_ sorted))] [Hn (Yr (f:=.fn 136 []) (xs:=[.atom jo,.fn 125 []]) (ls:=[(jo,eOs 1 false F8_ r_)]) (r:=.tup []) (ys:=[eOs 1 false F8_ sorted]) [.atom jo,.fn 125 []] (show Jp [.atom jo,.fn 125 []] [.atom jo,.fn 125 []] from inferInstance))] λst0 h0=>⟨rfl,h0⟩) λst1 h1=>z5c h1 ?_;obtain⟨ai,h2,ak,h3,aa⟩:=ya aa;let Z0:List HO:=[zC2 1 h2,Hh (.g [true]),Hn W0,Hx (.a ((eOs 1 true F8_) ak)) (XY ai _ h3),Ha (lnM F8_ ak)];obtain c0|c0:=zC aa
 ·cases c0.2;exact yEx (H:=zx ((z44 zu (vh (H:=zd 1)) 13).or X0)) hE (Z0++(rpN 4 (Hb c0) [qT,Hm (shM F8_ F8_ [])])) (.tup [eSl 1 true F4_ [],I 3]) (show LeV (.tup [eSl 1 true F4_ [],I 3]) (.tup [eSl 1 true F4_ ([]:TA),I 3]) from inferInstance)
 obtain⟨am,h4,aa⟩:=zn c0.2;let Z1:List HO:=(Z0++[Hb c0,Hb c0,zg 0,Hm (shM F8_ F8_ ak),Hs (zf1 0 h4 (loC z6W ak<|loN)),Hb c0,Hb c0]);obtain c1|c1:=zC aa
 ·cases c1.2;exact yEx (H:=zx ((z44 zu (vh (H:=zd 1)) 13).or X0)) hE (Z1++[c1,Hm (shM F8_ F8_ [])]) (.tup [eSl 1 true F4_ [],I 3]) (show LeV (.tup [eSl 1 true F4_ [],I 3]) (.tup [eSl 1 true F4_ ([]:TA),I 3]) from inferInstance)
 refine yC (H:=zx ((z44 zu (vh (H:=zd 1)) 13).or X0)) 111111 [] [4] (Z1++[Hb c1,Hh (.cut 0)]) ?_;refine z5b (y:=eOs 1 true F8_ ak) (by kernel_rfl) 4 (by kernel_rfl) (by kernel_rfl) λjo hv4=>?_;refine yKs 111111 [] [4] (zI Xe r0) (λz=>[(4,.own (eOs 1 true (eFl 1 s7) z))]) [Hh (.cut 0)] ?_ λJ1 ar=>?_
 ·rintro out aa;obtain⟨hfl0,aa⟩:=gdE aa;cases aa;exact yEx hE [Hm (shM (eFl 1 s7) (eFl 1 s7) out)] (.tup [eSl 1 true (eFl 1 s7) out,I 0]) (haveI:=flA (s:=1) (t:=1) (b:=true) (f:=s7) hfl0;show LeV (.tup [eSl 1 true (eFl 1 s7) out,I 0]) (.tup [eSl 1 true F4_ (out.map (·.1)),I 0]) from inferInstance)
 obtain⟨t2,ht2,aa⟩:=zn c1.2;refine yLx (H:=zx ((xVl zu 23 32 1 4 jo (0:Int) (by kernel_rfl)).or ((xMw prog 22 4 1 jo).or X0))) 111111210 [J1] (λs=>wG ak s.1 s.2) (λx=>[(4,.own (eOs 1 true (eFl 1 s7) x.1)),(22,.d (.atom (Ve 1 jo (0:Int)))),(23,.d (I ((ak.length-(0:Int).toNat:Nat):Int))),(24,.d (I x.2))]) ((ak.map λq=>(q,false)),0) ht2 [(4,.own (eOs 1 true F8_ ak)),(22,.d (.atom (Ve 1 jo (0:Int)))),(23,.d (I ((ak.length-(0:Int).toNat:Nat):Int))),(24,.d (I 0))] inferInstance [Hn (rfl:some jo=some jo),Hn (⟨rfl,rfl⟩:T.d (.atom (Ve 1 jo (0:Int)))=T.d (.atom (Ve 1 jo (0:Int)))/\some jo=some jo),Hx (.a (.atom (.int .i64 ((ak.length-(0:Int).toNat:Nat):Int)))) (vlM F8_ ak (0:Int).toNat)] λ⟨ax,ga⟩ m2 av ae hl1 J2 au=>?_;obtain c2|c2:=zC ae
 ·obtain⟨g0,ae⟩:=gdE c2.2;obtain⟨dn,h5,az,h6,bn,h7,jr,h8,ae⟩:=z6P ae;cases ae;exact yB (H:=zx ((xVi zu 27 1 4 jo (0:Int)).or X0)) au _ hl1 [Hb c2,Hn (⟨rfl,rfl⟩:T.d (.atom (Ve 1 jo (0:Int)))=T.d (.atom (Ve 1 jo (0:Int)))/\some jo=some jo),Hn (⟨g0.1,g0.2,(iL (eFl 1 s7) h5).2⟩:(0:Int)<=0/\(0:Int)<=ga/\(0+ga).toNat<(ax.map (eFl 1 s7)).length),Hs (iM (eFl 1 s7) h5),Hk [] (z2u (hat 17)) (zf1 17 h6 (loC (eSl 1 dn.2 s7) dn.1<|loN)),zg 16,Hm (shM s7 s7 az),Hs (zf1 16 h7 (loC F8_ az<|loN)),Hm (shM s7 s7 az),Hn (iL (eFl 1 s7) h8),Hs (iM (eFl 1 s7) h8),Hs (iM (eFl 1 s7) h8),Hl (sM (eFl 1 s7) ax ga (bn,true))]
 cases c2.2;cases hl1;exact yB ar ax aa [Hb c2]
def l65:List y7:=uR 115 yp s7 (eT2 kC s7) Zv::l64
def z5p [H:HS X0 l64]:OkH l65:=yS2 false func115 λl_ inputs r0 aa E hE=>by
 obtain⟨r_,h0,aa⟩:=zn aa;let Z0:List HO:=[zC2 10 h0];obtain c0|c0:=zC aa
 ·cases c0.2;exact yE hE (Z0++[c0,Hm (shM F8_ F8_ [])])
 obtain⟨ai,h1,aa⟩:=zn c0.2;cases aa;exact yE hE (Z0++[c0,zC1 0 h1])
def l66:List y7:=Yo 70 xe (eT2 kC s7) qX::l65
def z1D [H:HS X0 l65]:OkH l66:=yS1 false func70 λm_ r0 aa E hE=>by
 obtain⟨r_,h0,aa⟩:=zn aa;let Z0:List HO:=[zC1 31 h0];obtain c0|c0:=zC aa
 ·cases c0.2;exact yE hE (Z0++[c0,Hm (shM F8_ F8_ [])])
 obtain c1|c1:=zC c0.2
 ·cases c1.2;exact yE hE (Z0++[c0,c1,Hm (shM F8_ F8_ [])])
 obtain⟨ai,h1,aa⟩:=zn c1.2;let Z1:List HO:=(Z0++[c0,c1,zC1 16 h1]);obtain c2|c2:=zC aa
 ·cases c2.2;exact yE hE (Z1++[c2,Hm (shM F8_ F8_ [])])
 obtain⟨ak,h2,aa⟩:=zn c2.2;cases aa;exact yE hE (Z1++[c2,Hk [] (z2u (hat 0)) (zf2 0 h2 (loC kC ai.1<|loC s7 m_.j<|loN))])
def l67:List y7:=z2N 119 s7 s7 s7 (eT2 kC s7) WW::l66
def z80:XH prog:=((X8 zu (.inl 83) [82]).or X0)
def z73 [H:HS z80 l66]:OkH l67:=yS3 false func119 λinputs from_ to r0 aa E hE=>by
 obtain c0|c0:=zC aa
 ·cases c0.2;exact yE hE [c0,Hm (shM F8_ F8_ [])]
 obtain c1|c1:=zC c0.2
 ·cases c1.2;exact yE hE [c0,c1,c1,c1,qT,Hm (shM F8_ F8_ [])]
 let Z0:List HO:=[c0,c1,c1,c1];obtain c2|c2:=zC c1.2
 ·cases c2.2;exact yE hE (Z0++[c2,Hm (shM F8_ F8_ [])])
 obtain c3|c3:=zC c2.2
 ·cases c3.2;exact yE hE (Z0++[c2,c3,Hm (shM F8_ F8_ [])])
 obtain⟨t1,ht1,aa⟩:=zn c3.2;refine yMx 1111111110 [] [0,1,2,8,9,10,11] (λx=>[(8,.own (eOs 1 false F8_ x.1)),(9,.own (eOs 1 false F8_ x.2.1)),(10,.d (I x.2.2.1)),(11,.d (I x.2.2.2))]) ht1 [(8,.own (eOs 1 true F8_ [])),(9,.own (eOs 1 true F4_ ([[]]))),(10,.d (I 0)),(11,.d (I 0))] (Z0++[c2,c3,Hh (.v 5 [9]),Hm (shM F5_ F4_ ([[]]:TA))]) λ⟨out,ay,n_,k_⟩ m1 av ae hl1 J1 ar=>?_;refine yN 11111111100 [J1] [0,1,2,8,9,10,11,45,46,49,50,51,52,58] (λz:TA×TA×Int×Int×Bool×Bool=>UT k_ z.1 z.2.1 z.2.2.1 z.2.2.2.1 z.2.2.2.2.1 z.2.2.2.2.2=some av) (λz=>[(8,.own (eOs 1 false F8_ z.1)),(9,.own (eOs 1 false F8_ z.2.1)),(10,.d (I z.2.2.1)),(45,.d (I z.2.2.2.1)),(46,.d (B z.2.2.2.2.1)),(49,.d (I k_)),(50,.d (I to)),(51,.d (B (decide (k_<to)))),(52,.d (B (decide (k_<to)))),(58,.d (B z.2.2.2.2.2))]) [0,1,2,8,9,10,11] [Hh (.cut 0)] ?_ λJ2 au=>?_
 ·rintro⟨aj,cq,ca,ri,nh,oz⟩ ae;cases ae;exact yB ar _ hl1 []
 refine yNs 1111111110020 [J1,J2] [0,1,2,8,9,10,11] (λz:TA×Int=>Y4 inputs to ay k_ z.1 z.2=some av) (λz=>[(8,.own (eOs 1 false F8_ z.1)),(10,.d (I z.2))]) [Hh (.cut 0)] ?_ λJ3 bg=>?_
 ·rintro⟨ax,cd⟩ ae;refine yN 11111111100201 [J1,J2] [0,1,2,8,9,10,11,45,46,49,50,51,52,58] (zI (Y3 inputs to ay k_ ax cd) av) (λz=>[(45,.d (I cd)),(46,.d (B (decide (cd > 65536)))),(49,.d (I k_)),(50,.d (I to)),(51,.d (B (decide (k_<to)))),(52,.d (B (decide (k_<to)))),(58,.d (B z))]) [0,1,2,8,9,10,11] [Hh (.cut 0)] ?_ λJ4 db=>?_
  ·rintro il ae;obtain c4|c4:=zC ae
   ·obtain⟨r_,h0,ae⟩:=zn c4.2;cases ae;cases hl1;cases aa;exact yE hE [c4,zg 2,Hm (shM F8_ F8_ ax),Hs (zf1 2 h0 (loC yp ax<|loN)),Hm (shM F8_ F8_ ax)]
   refine yN 11111111100201111 [J1,J2] [0,1,2,8,10,11,12,45,46,49,50,51,52,58] (zI (US k_ ax cd il) av) (λz=>[(12,.own (eOs 1 false F8_ z))]) [0,1,2,8,9,10,11,12,45,46,49,50,51,52,58] [c4,Hh (.cut 1)] ?_ λJ5 dc=>?_
   ·rintro next ae
    exact yB au (ax,next,cd,cd,decide (cd>65536),il) ae []
   obtain⟨t6,kb,ae⟩:=zn c4.2;refine yMx 11111111100201111210 [J1,J2,J5] [0,1,2,8,9,10,11,12,45,46,49,50,51,52,58,67,68,69] (λx=>[(12,.own (eOs 1 false F8_ x.1)),(69,.d (I x.2))]) kb [(12,.own (eOs 1 true F8_ [])),(69,.d (I 0))] [Ha (lnM F8_ ay)] λ⟨cr,lc⟩ m6 dj ah hl2 J6 ep=>?_;obtain c5|c5:=zC ah
   ·refine yNs 11111111100201111210011 [J1,J2,J5,J6] [0,1,2,8,9,10,11,12,45,46,49,50,51,52,58,67,68,69] (zI (UR lc) dj) (λz=>[(12,.own (eOs 1 false F8_ z))]) [c5,Hh (.cut 0)] ?_ λJ7 gw=>?_
    ·rintro ff ah;cases ah;exact yB ep _ hl2 []
    obtain⟨a8,h1,t8,ht8,ah⟩:=ya c5.2;refine yM 1111111110020111121001120110 [J1,J2,J5,J6,J7] [0,1,2,8,9,10,11,12,14,45,46,49,50,51,52,58,67,68,69,73,74] (λx=>[(12,.own (eOs 1 false F8_ x.1)),(74,.d (I x.2))]) ht8  [Hn (iL F8_ h1),Hs (iM F8_ h1)] λ⟨cb,ld⟩ m8 nb aw hl3 J8 lq=>?_;obtain c6|c6:=zC aw
    ·obtain⟨ai,h2,aw⟩:=zn c6.2;obtain⟨g0,aw⟩:=gdE aw;obtain⟨g1,aw⟩:=gdE aw;cases aw;exact yB lq _ hl3 [c6,zC1 19 h2,Hq (dM s7 [ld]),Hn (dM s7 [ld]),Hn (aN s7 s7 g0 (by simp)),Hl (aM s7 ai [ld]),Hm (shM s7 s7 (ai++[ld])),Hq (dM F8_ [(ai++[ld])]),Hn (dM F8_ [(ai++[ld])]),Hn (aL F8_ F8_ g1),Hl (aM F8_ cb [(ai++[ld])])]
    cases c6.2;cases hl3;exact yB gw cb ah [c6]
   cases c5.2;cases hl2;exact yB dc cr ae [c5]
  let Z1:List HO:=[Ha (lnM F8_ ax)];obtain c7|c7:=zC ae
  ·cases c7.2;cases hl1;cases aa;exact yE hE (Z1++(Hb c7::Hb c7::Hb c7::(rpN 7 qT [Hm (shM F8_ F8_ [])])))
  obtain c8|c8:=zC c7.2
  ·cases c8.2;cases hl1;cases aa;exact yE hE (Z1++(Hb c7::Hb c7::Hb c7::(rpN 6 (Hb c8) [qT,Hm (shM F8_ F8_ [])])))
  let Z2:List HO:=(Z1++(Hb c7::Hb c7::Hb c7::(rpN 4 (Hb c8) [])));obtain c9|c9:=zC c8.2
  ·let Z3:List HO:=(Z2++[c9,c9,Ha (lnM F8_ ay),c9,c9,c9,c8,c9,c8]);obtain c10|c10:=zC c9.2
   ·cases c10.2;cases hl1;cases aa;exact yE hE (Z3++[c10,Hm (shM F8_ F8_ [])])
   exact yB db (decide ((w64 (((ay.length:Nat):Int)*inputs))>4096)) c10.2 (Z3++[c10])
  exact yB db false c9.2 (Z2++(rpN 5 (Hb c9) [c8,c9,c8,qF]))
 obtain c11|c11:=zC ae
 ·obtain⟨g2,ae⟩:=gdE c11.2;exact yB bg ((out++ay),w64 (n_+(w64 (k_*((ay.length:Nat):Int))))) ae [c11,Hq (dM F8_ ay),Hn (dM F8_ ay),Hn (aL F8_ F8_ g2),Hl (aM F8_ out ay),Ha (lnM F8_ ay)]
 exact yB bg (out,n_) c11.2 [c11]
def l68:List y7:=uR 73 s7 s7 (eT2 kC s7) WX::l67
def z5o [H:HS X0 l67]:OkH l68:=yS2 false func73 λinputs k_ r0 aa E hE=>by obtain⟨r_,h0,aa⟩:=zn aa;cases aa;exact yE hE [zC3 0 h0]
def l69:List y7:=Yo 90 yp eB Vp::l68
def z4d [H:HS X0 l68]:OkH l69:=yS1 true func90 λl_ r0 aa E hE=>by
 refine yK 11 [] [] (λz:Unit=>Wr=some r0) (λz=>[]) [0] [Hh (.cut 1)] ?_ λJ1 ar=>?_
 ·rintro⟨⟩ aa;cases aa;exact yE hE []
 refine yMb 11210 [J1] [0,3] (λx=>[(3,.d (I x))]) aa  [] λt2 aa i_ m2 av ae hl1 J2 au=>?_;let Z0:List HO:=[Ha (lnM F8_ l_)];obtain c0|c0:=zC ae
 ·obtain⟨bi,h0,ew,h1,r_,h2,ae⟩:=jI c0.2;let Z1:List HO:=(Z0++[c0,Hi F8_ h0,Hi F8_ h1,zC2 8 h2]);obtain c1|c1:=zC ae
  ·cases c1.2;cases hl1;cases aa;exact yE hE (Z1++[c1])
  cases c1.2;exact yB au _ hl1 (Z1++[c1])
 cases c0.2;cases hl1;exact yB ar () aa (Z0++[c0])
def l70:List y7:=uR 54 yp s7 s7 Xh::l69
def z4g [H:HS X0 l69]:OkH l70:=yS2 true func54 λl_ inputs r0 aa E hE=>by
 obtain⟨r_,h0,aa⟩:=zn aa;let Z0:List HO:=[zC2 15 h0];obtain c0|c0:=zC aa
 ·cases c0.2;exact yE hE (Z0++[c0])
 obtain⟨ai,h1,aa⟩:=zn c0.2;let Z1:List HO:=(Z0++[c0,zC1 0 h1]);obtain c1|c1:=zC aa
 ·cases c1.2;exact yE hE (Z1++[c1])
 obtain⟨ak,h2,aa⟩:=zn c1.2;let Z2:List HO:=(Z1++[c1,zC1 6 h2]);obtain c2|c2:=zC aa
 ·cases c2.2;exact yE hE (Z2++[c2])
 cases c2.2;exact yE hE (Z2++[c2])
def l71:List y7:=uR 103 s7 zoX s7 WV::l70
def z5n [H:HS X0 l70]:OkH l71:=yS2 true func103 λinputs l_ r0 aa E hE=>by
 refine yK 11 [] [] (λz:Unit=>Vo=some r0) (λz=>[]) [0,1] [Hh (.cut 1)] ?_ λJ1 ar=>?_
 ·rintro⟨⟩ aa;cases aa;exact yE hE []
 refine yMb 11210 [J1] [0,8,9,10] (λx=>[(10,.d (I x))]) aa  [Ha (lnM yp l_)] λt2 aa gi m2 av ae hl1 J2 au=>?_;obtain c0|c0:=zC ae
 ·obtain⟨bi,h0,r_,h1,ae⟩:=ya c0.2;let Z0:List HO:=[c0,Hi yp h0,zC2 0 h1];obtain c1|c1:=zC ae
  ·cases c1.2;cases hl1;cases aa;exact yE hE (Z0++[c1])
  cases c1.2;exact yB au _ hl1 (Z0++[c1])
 cases c0.2;cases hl1;exact yB ar () aa [c0]
def l72:List y7:=Yo 166 F8_ KJ Ka::l71
def z72 [H:HS X0 l71]:OkH l72:=yS1 true func166 λw_ r0 aa E hE=>by
 obtain⟨g0,aa⟩:=gdE aa;refine yK 111 [] [3] (zI z0y r0) (λz=>[(3,.own (eOs 1 true (eI .u8) z))]) [0,3] [Ha (lnM s7 w_),Hn (rL g0),Ha (rM 1 (eI .u8) ((w_.length:Nat):Int) (0:Int)),Hh (.cut 0)] ?_ λJ1 ar=>?_
 ·rintro b_ aa;cases aa;exact yE (H:=zx ((zp2 prog zho).or X0)) hE [Hx (.a (KJ (u8s b_))) (stM b_)]
 refine yMb 111210 [J1] [3,9,10,11] (λx=>[(3,.own (eOs 1 true (eI .u8) x.1)),(11,.d (I x.2))]) aa  [Ha (lnM s7 w_)] λt2 aa ⟨kw,ig⟩ m2 av ae hl1 J2 au=>?_;obtain c0|c0:=zC ae
 ·obtain⟨fc,h0,dx,h1,ae⟩:=ya c0.2;cases ae;exact yB au _ hl1 [c0,Hi s7 h0,Hn (iL (eI .u8) h1),Hs (iM (eI .u8) h1),Hs (iM (eI .u8) h1),Hl (sM (eI .u8) kw ig (IntKind.u8.wrap (fc)))]
 cases c0.2;cases hl1;exact yB ar kw aa [c0]
def l73:List y7:=z2N 147 yp yp s7 (eT2 kC s7) Y5::l72
def z2T [H:HS X0 l72]:OkH l73:=yS3 false func147 λa_ b_ inputs r0 aa E hE=>by
 obtain⟨r_,h0,aa⟩:=zn aa;let Z0:List HO:=[zg 1,Hm (shM yp yp ([a_,b_])),Hs (zf2 1 h0 (loC s7 inputs<|loC (eSl 1 true yp) [a_,b_]<|loN))];obtain c0|c0:=zC aa
 ·cases c0.2;exact yE hE (Z0++[c0,Hm (shM F8_ F8_ [])])
 refine yK (H:=zx ((ziS prog 26).or X0)) 111111 [] [11] (zI kI r0) (λz=>[(11,.own (eOs 1 false F8_ z))]) [0,1,9,10,11] (Z0++[c0,Hh (.cut 3)]) ?_ λJ1 ar=>?_
 ·rintro out aa;obtain⟨ai,h1,aa⟩:=zn aa;cases aa;exact yE hE [zg 8,Hm (shM F8_ F8_ out),Hs (zf1 8 h1 (loC yp out<|loN)),Hm (shM F8_ F8_ out)]
 obtain⟨t2,ht2,aa⟩:=zn c0.2;refine yMx 111111210 [J1] [1,9,10,11,27,28,29] (λx=>[(9,.own (.opq (Ji (Yk KJ eB x.1)))),(10,.d (I x.2.1)),(11,.own (eOs 1 false F8_ x.2.2.1)),(29,.d (I x.2.2.2))]) ht2 [(9,.own (.opq (Ji (Yk KJ eB ([]:List ((List UInt8)×Bool)))))),(10,.d (I 0)),(11,.own (eOs 1 true F8_ [])),(29,.d (I 0))] [Ha (lnM F8_ a_)] λ⟨kh,n_,aj,fg⟩ m2 av ae hl1 J2 au=>?_;obtain c1|c1:=zC ae
 ·refine yNs 111111210011 [J1,J2] [1,9,10,11,27,28,29] (λz:(List ((List UInt8)×Bool))×Int×TA=>kH fg z.1 z.2.1 z.2.2=some av) (λz=>[(9,.own (.opq (Ji (Yk KJ eB z.1)))),(10,.d (I z.2.1)),(11,.own (eOs 1 false F8_ z.2.2))]) [c1,Hh (.cut 0)] ?_ λJ3 bg=>?_
  ·rintro⟨gn,ca,ax⟩ ae;cases ae;exact yB au _ hl1 []
  obtain⟨dv,h2,t4,ht4,ae⟩:=ya c1.2;refine yM 11111121001120110 [J1,J2,J3] [1,9,10,11,13,27,28,29,33,34,35] (λx=>[(9,.own (.opq (Ji (Yk KJ eB x.1)))),(10,.d (I x.2.1)),(11,.own (eOs 1 false F8_ x.2.2.1)),(35,.d (I x.2.2.2))]) ht4  [Hi F8_ h2,Ha (lnM F8_ b_)] λ⟨eu,cd,bo,ib⟩ m4 dj ah hl2 J4 db=>?_;obtain c2|c2:=zC ah
  ·obtain⟨dx,h3,ak,h4,ah⟩:=ya c2.2;obtain⟨g0,ah⟩:=gdE ah;let Z1:List HO:=[c2,Hi F8_ h3,zC1 25 h4,Hn (apM s7 g0),Hl (aM s7 ak dx),Ha (lnM s7 (ak++dx))];obtain c3|c3:=zC ah
   ·cases c3.2;cases hl2;cases ae;cases hl1;cases aa;exact yE (H:=zx ((xAp zu 42).or X0)) hE (Z1++[c3,Hm (shM F8_ F8_ [])])
   refine yN (H:=zx ((xAp zu 42).or X0)) 1111112100112011001100111 [J1,J2,J3,J4] [1,9,10,11,13,27,28,29,33,34,35] (λz:(List ((List UInt8)×Bool))×Int×TA=>uX ib z.1 z.2.1 z.2.2=some dj) (λz=>[(9,.own (.opq (Ji (Yk KJ eB z.1)))),(10,.d (I z.2.1)),(11,.own (eOs 1 false F8_ z.2.2))]) [1,9,10,11,13,16,27,28,29,33,34,35] (Z1++[c3,Hh (.cut 0)]) ?_ λJ5 dc=>?_
   ·rintro⟨oc,lf,gx⟩ ah;let Z2:List HO:=[Ha (lnM F8_ gx)];obtain c4|c4:=zC ah
    ·cases c4.2;cases hl2;cases ae;cases hl1;cases aa;exact yE hE (Z2++[c4,c4,c4,qT,Hm (shM F8_ F8_ [])])
    obtain c5|c5:=zC c4.2
    ·cases c5.2;cases hl2;cases ae;cases hl1;cases aa;exact yE hE (Z2++[c4,c4,c4,c5,Hm (shM F8_ F8_ [])])
    cases c5.2;exact yB db _ hl2 (Z2++[c4,c4,c4,c5])
   obtain⟨am,h5,val,h6,ah⟩:=ya c3.2;replace h6:=w9 h6;let Z3:List HO:=[zC1 0 h5,Hn (⟨rfl,rfl,z6L (λ_=>rfl) eu⟩:A.opq (Ji (Yk KJ eB eu))=A.opq (Ji (Yk KJ eB eu))/\z4Q (KJ am)=true/\∀p∈Yk KJ eB eu,z4Q p.1=true),Hx (.a (eB val)) ((zoy (f:=KJ) (g:=eB) (z0:=false) (z:=.atom (.bool false)) rfl am eu).trans (congrArg eB h6))];obtain c6|c6:=zC ah
   ·obtain⟨g1,ah⟩:=gdE c6.2;exact yB (H:=zx ((znA zbf 52 (Yk KJ eB eu) (Yk KJ eB (z2h eu am true))).or ((z9Y zbf 50 (Yk KJ eB eu)).or X0))) dc ((z2h eu am true),w64 (cd+(((ak++dx).length:Nat):Int)),(bo++[(ak++dx)])) ah (Z3++[c6,Hn (⟨rfl,rfl,rfl,rfl,z6L (λ_=>rfl) eu⟩:T.own (.opq (Ji (Yk KJ eB eu)))=T.own (.opq (Ji (Yk KJ eB eu)))/\0=0/\z4Q (KJ am)=true/\(eB true).isD=true/\∀p∈Yk KJ eB eu,z4Q p.1=true),Hn (zaR (f:=KJ) (g:=eB) am true eu),Hq (dM F8_ [(ak++dx)]),Hn (dM F8_ [(ak++dx)]),Hn (aL F8_ F8_ g1),Hl (aM F8_ bo [(ak++dx)]),Ha (lnM s7 (ak++dx))])
   exact yB (H:=zx ((z9Y zbf 50 (Yk KJ eB eu)).or X0)) dc (eu,cd,bo) c6.2 (Z3++[c6])
  cases c2.2;cases hl2;exact yB bg (eu,cd,bo) ae [c2]
 cases c1.2;cases hl1;exact yB ar aj aa [c1]
def l74:List y7:=uR 116 xe s7 (eT2 kC s7) Zj::l73
def z03 [H:HS X0 l73]:OkH l74:=yS2 false func116 λm_ k_ r0 aa E hE=>by
 obtain⟨r_,h0,aa⟩:=zn aa;let Z0:List HO:=[zC1 7 h0];obtain c0|c0:=zC aa
 ·cases c0.2;exact yE hE (Z0++[c0,Hm (shM F8_ F8_ [])])
 obtain c1|c1:=zC c0.2
 ·cases c1.2;exact yE hE (Z0++[c0,c1,Hm (shM F8_ F8_ [])])
 obtain⟨ai,h1,aa⟩:=zn c1.2;let Z1:List HO:=(Z0++[c0,c1,zC2 5 h1]);obtain c2|c2:=zC aa
 ·cases c2.2;exact yE hE (Z1++[c2,Hm (shM F8_ F8_ [])])
 obtain⟨ak,h2,aa⟩:=zn c2.2;cases aa;exact yE hE (Z1++[c2,Hk [] (z2u (hat 0)) (zf3 0 h2 (loC kC r_.1<|loC kC ai.1<|loC s7 m_.j<|loN))])
def l75:List y7:=Yo 71 xe (eT2 kC s7) ve::l74
def Jd [H:HS X0 l74]:OkH l75:=yS1 false func71 λm_ r0 aa E hE=>by obtain⟨r_,h0,aa⟩:=zn aa;cases aa;exact yE hE [zC2 0 h0]
def l76:List y7:=Yo 148 s7 (KW 167 (eSp s7)) Yj::l75
def z3d [H:HS X0 l75]:OkH l76:=yS1 true func148 λn_ r0 aa E hE=>by cases aa;exact yE hE []
abbrev Jo (x0:Int)(YY:σ->z1n)(x6:Int)(js:σ):List (Nat×T):=[(0,.own (.opq (YY js).q)),(1,.d (.sptr (I x0))),(5,.d (I x0)),(6,.d (I x6))]
abbrev Jm (x0:Int)(YY:σ->z1n)(x6:Int)(gg:σ)(b_:Int):List (Nat×T):=[(0,.own (.opq (YY gg).q)),(1,.d (.sptr (I x0))),(3,.d (I x6)),(4,.d (I b_)),(5,.d (I x0)),(6,.d (I x6))]
abbrev Jn (x0:Int)(YY:σ->z1n)(dw:σ)(x6:Int):List (Nat×T):=[(0,.own (.opq (YY dw).q)),(1,.d (.sptr (I x0))),(5,.d (I x0)),(6,.d (I x6))]
def Ue [H:HS X0 l76](x0:Int):z6V prog (.fn 167 [.sptr (I x0)]) (λ(x:Int×Int) (_:Bool) (_:Value)=>[s7 x.1,s7 x.2]) (@vt x0):=by
 refine z2m (tt:=wD) (nt:=f167.ntmps) (body:=zbd f167) zu func167 rfl (by kernel_rfl) rfl rfl (by show(2:Nat)<=22;decide) ?_;intro σ yv YY yy hy sg r0 aa E hE;obtain⟨t1,ht1,aa⟩:=zn aa;refine yL 110 [] (λs=>ZK x0 yy s.1 s.2) (λx=>Jn x0 YY x.1 x.2) (sg,0) ht1  [] λ⟨dw,x6⟩ m1 av ae hl1 J1 ar=>?_;obtain c0|c0:=zC ae
 ·refine yKs 110011 [J1] [0,1,5,6] (zI (ZL x6) av) (λz=>Jo x0 YY x6 z) [c0,Hh (.cut 0)] ?_ λJ2 au=>?_
  ·rintro js ae;cases ae;exact yB ar _ hl1 []
  obtain⟨t3,ht3,ae⟩:=zn c0.2;refine yL 11001120110 [J1,J2] (λs=>qU x0 yy x6 s.1 s.2) (λx=>Jm x0 YY x6 x.1 x.2) (dw,w64 (x6+1)) ht3  [] λ⟨gg,b_⟩ m3 dj ah hl2 J3 bg=>?_;obtain c1|c1:=zC ah
  ·obtain⟨yr,h0,ah⟩:=zn c1.2;let Z0:List HO:=[c1,Hn (z1L (yv:=yv) (Y:=YY) (enc:=(λ(x:Int×Int) (_:Bool) (_:Value)=>[s7 x.1,s7 x.2])) (s:=gg) (x:=(x6,b_)) (s':=yr.1) (b:=yr.2) (v:=.nilFunc) [s7 x6,s7 b_] (show Jp [s7 x6,s7 b_] [s7 x6,s7 b_] from inferInstance))];obtain c2|c2:=zC ah
   ·cases c2.2;cases hl2;cases ae;cases hl1;cases aa;exact yF (H:=zx ((UO (P:=prog) wD hy 19 (s:=gg) (x:=(x6,b_)) (s':=yr.1) (b:=yr.2) .nilFunc h0).or X0)) .ret [(0,.own (.opq (YY yr.1).q))] (Z0++[c2]) λst0 h0=>hE _ st0 (.inr rfl) h0
   cases c2.2;exact yB (H:=zx ((UO (P:=prog) wD hy 19 (s:=gg) (x:=(x6,b_)) (s':=yr.1) (b:=yr.2) .nilFunc h0).or X0)) bg _ hl2 (Z0++[c2])
  cases c1.2;cases hl2;exact yB au gg ae [c1]
 cases c0.2;cases hl1;cases aa;exact yF .normal [(0,.own (.opq (YY dw).q))] [c0] λst0 h0=>hE _ st0 (.inl rfl) h0
def l77:List y7:=uR 118 s7 s7 eB Qu::l76
def z3e [H:HS X0 l76]:OkH l77:=yS2 true func118 λa_ b_ r0 aa E hE=>by cases aa;exact yE hE []
def l78:List y7:=uR 187 s7 z43 eB ZR::l77
def z0S [H:HS X0 l77]:OkH l78:=yS2 true func187 λs_ x1 r0 aa E hE=>by
 obtain c0|c0:=zC aa
 ·cases c0.2;exact yE hE (rpN 6 (Hb c0) [])
 cases c0.2;exact yE hE (rpN 4 (Hb c0) [Ha (lnM xZ x1.i),c0,c0])
def vF:y7:=spF (α:=TB×z6) (ρ:=Int) 156 (λx=>[F8_ x.1,(KW 187 z43) x.2]) (λr=>s7 r) (λx=>xj x.1 x.2) [] (by rintro⟨a0,a1⟩ ⟨b0,b1⟩ h;have e0:=jK.inj (f:=F8_) _ _ (List.cons.inj h).1;replace h:=(List.cons.inj h).2;have e1:=jK.inj (f:=(KW 187 z43)) _ _ (List.cons.inj h).1;subst e0 e1;rfl)
def Y2 [H:HS X0 l78]:vF.Ok prog:=by
 refine UX ?_;rintro⟨s_,f_⟩ r0 aa;refine zY true func156 λE hE=>?_;refine yK 11 [] [] (λz:Unit=>vG=some r0) (λz=>[]) [0,1] [Hh (.cut 1)] ?_ λJ1 ar=>?_
 ·rintro⟨⟩ aa;cases aa;exact yE hE []
 refine yMb 11210 [J1] [0,1,7,8] (λx=>[(8,.d (I x))]) aa  [Ha (lnM s7 s_)] λt2 aa x8 m2 av ae hl1 J2 au=>?_;obtain c0|c0:=zC ae
 ·obtain⟨eb,h0,r_,h1,ae⟩:=ya c0.2;let Z0:List HO:=[c0,Hi s7 h0,zC2 0 h1];obtain c1|c1:=zC ae
  ·cases c1.2;cases hl1;cases aa;exact yE hE (Z0++[c1])
  cases c1.2;exact yB au _ hl1 (Z0++[c1])
 cases c0.2;cases hl1;exact yB ar () aa [c0]
def wR:y7:=spF (α:=TB×z6) (ρ:=Bool) 126 (λx=>[F8_ x.1,(KW 187 z43) x.2]) (λr=>eB r) (λx=>xN x.1 x.2) [] (by rintro⟨a0,a1⟩ ⟨b0,b1⟩ h;have e0:=jK.inj (f:=F8_) _ _ (List.cons.inj h).1;replace h:=(List.cons.inj h).2;have e1:=jK.inj (f:=(KW 187 z43)) _ _ (List.cons.inj h).1;subst e0 e1;rfl)
def wW [H:HS X0 l78]:wR.Ok prog:=by refine UX ?_;rintro⟨s_,f_⟩ r0 aa;refine zY true func126 λE hE=>?_;obtain⟨r_,h0,aa⟩:=zn aa;cases aa;exact yE (H:=zx ((z44 zu (Y2 (H:=zd 0)) 7).or X0)) hE [Hc (Ctr.add_has KX vF) (x:=(s_,f_)) h0 (loC F8_ s_<|loC (KW 187 z43) f_<|loN)]
def l79:List y7:=uR 168 xe F8_ s7 W6::l78
def z2X [H:HS X0 l78]:OkH l79:=yS2 true func168 λm_ l_ r0 aa E hE=>by
 obtain⟨r_,h0,aa⟩:=zn aa;let Z0:List HO:=[zC1 53 h0];obtain c0|c0:=zC aa
 ·cases c0.2;exact yE hE (Z0++[c0])
 obtain⟨ai,h1,aa⟩:=zn c0.2;let Z1:List HO:=(Z0++[c0,Hc (Ctr.add_has KX wR) (x:=(l_,m_)) h1 (loC F8_ l_<|loC (KW 187 z43) m_<|loN)]);obtain c1|c1:=zC aa
 ·cases c1.2;exact yE (H:=zx ((z44 zu (wW (H:=zd 0)) 13).or X0)) hE (Z1++[c1])
 cases c1.2;exact yE (H:=zx ((z44 zu (wW (H:=zd 0)) 13).or X0)) hE (Z1++[c1])
def l80:List y7:=Yo 188 xe (KW 199 z43) UW::l79
def z2Y [H:HS X0 l79]:OkH l80:=yS1 true func188 λm_ r0 aa E hE=>by cases aa;exact yE hE []
abbrev Jl (x0:z6)(YY:σ->z1n)(x8:Int)(js:σ):List (Nat×T):=[(0,.own (.opq (YY js).q)),(1,.d (.sptr (xe x0))),(7,.d (I ((x0.i.length:Nat):Int))),(8,.d (I x8))]
abbrev Jj (x0:z6)(YY:σ->z1n)(x8:Int)(gg:σ)(t_:Int):List (Nat×T):=[(0,.own (.opq (YY gg).q)),(1,.d (.sptr (xe x0))),(3,.d (I x8)),(4,.d (I t_)),(7,.d (I ((x0.i.length:Nat):Int))),(8,.d (I x8))]
abbrev Jk (x0:z6)(YY:σ->z1n)(dw:σ)(x8:Int):List (Nat×T):=[(0,.own (.opq (YY dw).q)),(1,.d (.sptr (xe x0))),(7,.d (I ((x0.i.length:Nat):Int))),(8,.d (I x8))]
def z0T [H:HS X0 l80](x0:z6):z6V prog (.fn 199 [.sptr (.agg [I x0.j,I x0.m,eSl 1 false xZ x0.i])]) (λ(x:Int×Int) (_:Bool) (_:Value)=>[s7 x.1,s7 x.2]) (@uz x0):=by
 refine z2m (tt:=wD) (nt:=f199.ntmps) (body:=zbd f199) zu func199 rfl (by kernel_rfl) rfl rfl (by show(2:Nat)<=26;decide) ?_;intro σ yv YY yy hy sg r0 aa E hE;obtain⟨t1,ht1,aa⟩:=zn aa;refine yL 110 [] (λs=>ZA x0 yy s.1 s.2) (λx=>Jk x0 YY x.1 x.2) (sg,0) ht1  [Ha (lnM xZ x0.i)] λ⟨dw,x8⟩ m1 av ae hl1 J1 ar=>?_;obtain c0|c0:=zC ae
 ·refine yKs 110011 [J1] [0,1,7,8] (zI (ZB x8) av) (λz=>Jl x0 YY x8 z) [c0,Hh (.cut 0)] ?_ λJ2 au=>?_
  ·rintro js ae;cases ae;exact yB ar _ hl1 []
  obtain⟨t3,ht3,ae⟩:=zn c0.2;refine yL 11001120110 [J1,J2] (λs=>qJ x0 yy x8 s.1 s.2) (λx=>Jj x0 YY x8 x.1 x.2) (dw,w64 (x8+1)) ht3  [] λ⟨gg,t_⟩ m3 dj ah hl2 J3 bg=>?_;let Z0:List HO:=[Ha (lnM xZ x0.i)];obtain c1|c1:=zC ah
  ·obtain⟨yr,h0,ah⟩:=zn c1.2;let Z1:List HO:=(Z0++[c1,Hn (z1L (yv:=yv) (Y:=YY) (enc:=(λ(x:Int×Int) (_:Bool) (_:Value)=>[s7 x.1,s7 x.2])) (s:=gg) (x:=(x8,t_)) (s':=yr.1) (b:=yr.2) (v:=.nilFunc) [s7 x8,s7 t_] (show Jp [s7 x8,s7 t_] [s7 x8,s7 t_] from inferInstance))]);obtain c2|c2:=zC ah
   ·cases c2.2;cases hl2;cases ae;cases hl1;cases aa;exact yF (H:=zx ((UO (P:=prog) wD hy 23 (s:=gg) (x:=(x8,t_)) (s':=yr.1) (b:=yr.2) .nilFunc h0).or X0)) .ret [(0,.own (.opq (YY yr.1).q))] (Z1++[c2]) λst0 h0=>hE _ st0 (.inr rfl) h0
   cases c2.2;exact yB (H:=zx ((UO (P:=prog) wD hy 23 (s:=gg) (x:=(x8,t_)) (s':=yr.1) (b:=yr.2) .nilFunc h0).or X0)) bg _ hl2 (Z1++[c2])
  cases c1.2;cases hl2;exact yB au gg ae (Z0++[c1])
 cases c0.2;cases hl1;cases aa;exact yF .normal [(0,.own (.opq (YY dw).q))] [c0] λst0 h0=>hE _ st0 (.inl rfl) h0
def xG:y7:=spR (α:=TB×Int) (ρ:=TB) 202 (λx:TB×Int=>[F4_ x.1,s7 x.2]) (λr:TB=>F7_ r) (λx:TB×Int=>xx x.1 x.2) [] (zpB)
def XX:∀x r,(λx:TB×Int=>xx x.1 x.2) x=some r->(KX.add xG).run 202 ((KX.add xG).norm 202 ((λx:TB×Int=>[F4_ x.1,s7 x.2]) x))=some ((λr:TB=>F7_ r) r):=λx r h=>znc (F:=λx:TB×Int=>xx x.1 x.2) (x:=x) h rfl
def XZ:(KX.add xG).gives 202=[]:=zhY
def Wo [H:HS X0 l80]:xG.Ok prog:=by
 refine zai ?_;rintro⟨l,n⟩ r0 aa;cases l with
 |cons a l=>cases aa
 |nil=>
  have h1:0<n/\n<=1000000:=by
   have h2:(decide (0<n)&&decide (n<=1000000))=true:=by
    cases h:(decide (0<n)&&decide (n<=1000000)) with
    |true=>rfl
    |false=>have h3:(bif (true&&(decide (0<n)&&decide (n<=1000000))) then some [] else none)=some r0:=aa;rw[h]at h3;cases h3
   simpa using h2
  have h3:(bif (true&&(decide (0<n)&&decide (n<=1000000))) then some ([]:TB) else none)=some r0:=aa;rw[decide_eq_true h1.1,decide_eq_true h1.2]at h3;cases h3;exact zbF n h1.1 h1.2
def l81:List y7:=Yo 200 yp F7_ wZ::l80
def Vm [H:HS X0 l80]:OkH l81:=yS1 true func200 λslices r0 aa E hE=>by
 refine yNs 111 [] [0,3] (zI (vJ slices) r0) (λz=>[(3,.d (I z))]) [Hh (.cut 2)] ?_ λJ1 ar=>?_
 ·rintro size aa;obtain⟨r_,h0,aa⟩:=zn aa;refine yK (H:=zx ((z44 zu (Wo (H:=zd 0)) 24).or X0)) 11111 [] [6] (zI vI r0) (λz=>[(6,.own (eOs 1 false s7 z))]) [0,6] [Hh (.g []),Hn XZ,Hx (.a (F7_ r_)) (XX ([],size) _ h0),Hh (.cut 0)] ?_ λJ2 au=>?_
  ·rintro mr aa;cases aa;exact yE hE []
  refine yMb 11111210 [J2] [6,25,26,27] (λx=>[(6,.own (eOs 1 false s7 x.1)),(27,.d (I x.2))]) aa  [Ha (lnM F8_ slices)] λt3 aa ⟨iu,pc⟩ m3 av ae hl1 J3 bg=>?_;obtain c0|c0:=zC ae
  ·obtain⟨lu,h1,ae⟩:=zn c0.2;obtain⟨g0,ae⟩:=gdE ae;cases ae;exact yB bg _ hl1 [c0,Hi F8_ h1,Hn (dM s7 lu),Hn (aL s7 s7 g0),Hl (aM s7 iu lu)]
  cases c0.2;cases hl1;exact yB au iu aa [c0]
 refine yMb 111210 [J1] [0,3,9,10,11] (λx=>[(3,.d (I x.1)),(11,.d (I x.2))]) aa  [Ha (lnM F8_ slices)] λt4 aa ⟨l8,ig⟩ m4 av ae hl1 J4 db=>?_;obtain c1|c1:=zC ae
 ·obtain⟨ly,h2,ae⟩:=zn c1.2;let Z0:List HO:=[c1,Hi F8_ h2,Ha (lnM s7 ly)];obtain c2|c2:=zC ae
  ·cases c2.2
  cases c2.2;exact yB db _ hl1 (Z0++[c2])
 cases c1.2;cases hl1;exact yB ar l8 aa [c1]
abbrev Uc (n_:Int)(f_:ArN 64 (ArN 64 TB))(out:TB):List (Nat×T):=[(0,.own (.box (xF 64 (xF 64 (eNl 1 s7)) f_))),(4,.d (I n_)),(11,.own (eOs 1 false s7 out))]
abbrev Ub (m_:z6)(t_:Int)(n_:Int)(f_:ArN 64 (ArN 64 TB))(ap:List z8)(i7:Int):List (Nat×T):=[(0,.own (.box (xF 64 (xF 64 (eNl 1 s7)) f_))),(3,.d (I t_)),(4,.d (I n_)),(6,.own (.box (xe m_))),(11,.own (eOs 1 true s7 [])),(19,.d (eSl 2 false uS ap)),(20,.d (I ((ap.length:Nat):Int))),(21,.d (I i7))]
abbrev Ua (m_:z6)(t_:Int)(n_:Int)(f_:ArN 64 (ArN 64 TB))(ap:List z8)(i7:Int):List (Nat×T):=[(0,.own (.box (xF 64 (xF 64 (eNl 1 s7)) f_))),(3,.d (I t_)),(4,.d (I n_)),(6,.own (.box (xe m_))),(11,.own (eOs 1 true s7 [])),(19,.d (eSl 2 false uS ap)),(20,.d (I ((ap.length:Nat):Int))),(21,.d (I i7))]
def X9 [H:HS X0 l81](bz:Value):∀(m_:z6) (s_:Int) (t_:Int) (n_:Int) (f_:ArN 64 (ArN 64 TB)) (r0:TB×ArN 64 (ArN 64 TB)),vD m_ s_ t_ n_ f_=some r0->qH prog (.fn 189 []) [.atom bz,.agg [I m_.j,I m_.m,eSl 1 false xZ m_.i],I s_,I t_,I n_] ([bz].zip [.box (xF 64 (xF 64 (eNl 1 s7)) f_)]) (eNl 1 s7 r0.1) [.box (xF 64 (xF 64 (eNl 1 s7)) r0.2)]:=by
 intro m_ s_ t_ n_ f_ r0 aa;refine zbr (tt:=wD) (nt:=f189.ntmps) (body:=zbd f189) [0] zu func189 rfl (by kernel_rfl) rfl rfl (by show(5:Nat)<=85;decide) (by decide) rfl rfl rfl rfl (λE hG hE=>?_) rfl;unfold vD at aa;refine yA (H:=zx ((xRe prog 10 (.atom (.slice none 0 0)) (eNl 1 s7 ([]:TB)) (zfP 1)).or ((X8 zu (.inl 76) [66]).or X0))) 11 [] [(0,.own (.box (xF 64 (xF 64 (eNl 1 s7)) f_))),(2,.d (I s_)),(3,.d (I t_)),(4,.d (I n_)),(6,.own (.box (xe m_)))] [Hn (rfl:T.d (.atom (.slice none 0 0))=T.d (.atom (.slice none 0 0)))] ?_;refine zfl (c':=(sub [1,0] (zbd f189))) (by kernel_rfl) hG ?_;refine yJ (H:=zx ((X8 zu (.inl 76) [66]).or X0)) 11011 [] [0,4,11] (λz:TB=>vz n_ f_ z=some r0) (λz=>Uc n_ f_ z) [(0,.own (.box (xF 64 (xF 64 (eNl 1 s7)) f_))),(2,.d (I s_)),(3,.d (I t_)),(4,.d (I n_)),(6,.own (.box (xe m_))),(11,.own (eOs 1 true s7 []))] [Hh (.cut 2)] ?_ λJ1 ar=>?_
 ·rintro out aa;unfold vz at aa;obtain c0|c0:=zC aa
  ·obtain rfl:=w9 c0.2;exact yF (H:=zx ((xRe prog 10 (.atom (.slice none 0 0)) (eNl 1 s7 ([]:TB)) (zfP 1)).or ((X8 zu (.inl 76) [66]).or X0))) .ret [(0,.own (.box (xF 64 (xF 64 (eNl 1 s7)) f_))),(10,.d (eNl 1 s7 ([]:TB)))] [Ha (lnM s7 out),c0,Hn (rfl:T.d (.atom (.slice none 0 0))=T.d (.atom (.slice none 0 0)))] λst0 h0=>hE _ st0 (.inr rfl) (XF h0 ⟨⟨rfl,rfl⟩,trivial⟩) (zoB h0 rfl rfl)
  obtain⟨r_,h0,aa⟩:=zn c0.2;obtain⟨g0,aa⟩:=gdE aa;obtain rfl:=w9 aa;exact yF (H:=zx ((xRe prog 10 (eSl 1 true s7 r_) (eNl 1 s7 r_) (λS v q=>(LeA.slNl 1 true s7 g0).repV q)).or ((X8 zu (.inl 76) [66]).or X0))) .ret [(0,.own (.box (xF 64 (xF 64 (eNl 1 s7)) f_))),(10,.d (eNl 1 s7 r_))] [Ha (lnM s7 out),c0,zg 34,Hm (shM s7 s7 out),Hs (zf1 34 h0 (loC F8_ out<|loN)),Hm (shM s7 s7 out),Hn (rfl:T.d (eSl 1 true s7 r_)=T.d (eSl 1 true s7 r_))] λst0 h0=>hE _ st0 (.inr rfl) (XF h0 ⟨⟨rfl,rfl⟩,trivial⟩) (zoB h0 rfl rfl)
 obtain⟨ap,h1,t2,ht2,aa⟩:=ya aa;refine yL (H:=zx ((X8 zu (.inl 76) [66]).or X0)) 11011210 [J1] (λs=>wj m_ t_ n_ f_ ap s) (λx=>Ua m_ t_ n_ f_ ap x) 0 ht2  [Hi xZ h1,Ha (lnM uS ap)] λi7 m2 av ae hl1 J2 au=>?_;try unfold wj at ae;obtain c1|c1:=zC ae
 ·refine yJ (H:=zx ((X8 zu (.inl 76) [66]).or X0)) 11011210011 [J1,J2] [0,3,4,6,11,19,20,21] (λz:Unit=>xA i7=some av) (λz=>Ub m_ t_ n_ f_ ap i7) [(0,.own (.box (xF 64 (xF 64 (eNl 1 s7)) f_))),(3,.d (I t_)),(4,.d (I n_)),(6,.own (.box (xe m_))),(11,.own (eOs 1 true s7 [])),(19,.d (eSl 2 false uS ap)),(20,.d (I ((ap.length:Nat):Int))),(21,.d (I i7))] [c1,Hh (.cut 0)] ?_ λJ3 bg=>?_
  ·rintro⟨⟩ ae;unfold xA at ae;obtain rfl:=w9 ae;exact yB (H:=zx ((X8 zu (.inl 76) [66]).or X0)) au _ hl1 []
  obtain⟨al,h2,du,h3,bp,h4,ae⟩:=jI c1.2;let Z0:List HO:=[Hi uS h2,Hi xZ h3,Hi uS h4];obtain c2|c2:=zC ae
  ·obtain rfl:=w9 c2.2;obtain rfl:=hl1;exact yBx (H:=zx ((X8 zu (.inl 76) [66]).or X0)) ar [i7] aa [(0,.own (.box (xF 64 (xF 64 (eNl 1 s7)) f_))),(4,.d (I n_)),(11,.own (eOs 1 true s7 ([i7])))] inferInstance (Z0++[c2])
  obtain c3|c3:=zC c2.2
  ·let Z1:List HO:=(Z0++(Hb c2::(rpN 4 (Hb c3) [])));obtain c4|c4:=zC c3.2
   ·obtain⟨cell,h5,co,h6,ae⟩:=ya c4.2;let Z2:List HO:=(Z1++(rpN 7 (Hb c4) (Hn (⟨QA (by kernel_rfl) f_ (i0 h5),(iL (xF 64 (eNl 1 s7)) h5).2⟩:vT wD 246 ((f_.l).map (xF 64 (eNl 1 s7))) al.o=true/\al.o.toNat<((f_.l).map (xF 64 (eNl 1 s7))).length)::Hb c4::Hh (.f)::Hs (iM (xF 64 (eNl 1 s7)) h5)::Hn (⟨QA (by kernel_rfl) cell (i0 h6),(iL (eNl 1 s7) h6).2⟩:vT wD 221 ((cell.l).map (eNl 1 s7)) bp.o=true/\bp.o.toNat<((cell.l).map (eNl 1 s7)).length)::Hb c4::Hh (.f)::Hs (iM (xF 64 (eNl 1 s7)) h5)::Hh (.f)::Hs (iM (eNl 1 s7) h6)::Hn (rfl:T.d (eNl 1 s7 co)=T.d (eNl 1 s7 co))::Hb c4::Ha (lnM s7 co)::(rpN 4 (Hb c4) []))));obtain c5|c5:=zC ae
    ·obtain⟨iv,h7,d9,h8,ai,h9,ae⟩:=jI c5.2;obtain rfl:=w9 ae;obtain rfl:=hl1;exact yB (H:=zx ((xLs zu 75 (eNl 1 s7 d9) (eSl 1 false s7 d9) inferInstance).or ((xBl zu 66).or ((xLs zu 59 (eNl 1 s7 co) (eSl 1 false s7 co) inferInstance).or ((X8 zu (.inl 76) [66]).or X0))))) ar ai aa (Z2++[c5,Hn (⟨QA (by kernel_rfl) f_ (i0 h7),(iL (xF 64 (eNl 1 s7)) h7).2⟩:vT wD 246 ((f_.l).map (xF 64 (eNl 1 s7))) al.o=true/\al.o.toNat<((f_.l).map (xF 64 (eNl 1 s7))).length),Hh (.op 9),Hh (.f),Hs (iM (xF 64 (eNl 1 s7)) h7),Hn (⟨QA (by kernel_rfl) iv (i0 h8),(iL (eNl 1 s7) h8).2⟩:vT wD 221 ((iv.l).map (eNl 1 s7)) bp.o=true/\bp.o.toNat<((iv.l).map (eNl 1 s7)).length),Hh (.op 0),Hh (.f),Hs (iM (xF 64 (eNl 1 s7)) h7),Hh (.f),Hs (iM (eNl 1 s7) h8),Hn (rfl:T.d (eNl 1 s7 d9)=T.d (eNl 1 s7 d9)),Hm (shM s7 s7 ([i7])),zg 0,Hm (shM F8_ F8_ ([[i7],d9])),Hs (zf1 0 h9 (loC z6W [[i7],d9]<|loN)),Hm (shM F8_ F8_ ([[i7],d9]))])
    exact yB (H:=zx ((xLs zu 59 (eNl 1 s7 co) (eSl 1 false s7 co) inferInstance).or ((X8 zu (.inl 76) [66]).or X0))) bg () c5.2 (Z2++[c5])
   exact yB (H:=zx ((X8 zu (.inl 76) [66]).or X0)) bg () c4.2 (Z1++(rpN 14 (Hb c4) [qF]))
  exact yB (H:=zx ((X8 zu (.inl 76) [66]).or X0)) bg () c3.2 (Z0++(Hb c2::(rpN 4 (Hb c3) (rpN 15 qF []))))
 obtain rfl:=w9 c1.2;obtain rfl:=hl1;exact yBx (H:=zx ((X8 zu (.inl 76) [66]).or X0)) ar ([]:TB) aa [(0,.own (.box (xF 64 (xF 64 (eNl 1 s7)) f_))),(4,.d (I n_)),(11,.own (eOs 1 true s7 []))] inferInstance [c1]
def K4 [H:HS X0 l81](bz:Value):∀(s_:Int) (t_:Int) (w_:TB) (f_:ArN 64 (ArN 64 TB)) (r0:ArN 64 (ArN 64 TB)),uq s_ t_ w_ f_=some r0->qH prog (.fn 190 []) [.atom bz,I s_,I t_,eNl 1 s7 w_] ([bz].zip [.box (xF 64 (xF 64 (eNl 1 s7)) f_)]) (.tup []) [.box (xF 64 (xF 64 (eNl 1 s7)) r0)]:=by intro s_ t_ w_ f_ r0 aa;refine z4Y (tt:=wD) (nt:=f190.ntmps) (body:=zbd f190) [0] zu func190 rfl (by kernel_rfl) rfl rfl (by show(4:Nat)<=22;decide) (by decide) rfl rfl (λE hE=>?_) rfl;unfold uq at aa;refine zim 0 (v:=bz) ⟨_,rfl⟩ (by kernel_rfl) λb0 hb0=>?_;subst hb0;obtain⟨cell,h0,co,h1,arr,h2,aa⟩:=jI aa;replace h2:=w9 h2;obtain⟨arr1,h3,aa⟩:=zn aa;replace h3:=w9 h3;obtain⟨iv,h4,d9,h5,arr2,h6,aa⟩:=jI aa;replace h6:=w9 h6;obtain⟨pt,h7,aa⟩:=zn aa;replace h7:=w9 h7;obtain rfl:=w9 aa;exact yF (H:=zx ((xIr zu 21 0 t_.toNat b0).or ((xRi zu 20 64 64 b0).or ((xNr prog 19 b0).or ((xMv prog 11 0 (z29 b0) rfl).or X0))))) .normal [(0,.own (.box (xF 64 (xF 64 (eNl 1 s7)) pt)))] [Hn (rfl:some (z29 b0)=some (z29 b0)),Hn (⟨QA (by kernel_rfl) f_ (i0 h0),(iL (xF 64 (eNl 1 s7)) h0).2⟩:vT wD 246 ((f_.l).map (xF 64 (eNl 1 s7))) s_=true/\s_.toNat<((f_.l).map (xF 64 (eNl 1 s7))).length),Hh (.op 10),Hh (.f),Hs (iM (xF 64 (eNl 1 s7)) h0),Hn (⟨QA (by kernel_rfl) cell (i0 h1),(iL (eNl 1 s7) h1).2⟩:vT wD 221 ((cell.l).map (eNl 1 s7)) t_=true/\t_.toNat<((cell.l).map (eNl 1 s7)).length),Hh (.op 0),Hh (.f),Hs (iM (xF 64 (eNl 1 s7)) h0),Hh (.f),Hs (iM (eNl 1 s7) h1),Hh (.f),Hs (iM (xF 64 (eNl 1 s7)) h0),Hh (.f),Hs (iM (eNl 1 s7) h1),Hx (.l ((arr.l).map (eNl 1 s7))) ((ArN.setL (eNl 1 s7) cell t_ w_).trans (congrArg (λq=>(ArN.l q).map (eNl 1 s7)) h2)),Hx (.l ((arr1.l).map (xF 64 (eNl 1 s7)))) ((ArN.setL (xF 64 (eNl 1 s7)) f_ s_ arr).trans (congrArg (λq=>(ArN.l q).map (xF 64 (eNl 1 s7))) h3)),Hn (rfl:T.d (.atom (z29 b0))=T.d (.atom (z29 b0))),Hn (⟨rfl,i0 h4,zgm (x:=arr1) h4⟩:T.d (.atom (z29 b0))=T.d (.atom (z29 b0))/\0<=t_/\t_.toNat<64),Hn (⟨⟨congrArg (λk=>T.d (.atom (.pointer (some ⟨b0,k,none⟩)))) (zin (f:=(xF 64 (eNl 1 s7))) arr1 h4).symm,(iL (xF 64 (eNl 1 s7)) h4).2⟩,rfl⟩:(T.d (.atom (.pointer (some ⟨b0,t_.toNat*64,none⟩)))=T.d (.atom (.pointer (some ⟨b0,A.sizes (((arr1.l).map (xF 64 (eNl 1 s7))).take t_.toNat),none⟩)))/\t_.toNat<((arr1.l).map (xF 64 (eNl 1 s7))).length)/\some (z29 b0)=some (z29 b0)),Hh (.op 2),Hh (.f),Hs (iM (xF 64 (eNl 1 s7)) h4),Hn (⟨QA (by kernel_rfl) iv (i0 h5),(iL (eNl 1 s7) h5).2⟩:vT wD 221 ((iv.l).map (eNl 1 s7)) s_=true/\s_.toNat<((iv.l).map (eNl 1 s7)).length),Hh (.op 0),Hh (.f),Hs (iM (xF 64 (eNl 1 s7)) h4),Hh (.f),Hs (iM (eNl 1 s7) h5),Hh (.f),Hs (iM (xF 64 (eNl 1 s7)) h4),Hh (.f),Hs (iM (eNl 1 s7) h5),Hx (.l ((arr2.l).map (eNl 1 s7))) ((ArN.setL (eNl 1 s7) iv s_ w_).trans (congrArg (λq=>(ArN.l q).map (eNl 1 s7)) h6)),Hx (.l ((pt.l).map (xF 64 (eNl 1 s7)))) ((ArN.setL (xF 64 (eNl 1 s7)) arr1 t_ arr2).trans (congrArg (λq=>(ArN.l q).map (xF 64 (eNl 1 s7))) h7))] λst0 h0=>hE _ st0 (.inl rfl) (XF h0 ⟨⟨rfl,rfl⟩,trivial⟩)
def l82:List y7:=Yo 169 xe (eBx (xF 64 (xF 64 (eNl 1 s7)))) uo::l81
abbrev UH (f_:ArN 64 (ArN 64 TB)):List (Nat×T):=[(3,.own (.box (.box (xF 64 (xF 64 (eNl 1 s7)) f_))))]
abbrev UG (m_:z6)(n_:Int)(ni:ArN 64 (ArN 64 TB)):List (Nat×T):=[(1,.own (.box (xe m_))),(3,.own (.box (.box (xF 64 (xF 64 (eNl 1 s7)) ni)))),(4,.own (.box (I n_)))]
abbrev UD (m_:z6)(n_:Int)(now:List y4)(od:ArN 64 (ArN 64 TB))(pd:Int):List (Nat×T):=[(1,.own (.box (xe m_))),(3,.own (.box (.box (xF 64 (xF 64 (eNl 1 s7)) od)))),(4,.own (.box (I n_))),(48,.d (eSl 4 false (zO s7 s7 (eNl 1 s7) eB) now)),(49,.d (I ((now.length:Nat):Int))),(50,.d (I pd))]
abbrev UF (m_:z6)(n_:Int)(p9:ArN 64 (ArN 64 TB))(now:List y4):List (Nat×T):=[(1,.own (.box (xe m_))),(3,.own (.box (.box (xF 64 (xF 64 (eNl 1 s7)) p9)))),(4,.own (.box (I n_))),(5,.own (.box (eOs 4 false (zO s7 s7 (eNl 1 s7) eB) now)))]
abbrev wQ (m_:z6)(n_:Int)(ai:z6)(j9:ArN 64 (ArN 64 TB))(jk:List y4):List (Nat×T):=[(1,.own (.box (xe m_))),(3,.own (.box (.box (xF 64 (xF 64 (eNl 1 s7)) j9)))),(4,.own (.box (I n_))),(5,.own (.box (eOs 4 false (zO s7 s7 (eNl 1 s7) eB) jk))),(22,.d (.fn 199 [.sptr (.agg [I ai.j,I ai.m,eSl 1 false xZ ai.i])]))]
abbrev UE (m_:z6)(ky:ArN 64 (ArN 64 TB))(n_:Int):List (Nat×T):=[(1,.own (.box (xe m_))),(3,.own (.box (.box (xF 64 (xF 64 (eNl 1 s7)) ky)))),(4,.own (.box (I n_)))]
def K3 [H:HS X0 l81]:OkH l82:=by
 refine zO1 λm_ r0 aa=>?_;try unfold uo at aa;refine z98 (tt:=wD) (rs:=[(true,2,none)]) (n:=⟨f169.ntmps,[]⟩) (body:=zbd f169) zu func169 rfl (by kernel_rfl) rfl rfl (by show(1:Nat)<=65;decide) λE hE=>?_
 refine yJ 111 [] [3] (λz:ArN 64 (ArN 64 TB)=>uc z=some r0) (λz=>UH z) [(1,.own (.box (xe m_))),(3,.own (.box (.box (xF 64 (xF 64 (eNl 1 s7)) (ArN.rep 64 (ArN.rep 64 ([]:TB)))))))] [Hh (.cut 2)] ?_ λJ1 ar=>?_
 ·rintro f_ aa;unfold uc at aa;obtain rfl:=w9 aa;let ZE:List HO:=[];exact zcg X0 zu H.ok z8A hE 4000 (hs:=hoH ZE) (x:=(.box (xF 64 (xF 64 (eNl 1 s7)) f_))) (hoB ZE) (by kernel_rfl) (LeV.refl _)
 obtain⟨t2,ht2,aa⟩:=zn aa;refine yL 111210 [J1] (λs=>u9 m_ s.1 s.2) (λx=>UE m_ x.1 x.2) ((ArN.rep 64 (ArN.rep 64 ([]:TB))),1) ht2  [] λ⟨ky,n_⟩ m2 av ae hl1 J2 au=>?_;try unfold u9 at ae
 let Z0:List HO:=[Ha (lnM xZ m_.i)];obtain c0|c0:=zC ae
 ·refine yJ 11121001 [J1,J2] [1,3,4] (λz:ArN 64 (ArN 64 TB)=>ub n_ z=some av) (λz=>UG m_ n_ z) [(1,.own (.box (xe m_))),(3,.own (.box (.box (xF 64 (xF 64 (eNl 1 s7)) ky)))),(4,.own (.box (I n_)))] (Z0++[c0,Hh (.cut 0)]) ?_ λJ3 bg=>?_
  ·rintro ni ae;unfold ub at ae;obtain rfl:=w9 ae;exact yB au _ hl1 []
  refine yJ 11121001201 [J1,J2,J3] [1,3,4,5] (λz:ArN 64 (ArN 64 TB)×List y4=>ua n_ z.1 z.2=some av) (λz=>UF m_ n_ z.1 z.2) [(1,.own (.box (xe m_))),(3,.own (.box (.box (xF 64 (xF 64 (eNl 1 s7)) ky)))),(4,.own (.box (I n_))),(5,.own (.box (eOs 4 true (zO s7 s7 F8_ eB) [])))] [Hh (.cut 1)] ?_ λJ4 db=>?_
  ·rintro⟨p9,now⟩ ae;unfold ua at ae;obtain⟨t5,ht5,ae⟩:=zn ae;refine yL 11121001201110 [J1,J2,J3] (λs=>wK now s.1 s.2) (λx=>UD m_ n_ now x.1 x.2) (p9,0) ht5  [Hh (.v 0 [5]),Hm (shM (zO s7 s7 (eNl 1 s7) eB) (zO s7 s7 (eNl 1 s7) eB) now),Hh (.v 1 [5]),Ha (lnM (zO s7 s7 (eNl 1 s7) eB) now)] λ⟨od,pd⟩ m5 dj ah hl2 J5 dc=>?_;try unfold wK at ah;obtain c1|c1:=zC ah
   ·obtain⟨ic,h0,r_,h1,ah⟩:=ya c1.2;obtain rfl:=w9 ah;exact yB (H:=zx ((z9Z (P:=prog) wD 3 0 (fa:=.fn 190 []) (z:=.box (xF 64 (xF 64 (eNl 1 s7)) od)) (z':=.box (xF 64 (xF 64 (eNl 1 s7)) r_)) (r:=.tup []) (xl:=[]) (xr:=[s7 ic.S,s7 ic.T,(eNl 1 s7) ic.Word]) rfl rfl (λv=>K4 (H:=zd 0) v _ _ _ _ _ h1) 61).or X0)) dc _ hl2 [c1,Hi (zO s7 s7 (eNl 1 s7) eB) h0,Hn (⟨rfl,leP (show Jp [] [] from inferInstance),leP (show Jp [s7 ic.S,s7 ic.T,(eNl 1 s7) ic.Word] [s7 ic.S,s7 ic.T,(eNl 1 s7) ic.Word] from inferInstance),rfl,rfl⟩:([.fn 190 []]:List A)=[.fn 190 []]/\LeP [] []/\LeP [s7 ic.S,s7 ic.T,(eNl 1 s7) ic.Word] [s7 ic.S,s7 ic.T,(eNl 1 s7) ic.Word]/\T.als 3 [.deref] 0 0=T.als 3 [.deref] 0 0/\T.own (.box (.box (xF 64 (xF 64 (eNl 1 s7)) od)))=T.own (.box (.box (xF 64 (xF 64 (eNl 1 s7)) od))))]
   obtain rfl:=w9 c1.2;obtain rfl:=hl2;exact yB bg od ae [c1]
  obtain⟨ai,h2,t6,kb,ae⟩:=ya c0.2;refine yAt (sub [1,1,2,1,0,0,1,2,0,1,2,1,0] (zbd f169)) (frs [1,1,2,1,0,0,1,2,0,1,2,1,0] [J1,J2,J3,J4] (zbd f169) []) [(1,.own (.box (xe m_))),(3,.own (.box (.box (xF 64 (xF 64 (eNl 1 s7)) ky)))),(4,.own (.box (I n_))),(5,.own (.box (eOs 4 true (zO s7 s7 (eNl 1 s7) eB) []))),(22,.d (.fn 199 [.sptr (.agg [I ai.j,I ai.m,eSl 1 false xZ ai.i])]))] [zC1 1 h2] λst0 h0=>?_;refine z0o (g:=.tmp 22) (ps:=[23,24]) (assign:=(sub [1,1,2,1,0,0,1,2,0,1,2,1,0,0] (zbd f169))) (body:=(sub [1,1,2,1,0,0,1,2,0,1,2,1,0,1] (zbd f169))) (K:=199) (caps:=[.sptr (.agg [I ai.j,I ai.m,eSl 1 false xZ ai.i])]) (by kernel_rfl) [1,3,4,5,22] (λs=>wQ m_ n_ ai s.1 s.2) (λz=>nomatch z) (λz=>nomatch z) ((λ(x:Int×Int) (_:Bool) (_:Value)=>[s7 x.1,s7 x.2])) (F:=@uz ai) (λs x=>xa m_ n_ s.1 s.2 x.1 x.2) (ky,([]:List y4)) t6 _ h0 inferInstance (by kernel_rfl) (by decide) (λ_=>rfl) (by rintro⟨⟩) (by kernel_rfl) (λ_ _ _=>rfl) (z0T (H:=zd 1) ai) kb ?_ ?_
  ·rintro sr ⟨j9,jk⟩ ⟨kx,ga⟩ vr dj ah;replace ah:xa m_ n_ j9 jk kx ga=some dj:=ah;unfold xa at ah;refine yF .normal [(1,.own (.box (xe m_))),(3,.own (.box (.box (xF 64 (xF 64 (eNl 1 s7)) j9)))),(4,.own (.box (I n_))),(5,.own (.box (eOs 4 false (zO s7 s7 (eNl 1 s7) eB) jk))),(6,.d (I kx)),(7,.d (I ga)),(22,.d (.fn 199 [.sptr (.agg [I ai.j,I ai.m,eSl 1 false xZ ai.i])]))] [] λst0 h0=>⟨rfl,z5c h0 ?_⟩;obtain⟨cell,h3,co,h4,ah⟩:=ya ah;let Z1:List HO:=[Hn (⟨QA (by kernel_rfl) j9 (i0 h3),(iL (xF 64 (eNl 1 s7)) h3).2⟩:vT wD 246 ((j9.l).map (xF 64 (eNl 1 s7))) kx=true/\kx.toNat<((j9.l).map (xF 64 (eNl 1 s7))).length),Hh (.op 5),Hh (.f),Hs (iM (xF 64 (eNl 1 s7)) h3),Hn (⟨QA (by kernel_rfl) cell (i0 h4),(iL (eNl 1 s7) h4).2⟩:vT wD 221 ((cell.l).map (eNl 1 s7)) ga=true/\ga.toNat<((cell.l).map (eNl 1 s7)).length),Hh (.op 0),Hh (.f),Hs (iM (xF 64 (eNl 1 s7)) h3),Hh (.f),Hs (iM (eNl 1 s7) h4),Hn (⟨rfl,rfl⟩:T.d (eNl 1 s7 co)=T.d (eNl 1 s7 co)/\T.d (.atom (.slice none 0 0))=T.d (.atom (.slice none 0 0)))];obtain c2|c2:=zC ah
   ·obtain rfl:=w9 c2.2;exact yF (H:=zx ((ziR zu 32 51 1 (co.map s7) true (!co.isEmpty) (by kernel_rfl) (nlB true s7 co)).or X0)) .normal (wQ m_ n_ ai j9 jk) (Z1++[c2]) λst0 h0=>⟨rfl,_,h0,LeL.refl _⟩
   obtain⟨ak,h5,ah⟩:=zn c2.2;let Z2:List HO:=(Z1++[c2,Hn (⟨rfl,leP (show Jp [] [] from inferInstance),leP (show Jp [xe m_,s7 kx,s7 ga,s7 n_] [xe m_,s7 kx,s7 ga,s7 n_] from inferInstance),rfl,rfl⟩:([.fn 189 []]:List A)=[.fn 189 []]/\LeP [] []/\LeP [xe m_,s7 kx,s7 ga,s7 n_] [xe m_,s7 kx,s7 ga,s7 n_]/\T.als 3 [.deref] 0 0=T.als 3 [.deref] 0 0/\T.own (.box (.box (xF 64 (xF 64 (eNl 1 s7)) j9)))=T.own (.box (.box (xF 64 (xF 64 (eNl 1 s7)) j9)))),Hn (⟨rfl,rfl⟩:T.d (eNl 1 s7 ak.1)=T.d (eNl 1 s7 ak.1)/\T.d (.atom (.slice none 0 0))=T.d (.atom (.slice none 0 0)))]);obtain c3|c3:=zC ah
   ·obtain⟨g0,ah⟩:=gdE c3.2;obtain rfl:=w9 ah;exact yF (H:=zx ((ziR zu 40 51 1 (ak.1.map s7) true (!ak.1.isEmpty) (by kernel_rfl) (nlB true s7 ak.1)).or ((z9Z (P:=prog) wD 3 0 (fa:=.fn 189 []) (z:=.box (xF 64 (xF 64 (eNl 1 s7)) j9)) (z':=.box (xF 64 (xF 64 (eNl 1 s7)) ak.2)) (r:=eNl 1 s7 ak.1) (xl:=[]) (xr:=[xe m_,s7 kx,s7 ga,s7 n_]) rfl rfl (λv=>X9 (H:=zd 0) v _ _ _ _ _ _ h5) 38).or ((ziR zu 32 51 1 (co.map s7) true (!co.isEmpty) (by kernel_rfl) (nlB true s7 co)).or X0)))) .normal (wQ m_ n_ ai ak.2 (jk++[(y4.mk kx ga ak.1 false)])) (Z2++[c3,Hq (dM (zO s7 s7 (eNl 1 s7) eB) [(y4.mk kx ga ak.1 false)]),Hn (dM (zO s7 s7 (eNl 1 s7) eB) [(y4.mk kx ga ak.1 false)]),Hn (aL (zO s7 s7 (eNl 1 s7) eB) (zO s7 s7 (eNl 1 s7) eB) g0),Hl (aM (zO s7 s7 (eNl 1 s7) eB) jk [(y4.mk kx ga ak.1 false)])]) λst0 h0=>⟨rfl,_,h0,LeL.refl _⟩
   obtain rfl:=w9 c3.2;exact yF (H:=zx ((ziR zu 40 51 1 (ak.1.map s7) true (!ak.1.isEmpty) (by kernel_rfl) (nlB true s7 ak.1)).or ((z9Z (P:=prog) wD 3 0 (fa:=.fn 189 []) (z:=.box (xF 64 (xF 64 (eNl 1 s7)) j9)) (z':=.box (xF 64 (xF 64 (eNl 1 s7)) ak.2)) (r:=eNl 1 s7 ak.1) (xl:=[]) (xr:=[xe m_,s7 kx,s7 ga,s7 n_]) rfl rfl (λv=>X9 (H:=zd 0) v _ _ _ _ _ _ h5) 38).or ((ziR zu 32 51 1 (co.map s7) true (!co.isEmpty) (by kernel_rfl) (nlB true s7 co)).or X0)))) .normal (wQ m_ n_ ai ak.2 jk) (Z2++[c3]) λst0 h0=>⟨rfl,_,h0,LeL.refl _⟩
  rcases t6 with⟨j9,jk⟩|z
  ·dsimp only at ae;exact XS (by kernel_rfl) (db _ [(1,.own (.box (xe m_))),(3,.own (.box (.box (xF 64 (xF 64 (eNl 1 s7)) j9)))),(4,.own (.box (I n_))),(5,.own (.box (eOs 4 false (zO s7 s7 (eNl 1 s7) eB) jk)))] (j9,jk) ae (show Own.canon [1,3,4,5] _=ofL _ by kernel_rfl) inferInstance)
  cases z
 obtain rfl:=w9 c0.2;obtain rfl:=hl1;exact yB ar ky aa (Z0++[c0])
def l83:List y7:=z2N 149 xe s7 s7 (eT3 F4_ eB s7) uY::l82
def KY [H:HS X0 l82]:OkH l83:=yS3 false func149 λm_ s_ t_ r0 aa E hE=>by
 let u0:=(xF 64 (eNl 1 s7));obtain⟨r_,h0,aa⟩:=zn aa;let Z0:List HO:=[zg 3,Hm (shM s7 s7 ([s_,t_])),Hs (zf2 3 h0 (loC xe m_<|loC F4_ [s_,t_]<|loN))];obtain c0|c0:=zC aa
 ·cases c0.2;exact yE hE (Z0++[c0,Hm (shM s7 s7 [])])
 obtain⟨ai,h1,cell,h2,co,h3,ak,h4,am,h5,aa⟩:=z7X c0.2;cases aa;exact yE (H:=zx ((xLs zu 26 (eNl 1 s7 co) (eSl 1 false s7 co) inferInstance).or X0)) hE (Z0++[c0,zC1 0 h1,Hn (⟨QA (by kernel_rfl) ai (i0 h2),(iL u0 h2).2⟩:vT wD 246 ((ai.l).map u0) s_=true/\s_.toNat<((ai.l).map u0).length),Hh (.op 4),Hh (.f),Hs (iM u0 h2),Hn (⟨QA (by kernel_rfl) cell (i0 h3),(iL (eNl 1 s7) h3).2⟩:vT wD 221 ((cell.l).map (eNl 1 s7)) t_=true/\t_.toNat<((cell.l).map (eNl 1 s7)).length),Hh (.op 0),Hh (.f),Hs (iM u0 h2),Hh (.f),Hs (iM (eNl 1 s7) h3),Hn (rfl:T.d (eNl 1 s7 co)=T.d (eNl 1 s7 co)),zC1 36 h4,zg 35,Hm (shM s7 s7 ak),Hs (zf1 35 h5 (loC F8_ ak<|loN)),Hm (shM s7 s7 ak),Ha (lnM s7 am)])
def l84:List y7:=uR 117 xe (ziG 118) (eT2 kC s7) Wh::l83
abbrev KR (m_:z6)(x5:Int)(out:TA):List (Nat×T):=[(2,.own (.box (xe m_))),(4,.own (.box (eOs 1 true F8_ []))),(5,.own (.box (I x5))),(6,.own (.box (eOs 1 false F4_ out)))]
abbrev vg (m_:z6)(ai:Int)(ge:Int)(aj:TA):List (Nat×T):=[(2,.own (.box (xe m_))),(3,.own (.box (.fn 118 []))),(4,.own (.box (eOs 1 true F8_ []))),(5,.own (.box (I ge))),(6,.own (.box (eOs 1 false F4_ aj))),(15,.d (.fn 167 [.sptr (I ai)]))]
def z3c [H:HS X0 l83]:OkH l84:=yS2 false func117 λm_ is r0 aa E hE=>by
 refine yJ 111 [] [2,4,5,6] (λz:Int×TA=>Zg m_ z.1 z.2=some r0) (λz=>KR m_ z.1 z.2) [(2,.own (.box (xe m_))),(3,.own (.box (.fn 118 []))),(4,.own (.box (eOs 1 true F8_ []))),(5,.own (.box (I 0))),(6,.own (.box (eOs 1 true F8_ [])))] [Hh (.cut 2)] ?_ λJ1 ar=>?_
 ·rintro⟨x5,out⟩ aa;unfold Zg at aa;obtain⟨r_,h0,aa⟩:=zn aa;obtain rfl:=w9 aa;exact yE hE [zg 18,Hm (shM F4_ F4_ out),Hs (zf2 18 h0 (loC zoZ out<|loC s7 m_.j<|loN)),Hm (shM F4_ F4_ out)]
 obtain⟨ai,h1,t2,ht2,aa⟩:=ya aa;refine yAt (sub [1,1,2,1,0] (zbd f117)) (frs [1,1,2,1,0] [J1] (zbd f117) []) [(2,.own (.box (xe m_))),(3,.own (.box (.fn 118 []))),(4,.own (.box (eOs 1 true F8_ []))),(5,.own (.box (I 0))),(6,.own (.box (eOs 1 true F4_ []))),(15,.d (.fn 167 [.sptr (I ai)]))] [Ha (lnM xZ m_.i),zC1 7 h1] λst0 h0=>?_;refine z0o (g:=.tmp 15) (ps:=[16,17]) (assign:=(sub [1,1,2,1,0,0] (zbd f117))) (body:=(sub [1,1,2,1,0,1] (zbd f117))) (K:=167) (caps:=[.sptr (I ai)]) (by kernel_rfl) [2,3,4,5,6,15] (λs=>vg m_ ai s.1 s.2) (λs=>vg m_ ai s.1 s.2) (λs=>Code.ret) ((λ(x:Int×Int) (_:Bool) (_:Value)=>[s7 x.1,s7 x.2])) (F:=@vt ai) (λs x=>vQ m_ s.1 s.2 x.1 x.2) (0,([]:TA)) t2 _ h0 inferInstance (by kernel_rfl) (by decide) (λ_=>rfl) (λ_=>rfl) (by kernel_rfl) (λ_ _ _=>rfl) (Ue (H:=zd 7) ai) ht2 ?_ ?_
 ·rintro qg ⟨ge,aj⟩ ⟨ft,ba⟩ vr av ae;replace ae:vQ m_ ge aj ft ba=some av:=ae;unfold vQ at ae;refine yF .normal [(2,.own (.box (xe m_))),(3,.own (.box (.fn 118 []))),(4,.own (.box (eOs 1 true F8_ []))),(5,.own (.box (I ge))),(6,.own (.box (eOs 1 false F4_ aj))),(7,.d (I ft)),(8,.d (I ba)),(15,.d (.fn 167 [.sptr (I ai)]))] [] λst0 h0=>⟨rfl,z5c h0 ?_⟩;obtain⟨ak,h2,ae⟩:=zn ae;let Z0:List HO:=[zC2 6 h2];obtain c0|c0:=zC ae
  ·obtain rfl:=w9 c0.2;exact yF .normal (vg m_ ai ge aj) (Z0++[c0]) λst0 h0=>⟨rfl,_,h0,LeL.refl _⟩
  obtain⟨am,h3,ae⟩:=zn c0.2;let Z1:List HO:=(Z0++[c0,zC3 0 h3]);obtain c1|c1:=zC ae
  ·obtain rfl:=w9 c1.2;exact yF .ret (vg m_ ai am.2.2 aj) (Z1++[c1]) λst0 h0=>⟨rfl,_,h0,LeL.refl _⟩
  obtain⟨g0,ae⟩:=gdE c1.2;obtain rfl:=w9 ae;exact yF .normal (vg m_ ai ge (aj++[am.1])) (Z1++[c1,Hq (dM F4_ [am.1]),Hn (dM F4_ [am.1]),Hn (aL F4_ F4_ g0),Hl (aM F4_ aj [am.1])]) λst0 h0=>⟨rfl,_,h0,LeL.refl _⟩
 rcases t2 with⟨ge,aj⟩|z
 ·dsimp only at aa;exact XS (by kernel_rfl) (ar _ [(2,.own (.box (xe m_))),(4,.own (.box (eOs 1 true F8_ []))),(5,.own (.box (I ge))),(6,.own (.box (eOs 1 false F4_ aj)))] (ge,aj) aa (show Own.canon [2,4,5,6] _=ofL _ by kernel_rfl) inferInstance)
 obtain⟨ge,aj⟩:=z;dsimp only at aa;show AWP _ _ (Code.ret) _ _;obtain rfl:=w9 aa;exact yE hE [Hm (shM F8_ F8_ [])]
def l85:List y7:=Yo 72 xe (eT2 kC s7) QT::l84
def z5D [H:HS X0 l84]:OkH l85:=yS1 false func72 λm_ r0 aa E hE=>by
 obtain⟨r_,h0,aa⟩:=zn aa;let Z0:List HO:=[zC1 41 h0];obtain c0|c0:=zC aa
 ·cases c0.2;exact yE hE (Z0++[c0,Hm (shM F8_ F8_ [])])
 obtain⟨ai,h1,aa⟩:=zn c0.2;cases aa;exact yE hE (Z0++[c0,zC2 0 h1])
def l86:List y7:=uR 74 s7 s7 (eT2 kC s7) Vq::l85
def z4f [H:HS X0 l85]:OkH l86:=yS2 false func74 λinputs k_ r0 aa E hE=>by obtain⟨r_,h0,aa⟩:=zn aa;cases aa;exact yE hE [zC3 18 h0]
def l87:List y7:=Yo 75 yp yp Xi::l86
def z4h [H:HS X0 l86]:OkH l87:=yS1 false func75 λl_ r0 aa E hE=>by
 let Z0:List HO:=[Ha (lnM F8_ l_)];obtain c0|c0:=zC aa
 ·cases c0.2;exact yEl hE (Z0++[c0,Hm (shM F5_ F4_ ([[]]))])
 cases c0.2;exact yE hE (Z0++[Hb c0])
def l88:List y7:=z2N 120 s7 s7 (eSp s7) eB VQ::l87
def z4r [H:HS X0 l87]:OkH l88:=yS3 true func120 λa_ b_ x2 r0 aa E hE=>by
 obtain c0|c0:=zC aa
 ·cases c0.2;exact yE hE (rpN 4 (Hb c0) [])
 cases c0.2;exact yE hE (rpN 4 (Hb c0) [])
def Xj:y7:=spF (α:=z6×Int) (ρ:=TA×Int) 117 (λx=>[xe x.1,(KW 120 (eSp s7)) x.2]) (λr=>.tup [kC r.1,s7 r.2]) (λx=>uw x.1 x.2) [] (by rintro⟨a0,a1⟩ ⟨b0,b1⟩ h;have e0:=jK.inj (f:=xe) _ _ (List.cons.inj h).1;replace h:=(List.cons.inj h).2;have e1:=jK.inj (f:=(KW 120 (eSp s7))) _ _ (List.cons.inj h).1;subst e0 e1;rfl)
abbrev UM (m_:z6)(x5:Int)(out:TA):List (Nat×T):=[(2,.own (.box (xe m_))),(4,.own (.box (eOs 1 true F8_ []))),(5,.own (.box (I x5))),(6,.own (.box (eOs 1 false F4_ out)))]
abbrev xL (m_:z6)(is:Int)(ai:Int)(ge:Int)(aj:TA):List (Nat×T):=[(2,.own (.box (xe m_))),(3,.own (.box (.fn 120 [.sptr (I is)]))),(4,.own (.box (eOs 1 true F8_ []))),(5,.own (.box (I ge))),(6,.own (.box (eOs 1 false F4_ aj))),(15,.d (.fn 167 [.sptr (I ai)]))]
def K9 [H:HS X0 l88]:Xj.Ok prog:=by
 refine UX ?_;rintro⟨m_,is⟩ r0 aa;try unfold uw at aa;refine zY false func117 λE hE=>?_;refine yJ 111 [] [2,4,5,6] (λz:Int×TA=>uj m_ z.1 z.2=some r0) (λz=>UM m_ z.1 z.2) [(2,.own (.box (xe m_))),(3,.own (.box (.fn 120 [.sptr (I is)]))),(4,.own (.box (eOs 1 true F8_ []))),(5,.own (.box (I 0))),(6,.own (.box (eOs 1 true F8_ [])))] [Hh (.cut 2)] ?_ λJ1 ar=>?_
 ·rintro⟨x5,out⟩ aa;unfold uj at aa;obtain⟨r_,h0,aa⟩:=zn aa;obtain rfl:=w9 aa;exact yE hE [zg 23,Hm (shM F4_ F4_ out),Hs (zf2 23 h0 (loC zoZ out<|loC s7 m_.j<|loN)),Hm (shM F4_ F4_ out)]
 obtain⟨ai,h1,t2,ht2,aa⟩:=ya aa;refine yAt (sub [1,1,2,1,0] (zbd f117)) (frs [1,1,2,1,0] [J1] (zbd f117) []) [(2,.own (.box (xe m_))),(3,.own (.box (.fn 120 [.sptr (I is)]))),(4,.own (.box (eOs 1 true F8_ []))),(5,.own (.box (I 0))),(6,.own (.box (eOs 1 true F4_ []))),(15,.d (.fn 167 [.sptr (I ai)]))] [Ha (lnM xZ m_.i),zC1 12 h1] λst0 h0=>?_;refine z0o (g:=.tmp 15) (ps:=[16,17]) (assign:=(sub [1,1,2,1,0,0] (zbd f117))) (body:=(sub [1,1,2,1,0,1] (zbd f117))) (K:=167) (caps:=[.sptr (I ai)]) (by kernel_rfl) [2,3,4,5,6,15] (λs=>xL m_ is ai s.1 s.2) (λs=>xL m_ is ai s.1 s.2) (λs=>Code.ret) ((λ(x:Int×Int) (_:Bool) (_:Value)=>[s7 x.1,s7 x.2])) (F:=@vt ai) (λs x=>yG m_ is s.1 s.2 x.1 x.2) (0,([]:TA)) t2 _ h0 inferInstance (by kernel_rfl) (by decide) (λ_=>rfl) (λ_=>rfl) (by kernel_rfl) (λ_ _ _=>rfl) (Ue (H:=zd 12) ai) ht2 ?_ ?_
 ·rintro qg ⟨ge,aj⟩ ⟨ft,ba⟩ vr av ae;replace ae:yG m_ is ge aj ft ba=some av:=ae;unfold yG at ae;refine yF .normal [(2,.own (.box (xe m_))),(3,.own (.box (.fn 120 [.sptr (I is)]))),(4,.own (.box (eOs 1 true F8_ []))),(5,.own (.box (I ge))),(6,.own (.box (eOs 1 false F4_ aj))),(7,.d (I ft)),(8,.d (I ba)),(15,.d (.fn 167 [.sptr (I ai)]))] [] λst0 h0=>⟨rfl,z5c h0 ?_⟩;obtain⟨ak,h2,ae⟩:=zn ae;let Z0:List HO:=[zC3 0 h2];obtain c0|c0:=zC ae
  ·obtain rfl:=w9 c0.2;exact yF .normal (xL m_ is ai ge aj) (Z0++[c0]) λst0 h0=>⟨rfl,_,h0,LeL.refl _⟩
  obtain⟨am,h3,ae⟩:=zn c0.2;let Z1:List HO:=(Z0++[c0,zC3 5 h3]);obtain c1|c1:=zC ae
  ·obtain rfl:=w9 c1.2;exact yF .ret (xL m_ is ai am.2.2 aj) (Z1++[c1]) λst0 h0=>⟨rfl,_,h0,LeL.refl _⟩
  obtain⟨g0,ae⟩:=gdE c1.2;obtain rfl:=w9 ae;exact yF .normal (xL m_ is ai ge (aj++[am.1])) (Z1++[c1,Hq (dM F4_ [am.1]),Hn (dM F4_ [am.1]),Hn (aL F4_ F4_ g0),Hl (aM F4_ aj [am.1])]) λst0 h0=>⟨rfl,_,h0,LeL.refl _⟩
 rcases t2 with⟨ge,aj⟩|z
 ·dsimp only at aa;exact XS (by kernel_rfl) (ar _ [(2,.own (.box (xe m_))),(4,.own (.box (eOs 1 true F8_ []))),(5,.own (.box (I ge))),(6,.own (.box (eOs 1 false F4_ aj)))] (ge,aj) aa (show Own.canon [2,4,5,6] _=ofL _ by kernel_rfl) inferInstance)
 obtain⟨ge,aj⟩:=z;dsimp only at aa;show AWP _ _ (Code.ret) _ _;obtain rfl:=w9 aa;exact yE hE [Hm (shM F8_ F8_ [])]
def l89:List y7:=uR 76 xe s7 (eT2 kC s7) KF::l88
def z7d [H:HS X0 l88]:OkH l89:=yS2 false func76 λm_ s_ r0 aa E hE=>by
 obtain⟨r_,h0,aa⟩:=zn aa;let Z0:List HO:=[zC1 45 h0];obtain c0|c0:=zC aa
 ·cases c0.2;exact yE hE (Z0++[c0,Hm (shM F8_ F8_ [])])
 obtain c1|c1:=zC c0.2
 ·cases c1.2;exact yE hE (Z0++(Hb c0::(rpN 6 (Hb c1) [qT,Hm (shM F8_ F8_ [])])))
 let Z1:List HO:=(Z0++(Hb c0::(rpN 4 (Hb c1) [Ha (lnM xZ m_.i),c1,c1])));obtain c2|c2:=zC c1.2
 ·cases c2.2;exact yE hE (Z1++[c2,Hm (shM F8_ F8_ [])])
 obtain⟨ai,h1,aa⟩:=zn c2.2;cases aa;exact yE (H:=zx ((z44 zu (K9 (H:=zd 0)) 23).or X0)) hE (Z1++[c2,Hc (Ctr.add_has KX Xj) (x:=(m_,s_)) h1 (loC xe m_<|loC (KW 120 (eSp s7)) s_<|loN)])
def l90:List y7:=uR 36 xe s7 (eT2 (ePo JC) s7) jy::l89
def z0R [H:HS X0 l89]:OkH l90:=yS2 false func36 λm_ bound r0 aa E hE=>by
 refine yC 111 [] [1,2,6] [Hh (.cut 2)] ?_;refine z5b (y:=.box (.agg [.agg [I m_.j,I m_.m,eSl 1 false xZ m_.i],eOs 1 true F8_ [],eOs 1 true F8_ [],eOs 1 true F8_ [],eOs 1 true yp [],eOs 1 true F8_ [],eOs 1 true F8_ []])) (by kernel_rfl) 6 (by kernel_rfl) (by kernel_rfl) λmf hv6=>?_;obtain⟨r_,h0,ai,h1,ak,h2,am,h3,az,h4,aa⟩:=z7X aa;refine yN 111111111 [] [2,6] (λz:Unit=>Zx m_ r_ ai ak am az=some r0) (λz=>[]) [2,6,7] [zC1 23 h0,Hn (⟨rfl,by decide⟩:true=true/\0<5),zC1 14 h1,Hn (⟨rfl,by decide⟩:true=true/\1<5),zC1 4 h2,Hn (⟨rfl,by decide⟩:true=true/\2<5),Ha (lnM xZ m_.i),zC2 21 h3,Hn (⟨rfl,by decide⟩:true=true/\3<5),Ha (lnM xZ m_.i),zC2 3 h4,Hn (⟨rfl,by decide⟩:true=true/\4<5),Hh (.cut 0)] ?_ λJ1 ar=>?_
 ·rintro⟨⟩ aa;obtain⟨bn,h5,aa⟩:=zn aa;refine yK 11111111111 [] [6] (zI (WY m_ r_ ai am az bn) r0) (λz=>[(6,.own (.box (.agg [xe m_,eSl 1 true F4_ r_.1,eSl 1 true F4_ ai.1,eSl 1 false F8_ bn,eOs 1 false yp z,eSl 1 true F4_ am.1,eSl 1 true F4_ az.1])))]) [2,6] [Hk [] (z2u (hat 2)) (zf1 2 h5 (loC kC ak.1 <| loN)),Hh (.cut 0)] ?_ λJ2 au=>?_
  ·rintro lh aa;cases aa;exact yEx hE [Hm (shM yp yp lh)] (.tup [.sptr (.agg [.agg [I m_.j,I m_.m,eSl 1 false xZ m_.i],eSl 1 true F4_ r_.1,eSl 1 true F4_ ai.1,eSl 1 false F8_ bn,eSl 1 false yp lh,eSl 1 true F4_ am.1,eSl 1 true F4_ az.1]),I 0]) (show LeV (.tup [.sptr (.agg [.agg [I m_.j,I m_.m,eSl 1 false xZ m_.i],eSl 1 true F4_ r_.1,eSl 1 true F4_ ai.1,eSl 1 false F8_ bn,eSl 1 false yp lh,eSl 1 true F4_ am.1,eSl 1 true F4_ az.1]),I 0]) (.tup [.dop (poQ (some (.agg [.agg [I m_.j,I m_.m,eSl 1 false xZ m_.i],eSl 1 false F8_ r_.1,eSl 1 false F8_ ai.1,eSl 1 false F8_ bn,eSl 1 false yp lh,eSl 1 false F8_ am.1,eSl 1 false F8_ az.1]))),I 0]) from inferInstance)
  obtain⟨t3,ht3,aa⟩:=zn aa;refine yMx 11111111111210 [J2] [2,6,91,92] (λx=>[(6,.own (.box (.agg [xe m_,eSl 1 true F4_ r_.1,eSl 1 true F4_ ai.1,eSl 1 false F8_ bn,eOs 1 false yp x.1,eSl 1 true F4_ am.1,eSl 1 true F4_ az.1]))),(92,.d (I x.2))]) ht3 [(6,.own (.box (.agg [xe m_,eSl 1 true F4_ r_.1,eSl 1 true F4_ ai.1,eSl 1 false F8_ bn,eOs 1 true yp [],eSl 1 true F4_ am.1,eSl 1 true F4_ az.1]))),(92,.d (I 0))] [Ha (lnM xZ m_.i)] λ⟨j4,oe⟩ m3 av ae hl1 J3 bg=>?_;obtain c0|c0:=zC ae
  ·obtain⟨cx,h6,ae⟩:=zn c0.2;let Z0:List HO:=[Hb c0,zC2 0 h6];obtain c1|c1:=zC ae
   ·cases c1.2;cases hl1;cases aa;exact yEx hE (Z0++[c1]) (.tup [.atom (.pointer none),I cx.2]) (show LeV (.tup [.atom (.pointer none),I cx.2]) (.tup [.dop (poQ none),I cx.2]) from inferInstance)
   obtain⟨gb,h7,ae⟩:=zn c1.2;obtain⟨g0,ae⟩:=gdE ae;cases ae;exact yB (H:=zx ((xNc prog 113 6 mf).or ((xMv prog 104 6 mf hv6).or X0))) bg _ hl1 (Z0++[Hb c1,Hn (rfl:some mf=some mf),Hk [] (z2u (hat 2)) (zf1 2 h7 (loC kC cx.1<|loN)),Hq (dM yp [gb]),Hn (dM yp [gb]),Hn (aL yp yp g0),Hl (aM yp j4 [gb]),Hn (⟨rfl,rfl⟩:T.d (.atom mf)=T.d (.atom mf)/\some mf=some mf)])
  cases c0.2;cases hl1;exact yB au j4 aa [Hb c0]
 obtain c2|c2:=zC aa
 ·cases c2.2;exact yEx hE [Hh (.u 70),qT,c2] (.tup [.atom (.pointer none),I r_.2]) (show LeV (.tup [.atom (.pointer none),I r_.2]) (.tup [.dop (poQ none),I r_.2]) from inferInstance)
 let Z1:List HO:=[Hh (.u 70),qT,Hb c2,qT];obtain c3|c3:=zC c2.2
 ·cases c3.2;exact yEx hE (Z1++[c3]) (.tup [.atom (.pointer none),I ai.2]) (show LeV (.tup [.atom (.pointer none),I ai.2]) (.tup [.dop (poQ none),I ai.2]) from inferInstance)
 obtain c4|c4:=zC c3.2
 ·cases c4.2;exact yEx hE (Z1++[c3,qT,c4]) (.tup [.atom (.pointer none),I ak.2]) (show LeV (.tup [.atom (.pointer none),I ak.2]) (.tup [.dop (poQ none),I ak.2]) from inferInstance)
 obtain c5|c5:=zC c4.2
 ·cases c5.2;exact yEx hE (Z1++[c3,qT,c4,qT,c5]) (.tup [.atom (.pointer none),I am.2]) (show LeV (.tup [.atom (.pointer none),I am.2]) (.tup [.dop (poQ none),I am.2]) from inferInstance)
 let Z2:List HO:=(Z1++[Hb c3,qT,Hb c4,qT,Hb c5,qT]);obtain c6|c6:=zC c5.2
 ·cases c6.2;exact yEx hE (Z2++[c6]) (.tup [.atom (.pointer none),I az.2]) (show LeV (.tup [.atom (.pointer none),I az.2]) (.tup [.dop (poQ none),I az.2]) from inferInstance)
 exact yB ar () c6.2 (Z2++[Hb c6,qF])
def xC [H:HS X0 l90](bz:Value):∀(parts:TA) (b_:zb) (r0:zb×Bool),xp parts b_=some r0->z82 prog 219 [.atom bz,eSl 1 false F8_ parts] ([bz].zip [.box (.agg [eOs 16 false F2_ b_.x,I b_.s,I b_.w])]) r0.2 (.iface 124 (.agg #[])) (.tup []) [.box (.agg [eOs 16 false F2_ r0.1.x,I r0.1.s,I r0.1.w])]:=by
 intro parts b_ r0 aa;refine z4X (tt:=wD) (nt:=f219.ntmps) (body:=zbd f219) [0] zu func219 rfl (by kernel_rfl) rfl rfl (by show(2:Nat)<=105;decide) (by decide) rfl rfl rfl (λE hE hD=>?_);refine yK 111 [] [0] (λz:List (zz Int)×Int=>Zz b_ z.1 z.2=some r0) (λz=>[(0,.own (.box (.agg [eOs 16 false F2_ z.1,I z.2,I b_.w])))]) [0,1,4,5] [Hh (.cut 2)] ?_ λJ1 ar=>?_
 ·rintro⟨br,cp⟩ aa;obtain c0|c0:=zC aa
  ·refine yC 111110 [] [0] [c0,Hh (.stp 0)] ?_;cases c0.2;exact yP (H:=zx ((zgs prog 104 124 underlying124).or X0)) 2 [] λst0=>hD rfl st0
  cases c0.2;exact yF .normal [(0,.own (.box (.agg [eOs 16 false F2_ br,I cp,I b_.w])))] [c0] λst0 h0=>hE rfl _ st0 (.inl rfl) (XF h0 ⟨⟨rfl,rfl⟩,trivial⟩)
 refine yMb 111210 [J1] [0,4,5,11,12,13] (λx=>[(0,.own (.box (.agg [eOs 16 false F2_ x.1,I x.2.1,I b_.w]))),(4,.d (.atom (.int .i32 x.2.2.1))),(5,.d (B x.2.2.2.1)),(13,.d (I x.2.2.2.2))]) aa  [Ha (lnM F8_ parts)] λt2 aa ⟨bh,cj,at_,nq,fq⟩ m2 av ae hl1 J2 au=>?_;obtain c1|c1:=zC ae
 ·refine yNs 111210011 [J1,J2] [0,4,5,11,12,13] (λz:List (zz Int)×Int×Int×Bool=>Zy fq z.1 z.2.1 z.2.2.1 z.2.2.2=some av) (λz=>[(0,.own (.box (.agg [eOs 16 false F2_ z.1,I z.2.1,I b_.w]))),(4,.d (.atom (.int .i32 z.2.2.1))),(5,.d (B z.2.2.2))]) [c1,Hh (.cut 0)] ?_ λJ3 bg=>?_
  ·rintro⟨bm,ce,ia,nj⟩ ae;cases ae;exact yB au _ hl1 []
  obtain⟨fl,h0,t4,ht4,ae⟩:=ya c1.2;refine yM 11121001120110 [J1,J2,J3] [0,4,5,11,12,13,17,18,19] (λx=>[(0,.own (.box (.agg [eOs 16 false F2_ x.1,I x.2.1,I b_.w]))),(4,.d (.atom (.int .i32 x.2.2.1))),(5,.d (B x.2.2.2.1)),(19,.d (I x.2.2.2.2))]) ht4  [Hi F8_ h0,Ha (lnM s7 fl)] λ⟨aq,bc,gc,ka,dy⟩ m4 dj ah hl2 J4 db=>?_;obtain c2|c2:=zC ah
  ·obtain⟨dt,h1,je,h2,cell,h3,ah⟩:=jI c2.2;refine yN 111210011201100110011 [J1,J2,J3,J4] [0,5,10,11,12,13,17,18,19] (λz:List (zz Int)×Int×Bool×Int=>vC dy z.1 z.2.1 z.2.2.1 z.2.2.2=some dj) (λz=>[(0,.own (.box (.agg [eOs 16 false F2_ z.1,I z.2.1,I b_.w]))),(5,.d (B z.2.2.1)),(10,.d (.atom (.int .i32 z.2.2.2)))]) [0,4,5,9,10,11,12,13,17,18,19] [c2,Hi s7 h1,Hn (iL F2_ h2),Hs (iM F2_ h2),Hn (⟨arJ (by kernel_rfl) (i0 h3),(iL (eI .i32) h3).2⟩:vT wD 162 ((zz.toL je).map (eI .i32)) dt=true/\dt.toNat<((zz.toL je).map (eI .i32)).length),Hh (.op 0),Hh (.f),Hx (.a (eOs 16 false F2_ aq)) (rfl:some (eOs 16 false F2_ aq:A)=some (eOs 16 false F2_ aq)),Hs (iM F2_ h2),Hh (.f),Hs (iM (eI .i32) h3),Hh (.cut 0)] ?_ λJ5 dc=>?_
   ·rintro⟨ct,cg,nk,next⟩ ah;cases ah;exact yB db _ hl2 []
   obtain c3|c3:=zC ah
   ·refine yN 1112100112011001100112101 [J1,J2,J3,J4,J5] [0,4,9,10,11,12,13,17,18,19] (zI (yn aq gc dy dt) dj) (λz=>[(0,.own (.box (.agg [eOs 16 false F2_ aq,I z,I b_.w])))]) [0,4,5,9,10,11,12,13,17,18,19] [c3,Ha (lnM F2_ aq),Hh (.cut 0)] ?_ λJ6 ep=>?_
    ·rintro eg ah;obtain⟨iw,h4,co,h5,arr,h6,ah⟩:=jI ah;replace h6:=w9 h6;obtain⟨g0,ah⟩:=gdE ah;exact yB dc (((aq.set gc.toNat arr)++([(zz.mk 0 0 0 0 0 0 0 0 0 0 0 0 0 0 0 0)]:List (zz Int))),eg,true,IntKind.i32.wrap (((aq.length:Nat):Int))) ah [Hn (iL F2_ h4),Hs (iM F2_ h4),Hn (⟨arJ (by kernel_rfl) (i0 h5),(iL (eI .i32) h5).2⟩:vT wD 162 ((zz.toL iw).map (eI .i32)) dt=true/\dt.toNat<((zz.toL iw).map (eI .i32)).length),Hh (.op 0),Hh (.f),Hx (.a (eOs 16 false F2_ aq)) (rfl:some (eOs 16 false F2_ aq:A)=some (eOs 16 false F2_ aq)),Hs (iM F2_ h4),Hh (.f),Hs (iM (eI .i32) h5),Hh (.f),Hx (.a (eOs 16 false F2_ aq)) (rfl:some (eOs 16 false F2_ aq:A)=some (eOs 16 false F2_ aq)),Hs (iM F2_ h4),Hh (.f),Hs (iM (eI .i32) h5),Hx (.l ((zz.toL arr).map (eI .i32))) ((zz.setL (eI .i32) iw dt (IntKind.i32.wrap (((aq.length:Nat):Int)))).trans (congrArg (λq=>(zz.toL q).map (eI .i32)) h6)),Hl (sM F2_ aq gc arr),Hx (.l [eOs 16 false F2_ (aq.set gc.toNat arr),I eg,I b_.w]) (rfl:([eOs 16 false F2_ (aq.set gc.toNat arr),I eg,I b_.w]:List A)=[eOs 16 false F2_ (aq.set gc.toNat arr),I eg,I b_.w]),Hq (dM F2_ ([(zz.mk 0 0 0 0 0 0 0 0 0 0 0 0 0 0 0 0)]:List (zz Int))),Hn (dM F2_ ([(zz.mk 0 0 0 0 0 0 0 0 0 0 0 0 0 0 0 0)]:List (zz Int))),Hn (aL F2_ F2_ g0),Hl (aM F2_ (aq.set gc.toNat arr) ([(zz.mk 0 0 0 0 0 0 0 0 0 0 0 0 0 0 0 0)]:List (zz Int)))]
    obtain c4|c4:=zC c3.2
    ·obtain c5|c5:=zC c4.2
     ·let Z0:List HO:=(Hb c4::Hb c4::Hb c4::(rpN 5 (Hb c5) [Ha (lnM F2_ aq),c5,c4,c5,c4]));obtain c6|c6:=zC c5.2
      ·exact yB ep (w64 (bc+1)) c6.2 (Z0++(rpN 9 (Hb c6) [c4,c6,c4,qT]))
      obtain⟨dp,h7,ah⟩:=zn c6.2;let Z1:List HO:=(Z0++(rpN 6 (Hb c6) [Hn (iL F2_ h7),c6,Hs (iM F2_ h7),c6,c6,c4,c6,c4]));obtain c7|c7:=zC ah
      ·exact yB ep (w64 (bc+1)) c7.2 (Z1++[c7])
      exact yB ep bc c7.2 (Z1++[c7])
     obtain⟨em,h8,ah⟩:=zn c5.2;let Z2:List HO:=(Hb c4::Hb c4::Hb c4::(rpN 6 (Hb c5) (Hb c4::Hb c5::Hb c4::(rpN 6 qF [Hn (iL F2_ h8),qF,Hs (iM F2_ h8),qF,qF,c4,qF,c4]))));obtain c8|c8:=zC ah
     ·exact yB ep (w64 (bc+1)) c8.2 (Z2++[c8])
     exact yB ep bc c8.2 (Z2++[c8])
    exact yB ep bc c4.2 (rpN 7 (Hb c4) [qF])
   exact yB dc (aq,bc,ka,cell) c3.2 [c3]
  cases c2.2;cases hl2;exact yB bg (aq,bc,gc,ka) ae [c2]
 cases c1.2;cases hl1;exact yB ar (bh,cj) aa [c1]
def QZ [H:HS X0 l90](bz:Value):∀(x0:QC) (x_:zF) (b_:zb) (r0:zb×Bool),wY x0 x_ b_=some r0->z82 prog 218 [.agg [],.sptr (.agg [.agg [I x_.m_.j,I x_.m_.m,eSl 1 false xZ x_.m_.i],eSl 1 false F8_ x_.q_,eSl 1 false F8_ x_.p_,eSl 1 false F8_ x_.O,eSl 1 false yp x_.P,eSl 1 false F8_ x_.F,eSl 1 false F8_ x_.K]),.atom bz] ([bz].zip [.box (.agg [eOs 16 false F2_ b_.x,I b_.s,I b_.w])]) r0.2 (.iface 124 (.agg #[])) (.tup []) [.box (.agg [eOs 16 false F2_ r0.1.x,I r0.1.s,I r0.1.w])]:=by
 intro x0 x_ b_ r0 aa;refine z4X (tt:=wD) (nt:=f218.ntmps) (body:=zbd f218) [2] zu func218 rfl (by kernel_rfl) rfl rfl (by show(3:Nat)<=48;decide) (by decide) rfl rfl rfl (λE hE hD=>?_);refine yMb 1110 [] [1,2,15,16,17] (λx=>[(2,.own (.box (.agg [eOs 16 false F2_ x.1,I x.2.1,I x.2.2.1]))),(17,.d (I x.2.2.2))]) aa  [Ha (lnM F8_ x_.p_)] λt1 aa ⟨br,cp,fm,ba⟩ m1 av ae hl1 J1 ar=>?_;obtain c0|c0:=zC ae
 ·refine yNs 1110011 [J1] [1,2,15,16,17] (λz:List (zz Int)×Int×Int=>Ya ba z.1 z.2.1 z.2.2=some av) (λz=>[(2,.own (.box (.agg [eOs 16 false F2_ z.1,I z.2.1,I z.2.2])))]) [c0,Hh (.cut 0)] ?_ λJ2 au=>?_
  ·rintro⟨bh,cj,fh⟩ ae;cases ae;exact yB ar _ hl1 []
  obtain⟨bj,h0,t3,ht3,ae⟩:=ya c0.2;refine yM 111001120110 [J1,J2] [1,2,7,15,16,17,24,25,26] (λx=>[(2,.own (.box (.agg [eOs 16 false F2_ x.1,I x.2.1,I x.2.2.1]))),(26,.d (I x.2.2.2))]) ht3  [Hi F8_ h0,Ha (lnM F8_ x_.F)] λ⟨bm,ce,d0,gk⟩ m3 dj ah hl2 J3 bg=>?_;obtain c1|c1:=zC ah
  ·refine yNs 111001120110011 [J1,J2,J3] [1,2,7,15,16,17,24,25,26] (λz:List (zz Int)×Int×Int=>Y9 gk z.1 z.2.1 z.2.2=some dj) (λz=>[(2,.own (.box (.agg [eOs 16 false F2_ z.1,I z.2.1,I z.2.2])))]) [c1,Hh (.cut 0)] ?_ λJ4 db=>?_
   ·rintro⟨aq,bc,fj⟩ ah;cases ah;exact yB bg _ hl2 []
   obtain⟨a6,h1,t5,ht5,ah⟩:=ya c1.2;refine yM 11100112011001120110 [J1,J2,J3,J4] [1,2,7,9,15,16,17,24,25,26,33,34,35] (λx=>[(2,.own (.box (.agg [eOs 16 false F2_ x.1,I x.2.1,I x.2.2.1]))),(35,.d (I x.2.2.2))]) ht5  [Hi F8_ h1,Ha (lnM F8_ x_.O)] λ⟨ct,cg,dz,ib⟩ m5 nb aw hl3 J5 dc=>?_;obtain c2|c2:=zC aw
   ·obtain⟨fy,h2,aw⟩:=zn c2.2;refine yC 11100112011001120110011001 [J1,J2,J3,J4,J5] [1,2,7,9,11,15,16,17,24,25,26,33,34,35] [c2,Hi F8_ h2,Hh (.stp 0)] ?_;obtain⟨r_,h3,aw⟩:=zn aw;obtain c3|c3:=zC aw
    ·cases c3.2;cases hl3;cases ah;cases hl2;cases ae;cases hl1;cases aa;exact yD 5 [2] ((xC (H:=zd 0) bz _ _ _ h3).2 c3.1) [.atom bz,z6W [bj,a6,fy]] inferInstance [Hm (shM F8_ F8_ ([bj,a6,fy]))] λst0=>hD rfl st0
    cases c3.2;exact yB (H:=zx ((qZ (P:=prog) wD [2] ((xC (H:=zd 0) bz _ _ _ h3).1 c3.1) 44).or X0)) dc _ hl3 [Hm (shM F8_ F8_ ([bj,a6,fy])),Hn (Yr (f:=.fn 219 []) (xs:=[.atom bz,yp [bj,a6,fy]]) (ls:=[(bz,.box (.agg [eOs 16 false F2_ ct,I cg,I dz]))]) (r:=.tup []) (ys:=[.box (.agg [eOs 16 false F2_ r_.1.x,I r_.1.s,I r_.1.w])]) [.atom bz,z6W [bj,a6,fy]] (show Jp [.atom bz,z6W [bj,a6,fy]] [.atom bz,yp [bj,a6,fy]] from inferInstance))]
   cases c2.2;cases hl3;exact yB db (ct,cg,dz) ah [c2]
  cases c1.2;cases hl2;exact yB au (bm,ce,d0) ae [c1]
 cases c0.2;cases hl1;cases aa;exact yF .normal [(2,.own (.box (.agg [eOs 16 false F2_ br,I cp,I fm])))] [c0] λst0 h0=>hE rfl _ st0 (.inl rfl) (XF h0 ⟨⟨rfl,rfl⟩,trivial⟩)
def l91:List y7:=z2N 228 yp F8_ (ziG 125) (eT2 s7 eB) yS::l90
def qI [H:HS X0 l90]:OkH l91:=yS3 false func228 λx_ target cmp r0 aa E hE=>by
 refine yN 1111 [] [0,1,2,8,9] (zI (yw x_ target) r0) (λz=>[(9,.d (I z))]) [0,1,2,8,9,10] [Ha (lnM F8_ x_),Hh (.cut 1)] ?_ λJ1 ar=>?_
 ·rintro i_ aa;obtain c0|c0:=zC aa
  ·obtain⟨mq,h0,r_,h1,aa⟩:=ya c0.2;cases aa;exact yE hE (rpN 4 (Hb c0) [Hi F8_ h0,c0,c0,c0,zC2 30 h1,c0,c0])
  cases c0.2;exact yE hE (rpN 9 (Hb c0) [])
 refine yMb 111120 [J1] [0,1,2,8,9,10] (λx=>[(9,.d (I x.1)),(10,.d (I x.2))]) aa  [] λt2 aa ⟨fk,j_⟩ m2 av ae hl1 J2 au=>?_;obtain c1|c1:=zC ae
 ·obtain⟨l7,h2,ai,h3,ae⟩:=ya c1.2;let Z0:List HO:=[c1,Hi F8_ h2,zC2 30 h3];obtain c2|c2:=zC ae
  ·cases c2.2;exact yB (H:=zx ((znB prog).or X0)) au _ hl1 (Z0++[c2])
  cases c2.2;exact yB (H:=zx ((znB prog).or X0)) au _ hl1 (Z0++[c2])
 cases c1.2;cases hl1;exact yB ar fk aa [c1]
def l92:List y7:=uR 225 yp F8_ eB z19::l91
def z9l [H:HS X0 l91]:OkH l92:=yS2 true func225 λl_ w_ r0 aa E hE=>by obtain⟨r_,h0,aa⟩:=zn aa;cases aa;exact yE hE [zC3 0 h0]
def l93:List y7:=uR 224 F8_ zlN eB kF::l92
def z1s [H:HS X0 l92]:OkH l93:=yS2 true func224 λw_ x1 r0 aa E hE=>by obtain⟨r_,h0,aa⟩:=zn aa;cases aa;exact yE hE [zC2 0 h0]
def l94:List y7:=uR 227 yp (KW 224 zlN) s7 vj::l93
def Xa [H:HS X0 l93]:OkH l94:=yS2 true func227 λs_ f_ r0 aa E hE=>by
 refine yK 11 [] [] (λz:Unit=>uL=some r0) (λz=>[]) [0,1] [Hh (.cut 1)] ?_ λJ1 ar=>?_
 ·rintro⟨⟩ aa;cases aa;exact yE hE []
 refine yMb 11210 [J1] [0,1,7,8] (λx=>[(8,.d (I x))]) aa  [Ha (lnM F8_ s_)] λt2 aa x8 m2 av ae hl1 J2 au=>?_;obtain c0|c0:=zC ae
 ·obtain⟨eb,h0,r_,h1,ae⟩:=ya c0.2;let Z0:List HO:=[c0,Hi F8_ h0,zC2 0 h1];obtain c1|c1:=zC ae
  ·cases c1.2;cases hl1;cases aa;exact yE hE (Z0++[c1])
  cases c1.2;exact yB au _ hl1 (Z0++[c1])
 cases c0.2;cases hl1;exact yB ar () aa [c0]
def l95:List y7:=uR 223 z0M (KW 224 zlN) z0M xI [true,false]::l94
def uP:XH prog:=((znD zu 41).or X0)
def YJ [H:HS uP l94]:OkH l95:=yS2 true func223 λs_ kz r0 aa E hE=>by
 refine z5b (y:=eOs 1 false F8_ s_) rfl 0 (by kernel_rfl) (by kernel_rfl) λcu hv0=>?_;obtain⟨r_,h0,aa⟩:=zn aa;let Z0:List HO:=[zg 0,Hm (shM F8_ F8_ s_),Hs (zf2 0 h0 (loC yp s_<|loC (KW 224 zlN) kz<|loN))];obtain c0|c0:=zC aa
 ·cases c0.2;exact yE hE (Z0++[c0])
 refine yK 1111 [] [0,5] (λz:TA×Int=>yX z.1 z.2=some r0) (λz=>[(0,.own (eOs 1 false F8_ z.1)),(5,.d (I z.2))]) [0,1,5] (Z0++[c0,Hh (.cut 0)]) ?_ λJ1 ar=>?_
 ·rintro⟨bk,i_⟩ aa;obtain⟨g0,aa⟩:=gdE aa;obtain⟨g1,aa⟩:=gdE aa;obtain⟨g2,aa⟩:=gdE aa;cases aa;exact yE (H:=zx ((xVc zu 38 1 0 cu i_).or ((xVw zu 38 0 cu).or uP))) hE [Hn (⟨.inl rfl,rfl⟩:(T.als 0 [] 0 0=T.als 0 [] 0 0\/T.als 0 [] 0 0=T.d (.atom cu))/\some cu=some cu),Hn (⟨g0.1,cuB F8_ g0⟩:(0:Int)<=i_/\i_.toNat<=(bk.map F8_).length),Hn (⟨rfl,rfl⟩:T.d (.atom (Ve 1 cu i_))=T.d (.atom (Ve 1 cu i_))/\some cu=some cu),Hn (⟨g1.1,cuB F8_ g1,dM F8_ bk⟩:(0:Int)<=i_/\i_.toNat<=(bk.map F8_).length/\A.areD (bk.map F8_)=true),Hx (.l ((bk.take i_.toNat++List.replicate (bk.length-i_.toNat) []).map F8_)) (vcM F8_ bk i_.toNat ([]:TB)),Hn g2.1,Hn (cuB F8_ g2),Hl (cuM F8_ (bk.take i_.toNat++List.replicate (bk.length-i_.toNat) []) i_)]
 refine yMb 1111210 [J1] [0,1,5,6] (λx=>[(0,.own (eOs 1 false F8_ x.1)),(5,.d (I x.2.1)),(6,.d (I x.2.2))]) c0.2  [] λt2 aa ⟨da,fk,j_⟩ m2 av ae hl1 J2 au=>?_;let Z1:List HO:=[Ha (lnM F8_ da)];obtain c1|c1:=zC ae
 ·refine yNs 111121001 [J1,J2] [0,1,5,6] (λz:TA×Int=>ym j_ z.1 z.2=some av) (λz=>[(0,.own (eOs 1 false F8_ z.1)),(5,.d (I z.2))]) (Z1++[c1,Hh (.cut 0)]) ?_ λJ3 bg=>?_
  ·rintro⟨ng,qa⟩ ae;cases ae;exact yB au _ hl1 []
  obtain⟨eb,h1,ai,h2,ae⟩:=ya c1.2;let Z2:List HO:=[Hn (iL F8_ h1),Hs (iM F8_ h1),zC2 1 h2];obtain c2|c2:=zC ae
  ·obtain⟨nn,h3,ae⟩:=zn c2.2;exact yB bg ((da.set fk.toNat eb),w64 (fk+1)) ae (Z2++[c2,Hn (iL F8_ h3),Hs (iM F8_ h3),Hs (iM F8_ h3),Hl (sM F8_ da fk eb)])
  exact yB bg (da,fk) c2.2 (Z2++[c2])
 cases c1.2;cases hl1;exact yB ar (da,fk) aa (Z1++[c1])
def l96:List y7:=z2N 221 yp yp s7 (eT2 kC s7) Zw::l95
def z4e [H:HS X0 l95]:OkH l96:=yS3 false func221 λa_ b_ inputs r0 aa E hE=>by
 obtain⟨r_,h0,aa⟩:=zn aa;let Z0:List HO:=[zg 24,Hm (shM yp yp ([a_,b_])),Hs (zf2 24 h0 (loC s7 inputs<|loC (eSl 1 true yp) [a_,b_]<|loN))];obtain c0|c0:=zC aa
 ·cases c0.2;exact yE hE (Z0++[c0,Hm (shM F8_ F8_ [])])
 obtain⟨ai,h1,ak,h2,am,h3,aa⟩:=jI c0.2;cases aa;exact yE hE (Z0++[c0,zC1 40 h1,zC2 0 h2,zg 31,Hm (shM F8_ F8_ ak),Hs (zf1 31 h3 (loC yp ak<|loN)),Hm (shM F8_ F8_ ak)])
def l97:List y7:=uR 92 xe s7 s7 ZX::l96
def z0Y [H:HS X0 l96]:OkH l97:=yS2 true func92 λm_ s_ r0 aa E hE=>by
 obtain⟨r_,h0,aa⟩:=zn aa;let Z0:List HO:=[zC1 71 h0];obtain c0|c0:=zC aa
 ·cases c0.2;exact yE hE (Z0++[c0])
 obtain c1|c1:=zC c0.2
 ·cases c1.2;exact yE hE (Z0++(Hb c0::(rpN 6 (Hb c1) [qT])))
 let Z1:List HO:=(Z0++(Hb c0::(rpN 4 (Hb c1) [Ha (lnM xZ m_.i),c1,c1])));obtain c2|c2:=zC c1.2
 ·cases c2.2;exact yE hE (Z1++[c2])
 cases c2.2;exact yE hE (Z1++[c2])
def l98:List y7:=z2N 94 xe s7 F8_ (λr:TB×Int=>.opq (z86 [some (F5_ r.1),some (s7 r.2)])) Wg::l97
def z3a [H:HS X0 l97]:OkH l98:=by
 refine zO3 λm_ s_ w_ r0 aa=>?_;refine z98 (tt:=wD) (rs:=[(true,6,none),(false,7,none)]) (n:=⟨f94.ntmps,[]⟩) (body:=zbd f94) zu func94 rfl (by kernel_rfl) rfl rfl (by show(3:Nat)<=43;decide) λE hE=>?_;obtain⟨g0,aa⟩:=gdE aa;refine yK 111 [] [1,8] (λz:Int×TB=>XI z.1 z.2=some r0) (λz=>[(1,.d (I z.1)),(8,.own (eOs 1 true s7 z.2))]) [1,2,3,8] [Ha (lnM s7 w_),Hn (rL g0),Ha (rM 1 s7 ((w_.length:Nat):Int) (0:Int)),Hh (.cut 0)] ?_ λJ1 ar=>?_
 ·rintro⟨bk,out⟩ aa;cases aa;let ZE:List HO:=[];exact zcg X0 zu H.ok z8A hE 4000 (hs:=hoH ZE) (x:=(.opq (z86 [some (eOs 1 true s7 out),some (I bk)]))) (hoB ZE) (by kernel_rfl) (LeV.refl _)
 refine yMb 111210 [J1] [1,3,8,15,16,17] (λx=>[(1,.d (I x.1)),(8,.own (eOs 1 true s7 x.2.1)),(17,.d (I x.2.2))]) aa  [Ha (lnM s7 w_)] λt2 aa ⟨da,aj,ba⟩ m2 av ae hl1 J2 au=>?_;obtain c0|c0:=zC ae
 ·obtain⟨fc,h0,r_,h1,ae⟩:=ya c0.2;refine yN 1112100110011 [J1,J2] [3,8,9,11,15,16,17] (λz:Int×Int=>vP aj ba z.1 z.2=some av) (λz=>[(11,.own (.box (.agg [I z.1,I z.2])))]) [1,3,8,9,10,11,15,16,17] [c0,Hi s7 h0,zC0 77 h1,Hh (.cut 0)] ?_ λJ3 bg=>?_
  ·rintro⟨gz,nr⟩ ae;obtain⟨dn,h2,ae⟩:=zn ae;cases ae;exact yB au _ hl1 [Hn (iL s7 h2),Hs (iM s7 h2),Hs (iM s7 h2),Hl (sM s7 aj ba nr)]
  obtain c1|c1:=zC ae
  ·obtain⟨ap,h3,al,h4,ae⟩:=ya c1.2;exact yB bg (al.o,al.r) ae [c1,Hi xZ h3,Hi uS h4]
  exact yB bg (r_.o,r_.r) c1.2 [c1]
 cases c0.2;cases hl1;exact yB ar (da,aj) aa [c0]
def l99:List y7:=z2N 226 xe s7 F8_ (eT2 s7 s7) jG::l98
def z11 [H:HS X0 l98]:OkH l99:=yS3 false func226 λm_ s_ w_ r0 aa E hE=>by
 obtain⟨r_,h0,aa⟩:=zn aa;let Z0:List HO:=[zC2 1 h0];obtain c0|c0:=zC aa
 ·cases c0.2;exact yE hE (Z0++[c0])
 obtain⟨ai,h1,aa⟩:=zn c0.2;let Z1:List HO:=(Z0++[c0,zC2 45 h1]);obtain c1|c1:=zC aa
 ·cases c1.2;exact yE hE (Z1++[c1])
 obtain⟨ak,h2,aa⟩:=zn c1.2;cases aa;exact yE (H:=zx ((ziT prog 31 [none,some (I ak.2)]).or ((ziT prog 30 [some (eOs 1 true s7 ak.1),some (I ak.2)]).or X0))) hE (Z1++[c1,zC3 0 h2,Hn (⟨rfl,rfl⟩:T.own (.opq (z86 [some (eOs 1 true s7 ak.1),some (I ak.2)]))=T.own (.opq (z86 [some (eOs 1 true s7 ak.1),some (I ak.2)]))/\1=1),Hn (⟨rfl,rfl⟩:T.own (.opq (z86 [none,some (I ak.2)]))=T.own (.opq (z86 [none,some (I ak.2)]))/\1=1)])
end Go.Own
end
