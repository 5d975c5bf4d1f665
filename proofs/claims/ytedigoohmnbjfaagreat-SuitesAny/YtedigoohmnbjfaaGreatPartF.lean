/- -/
import Derived.Test.YtedigoohmnbjfaaGreatPartE
noncomputable section
set_option linter.unusedVariables false
set_option linter.defProp false
set_option linter.unusedSimpArgs false
namespace Go.Own
open Go.Proofs.Tryz
open Go.Proofs
set_option maxRecDepth 100000
set_option maxHeartbeats 8000000
def X0:XH prog:=xB zt
def z20:prog.follows .mixedOrders=true:=by kernel_rfl
def zkh {l:List y8}{s:y8}(h:((l.map y8.k).contains s.k)=false):∀t∈l,t.k≠s.k:=λt ht e=>by rw[List.contains_eq_mem,<-e,decide_eq_true (List.mem_map_of_mem ht)]at h;cases h
class HS (X:outParam (XH prog)) (l:outParam (List y8)) where
 c:Ctr
 ok:Zm prog c
 has:∀t∈l,c.Has t
noncomputable abbrev zbd (f:Func):Code:=f.body.getD .skip
def znJ:ResultVar->Nat×Option Nat
 | .tmp t=>(t,none)
 | .cell t c=>(t,some c)
noncomputable abbrev rsO (f:Func):=f.results.toList.map znJ
theorem zjI (f:Func):f.results=((rsO f).map z5N).toArray:=by
 have:z5N ∘ znJ=id:=funext λr=>by cases r <;> rfl
 simp[gE,this]
def OkH:List y8->Prop
 | s::_=>s.Ok prog
 | []=>True
def eT2 {α β:Type}(f:α->A)(g:β->A)(r:α×β):A:=.tup [f r.1,g r.2]
def eT3 {α β γ:Type}(f:α->A)(g:β->A)(h:γ->A)(r:α×β×γ):A:=.tup [f r.1,g r.2.1,h r.2.2]
def zi6 {ρ:Type}(k:Nat)(er:ρ->A)(F:Option ρ)(g:List Bool:=[]):y8:=spF (α:=Unit) k (λ_=>[]) er (λ_=>F) g λ_ _ _=>rfl
section
variable {α β γ δ ε ρ:Type}
noncomputable abbrev Inj (f:α->A):Prop:=∀x y,f x=f y->x=y
def ZY (k:Nat)(e1:α->A)(er:ρ->A)(F:α->Option ρ)(g:List Bool:=[])(i1:Inj e1:=by exact kp.inj):y8:=spF k (λx=>[e1 x]) er F g λx y h=>i1 _ _ (List.cons.inj h).1
def qW (k:Nat)(e1:α->A)(e2:β->A)(er:ρ->A)(F:α->β->Option ρ)(g:List Bool:=[])(i1:Inj e1:=by exact kp.inj)(i2:Inj e2:=by exact kp.inj):y8:=spF (α:=α×β) k (λx=>[e1 x.1,e2 x.2]) er (λx=>F x.1 x.2) g λx y h=>by simp at h;exact Prod.ext (i1 _ _ h.1) (i2 _ _ h.2)
def z0O (k:Nat)(e1:α->A)(e2:β->A)(e3:γ->A)(er:ρ->A)(F:α->β->γ->Option ρ)(g:List Bool:=[])(i1:Inj e1:=by exact kp.inj)(i2:Inj e2:=by exact kp.inj)(i3:Inj e3:=by exact kp.inj):y8:=spF (α:=α×β×γ) k (λx=>[e1 x.1,e2 x.2.1,e3 x.2.2]) er (λx=>F x.1 x.2.1 x.2.2) g λx y h=>by simp at h;exact Prod.ext (i1 _ _ h.1) (Prod.ext (i2 _ _ h.2.1) (i3 _ _ h.2.2))
def zgJ (k:Nat)(e1:α->A)(e2:β->A)(e3:γ->A)(e4:δ->A)(er:ρ->A)(F:α->β->γ->δ->Option ρ)(g:List Bool:=[])(i1:Inj e1:=by exact kp.inj)(i2:Inj e2:=by exact kp.inj)(i3:Inj e3:=by exact kp.inj)(i4:Inj e4:=by exact kp.inj):y8:=spF (α:=α×β×γ×δ) k (λx=>[e1 x.1,e2 x.2.1,e3 x.2.2.1,e4 x.2.2.2]) er (λx=>F x.1 x.2.1 x.2.2.1 x.2.2.2) g λx y h=>by simp at h;exact Prod.ext (i1 _ _ h.1) (Prod.ext (i2 _ _ h.2.1) (Prod.ext (i3 _ _ h.2.2.1) (i4 _ _ h.2.2.2)))
variable {X:XH prog}{l:List y8}[H:HS X l]{k:Nat}{e1:α->A}{e2:β->A}{e3:γ->A}{e4:δ->A}{er:ρ->A}{g:List Bool}{i1:Inj e1}{i2:Inj e2}{i3:Inj e3}{i4:Inj e4}{a:α}{b:β}{c:γ}{d:δ}{r:ρ}{vs:List A}{F0:Option ρ}{F1:α->Option ρ}{F2:α->β->Option ρ}{F3:α->β->γ->Option ρ}{F4:α->β->γ->δ->Option ρ}
noncomputable abbrev zx (Y:XH prog):HS Y l:=⟨H.c,H.ok,H.has⟩
noncomputable abbrev zd {Y m}(n:Nat)(h:l.drop n=m:=by rfl):HS Y m:=⟨H.c,H.ok,λt q=>H.has t (rb (h ▸ q))⟩
noncomputable abbrev za {Y:XH prog}(s:y8)(hs:s.Ok prog)(h:((l.map y8.k).contains s.k)=false:=by kernel_rfl):HS Y (s::l):=⟨H.c.add s,Ctr.add_ok H.ok hs,λt q=>(pl.1 q).elim (λe=>e ▸ Ctr.add_has _ _) λq=>(H.has t q).add (zkh h t q)⟩
def hat (i:Nat){s:y8}(h:l[i]?=some s:=by rfl):H.c.Has s:=H.has s (pD h)
def Hk (g:List Bool){k:Nat}{vs:List A}{r:A}(zg:H.c.gives k=g)(h:H.c.run k (H.c.norm k vs)=some r):HO:=([.g g,.a r],[ob zg,ob h])
def zg (i:Nat){s:y8}(h:l[i]?=some s:=by rfl):HO:=Hg (hat i h).gives
noncomputable abbrev zR [H:HS X l](k:Nat)(vs:List A)(r:A):Prop:=H.c.run k (H.c.norm k vs)=some r
def zf0 (i:Nat)(hr:F0=some r)(za:vs.map A.loose=[])(h:l[i]?=some (zi6 k er F0 g):=by rfl):zR k vs (er r):=zia (x:=()) (hat i h) hr za
def zf1 (i:Nat)(hr:F1 a=some r)(za:vs.map A.loose=[e1 a])(h:l[i]?=some (ZY k e1 er F1 g i1):=by rfl):zR k vs (er r):=zia (hat i h) hr za
def zf2 (i:Nat)(hr:F2 a b=some r)(za:vs.map A.loose=[e1 a,e2 b])(h:l[i]?=some (qW k e1 e2 er F2 g i1 i2):=by rfl):zR k vs (er r):=zia (x:=(a,b)) (hat i h) hr za
def zf3 (i:Nat)(hr:F3 a b c=some r)(za:vs.map A.loose=[e1 a,e2 b,e3 c])(h:l[i]?=some (z0O k e1 e2 e3 er F3 g i1 i2 i3):=by rfl):zR k vs (er r):=zia (x:=(a,b,c)) (hat i h) hr za
def zf4 (i:Nat)(hr:F4 a b c d=some r)(za:vs.map A.loose=[e1 a,e2 b,e3 c,e4 d])(h:l[i]?=some (zgJ k e1 e2 e3 e4 er F4 g i1 i2 i3 i4):=by rfl):zR k vs (er r):=zia (x:=(a,b,c,d)) (hat i h) hr za
def zC0 (i:Nat)(hr:F0=some r)(h:l[i]?=some (zi6 k er F0 g):=by rfl):HO:=Hk g (z2k (hat i h)) (zf0 i hr loN h)
def zC1 (i:Nat)(hr:F1 a=some r)(h:l[i]?=some (ZY k e1 er F1 g i1):=by rfl)(za:[e1 a].map A.loose=[e1 a]:=by exact loC _ _ loN):HO:=Hk g (z2k (hat i h)) (zf1 i hr za h)
def zC2 (i:Nat)(hr:F2 a b=some r)(h:l[i]?=some (qW k e1 e2 er F2 g i1 i2):=by rfl)(za:[e1 a,e2 b].map A.loose=[e1 a,e2 b]:=by exact loC _ _ (loC _ _ loN)):HO:=Hk g (z2k (hat i h)) (zf2 i hr za h)
def zC3 (i:Nat)(hr:F3 a b c=some r)(h:l[i]?=some (z0O k e1 e2 e3 er F3 g i1 i2 i3):=by rfl)(za:[e1 a,e2 b,e3 c].map A.loose=[e1 a,e2 b,e3 c]:=by exact loC _ _ (loC _ _ (loC _ _ loN))):HO:=Hk g (z2k (hat i h)) (zf3 i hr za h)
def zC4 (i:Nat)(hr:F4 a b c d=some r)(h:l[i]?=some (zgJ k e1 e2 e3 e4 er F4 g i1 i2 i3 i4):=by rfl)(za:[e1 a,e2 b,e3 c,e4 d].map A.loose=[e1 a,e2 b,e3 c,e4 d]:=by exact loC _ _ (loC _ _ (loC _ _ (loC _ _ loN)))):HO:=Hk g (z2k (hat i h)) (zf4 i hr za h)
include H in
def zk2 (i:Nat)(hr:F2 a b=some r)(h:l[i]?=some (qW k e1 e2 er F2 g i1 i2):=by rfl):uW prog k [e1 a,e2 b] (er r):=zhy H.ok (hat i h) (x:=(a,b)) hr
variable {fn:Func}{pn:List (Nat×Value)}{n:Fr}{Q:Exit->St->Prop}{c:Code}{fs:List Fm}{st:St}{σ τ:Type}{J:St->Prop}
noncomputable abbrev hEt (keep:Bool)(rs:List (Nat×Option Nat))(r:A)(E:St->Prop):Prop:=∀st x R U,zi8 ua keep rs st=some (x,R,U)->LeV x r->E st
noncomputable abbrev zN (fn:Func)(pn:List (Nat×Value)):Fr:=⟨fn.ntmps,pn⟩
noncomputable abbrev zW (fn:Func)(pn:List (Nat×Value))(Q:Exit->St->Prop)(c:Code)(fs:List Fm)(s:St):Prop:=AWP prog (zN fn pn) c s (Qf prog (zN fn pn) fs Q)
def zOk (f:Func)(n:Nat):Bool:=f.body.isSome && !(f.name == "runtime.NumGoroutine")&&Nat.ble n f.ntmps
noncomputable abbrev zB (keep:Bool)(fn:Func)(r:A)(vs:List A):Prop:=∀E,hEt keep (rsO fn) r E->zW fn [] (zfp E) (zbd fn) [] (ofL (z9w 0 vs))
def ySp {k:Nat}{r:A}{ls:List A}(keep:Bool)(hf:prog.funcs[k]?=some fn)(h:zB keep fn r ls){m:Nat}(hz:zOk fn m=true)(hm:ls.length=m):uW prog k ls r:=by subst hm;simp only[zOk,po,nF]at hz;obtain⟨b,hb⟩:=mW.1 hz.1.1;exact zeN (tt:=ua) (keep:=keep) (rs:=rsO fn) (n:=⟨fn.ntmps,[]⟩) (body:=zbd fn) zt hf hz.1.2 (by simp[zbd,hb]) rfl (zjI fn) (Nat.le_of_ble_eq_true hz.2) h
def zY {k:Nat}{r:A}{ls:List A}(keep:Bool)(hf:prog.funcs[k]?=some fn)(h:zB keep fn r ls)(hz:zOk fn ls.length=true:=by kernel_rfl):uW prog k ls r:=ySp keep hf h hz rfl
def zO1 (h:∀a r,F1 a=some r->uW prog k [e1 a] (er r)):(ZY k e1 er F1 g i1).Ok prog:=UR λx r q=>h x r q
def zO2 (h:∀a b r,F2 a b=some r->uW prog k [e1 a,e2 b] (er r)):(qW k e1 e2 er F2 g i1 i2).Ok prog:=UR λx r q=>h x.1 x.2 r q
def zO3 (h:∀a b c r,F3 a b c=some r->uW prog k [e1 a,e2 b,e3 c] (er r)):(z0O k e1 e2 e3 er F3 g i1 i2 i3).Ok prog:=UR λx r q=>h x.1 x.2.1 x.2.2 r q
def zO4 (h:∀a b c d r,F4 a b c d=some r->uW prog k [e1 a,e2 b,e3 c,e4 d] (er r)):(zgJ k e1 e2 e3 e4 er F4 g i1 i2 i3 i4).Ok prog:=UR λx r q=>h x.1 x.2.1 x.2.2.1 x.2.2.2 r q
def yS0 (keep:Bool)(hf:prog.funcs[k]?=some fn)(h:∀r,F0=some r->zB keep fn (er r) [])(hz:zOk fn 0=true:=by kernel_rfl):(zi6 k er F0 g).Ok prog:=UR λ_ r q=>ySp keep hf (h r q) hz rfl
def yS1 (keep:Bool)(hf:prog.funcs[k]?=some fn)(h:∀a r,F1 a=some r->zB keep fn (er r) [e1 a])(hz:zOk fn 1=true:=by kernel_rfl):(ZY k e1 er F1 g i1).Ok prog:=zO1 λa r q=>ySp keep hf (h a r q) hz rfl
def yS2 (keep:Bool)(hf:prog.funcs[k]?=some fn)(h:∀a b r,F2 a b=some r->zB keep fn (er r) [e1 a,e2 b])(hz:zOk fn 2=true:=by kernel_rfl):(qW k e1 e2 er F2 g i1 i2).Ok prog:=zO2 λa b r q=>ySp keep hf (h a b r q) hz rfl
def yS3 (keep:Bool)(hf:prog.funcs[k]?=some fn)(h:∀a b c r,F3 a b c=some r->zB keep fn (er r) [e1 a,e2 b,e3 c])(hz:zOk fn 3=true:=by kernel_rfl):(z0O k e1 e2 e3 er F3 g i1 i2 i3).Ok prog:=zO3 λa b c r q=>ySp keep hf (h a b c r q) hz rfl
def yS4 (keep:Bool)(hf:prog.funcs[k]?=some fn)(h:∀a b c d r,F4 a b c d=some r->zB keep fn (er r) [e1 a,e2 b,e3 c,e4 d])(hz:zOk fn 4=true:=by kernel_rfl):(zgJ k e1 e2 e3 e4 er F4 g i1 i2 i3 i4).Ok prog:=zO4 λa b c d r q=>ySp keep hf (h a b c d r q) hz rfl
section
variable {E:St->Prop}{r:A}{keep:Bool}{rs:List (Nat×Option Nat)}(hE:hEt keep rs r E)(L:List HO)
noncomputable abbrev zrE [H:HS X l](n:Fr)(keep:Bool)(rs:List (Nat×Option Nat))(c:Code)(fs:List Fm)(st:St)(L:List HO):=zlH X ua H.c n keep rs 4000 c fs st (hoH L)
include hE in
theorem yEx (x:A)(hle:LeV x r)(e:zrE n keep rs c fs st L=some (x,hoO L):=by kernel_rfl):AWP prog n c st (Qf prog n fs (zfp E)):=zkL X zt H.ok z20 hE 4000 (hoB L) (by rw[<-z8O];exact e) hle
include hE in
theorem yE (e:zrE n keep rs c fs st L=some (r,hoO L):=by kernel_rfl):AWP prog n c st (Qf prog n fs (zfp E)):=yEx hE L r (LeV.refl _) e
def vE (r:Option (A×List Prop)):A:=match r with|some (x,_)=>x|none=>.dead 0
include hE in
theorem yEl (e:zrE n keep rs c fs st L=some (vE (zrE n keep rs c fs st L),hoO L):=by kernel_rfl)(e2:(vE (zrE n keep rs c fs st L)).loose=r:=by kernel_rfl):AWP prog n c st (Qf prog n fs (zfp E)):=yEx hE L _ ⟨λ_ _ _ _ q=>e2 ▸ q.loose⟩ e
end
noncomputable abbrev zzq [H:HS X l](n:Fr)(ks:List Nat)(c:Code)(fs:List Fm)(st:St)(L:List HO):=zlG X ua H.c n ks 4000 c fs st (hoH L)
def yW {ks:List Nat}{s:z99}{s0:St}(L:List HO)(e:zzq n ks c fs st L=some (s,s0,hoO L))(h:∀st0,canon ks st0=s0->s.sem prog n Q st0):AWP prog n c st (Qf prog n fs Q) :=
 zhV X zt H.ok z20 ks 4000 (hoB L) (by rw[<-z8O];exact e) h
noncomputable abbrev hJt (ks:List Nat)(J:St->Prop)(Inv:τ->Prop)(S:τ->List (Nat×T)):Prop:=∀st' l' z,Inv z->Own.canon ks st'=ofL l'->LeL l' (S z)->J st'
variable {live:List Nat}{S:τ->List (Nat×T)}{Inv:τ->Prop}
def yBx (hJ:hJt live J Inv S)(z:τ)(hz:Inv z)(l:List (Nat×T))(hl:LeL l (S z))(L:List HO)(e:zzq n live c fs st L=some (.back J,ofL l,hoO L):=by kernel_rfl):AWP prog n c st (Qf prog n fs Q):=yW L e λst0 h0=>hJ st0 _ z hz h0 hl
def yB (hJ:hJt live J Inv S)(z:τ)(hz:Inv z)(L:List HO)(e:zzq n live c fs st L=some (.back J,ofL (S z),hoO L):=by kernel_rfl):AWP prog n c st (Qf prog n fs Q):=yBx hJ z hz _ (LeL.refl _) L e
def yF (ex:Exit)(l:List (Nat×T))(L:List HO)(h:∀st0,Own.canon (z0S l) st0=ofL l->Q ex st0)(e:zzq n (z0S l) c fs st L=some (.fin ex,ofL l,hoO L):=by kernel_rfl):AWP prog n c st (Qf prog n fs Q):=yW L e h
def yAt (c':Code)(fs':List Fm)(l:List (Nat×T))(L:List HO)(h:∀st0,Own.canon (z0S l) st0=ofL l->AWP prog n c' st0 (Qf prog n fs' Q))(e:zzq n (z0S l) c fs st L=some (.at c' fs',ofL l,hoO L):=by kernel_rfl):AWP prog n c st (Qf prog n fs Q):=yW L e h
def yD (i:Nat)(L:List Nat){k:Nat}{xs0:List A}{ls:List (Value×A)}{pv:Value}(hd:KD prog k xs0 ls pv)(xs:List A)(hx:JO xs xs0)(Lh:List HO)(hQ:∀st',Q (.panic (jU pv)) st')(e:zmK X ua H.c n c i L st (hoH Lh)=some ([.fn k []],xs,ls,hoO Lh):=by kernel_rfl):AWP prog n c st (Qf prog n fs Q):=yD6 X zt H.ok i L hd xs hx Lh e hQ
def yP (i:Nat){T:Nat}{v:Value}(Lh:List HO)(hQ:∀st',Q (.panic (jU (.iface T v))) st')(e:zlP X ua H.c n c i st (hoH Lh)=some (.atom (.iface T v),hoO Lh):=by kernel_rfl):AWP prog n c st (Qf prog n fs Q):=yP6 X zt H.ok i Lh e hQ
def dgL (n:Nat):List Nat:=Nat.rec (motive:=λ_=>Nat->List Nat->List Nat) (λ_ l=>l) (λ_ ih m l=>if m<10 then l else ih (m / 10) (m % 10::l)) 40 n []
noncomputable instance (n:Nat):OfNat (List Nat) n:=⟨dgL n⟩
noncomputable abbrev zzt (p:List Nat)(d:Nat)(fn:Func):Code:=sub (p++[d]) (zbd fn)
noncomputable abbrev zzp (p:List Nat)(fn:Func):Code:=sub p (zbd fn)
noncomputable abbrev zzm (p:List Nat)(Js:List (St->Prop))(fn:Func):=frs p Js (zbd fn) []
noncomputable abbrev zzr [H:HS X l](fn:Func)(pn:List (Nat×Value))(ks:List Nat)(c:Code)(fs:List Fm)(st:St)(L:List HO):=zzq (zN fn pn) ks c fs st L
noncomputable abbrev zzs [H:HS X l](fn:Func)(pn:List (Nat×Value))(ks:List Nat)(c:Code)(fs:List Fm)(st:St)(L:List HO):St:=stO (zzr fn pn ks c fs st L)
noncomputable abbrev zzu (p:List Nat)(Js:List (St->Prop))(fn:Func)(s:St)(L:List HO):Option (z99×St×List Prop):=some (.at (zzp p fn) (zzm p Js fn),s,hoO L)
noncomputable abbrev zzv (fn:Func)(pn:List (Nat×Value))(Q:Exit->St->Prop)(p:List Nat)(Js:List (St->Prop))(Inv:σ->Prop)(S:σ->St):Prop:=∀z,Inv z->zW fn pn Q (zzt p 1 fn) (zzm p Js fn) (S z)
noncomputable abbrev zzw (fn:Func)(pn:List (Nat×Value))(Q:Exit->St->Prop)(p:List Nat)(Js:List (St->Prop))(live:List Nat)(Inv:σ->Prop)(S:σ->List (Nat×T))(s:St):Prop:=∀J:St->Prop,hJt live J Inv S->zW fn pn Q (zzt p 2 fn) (.pre J::zzm p Js fn) s
noncomputable abbrev rdT (fn:Func)(pn:List (Nat×Value))(Q:Exit->St->Prop)(p:List Nat)(Js:List (St->Prop))(ks:List Nat)(f:σ->Option (LR σ τ))(t:τ)(S:σ->List (Nat×T)):Prop:=∀x m lr,f x=some lr->zom f m t lr->∀J:St->Prop,hJt ks J (λx'=>Ko f m x'=some t) S->zW fn pn Q (zzt p 0 fn) (.pre J::zzm p Js fn) (ofL (S x))
variable (path:List Nat)(Js:List (St->Prop))
theorem yC (ks:List Nat)(L:List HO)(h:zW fn pn Q (zzp path fn) (zzm path Js fn) (zzs fn pn ks c fs st L))(e:zzr fn pn ks c fs st L=zzu path Js fn (zzs fn pn ks c fs st L) L:=by kernel_rfl):zW fn pn Q c fs st:=yW L e λst0 h0=>AWP.canon ks (by rw[h0];exact h)
theorem yA (l:List (Nat×T))(L:List HO)(h:zW fn pn Q (zzp path fn) (zzm path Js fn) (ofL l))(e:zzr fn pn (z0S l) c fs st L=zzu path Js fn (ofL l) L:=by kernel_rfl):zW fn pn Q c fs st:=yW L e λst0 h0=>z5j h0 h
section
variable {f:σ->Option (LR σ τ)}{t:τ}
theorem yLx (f:σ->Option (LR σ τ))(S:σ->List (Nat×T))(x0:σ){t:τ}(ht:loop f x0=some t)(l:List (Nat×T))(hl:LeL l (S x0))(L:List HO)(round:rdT fn pn Q path Js (z0S l) f t S)(e:zzr fn pn (z0S l) c fs st L=zzu path Js fn (ofL l) L:=by kernel_rfl)(e2:zzp path fn=.loop (zzt path 0 fn):=by kernel_rfl)(hk:∀x,z0S (S x)=z0S l:=by exact λ_=>rfl):zW fn pn Q c fs st:=by refine yW L e λst0 h0=>?_;refine zeV (X:=σ×Nat) e2 (z0S l) (λx=>Ko f x.2 x.1=some t) (λx=>x.2) (λx=>S x.1) (x0,V4) _ h0 hl ht ?_;rintro⟨x,k⟩ hx J hJ;obtain⟨m,lr,rfl,hf,hr⟩:=zlY hx;exact round x m lr hf hr J λst' l' x' h1 h2 h3=>hJ st' l' (x',m) h1 (gp m) h2 h3
theorem yL (f:σ->Option (LR σ τ))(S:σ->List (Nat×T))(x0:σ){t:τ}(ht:loop f x0=some t)(L:List HO)(round:rdT fn pn Q path Js (z0S (S x0)) f t S)(e:zzr fn pn (z0S (S x0)) c fs st L=zzu path Js fn (ofL (S x0)) L:=by kernel_rfl)(e2:zzp path fn=.loop (zzt path 0 fn):=by kernel_rfl)(hk:∀x,z0S (S x)=z0S (S x0):=by exact λ_=>rfl):zW fn pn Q c fs st:=yLx path Js f S x0 ht _ (LeL.refl _) L round e e2 hk
variable (ks:List Nat)(dl:σ->List (Nat×T)){x0:σ}
theorem yM (ht:loop f x0=some t)(L:List HO)(round:rdT fn pn Q path Js ks f t λx=>clS ks (zzs fn pn ks c fs st L) (dl x))(e:zzr fn pn ks c fs st L=zzu path Js fn (ofL (clS ks (zzs fn pn ks c fs st L) (dl x0))) L:=by kernel_rfl)(e2:zzp path fn=.loop (zzt path 0 fn):=by kernel_rfl):zW fn pn Q c fs st:=by
 have hk:∀x,z0S (clS ks (zzs fn pn ks c fs st L) (dl x))=ks:=λx=>z8H _ _ _;refine yLx path Js f (λx=>clS ks (zzs fn pn ks c fs st L) (dl x)) x0 ht _ (LeL.refl _) L ?_ (by rw[hk];exact e) e2 λx=>by rw[hk,hk]
 rw[hk];exact round
theorem yMb {ρ':Type}{k:τ->Option ρ'}{r:ρ'}(hb:Option.bind (loop f x0) k=some r)(L:List HO)(round:∀t,k t=some r->rdT fn pn Q path Js ks f t λx=>clS ks (zzs fn pn ks c fs st L) (dl x))(e:zzr fn pn ks c fs st L=zzu path Js fn (ofL (clS ks (zzs fn pn ks c fs st L) (dl x0))) L:=by kernel_rfl)(e2:zzp path fn=.loop (zzt path 0 fn):=by kernel_rfl):zW fn pn Q c fs st:=by obtain⟨t,ht,h⟩:=zo hb;exact yM path Js ks dl ht L (round t h) e e2
def okT:T->Bool
 | .own _|.d _|.gone=>true
 | .als _ p _ _=>p.isEmpty
 | _=>false
theorem zk0 {x:T}(h:okT x=true):LeT x x:=by
 cases x with
 | own x=>exact⟨x,rfl,inferInstance⟩
 | d x=>exact⟨x,rfl,inferInstance⟩
 | gone=>rfl
 | als r p er ec=>cases p with
  | nil=>exact⟨rfl,rfl⟩
  | cons a p=>cases h
 | _=>cases h
theorem zfU {s:St}:∀{d d':List (Nat×T)},z19 d d'->z0S d=z0S d'->∀{ks:List Nat},(ks.all λk=>okT (s k).t)=true->z19 (clS ks s d) (clS ks s d')
 | _,_,_,_,[],_=>z19.nil
 | d,d',hd,hk,k::ks,h=>by
  simp only[List.all_cons,po]at h;refine z19.cons' ?_ (zfU hd hk h.2);have q:=(hd.ent k).2.2;clear hd;induction d generalizing d' with
  | nil=>cases d' with
   | nil=>exact zk0 h.1
   | cons y d'=>cases hk
  | cons x d ih=>cases d' with
   | nil=>cases hk
   | cons y d'=>
    simp only[z0S,gt,List.cons.injEq]at hk;simp only[ofL,hk.1]at q;simp only[List.lookup,hk.1];by_cases e:k=y.1
    ·subst e;simpa using q
    simp only[e,if_false]at q;rw[show(k==y.1)=false by simpa using e];exact ih _ hk.2 q
theorem yMx (ht:loop f x0=some t)(d0:List (Nat×T))(L:List HO)(round:rdT fn pn Q path Js ks f t λx=>clS ks (zzs fn pn ks c fs st L) (dl x))(e:zzr fn pn ks c fs st L=zzu path Js fn (ofL (clS ks (zzs fn pn ks c fs st L) d0)) L:=by kernel_rfl)(e2:zzp path fn=.loop (zzt path 0 fn):=by kernel_rfl)(ho:(ks.all λk=>okT (zzs fn pn ks c fs st L k).t)=true:=by kernel_rfl)(hk:z0S d0=z0S (dl x0):=by rfl)(hd:z19 d0 (dl x0):=by infer_instance):zW fn pn Q c fs st:=by
 have hk:∀d,z0S (clS ks (zzs fn pn ks c fs st L) d)=ks:=λd=>z8H _ _ _;refine yLx path Js f (λx=>clS ks (zzs fn pn ks c fs st L) (dl x)) x0 ht (clS ks (zzs fn pn ks c fs st L) d0) ⟨.inr (zfU hd ‹_› ho)⟩ L ?_ (by rw[hk];exact e) e2 λx=>by rw[hk,hk]
 rw[hk];exact round
end
noncomputable abbrev zI {ρ:Type}(F:σ->Option ρ)(r:ρ)(z:σ):Prop:=F z=some r
variable (live:List Nat)(Inv:σ->Prop)(S:σ->List (Nat×T))
theorem yK (ks:List Nat)(L:List HO)(h1:zzv fn pn Q path Js Inv λz=>ofL (S z))(h2:zzw fn pn Q path Js live Inv S (zzs fn pn ks c fs st L))(e:zzr fn pn ks c fs st L=zzu path Js fn (zzs fn pn ks c fs st L) L:=by kernel_rfl)(e2:zzp path fn=.seq (zzt path 2 fn) (zzt path 1 fn):=by kernel_rfl):zW fn pn Q c fs st:=by refine yW L e λst0 h0=>?_;show AWP prog _ (zzp path fn) st0 _;rw[e2];refine AWP.canon ks ?_;rw[h0];refine AWP.nextC live λK hK=>h2 K λst' l' z hz he hl=>hK st' ?_;rw[he];exact zeW hl (h1 z hz)
theorem yJ (l:List (Nat×T))(L:List HO)(h1:zzv fn pn Q path Js Inv λz=>ofL (S z))(h2:zzw fn pn Q path Js live Inv S (ofL l))(e:zzr fn pn (z0S l) c fs st L=zzu path Js fn (ofL l) L:=by kernel_rfl)(e2:zzp path fn=.seq (zzt path 2 fn) (zzt path 1 fn):=by kernel_rfl):zW fn pn Q c fs st:=yW L e λst0 h0=>zeX e2 live (z0S l) _ h0 Inv S h1 h2
theorem yN (ks:List Nat)(L:List HO)(h1:zzv fn pn Q path Js Inv λz=>ofL (clS live (zzs fn pn ks c fs st L) (S z)))(h2:zzw fn pn Q path Js live Inv (λz=>clS live (zzs fn pn ks c fs st L) (S z)) (zzs fn pn ks c fs st L))(e:zzr fn pn ks c fs st L=zzu path Js fn (zzs fn pn ks c fs st L) L:=by kernel_rfl)(e2:zzp path fn=.seq (zzt path 2 fn) (zzt path 1 fn):=by kernel_rfl):zW fn pn Q c fs st:=yK path Js live Inv _ ks L h1 h2 e e2
theorem yNs (L:List HO)(h1:zzv fn pn Q path Js Inv λz=>ofL (clS live (zzs fn pn live c fs st L) (S z)))(h2:zzw fn pn Q path Js live Inv (λz=>clS live (zzs fn pn live c fs st L) (S z)) (zzs fn pn live c fs st L))(e:zzr fn pn live c fs st L=zzu path Js fn (zzs fn pn live c fs st L) L:=by kernel_rfl)(e2:zzp path fn=.seq (zzt path 2 fn) (zzt path 1 fn):=by kernel_rfl):zW fn pn Q c fs st:=yK path Js live Inv _ live L h1 h2 e e2
theorem yKs (L:List HO)(h1:zzv fn pn Q path Js Inv λz=>ofL (S z))(h2:zzw fn pn Q path Js live Inv S (zzs fn pn live c fs st L))(e:zzr fn pn live c fs st L=zzu path Js fn (zzs fn pn live c fs st L) L:=by kernel_rfl)(e2:zzp path fn=.seq (zzt path 2 fn) (zzt path 1 fn):=by kernel_rfl):zW fn pn Q c fs st:=yK path Js live Inv S live L h1 h2 e e2
end
def Hb {t b:Bool}{p:Prop}(h:t=b/\p):HO:=Hq h.1
noncomputable instance {t b:Bool}{p:Prop}(h:t=b/\p):CoeDep (t=b/\p) h HO:=⟨Hb h⟩
def yg {α β γ:Type}{x:Option α}{f:α->Option β}{g:α->β->Option γ}{r:γ}(h:Option.bind x (λu=>Option.bind (f u) (g u))=some r):∃u,x=some u/\∃v,f u=some v/\g u v=some r:=by obtain⟨u,h,q⟩:=zo h;exact⟨u,h,zo q⟩
def ZS {α β γ δ:Type}{x:Option α}{f:α->Option β}{g:α->β->Option γ}{k:α->β->γ->Option δ}{r:δ}(h:Option.bind x (λu=>Option.bind (f u) λv=>Option.bind (g u v) (k u v))=some r):∃u,x=some u/\∃v,f u=some v/\∃w,g u v=some w/\k u v w=some r:=by obtain⟨u,h,q⟩:=zo h;exact⟨u,h,yg q⟩
def z7P {α β γ δ ε:Type}{x:Option α}{f:α->Option β}{g:α->β->Option γ}{k:α->β->γ->Option δ}{l:α->β->γ->δ->Option ε}{r:ε}(h:Option.bind x (λu=>Option.bind (f u) λv=>Option.bind (g u v) λw=>Option.bind (k u v w) (l u v w))=some r):∃u,x=some u/\∃v,f u=some v/\∃w,g u v=some w/\∃y,k u v w=some y/\l u v w y=some r:=by obtain⟨u,h,q⟩:=zo h;exact⟨u,h,ZS q⟩
def zeR {α β γ δ ε ζ:Type}{x:Option α}{f:α->Option β}{g:α->β->Option γ}{k:α->β->γ->Option δ}{l:α->β->γ->δ->Option ε}{m:α->β->γ->δ->ε->Option ζ}{r:ζ}(h:Option.bind x (λu=>Option.bind (f u) λv=>Option.bind (g u v) λw=>Option.bind (k u v w) λy=>Option.bind (l u v w y) (m u v w y))=some r):∃u,x=some u/\∃v,f u=some v/\∃w,g u v=some w/\∃y,k u v w=some y/\∃z,l u v w y=some z/\m u v w y z=some r:=by obtain⟨u,h,q⟩:=zo h;exact⟨u,h,z7P q⟩
def zh0:zlb prog 22 9:=zgH (e:=5) underlying22 underlying5 underlying9
def zb3:zcm prog 218 9 4 z4W (.atom (.bool false)):=ze6 underlying218 underlying9 ⟨.bool false,λw=>z7W (f:=Tryz.t4) (by kernel_rfl) rfl w,λS=>yU.2 ⟨rfl,rfl⟩⟩ rfl
def z6s:zcm prog 254 259 3 (z9t [.i64,.i64,.i64,.i64,.i64,.i64,.i64,.i64,.i64,.i64,.i64,.i64,.i64,.i64,.i64,.i64,.i64,.i64,.i64,.i64,.i64,.i64,.i64,.i64,.i64,.i64,.i64,.i64,.i64,.i64,.i64,.i64,.i64]) (.atom (.int .i64 0)):=ze7 underlying254 _ underlying259 (exq Go.Ex.znH) (z7Y.eqn rfl) rfl ⟨.int .i64 0,λw=>z7W (f:=Tryz.t3) (by kernel_rfl) rfl w,λS=>yU.2 ⟨rfl,rfl⟩⟩ rfl
def zhA:z9c prog 99 0 3 0:=zbD underlying99 _ rfl rfl rfl
def zjt:zi2 prog 136 1 false:=zdx zt (t:=51) Tryz.so136 rfl rfl (by kernel_rfl) (by decide)
def l0:List y8:=[]
abbrev rE:=eI .i64
def l1:List y8:=zgJ 85 yZ (eSl 1 false (eSl 1 false eB)) rE rE rE VA::l0
def z4m [H:HS X0 l0]:OkH l1:=yS4 true func85 λm_ bl s_ t_ r0 aa E hE=>by
 refine yK 11 [] [] (λz:Unit=>Jk=some r0) (λz=>[]) [1,2,3,4] [Hh (.cut 1)] ?_ λJ1 ar=>?_
 ·rintro⟨⟩ aa;cases aa;exact yE hE []
 refine yMb 11210 [J1] [1,2,3,4,9] (λx=>[(9,.d (I x))]) aa  [] λt2 aa i_ m2 av ae hl1 J2 au=>?_;obtain c0|c0:=zy ae
 ·refine yN 1121001 [J1,J2] [1,2,3,4,9,41,42,43,47,48,58] (λz:Int×Bool×Bool×Bool×Bool×Bool=>jB i_ z.1 z.2.1 z.2.2.1 z.2.2.2.1 z.2.2.2.2.1 z.2.2.2.2.2=some av) (λz=>[(41,.d (I z.1)),(42,.d (B z.2.1)),(43,.d (B z.2.2.1)),(47,.d (B z.2.2.2.1)),(48,.d (B z.2.2.2.2.1)),(58,.d (B z.2.2.2.2.2))]) [1,2,3,4,9] [c0,Hh (.cut 0)] ?_ λJ3 bg=>?_
  ·rintro⟨rc,re,my,rf,rg,oz⟩ ae;cases ae;exact yB au _ hl1 []
  obtain⟨ap,h0,al,h1,du,h2,bp,h3,ae⟩:=z7P c0.2;let Z0:List HO:=[Hi xH h0,Hi WD h1,Hi xH h2,Hi WD h3];obtain c1|c1:=zy ae
  ·cases c1.2;cases hl1;cases aa;exact yE hE (Z0++(rpN 8 (Hb c1) [qT]))
  let Z1:List HO:=(Z0++(rpN 4 (Hb c1) []));obtain c2|c2:=zy c1.2
  ·let Z2:List HO:=(Z1++[c2,c2,c2,c1,c2,c1]);obtain c3|c3:=zy c2.2
   ·obtain⟨jp,h4,gm,h5,ae⟩:=yg c3.2;let Z3:List HO:=(Z2++(rpN 4 (Hb c3) (Hi (eSl 1 false eB) h4::(rpN 4 (Hb c3) [Hi eB h5,c3,c1,c3,c1]))));obtain c4|c4:=zy ae
    ·cases c4.2;cases hl1;cases aa;exact yE hE (Z3++[c4])
    exact yB bg (al.To,decide (al.To>=0),decide (al.To>=0),decide (bp.To>=0),decide (bp.To>=0),gm) c4.2 (Z3++[c4])
   exact yB bg (al.To,decide (al.To>=0),decide (al.To>=0),decide (bp.To>=0),decide (bp.To>=0),false) c3.2 (Z2++(rpN 9 (Hb c3) [c1,c3,c1,qF]))
  exact yB bg (al.To,decide (al.To>=0),decide (al.To>=0),false,false,false) c2.2 (Z1++(Hb c2::Hb c2::Hb c2::Hb c1::Hb c2::Hb c1::(rpN 9 qF [c1,qF,c1,qF])))
 cases c0.2;cases hl1;exact yB ar () aa [c0]
def l2:List y8:=qW 52 yZ rE (eOs 1 false (eOs 1 true eB)) W7::l1
def z2X [H:HS X0 l1]:OkH l2:=yS2 true func52 λm_ k_ r0 aa E hE=>by
 refine yNs 1111 [] [1,2,5,6] (zI (Xt m_ k_) r0) (λz=>[(6,.own (eOs 1 false (eOs 1 true eB) z))]) [Ha (lnM xH m_.Rows),Hh (.cut 1)] ?_ λJ1 ar=>?_
 ·rintro bl aa;refine yK 11111 [] [6] (zI Xs r0) (λz=>[(6,.own (eOs 1 false (eOs 1 true eB) z))]) [1,2,5,6] [Hh (.cut 0)] ?_ λJ2 au=>?_
  ·rintro nl aa;cases aa;exact yE hE []
  refine yMb 11111210 [J2] [1,2,5,6,8] (λx=>[(6,.own (eOs 1 false (eOs 1 true eB) x.1)),(8,.d (I x.2))]) aa  [] λt3 aa ⟨dg,round⟩ m3 av ae hl1 J3 bg=>?_;obtain c0|c0:=zy ae
  ·refine yNs 1111121001 [J2,J3] [1,2,5,6,8] (zI (Xr round) av) (λz=>[(6,.own (eOs 1 false (eOs 1 true eB) z))]) [c0,Hh (.cut 0)] ?_ λJ4 db=>?_
   ·rintro mi ae;cases ae;exact yB bg _ hl1 []
   refine yN 1111121001201 [J2,J3,J4] [1,2,5,8,9] (zI (Xq round) av) (λz=>[(9,.own (eOs 1 false (eOs 1 true eB) z))]) [1,2,5,6,8,9] [Hh (.cut 1)] ?_ λJ5 dc=>?_
   ·rintro next ae
    exact yB db next ae []
   obtain⟨t6,kb,ae⟩:=zo c0.2;refine yMx 1111121001201210 [J2,J3,J4,J5] [1,2,5,6,8,9,10] (λx=>[(9,.own (eOs 1 false (eOs 1 true eB) x.1)),(10,.d (I x.2))]) kb [(9,.own (eOs 1 true (eOs 1 true eB) [])),(10,.d (I 0))] [Hh (.n 3 [6]),Hm (shM (eOs 1 true eB) (eSl 1 true eB) dg)] λ⟨cr,s_⟩ m6 dj ah hl2 J6 ep=>?_;obtain c1|c1:=zy ah
   ·refine yNs 111112100120121001 [J2,J3,J4,J5,J6] [1,2,5,6,8,9,10] (zI (Xp s_) dj) (λz=>[(9,.own (eOs 1 false (eOs 1 true eB) z))]) [c1,Hh (.cut 0)] ?_ λJ7 gw=>?_
    ·rintro ff ah;cases ah;exact yB ep _ hl2 []
    obtain⟨g0,ah⟩:=gdE c1.2;obtain⟨g1,ah⟩:=gdE ah;refine yMb 11111210012012100120110 [J2,J3,J4,J5,J6,J7] [1,2,5,6,8,9,10,11] (λx=>[(9,.own (eOs 1 false (eOs 1 true eB) x.1)),(11,.d (I x.2))]) ah  [Hn (rL g0),Ha (rM 1 eB ((m_.Rows.length:Nat):Int) false),Hq (oC (eOs 1 true eB) (List.replicate ((m_.Rows.length:Nat):Int).toNat false) []),Hn (aL (eOs 1 true eB) (eOs 1 true eB) g1),Hl (aM (eOs 1 true eB) cr [(List.replicate ((m_.Rows.length:Nat):Int).toNat false)])] λt8 ah ⟨cb,t_⟩ m8 nb aw hl3 J8 lq=>?_;obtain c2|c2:=zy aw
    ·obtain⟨jq,h0,jp,h1,gm,h2,aw⟩:=ZS c2.2;let Z0:List HO:=[c2,Hn (iL (eOs 1 true eB) h0),Hs (iM (eOs 1 true eB) h0),Hi (eSl 1 true eB) h1,Hi eB h2];obtain c3|c3:=zy aw
     ·obtain⟨qm,h3,aw⟩:=zo c3.2;cases aw;exact yB lq _ hl3 (Z0++(rpN 7 (Hb c3) [Hs (iM (eOs 1 true eB) h0),Hn (iL eB h3),Hs (iM (eOs 1 true eB) h0),Hs (iM eB h3),Hs (iM (eOs 1 true eB) h0),Hs (iM eB h3),Hl (sM eB jq t_ true),Hl (sM (eOs 1 true eB) cb s_ (jq.set t_.toNat true))]))
     obtain⟨r_,h4,py,h5,aw⟩:=yg c3.2;cases aw;exact yB lq _ hl3 (Z0++(rpN 5 (Hb c3) [Hk [] (z2k (hat 0)) (zf4 0 h4 (loC yZ m_ <| loC (eSl 1 false (eSl 1 true eB)) dg <| loC rE s_ <| loC rE t_ <| loN)),c3,c3,Hs (iM (eOs 1 true eB) h0),Hn (iL eB h5),Hs (iM (eOs 1 true eB) h0),Hs (iM eB h5),Hs (iM (eOs 1 true eB) h0),Hs (iM eB h5),Hl (sM eB jq t_ (r_==1)),Hl (sM (eOs 1 true eB) cb s_ (jq.set t_.toNat (r_==1)))]))
    cases c2.2;cases hl3;exact yB gw cb ah [c2]
   cases c1.2;cases hl2;exact yB dc cr ae [c1]
  cases c0.2;cases hl1;exact yB au dg aa [c0]
 obtain⟨t9,ht9,aa⟩:=zo aa;refine yMx 1111210 [J1] [1,2,5,6,7] (λx=>[(6,.own (eOs 1 false (eOs 1 true eB) x.1)),(7,.d (I x.2))]) ht9 [(6,.own (eOs 1 true (eOs 1 true eB) [])),(7,.d (I 0))] [] λ⟨jz,bk⟩ m9 av ae hl1 J9 qe=>?_;obtain c4|c4:=zy ae
 ·obtain⟨g2,ae⟩:=gdE c4.2;obtain⟨g3,ae⟩:=gdE ae;cases ae;exact yB qe _ hl1 [c4,Hn (rL g2),Ha (rM 1 eB ((m_.Rows.length:Nat):Int) false),Hq (oC (eOs 1 true eB) (List.replicate ((m_.Rows.length:Nat):Int).toNat false) []),Hn (aL (eOs 1 true eB) (eOs 1 true eB) g3),Hl (aM (eOs 1 true eB) jz [(List.replicate ((m_.Rows.length:Nat):Int).toNat false)])]
 cases c4.2;cases hl1;exact yB ar jz aa [c4]
def l3:List y8:=ZY 157 (eSl 1 false (eSl 1 false eB)) F7_ Za::l2
def KN [H:HS X0 l2]:OkH l3:=yS1 true func157 λbl r0 aa E hE=>by
 refine yK 1111 [] [3] (zI W6 r0) (λz=>[(3,.own (eOs 1 false rE z))]) [0,3,4] [Hh (.cut 3)] ?_ λJ1 ar=>?_
 ·rintro out aa;cases aa;exact yE hE []
 obtain⟨t2,ht2,aa⟩:=zo aa;refine yMx 1111210 [J1] [0,3,4,5] (λx=>[(3,.own (eOs 1 false rE x.1)),(4,.d (I x.2.1)),(5,.d (I x.2.2))]) ht2 [(3,.own (eOs 1 true rE [])),(4,.d (I 0)),(5,.d (I 0))] [] λ⟨aj,n_,s_⟩ m2 av ae hl1 J2 au=>?_;let Z0:List HO:=[Ha (lnM (eSl 1 false eB) bl)];obtain c0|c0:=zy ae
 ·refine yNs 111121001 [J1,J2] [0,3,4,5] (λz:List Int×Int=>kZ s_ z.1 z.2=some av) (λz=>[(3,.own (eOs 1 false rE z.1)),(4,.d (I z.2))]) (Z0++[c0,Hh (.cut 0)]) ?_ λJ3 bg=>?_
  ·rintro⟨ax,ca⟩ ae;cases ae;exact yB au _ hl1 []
  refine yNs 111121001201 [J1,J2,J3] [0,3,4,5,6] (zI (kY aj n_ s_) av) (λz=>[(6,.d (I z))]) [Hh (.cut 1)] ?_ λJ4 db=>?_
  ·rintro b_ ae;refine yNs 1111210012011 [J1,J2,J3] [0,3,4,5,6] (λz:Int×Int=>vj aj s_ z.1 z.2=some av) (λz=>[(4,.d (I z.1)),(6,.d (I z.2))]) [Hh (.cut 0)] ?_ λJ5 dc=>?_
   ·rintro⟨cd,kw⟩ ae;obtain⟨g0,ae⟩:=gdE ae;exact yB bg ((aj++[kw]),cd) ae [Hq (dM rE [kw]),Hn (dM rE [kw]),Hn (aL rE rE g0),Hl (aM rE aj [kw])]
   obtain c1|c1:=zy ae
   ·exact yB dc (w64 (n_+1),n_) c1.2 [c1]
   exact yB dc (n_,b_) c1.2 [c1]
  refine yMb 111121001201210 [J1,J2,J3,J4] [0,3,4,5,6,7] (λx=>[(6,.d (I x.1)),(7,.d (I x.2))]) c0.2  [] λt6 ae ⟨oq,t_⟩ m6 dj ah hl2 J6 ep=>?_;obtain c2|c2:=zy ah
  ·refine yNs 11112100120121001 [J1,J2,J3,J4,J6] [0,3,4,5,6,7] (zI (uQ t_) dj) (λz=>[(6,.d (I z))]) [c2,Hh (.cut 0)] ?_ λJ7 gw=>?_
   ·rintro pz ah;cases ah;exact yB ep _ hl2 []
   obtain⟨jp,h0,gm,h1,ah⟩:=yg c2.2;let Z1:List HO:=[Hi (eSl 1 false eB) h0,Hi eB h1];obtain c3|c3:=zy ah
   ·obtain⟨dn,h2,ah⟩:=zo c3.2;exact yB gw dn ah (Z1++[c3,Hn (iL rE h2),Hs (iM rE h2)])
   exact yB gw oq c3.2 (Z1++[c3])
  cases c2.2;cases hl2;exact yB db oq ae [c2]
 cases c0.2;cases hl1;exact yB ar aj aa (Z0++[c0])
def l4:List y8:=qW 129 yZ rE F7_ Q5::l3
def z2W [H:HS X0 l3]:OkH l4:=yS2 true func129 λm_ k_ r0 aa E hE=>by obtain⟨r_,h0,ai,h1,aa⟩:=yg aa;cases aa;exact yE hE [zC2 1 h0,zg 0,Hm (shM (eOs 1 true eB) (eSl 1 true eB) r_),Hs (zf1 0 h1 (loC (eSl 1 false (eSl 1 true eB)) r_ <| loN)),Hm (shM (eOs 1 true eB) (eSl 1 true eB) r_)]
def l5:List y8:=ZY 97 yZ F7_ YK::l4
def z1h [H:HS X0 l4]:OkH l5:=yS1 true func97 λm_ r0 aa E hE=>by obtain⟨r_,h0,aa⟩:=zo aa;cases aa;exact yE hE [Ha (lnM xH m_.Rows),zC2 0 h0]
def l6:List y8:=z0O 101 yZ rE rE WD WW::l5
def z5F [H:HS X0 l5]:OkH l6:=yS3 false func101 λm_ s_ i_ r0 aa E hE=>by
 obtain c0|c0:=zy aa
 ·cases c0.2;exact yE hE [c0]
 obtain⟨ap,h0,al,h1,aa⟩:=yg c0.2;cases aa;exact yE hE [c0,Hi xH h0,Hi WD h1]
def l7:List y8:=z0O 84 yZ rE F8_ rE Xv::l6
def K5:∀(x y:z6×Int×List Int),(λx=>[yZ x.1,rE x.2.1,F8_ x.2.2]) x=(λx=>[yZ x.1,rE x.2.1,F8_ x.2.2]) y->x=y:=zp1
def jH (mz:z6->Int->(List Int)->Option Int):y8:=spF (α:=z6×Int×List Int) (ρ:=Int) 84 (λx=>[yZ x.1,rE x.2.1,F8_ x.2.2]) (λr=>rE r) (λx=>mz x.1 x.2.1 x.2.2) [] (by intro x y h;exact(congrArg (λ(p:z6×Int×List Int)=>p) (show x=y from K5 x y h)))
def z1k (mz:z6->Int->(List Int)->Option Int)[H:HS X0 (jH mz::l6)]:(jH (Ze mz)).Ok prog:=by
 refine UR ?_;rintro⟨m_,s_,w_⟩ r0 aa;refine zY true func84 λE hE=>?_;obtain c0|c0:=zy aa
 ·cases c0.2;exact yE hE [Ha (lnM rE w_),c0]
 obtain⟨fc,h0,r_,h1,aa⟩:=yg c0.2;obtain⟨g0,aa⟩:=gdE aa;obtain⟨ai,h2,aa⟩:=zo aa;cases aa;exact yE (H:=zx ((zot zt zhA).or X0)) hE [Ha (lnM rE w_),c0,Hi rE h0,zC3 1 h1,Hn (slA g0),Hn (zlq rE g0),Ha (slE 1 false rE w_ (1:Int).toNat),Hc (hat 0 (s:=jH mz)) (x:=(m_,r_.To,(w_.drop (1:Int).toNat))) h2 (loC yZ m_ <| loC rE r_.To <| loC F8_ (w_.drop (1:Int).toNat) <| loN)]
def z4p [H:HS X0 l6]:OkH l7:=by
 have H:∀n,(jH (Zd n)).Ok prog:=by
  intro n;induction n with
  | zero=>exact UR λ_ _ h=>nomatch (show none=some _ from h)
  | succ n ih=>exact z1k _ (H:=za _ ih)
 exact zO3 λa b c r h=>za7 (x:=(a,b,c)) (H _) h
def l8:List y8:=qW 152 F8_ rE F7_ YX::l7
def z5E [H:HS X0 l7]:OkH l8:=yS2 true func152 λw_ inputs r0 aa E hE=>by
 obtain⟨g0,aa⟩:=gdE aa;refine yK 111 [] [5] (zI YL r0) (λz=>[(5,.own (eOs 1 false rE z))]) [1,5] [Hn (dM rE w_),Hn (aL rE rE g0),Hl (aM0 rE w_),Hh (.cut 0)] ?_ λJ1 ar=>?_
 ·rintro out aa;obtain⟨g1,aa⟩:=gdE aa;cases aa;exact yE hE [Hq (dM rE ([0]:List Int)),Hn (dM rE ([0]:List Int)),Hn (aL rE rE g1),Hl (aM rE out ([0]:List Int))]
 refine yMb 111210 [J1] [1,5,6] (λx=>[(5,.own (eOs 1 false rE x.1)),(6,.d (I x.2))]) aa  [Ha (lnM rE w_)] λt2 aa ⟨aj,k_⟩ m2 av ae hl1 J2 au=>?_;obtain c0|c0:=zy ae
 ·obtain⟨dn,h0,ae⟩:=zo c0.2;let Z0:List HO:=[c0,Hn (iL rE h0),Hs (iM rE h0)];obtain c1|c1:=zy ae
  ·obtain⟨jr,h1,o7,h2,ae⟩:=yg c1.2;cases ae;cases hl1;cases aa;exact yE hE (Z0++[c1,Hn (iL rE h1),Hs (iM rE h1),Hn (iL rE h2),Hs (iM rE h2),Hs (iM rE h2),Hl (sM rE aj k_ (w64 (jr+1)))])
  obtain⟨o8,h3,ae⟩:=zo c1.2;cases ae;exact yB au _ hl1 (Z0++[c1,Hn (iL rE h3),Hs (iM rE h3),Hs (iM rE h3),Hl (sM rE aj k_ 0)])
 cases c0.2;cases hl1;exact yB ar aj aa [c0]
def l9:List y8:=qW 122 yZ rE (eT2 z5s (eSl 1 true eB)) VC::l8
def z5r:XH prog:=((Wc zt (.inr 48) [8]).or X0)
def z4n [H:HS z5r l8]:OkH l9:=yS2 false func122 λm_ from_ r0 aa E hE=>by
 obtain⟨g0,aa⟩:=gdE aa;obtain⟨g1,aa⟩:=gdE aa;refine yK 1111 [] [6,7] (λz:List (List Int)×List Bool=>Ww z.1 z.2=some r0) (λz=>[(6,.own (eOs 1 true F8_ z.1)),(7,.own (eOs 1 true eB z.2))]) [1,2,6,7] [Ha (lnM xH m_.Rows),Hn (rL g0),Ha (rM 1 F5_ ((m_.Rows.length:Nat):Int) ([]:List Int)),Hh (.v 0 [6]),Hm (shM F5_ F4_ (List.replicate ((m_.Rows.length:Nat):Int).toNat ([]:List Int))),Ha (lnM xH m_.Rows),Hn (rL g1),Ha (rM 1 eB ((m_.Rows.length:Nat):Int) false),Hh (.cut 0)] ?_ λJ1 ar=>?_
 ·rintro⟨l_,is⟩ aa;cases aa;exact yE hE [Hm (shM F8_ F8_ l_),Hm (shM eB eB is)]
 obtain⟨t2,ht2,aa⟩:=zo aa;refine yMx 1111210 [J1] [1,2,6,7,8] (λx=>[(6,.own (eOs 1 true F8_ x.1)),(7,.own (eOs 1 true eB x.2.1)),(8,.own (eOs 1 false rE x.2.2))]) ht2 [(6,.own (eOs 1 true F4_ (List.replicate ((m_.Rows.length:Nat):Int).toNat ([]:List Int)))),(7,.own (eOs 1 true eB (List.replicate ((m_.Rows.length:Nat):Int).toNat false))),(8,.own (eOs 1 true rE []))] [] λ⟨dr,ii,w_⟩ m2 av ae hl1 J2 au=>?_;let Z0:List HO:=[Ha (lnM rE w_),Ha (lnM xH m_.Rows)];obtain c0|c0:=zy ae
 ·refine yNs 111121001 [J1,J2] [1,2,6,7,8] (λz:List (List Int)×List Bool=>uK m_ w_ z.1 z.2=some av) (λz=>[(6,.own (eOs 1 true F8_ z.1)),(7,.own (eOs 1 true eB z.2))]) (Z0++[c0,Hh (.n 1 [8]),Hm (shM rE rE w_),Hh (.cut 0)]) ?_ λJ3 bg=>?_
  ·rintro⟨j6,p0⟩ ae;obtain⟨r_,h0,ae⟩:=zo ae;cases ae;exact yB au _ hl1 [zC2 0 h0]
  obtain⟨ai,h1,ae⟩:=zo c0.2;let Z1:List HO:=[zC3 1 h1];obtain c1|c1:=zy ae
  ·obtain⟨pq,h2,ae⟩:=zo c1.2;let Z2:List HO:=(Z1++[c1,c1,c1,Hn (iL eB h2),c1,Hs (iM eB h2),c1,c1]);obtain c2|c2:=zy ae
   ·obtain⟨r8,h3,bi,h4,ae⟩:=yg c2.2;exact yB bg ((dr.set ai.toNat w_),(ii.set ai.toNat true)) ae (Z2++[c2,Hn (iL eB h3),Hs (iM eB h3),Hs (iM eB h3),Hl (sM eB ii ai true),Hn (iL F8_ h4),Hs (iM F8_ h4),Hs (iM F8_ h4),Hl (sM F8_ dr ai w_)])
   exact yB bg (dr,ii) c2.2 (Z2++[c2])
  exact yB bg (dr,ii) c1.2 (Z1++(rpN 6 (Hb c1) [qF]))
 cases c0.2;cases hl1;exact yB ar (dr,ii) aa (Z0++[c0])
def l10:List y8:=ZY 81 yZ (eT2 z5s (eSl 1 true eB)) W8::l9
def z2Y [H:HS X0 l9]:OkH l10:=yS1 false func81 λm_ r0 aa E hE=>by obtain⟨r_,h0,aa⟩:=zo aa;cases aa;exact yE hE [zC2 0 h0]
def l11:List y8:=qW 110 yZ rE (eOs 1 true eB) YM::l10
def z1i [H:HS X0 l10]:OkH l11:=yS2 true func110 λm_ from_ r0 aa E hE=>by
 obtain⟨g0,aa⟩:=gdE aa;obtain⟨mj,h0,aa⟩:=zo aa;refine yK 1111 [] [5] (zI Yx r0) (λz=>[(5,.own (eOs 1 true eB z))]) [2,5] [Ha (lnM xH m_.Rows),Hn (rL g0),Ha (rM 1 eB ((m_.Rows.length:Nat):Int) false),Hn (iL eB h0),Hs (iM eB h0),Hs (iM eB h0),Hl (sM eB (List.replicate ((m_.Rows.length:Nat):Int).toNat false) from_ true),Hh (.cut 0)] ?_ λJ1 ar=>?_
 ·rintro out aa;cases aa;exact yE hE []
 refine yMb 1111210 [J1] [2,5,6] (λx=>[(5,.own (eOs 1 true eB x.1)),(6,.d (I x.2))]) aa  [] λt2 aa ⟨aj,round⟩ m2 av ae hl1 J2 au=>?_;let Z0:List HO:=[Ha (lnM xH m_.Rows)];obtain c0|c0:=zy ae
 ·refine yNs 111121001 [J1,J2] [2,5,6] (zI (Yw round) av) (λz=>[(5,.own (eOs 1 true eB z))]) (Z0++[c0,Hh (.cut 0)]) ?_ λJ3 bg=>?_
  ·rintro ax ae;cases ae;exact yB au _ hl1 []
  refine yMb 1111210012010 [J1,J2,J3] [2,5,6,7] (λx=>[(5,.own (eOs 1 true eB x.1)),(7,.d (I x.2))]) c0.2  [] λt4 ae ⟨bo,s_⟩ m4 dj ah hl2 J4 db=>?_;let Z1:List HO:=[Ha (lnM xH m_.Rows)];obtain c1|c1:=zy ah
  ·refine yNs 111121001201001 [J1,J2,J3,J4] [2,5,6,7] (zI (Yv s_) dj) (λz=>[(5,.own (eOs 1 true eB z))]) (Z1++[c1,Hh (.cut 0)]) ?_ λJ5 dc=>?_
   ·rintro gx ah;cases ah;exact yB db _ hl2 []
   refine yMb 1111210012010012010 [J1,J2,J3,J4,J5] [2,5,6,7,8] (λx=>[(5,.own (eOs 1 true eB x.1)),(8,.d (I x.2))]) c1.2  [] λt6 ah ⟨kg,i_⟩ m6 nb aw hl3 J6 ep=>?_;obtain c2|c2:=zy aw
   ·refine yNs 111121001201001201001 [J1,J2,J3,J4,J5,J6] [2,5,6,7,8] (zI (uE i_) nb) (λz=>[(5,.own (eOs 1 true eB z))]) [c2,Hh (.cut 0)] ?_ λJ7 gw=>?_
    ·rintro o9 aw;cases aw;exact yB ep _ hl3 []
    obtain⟨ap,h1,al,h2,dn,h3,aw⟩:=ZS c2.2;let Z2:List HO:=[Hi xH h1,Hi WD h2,Hn (iL eB h3),Hs (iM eB h3)];obtain c3|c3:=zy aw
    ·obtain c4|c4:=zy c3.2
     ·obtain⟨jr,h4,aw⟩:=zo c4.2;exact yB gw (kg.set al.To.toNat true) aw (Z2++[c3,c3,c3,c4,Hn (iL eB h4),Hs (iM eB h4),Hs (iM eB h4),Hl (sM eB kg al.To true)])
     exact yB gw kg c4.2 (Z2++[c3,c3,c3,c4])
    exact yB gw kg c3.2 (Z2++[c3,c3,c3,qF])
   cases c2.2;cases hl3;exact yB dc kg ah [c2]
  cases c1.2;cases hl2;exact yB bg bo ae (Z1++[c1])
 cases c0.2;cases hl1;exact yB ar aj aa (Z0++[c0])
def l12:List y8:=zi6 124 WD uv::l11
def z1m [H:HS X0 l11]:OkH l12:=yS0 false func124 λr0 aa E hE=>by cases aa;exact yE hE []
def l13:List y8:=qW 88 yZ WD eB YP::l12
def z1n [H:HS X0 l12]:OkH l13:=yS2 true func88 λm_ x_ r0 aa E hE=>by
 obtain⟨r_,h0,aa⟩:=zo aa;let Z0:List HO:=[zC0 0 h0];obtain c0|c0:=zy aa
 ·cases c0.2;exact yE hE (Z0++(rpN 10 (Hb c0) []))
 let Z1:List HO:=(Z0++(rpN 4 (Hb c0) []));obtain c1|c1:=zy c0.2
 ·let Z2:List HO:=(Z1++(rpN 5 (Hb c1) [Ha (lnM xH m_.Rows),c1,c0,c1,c0]));obtain c2|c2:=zy c1.2
  ·let Z3:List HO:=(Z2++[c2,c2,c2,c0,c2,c0]);obtain c3|c3:=zy c2.2
   ·cases c3.2;exact yE hE (Z3++(rpN 5 (Hb c3) [c0,c3,c0]))
   cases c3.2;exact yE hE (Z3++(rpN 5 (Hb c3) [c0,c3,c0]))
  cases c2.2;exact yE hE (Z2++(Hb c2::Hb c2::Hb c2::Hb c0::Hb c2::Hb c0::(rpN 5 qF [c0,qF,c0])))
 cases c1.2;exact yE hE (Z1++(rpN 6 (Hb c1) (Hb c0::Hb c1::Hb c0::qF::qF::qF::Hb c0::qF::Hb c0::(rpN 5 qF [c0,qF,c0]))))
def l14:List y8:=qW 87 WD z3Z eB YC::l13
def JX [H:HS X0 l13]:OkH l14:=yS2 true func87 λx_ x1 r0 aa E hE=>by obtain⟨r_,h0,aa⟩:=zo aa;cases aa;exact yE hE [zC2 0 h0]
def l15:List y8:=qW 123 xH (KH 87 z3Z) rE xw::l14
def qY [H:HS X0 l14]:OkH l15:=yS2 true func123 λs_ f_ r0 aa E hE=>by
 refine yK 11 [] [] (λz:Unit=>wu=some r0) (λz=>[]) [0,1] [Hh (.cut 1)] ?_ λJ1 ar=>?_
 ·rintro⟨⟩ aa;cases aa;exact yE hE []
 refine yMb 11210 [J1] [0,1,7,8] (λx=>[(8,.d (I x))]) aa  [Ha (lnM WD s_)] λt2 aa x8 m2 av ae hl1 J2 au=>?_;obtain c0|c0:=zy ae
 ·obtain⟨eb,h0,r_,h1,ae⟩:=yg c0.2;let Z0:List HO:=[c0,Hi WD h0,zC2 0 h1];obtain c1|c1:=zy ae
  ·cases c1.2;cases hl1;cases aa;exact yE hE (Z0++[c1])
  cases c1.2;exact yB au _ hl1 (Z0++[c1])
 cases c0.2;cases hl1;exact yB ar () aa [c0]
def l16:List y8:=qW 86 xH (KH 87 z3Z) eB yd::l15
def uX [H:HS X0 l15]:OkH l16:=yS2 true func86 λs_ f_ r0 aa E hE=>by obtain⟨r_,h0,aa⟩:=zo aa;cases aa;exact yE hE [zC2 0 h0]
def l17:List y8:=ZY 53 yZ rE yV::l16
def z0M [H:HS X0 l16]:OkH l17:=yS1 true func53 λm_ r0 aa E hE=>by
 obtain c0|c0:=zy aa
 ·cases c0.2;exact yE hE (rpN 4 (Hb c0) (rpN 6 qT []))
 let Z0:List HO:=(rpN 4 (Hb c0) []);obtain c1|c1:=zy c0.2
 ·cases c1.2;exact yE hE (Z0++(rpN 5 (Hb c1) [qT]))
 let Z1:List HO:=(Z0++[c1,c1,c1,Ha (lnM xH m_.Rows),c1,c1]);obtain c2|c2:=zy c1.2
 ·cases c2.2;exact yE hE (Z1++[c2])
 obtain c3|c3:=zy c2.2
 ·cases c3.2;exact yE hE (Z1++(Hb c2::(rpN 4 (Hb c3) (rpN 6 qT []))))
 let Z2:List HO:=(Z1++(Hb c2::(rpN 4 (Hb c3) [])));obtain c4|c4:=zy c3.2
 ·cases c4.2;exact yE hE (Z2++(rpN 5 (Hb c4) [qT]))
 let Z3:List HO:=(Z2++[c4,c4,c4,Ha (lnM xH m_.Rows),c4,c4]);obtain c5|c5:=zy c4.2
 ·cases c5.2;exact yE hE (Z3++[c5])
 refine yK 1111 [] [] (λz:Unit=>V0=some r0) (λz=>[]) [1] (Z3++[c5,Hh (.cut 0)]) ?_ λJ1 ar=>?_
 ·rintro⟨⟩ aa;cases aa;exact yE hE []
 refine yMb 1111210 [J1] [1,34,35,36] (λx=>[(36,.d (I x))]) c5.2  [Ha (lnM xH m_.Rows),Hh (.n 1 [1])] λt2 aa kl m2 av ae hl1 J2 au=>?_;obtain c6|c6:=zy ae
 ·obtain⟨ap,h0,ae⟩:=zo c6.2;let Z4:List HO:=[c6,Hi xH h0,Ha (lnM WD ap)];obtain c7|c7:=zy ae
  ·cases c7.2;cases hl1;cases aa;exact yE hE (Z4++(rpN 4 (Hb c7) [qT]))
  obtain⟨r_,h1,ae⟩:=zo c7.2;let Z5:List HO:=(Z4++[c7,c7,c7,zC2 0 h1,c7]);obtain c8|c8:=zy ae
  ·cases c8.2;cases hl1;cases aa;exact yE hE (Z5++[c8])
  cases c8.2;exact yB au _ hl1 (Z5++[c8])
 cases c6.2;cases hl1;exact yB ar () aa [c6]
def l18:List y8:=ZY 98 yZ (zp5 (zmH rE (KH 130 z3Z)) (zmH rE (KH 132 z3Z)) (zmH rE (KH 133 z3Z))) Xw::l17
def KP [H:HS X0 l17]:OkH l18:=yS1 false func98 λm_ r0 aa E hE=>by cases aa;exact yE hE []
def l19:List y8:=ZY 172 yZ (KH 192 z3Z) Wz::l18
def z0L [H:HS X0 l18]:OkH l19:=yS1 true func172 λm_ r0 aa E hE=>by cases aa;exact yE hE []
variable {σ:Type}
abbrev UE (x0:z6)(YY:σ->z18)(gi:Int)(js:σ):List (Nat×T):=[(0,.own (.opq (YY js).q)),(8,.d (eSl 1 false xH x0.Rows)),(9,.d (I ((x0.Rows.length:Nat):Int))),(10,.d (I gi))]
abbrev UC (x0:z6)(YY:σ->z18)(gi:Int)(ap:List zl)(gg:σ)(ba:Int):List (Nat×T):=[(0,.own (.opq (YY gg).q)),(3,.d (I gi)),(8,.d (eSl 1 false xH x0.Rows)),(9,.d (I ((x0.Rows.length:Nat):Int))),(10,.d (I gi)),(15,.d (eSl 2 false WD ap)),(16,.d (I ((ap.length:Nat):Int))),(17,.d (I ba))]
abbrev UD (x0:z6)(YY:σ->z18)(dw:σ)(gi:Int):List (Nat×T):=[(0,.own (.opq (YY dw).q)),(8,.d (eSl 1 false xH x0.Rows)),(9,.d (I ((x0.Rows.length:Nat):Int))),(10,.d (I gi))]
def JW [H:HS X0 l19](x0:z6):z6Y prog (.fn 192 [.sptr (.agg [I x0.Inputs,I x0.Outputs,eSl 1 false xH x0.Rows])]) (λ(x:qX Int×zl) (_:Bool) (_:Value)=>[F0_ x.1,WD x.2]) (@jO x0):=by
 refine z2c (tt:=ua) (nt:=f192.ntmps) (body:=zbd f192) zt func192 rfl (by kernel_rfl) rfl rfl (by show(2:Nat)<=31;decide) ?_;intro σ yv YY yy hy sg r0 aa E hE;obtain⟨t1,ht1,aa⟩:=zo aa;refine yL 110 [] (λs=>uw x0 yy s.1 s.2) (λx=>UD x0 YY x.1 x.2) (sg,0) ht1  [Ha (lnM xH x0.Rows)] λ⟨dw,gi⟩ m1 av ae hl1 J1 ar=>?_;obtain c0|c0:=zy ae
 ·refine yKs 110011 [J1] [0,8,9,10] (zI (jS gi) av) (λz=>UE x0 YY gi z) [c0,Hh (.cut 0)] ?_ λJ2 au=>?_
  ·rintro js ae;cases ae;exact yB ar _ hl1 []
  obtain⟨ap,h0,t3,ht3,ae⟩:=yg c0.2;refine yL 11001120110 [J1,J2] (λs=>wU yy gi ap s.1 s.2) (λx=>UC x0 YY gi ap x.1 x.2) (dw,0) ht3  [Hi xH h0,Ha (lnM WD ap)] λ⟨gg,ba⟩ m3 dj ah hl2 J3 bg=>?_;obtain c1|c1:=zy ah
  ·obtain⟨al,h1,yr,h2,ah⟩:=yg c1.2;let Z0:List HO:=[c1,Hi WD h1,Hn (z1x (yv:=yv) (Y:=YY) (enc:=(λ(x:qX Int×zl) (_:Bool) (_:Value)=>[F0_ x.1,WD x.2])) (s:=gg) (x:=((qX.mk gi ba),al)) (s':=yr.1) (b:=yr.2) (v:=.nilFunc) [F0_ (qX.mk gi ba),WD al] (show JO [F0_ (qX.mk gi ba),WD al] [F0_ (qX.mk gi ba),WD al] from inferInstance))];obtain c2|c2:=zy ah
   ·cases c2.2;cases hl2;cases ae;cases hl1;cases aa;exact yF (H:=zx ((UI (P:=prog) ua hy 27 (s:=gg) (x:=((qX.mk gi ba),al)) (s':=yr.1) (b:=yr.2) .nilFunc h2).or X0)) .ret [(0,.own (.opq (YY yr.1).q))] (Z0++[c2]) λst0 h0=>hE _ st0 (.inr rfl) h0
   cases c2.2;exact yB (H:=zx ((UI (P:=prog) ua hy 27 (s:=gg) (x:=((qX.mk gi ba),al)) (s':=yr.1) (b:=yr.2) .nilFunc h2).or X0)) bg _ hl2 (Z0++[c2])
  cases c1.2;cases hl2;exact yB au gg ae [c1]
 cases c0.2;cases hl1;cases aa;exact yF .normal [(0,.own (.opq (YY dw).q))] [c0] λst0 h0=>hE _ st0 (.inl rfl) h0
def l20:List y8:=ZY 173 (eSl 2 false F0_) (eSl 2 true F0_) ut::l19
def Wh [H:HS X0 l19]:OkH l20:=yS1 true func173 λs_ r0 aa E hE=>by obtain⟨g0,aa⟩:=gdE aa;cases aa;exact yE hE [Ha (lnM F0_ s_),Ha (lnM F0_ s_),Hn (slB g0),Hn (slC g0),Hn (zjv F0_ g0),Ha (zny 2 F0_ s_ 0 ((s_.length:Nat):Int).toNat)]
def l21:List y8:=ZY 158 yZ (eSl 2 true F0_) Zg::l20
def QN [H:HS X0 l20]:OkH l21:=yS1 true func158 λm_ r0 aa E hE=>by
 refine yK 111 [] [3] (zI qC r0) (λz=>[(3,.own (.box (eOs 2 false F0_ z)))]) [1,3] [Hh (.cut 2)] ?_ λJ1 ar=>?_
 ·rintro out aa;obtain⟨r_,h0,aa⟩:=zo aa;cases aa;exact yE hE [zg 0,Hm (shM F0_ F0_ out),Hs (zf1 0 h0 (loC (eSl 2 false F0_) out <| loN)),Hm (shM F0_ F0_ out)]
 obtain⟨ai,h1,t2,ht2,aa⟩:=yg aa;refine yAt (sub [1,1,2,1,0] (zbd f158)) (frs [1,1,2,1,0] [J1] (zbd f158) []) [(3,.own (.box (eOs 2 true F0_ []))),(7,.d (.fn 192 [.sptr (.agg [I ai.Inputs,I ai.Outputs,eSl 1 false xH ai.Rows])]))] [zC1 1 h1] λst0 h0=>?_;refine z0d (g:=.tmp 7) (ps:=[8,9]) (assign:=(sub [1,1,2,1,0,0] (zbd f158))) (body:=(sub [1,1,2,1,0,1] (zbd f158))) (K:=192) (caps:=[.sptr (.agg [I ai.Inputs,I ai.Outputs,eSl 1 false xH ai.Rows])]) (by kernel_rfl) [3,7] (λs=>[(3,.own (.box (eOs 2 false F0_ s))),(7,.d (.fn 192 [.sptr (.agg [I ai.Inputs,I ai.Outputs,eSl 1 false xH ai.Rows])]))]) (λz=>nomatch z) (λz=>nomatch z) ((λ(x:qX Int×zl) (_:Bool) (_:Value)=>[F0_ x.1,WD x.2])) (F:=@jO ai) (λs x=>yz s x.1 x.2) ([]:List (qX Int)) t2 _ h0 inferInstance (by kernel_rfl) (by decide) (λ_=>rfl) (by rintro⟨⟩) (by kernel_rfl) (λ_ _ _=>rfl) (JW (H:=zd 1) ai) ht2 ?_ ?_
 ·rintro qg aj ⟨x8,x9⟩ vr av ae;replace ae:yz aj x8 x9=some av:=ae;refine yF .normal [(3,.own (.box (eOs 2 false F0_ aj))),(4,.own (.box (F0_ x8))),(5,.own (.box (WD x9))),(7,.d (.fn 192 [.sptr (.agg [I ai.Inputs,I ai.Outputs,eSl 1 false xH ai.Rows])]))] [] λst0 h0=>⟨rfl,z5j h0 ?_⟩;obtain⟨ak,h2,ae⟩:=zo ae;let Z0:List HO:=[zC0 8 h2];obtain c0|c0:=zy ae
  ·obtain⟨g0,ae⟩:=gdE c0.2;cases ae;exact yF .normal ([(3,.own (.box (eOs 2 false F0_ (aj++[x8])))),(7,.d (.fn 192 [.sptr (.agg [I ai.Inputs,I ai.Outputs,eSl 1 false xH ai.Rows])]))]) (Z0++[c0,Hq (dM F0_ [x8]),Hn (dM F0_ [x8]),Hn (aL F0_ F0_ g0),Hl (aM F0_ aj [x8])]) λst0 h0=>⟨rfl,_,h0,LeL.refl _⟩
  cases c0.2;exact yF .normal ([(3,.own (.box (eOs 2 false F0_ aj))),(7,.d (.fn 192 [.sptr (.agg [I ai.Inputs,I ai.Outputs,eSl 1 false xH ai.Rows])]))]) (Z0++[c0]) λst0 h0=>⟨rfl,_,h0,LeL.refl _⟩
 rcases t2 with aj|z
 ·dsimp only at aa;exact XM (by kernel_rfl) (ar _ [(3,.own (.box (eOs 2 false F0_ aj)))] aj aa (show Own.canon [3] _=ofL _ by kernel_rfl) inferInstance)
 cases z
def l22:List y8:=ZY 131 yZ (eT2 eB rE) qP::l21
def Jy [H:HS X0 l21]:OkH l22:=yS1 false func131 λm_ r0 aa E hE=>by
 obtain⟨r_,h0,aa⟩:=zo aa;let Z0:List HO:=[zC1 4 h0];obtain c0|c0:=zy aa
 ·cases c0.2;exact yE hE (Z0++[c0])
 obtain⟨ai,h1,aa⟩:=zo c0.2;cases aa;exact yE hE (Z0++[c0,zC1 0 h1,Ha (lnM F0_ ai)])
def l23:List y8:=ZY 130 z3Z eB ZL::l22
def Jx [H:HS X0 l22]:OkH l23:=yS1 true func130 λx0 r0 aa E hE=>by obtain⟨r_,h0,aa⟩:=zo aa;cases aa;exact yE hE [zC1 0 h0]
def Ui [H:HS X0 l23](bz:Value)(md:Value)(me:Value):∀(fu:Nat) (s_:Int) (y0:List Bool) (y1:z6) (r0:List Bool×z6),yf fu s_ y0 y1=some r0->qG prog (.fn 144 [.atom bz,.atom md,.atom me]) [I s_] ([bz,md,me].zip [.box (eOs 1 true eB y0),.box (.agg [I y1.Inputs,I y1.Outputs,eSl 1 false xH y1.Rows]),.box (.fn 144 [.atom bz,.atom md,.atom me])]) (.tup []) [.box (eOs 1 true eB r0.1),.box (.agg [I r0.2.Inputs,I r0.2.Outputs,eSl 1 false xH r0.2.Rows]),.box (.fn 144 [.atom bz,.atom md,.atom me])]:=by
 intro fu;induction fu with
 | zero=>intro s_ y0 y1 r0 aa;exact nomatch (show none=some r0 from aa)
 | succ fu ih=>
  intro s_ y0 y1 r0 aa;replace aa:wX (yf fu) s_ y0 y1=some r0:=aa;generalize yf fu=mz at ih aa;refine z57 (tt:=ua) (nt:=f144.ntmps) (body:=zbd f144) [1,2,3] zt func144 rfl (by kernel_rfl) rfl rfl (by show(4:Nat)<=33;decide) (by decide) rfl rfl (λE hE=>?_) rfl;obtain c0|c0:=zy aa
  ·cases c0.2;exact yF .ret [(1,.own (.box (eOs 1 true eB y0))),(2,.own (.box (.agg [I y1.Inputs,I y1.Outputs,eSl 1 false xH y1.Rows]))),(3,.own (.box (.fn 144 [.atom bz,.atom md,.atom me])))] (rpN 5 (Hb c0) [qT]) λst0 h0=>hE _ st0 (.inr rfl) (Xy h0 ⟨⟨rfl,rfl⟩,⟨⟨rfl,rfl⟩,⟨⟨rfl,rfl⟩,trivial⟩⟩⟩)
  obtain⟨sb,h0,aa⟩:=zo c0.2;let Z0:List HO:=[c0,c0,c0,Hn (iL eB h0),c0,Hs (iM eB h0),c0];obtain c1|c1:=zy aa
  ·cases c1.2;exact yF .ret [(1,.own (.box (eOs 1 true eB y0))),(2,.own (.box (.agg [I y1.Inputs,I y1.Outputs,eSl 1 false xH y1.Rows]))),(3,.own (.box (.fn 144 [.atom bz,.atom md,.atom me])))] (Z0++[c1]) λst0 h0=>hE _ st0 (.inr rfl) (Xy h0 ⟨⟨rfl,rfl⟩,⟨⟨rfl,rfl⟩,⟨⟨rfl,rfl⟩,trivial⟩⟩⟩)
  obtain⟨sf,h1,ap,h2,t1,ht1,aa⟩:=ZS c1.2;refine yM 11110 [] [1,2,3,22,23,24] (λx=>[(1,.own (.box (eOs 1 true eB x.1))),(2,.own (.box (.agg [I x.2.1,I x.2.2.1,eSl 1 false xH x.2.2.2.1]))),(24,.d (I x.2.2.2.2))]) ht1  (Z0++[c1,Hn (iL eB h1),Hs (iM eB h1),Hs (iM eB h1),Hl (sM eB y0 s_ true),Hi xH h2,Ha (lnM WD ap)]) λ⟨x1,jt,jd,la,ga⟩ m1 av ae hl1 J1 ar=>?_;obtain c2|c2:=zy ae
  ·obtain⟨al,h3,r_,h4,ae⟩:=yg c2.2;cases ae;exact yB (H:=zx ((Zo (P:=prog) ua [1,2,3] (ih _ _ _ _ h4) 31).or X0)) ar _ hl1 [c2,Hi WD h3,Hn (Wj (f:=.fn 144 [.atom bz,.atom md,.atom me]) (xs:=[rE al.To]) (ls:=[(bz,.box (eOs 1 true eB x1)),(md,.box (.agg [I jt,I jd,eSl 1 false xH la])),(me,.box (.fn 144 [.atom bz,.atom md,.atom me]))]) (r:=.tup []) (ys:=[.box (eOs 1 true eB r_.1),.box (.agg [I r_.2.Inputs,I r_.2.Outputs,eSl 1 false xH r_.2.Rows]),.box (.fn 144 [.atom bz,.atom md,.atom me])]) [rE al.To] (show JO [rE al.To] [rE al.To] from inferInstance))]
  cases c2.2;cases hl1;cases aa;exact yF .normal [(1,.own (.box (eOs 1 true eB x1))),(2,.own (.box (.agg [I jt,I jd,eSl 1 false xH la]))),(3,.own (.box (.fn 144 [.atom bz,.atom md,.atom me])))] [c2] λst0 h0=>hE _ st0 (.inl rfl) (Xy h0 ⟨⟨rfl,rfl⟩,⟨⟨rfl,rfl⟩,⟨⟨rfl,rfl⟩,trivial⟩⟩⟩)
def l24:List y8:=qW 164 (eSl 1 false eB) eB rE uN::l23
def WG [H:HS X0 l23]:OkH l24:=yS2 true func164 λs_ v_ r0 aa E hE=>by
 refine yK 11 [] [] (λz:Unit=>jj=some r0) (λz=>[]) [0,1] [Hh (.cut 1)] ?_ λJ1 ar=>?_
 ·rintro⟨⟩ aa;cases aa;exact yE hE []
 refine yMb 11210 [J1] [0,1,7,8] (λx=>[(8,.d (I x))]) aa  [Ha (lnM eB s_)] λt2 aa x8 m2 av ae hl1 J2 au=>?_;obtain c0|c0:=zy ae
 ·obtain⟨eb,h0,ae⟩:=zo c0.2;obtain c1|c1:=zy ae
  ·cases c1.2;cases hl1;cases aa;exact yE hE [c0,Hi eB h0,c1]
  cases c1.2;exact yB au _ hl1 [c0,Hi eB h0,c1]
 cases c0.2;cases hl1;exact yB ar () aa [c0]
def l25:List y8:=qW 145 (eSl 1 false eB) eB eB xX::l24
def X5 [H:HS X0 l24]:OkH l25:=yS2 true func145 λs_ v_ r0 aa E hE=>by obtain⟨r_,h0,aa⟩:=zo aa;cases aa;exact yE hE [zC2 0 h0]
def l26:List y8:=ZY 113 yZ (eT2 eB rE) vn::l25
def QO [H:HS X0 l25]:OkH l26:=yS1 false func113 λm_ r0 aa E hE=>by
 obtain⟨r_,h0,aa⟩:=zo aa;let Z0:List HO:=[zC1 8 h0];obtain c0|c0:=zy aa
 ·cases c0.2;exact yE hE (Z0++[c0])
 obtain⟨g0,aa⟩:=gdE c0.2;refine yC 11111 [] [1,5,6] (Z0++[c0,Ha (lnM xH m_.Rows),Hn (rL g0),Ha (rM 1 eB ((m_.Rows.length:Nat):Int) false),Hh (.cut 1)]) ?_;refine zc3 (by kernel_rfl) 5 λkc=>?_;refine zc3 (by kernel_rfl) 1 λqj=>?_;refine zc3 (by kernel_rfl) 6 λmf=>?_;obtain⟨ai,h1,ak,h2,aa⟩:=yg aa;cases aa;exact yE (H:=zx ((Zo (P:=prog) ua [5,1,6] (Ui (H:=zd 2) kc qj mf V4 _ _ _ _ h1) 18).or ((xMk prog ua).or X0))) hE [Hn (Wj (f:=.fn 144 [.atom kc,.atom qj,.atom mf]) (xs:=[rE 0]) (ls:=[(kc,.box (eOs 1 true eB (List.replicate ((m_.Rows.length:Nat):Int).toNat false))),(qj,.box (.agg [I m_.Inputs,I m_.Outputs,eSl 1 false xH m_.Rows])),(mf,.box (.fn 144 [.atom kc,.atom qj,.atom mf]))]) (r:=.tup []) (ys:=[.box (eOs 1 true eB ai.1),.box (.agg [I ai.2.Inputs,I ai.2.Outputs,eSl 1 false xH ai.2.Rows]),.box (.fn 144 [.atom kc,.atom qj,.atom mf])]) [rE 0] (show JO [rE 0] [rE 0] from inferInstance)),zg 0,Hm (shM eB eB ai.1),Hs (zf2 0 h2 (loC (eSl 1 true eB) ai.1 <| loC eB false <| loN))]
def l27:List y8:=ZY 132 z3Z eB ZK::l26
def Jw [H:HS X0 l26]:OkH l27:=yS1 true func132 λx0 r0 aa E hE=>by obtain⟨r_,h0,aa⟩:=zo aa;cases aa;exact yE hE [zC1 0 h0]
def l28:List y8:=ZY 159 yZ (KH 174 z3Z) Wl::l27
def z0G [H:HS X0 l27]:OkH l28:=yS1 true func159 λm_ r0 aa E hE=>by cases aa;exact yE hE []
def l29:List y8:=z0O 193 yZ F8_ rE F9_ k7::l28
def z2P [H:HS X0 l28]:OkH l29:=yS3 false func193 λm_ p_ s_ r0 aa E hE=>by
 refine yN 111 [] [6,7] (zI Xh r0) (λz=>[(7,.own (.box (F9_ z)))]) [1,2,3,6,7] [Hh (.cut 2)] ?_ λJ1 ar=>?_
 ·rintro out aa;cases aa;exact yE hE []
 obtain⟨ap,h0,t2,ht2,aa⟩:=yg aa;refine yM 111210 [J1] [1,6,7,14,15,16] (λx=>[(7,.own (.box (F9_ x.1))),(16,.d (I x.2))]) ht2  [Hi xH h0,Ha (lnM WD ap)] λ⟨aj,ft⟩ m2 av ae hl1 J2 au=>?_;obtain c0|c0:=zy ae
 ·refine yNs 111210011 [J1,J2] [1,6,7,14,15,16] (zI (kO ft) av) (λz=>[(7,.own (.box (F9_ z)))]) [c0,Hh (.cut 0)] ?_ λJ3 bg=>?_
  ·rintro ax ae;cases ae;exact yB au _ hl1 []
  obtain⟨al,h1,cell,h2,arr,h3,ae⟩:=ZS c0.2;replace h3:=wL h3;let Z0:List HO:=[Hi WD h1,Hn (⟨arJ (by kernel_rfl) (i0 h2),(iL F0_ h2).2⟩:ku ua 256 ((zz.toL aj).map F0_) ft=true/\ft.toNat<((zz.toL aj).map F0_).length),Hh (.op 9),Hh (.f),Hs (iM F0_ h2),Hh (.f),Hs (iM F0_ h2),Hx (.l ((zz.toL arr).map F0_)) ((zz.setL F0_ aj ft (qX.mk al.Out (-1))).trans (congrArg (λq=>(zz.toL q).map F0_) h3))];obtain c1|c1:=zy ae
  ·obtain⟨bj,h4,co,h5,arr1,h6,ae⟩:=ZS c1.2;replace h6:=wL h6;exact yB bg arr1 ae (Z0++[c1,Hi rE h4,Hn (⟨arJ (by kernel_rfl) (i0 h5),(iL F0_ h5).2⟩:ku ua 256 ((zz.toL arr).map F0_) ft=true/\ft.toNat<((zz.toL arr).map F0_).length),Hh (.op 2),Hh (.f),Hs (iM F0_ h5),Hn (⟨rfl,by decide⟩:true=true/\1<2),Hh (.op 0),Hh (.f),Hs (iM F0_ h5),Hh (.f),Hx (.a (I co.e1)) (rfl:some (I co.e1:A)=some (I co.e1)),Hh (.f),Hs (iM F0_ h5),Hh (.f),Hx (.a (I co.e1)) (rfl:some (I co.e1:A)=some (I co.e1)),Hx (.l [I co.e0,I bj]) (rfl:[I co.e0,I bj]=[I co.e0,I bj]),Hx (.l ((zz.toL arr1).map F0_)) ((zz.setL F0_ arr ft (qX.mk co.e0 bj)).trans (congrArg (λq=>(zz.toL q).map F0_) h6))])
  exact yB bg arr c1.2 (Z0++[c1])
 cases c0.2;cases hl1;exact yB ar aj aa [c0]
def l30:List y8:=qW 175 yZ F8_ F5_ kR::l29
def KK [H:HS X0 l29]:OkH l30:=yS2 true func175 λm_ p_ r0 aa E hE=>by
 let u0:=(z9t [.i64,.i64,.i64,.i64,.i64,.i64,.i64,.i64,.i64,.i64,.i64,.i64,.i64,.i64,.i64,.i64,.i64,.i64,.i64,.i64,.i64,.i64,.i64,.i64,.i64,.i64,.i64,.i64,.i64,.i64,.i64,.i64,.i64]);obtain⟨g0,aa⟩:=gdE aa;refine yK (H:=zx ((zio prog 12).or X0)) 1111 [] [6] (zI kQ r0) (λz=>[(6,.own (eOs 1 true rE z))]) [1,2,5,6] [Ha (lnM rE p_),Hn (rL g0),Ha (rM 1 rE ((p_.length:Nat):Int) (0:Int)),Hh (.cut 0)] ?_ λJ1 ar=>?_
 ·rintro out aa;cases aa;exact yE hE []
 refine yMb 1111210 [J1] [1,2,5,6,16,17,18] (λx=>[(5,.own (.opq (QU (Yn z0x rE x.1)))),(6,.own (eOs 1 true rE x.2.1)),(18,.d (I x.2.2))]) aa  [Ha (lnM rE p_)] λt2 aa ⟨names,aj,gh⟩ m2 av ae hl1 J2 au=>?_;obtain c0|c0:=zy ae
 ·obtain⟨bj,h0,r_,h1,ae⟩:=yg c0.2;refine yNs 11112100110011 [J1,J2] [1,2,5,6,7,9,16,17,18] (zI (vg aj gh bj r_) av) (λz=>[(5,.own (.opq (QU (Yn z0x rE z))))]) [c0,Hi rE h0,zC3 0 h1,Hh (.cut 0)] ?_ λJ3 bg=>?_
  ·rintro jf ae;obtain⟨val,h2,ae⟩:=zo ae;replace h2:=wL h2;obtain⟨dn,h3,ae⟩:=zo ae;cases ae;exact yB (H:=zx ((z9N z6s 45 (Yn z0x rE jf)).or X0)) au _ hl1 [Hn (⟨rfl,rfl,z6Q (λ_=>rfl) jf⟩:A.opq (QU (Yn z0x rE jf))=A.opq (QU (Yn z0x rE jf))/\u0 (z0x (zJ.mk bj r_))=true/\∀p∈Yn z0x rE jf,u0 p.1=true),Hx (.a (rE val)) ((zo0 (f:=z0x) (g:=rE) (z0:=0) (z:=.atom (.int .i64 0)) rfl (zJ.mk bj r_) jf).trans (congrArg rE h2)),Hn (iL rE h3),Hs (iM rE h3),Hs (iM rE h3),Hl (sM rE aj gh val)]
  obtain⟨rh,h4,ae⟩:=zo ae;replace h4:=wL h4;let Z0:List HO:=[Hn (⟨rfl,rfl,z6Q (λ_=>rfl) names⟩:A.opq (QU (Yn z0x rE names))=A.opq (QU (Yn z0x rE names))/\u0 (z0x (zJ.mk bj r_))=true/\∀p∈Yn z0x rE names,u0 p.1=true),Hx (.a (.tup [I rh,B ((Vc names (zJ.mk bj r_)).isSome)])) ((zp4 (f:=z0x) (g:=rE) (z0:=0) (z:=.atom (.int .i64 0)) rfl (zJ.mk bj r_) names).trans (congrArg (λx=>A.tup [rE x,.atom (.bool (Vc names (zJ.mk bj r_)).isSome)]) h4))];obtain c1|c1:=zy ae
  ·exact yB (H:=zx ((zn7 z6s 37 (Yn z0x rE names) (Yn z0x rE (z26 names (zJ.mk bj r_) ((names.length:Nat):Int)))).or ((zli z6s 40 (Yn z0x rE names)).or ((z9N z6s 32 (Yn z0x rE names)).or X0)))) bg (z26 names (zJ.mk bj r_) ((names.length:Nat):Int)) c1.2 (Z0++[c1,Hn (rfl:A.opq (QU (Yn z0x rE names))=A.opq (QU (Yn z0x rE names))),Hx (aLn names.length) (zhF z0x rE names),Hn (⟨rfl,rfl,rfl,rfl,z6Q (λ_=>rfl) names⟩:T.own (.opq (QU (Yn z0x rE names)))=T.own (.opq (QU (Yn z0x rE names)))/\0=0/\u0 (z0x (zJ.mk bj r_))=true/\(rE ((names.length:Nat):Int)).isD=true/\∀p∈Yn z0x rE names,u0 p.1=true),Hn (zaF (f:=z0x) (g:=rE) (zJ.mk bj r_) ((names.length:Nat):Int) names)])
  exact yB (H:=zx ((z9N z6s 32 (Yn z0x rE names)).or X0)) bg names c1.2 (Z0++[c1])
 cases c0.2;cases hl1;exact yB ar aj aa [c0]
def l31:List y8:=qW 56 F8_ F8_ eB wv::l30
def Ug [H:HS X0 l30]:OkH l31:=yS2 true func56 λs1 s2 r0 aa E hE=>by
 let Z0:List HO:=[Ha (lnM rE s1),Ha (lnM rE s2)];obtain c0|c0:=zy aa
 ·cases c0.2;exact yE hE (Z0++[c0])
 refine yK 111 [] [] (λz:Unit=>ur=some r0) (λz=>[]) [0,1] (Z0++[c0,Hh (.cut 0)]) ?_ λJ1 ar=>?_
 ·rintro⟨⟩ aa;cases aa;exact yE hE []
 refine yMb 111210 [J1] [0,1,12,13] (λx=>[(13,.d (I x))]) c0.2  [Ha (lnM rE s1)] λt2 aa fq m2 av ae hl1 J2 au=>?_;obtain c1|c1:=zy ae
 ·obtain⟨pa,h0,nw,h1,ae⟩:=yg c1.2;let Z1:List HO:=[c1,Hi rE h0,Hi rE h1];obtain c2|c2:=zy ae
  ·cases c2.2;cases hl1;cases aa;exact yE hE (Z1++[c2])
  cases c2.2;exact yB au _ hl1 (Z1++[c2])
 cases c1.2;cases hl1;exact yB ar () aa [c1]
abbrev UB (x0:z6)(YY:σ->z18)(dw:σ)(p_:List Int):List (Nat×T):=[(0,.own (.opq (YY dw).q)),(1,.d (.sptr (yZ x0))),(3,.own (eOs 1 true rE p_))]
def JU [H:HS X0 l31](x0:z6):z6Y prog (.fn 174 [.sptr (.agg [I x0.Inputs,I x0.Outputs,eSl 1 false xH x0.Rows])]) (λ(x:List Int) (_:Bool) (_:Value)=>[F8_ x]) (@jI x0):=by
 refine z2c (tt:=ua) (nt:=f174.ntmps) (body:=zbd f174) zt func174 rfl (by kernel_rfl) rfl rfl (by show(2:Nat)<=19;decide) ?_;intro σ yv YY yy hy sg r0 aa E hE;obtain⟨g0,aa⟩:=gdE aa;obtain⟨t1,ht1,aa⟩:=zo aa;refine yL 110 [] (λs=>uu x0 yy s.1 s.2) (λx=>UB x0 YY x.1 x.2) (sg,(List.replicate ((x0.Rows.length:Nat):Int).toNat (0:Int))) ht1  [Ha (lnM xH x0.Rows),Hn (rL g0),Ha (rM 1 rE ((x0.Rows.length:Nat):Int) (0:Int))] λ⟨dw,p_⟩ m1 av ae hl1 J1 ar=>?_;obtain⟨yr,h0,ae⟩:=zo ae;let Z0:List HO:=[Hm (shM rE rE p_),Hn (z1x (yv:=yv) (Y:=YY) (enc:=(λ(x:List Int) (_:Bool) (_:Value)=>[F8_ x])) (s:=dw) (x:=p_) (s':=yr.1) (b:=yr.2) (v:=.nilFunc) [F4_ p_] (show JO [F4_ p_] [F8_ p_] from inferInstance))];obtain c0|c0:=zy ae
 ·obtain⟨r_,h1,ai,h2,ae⟩:=yg c0.2;let Z1:List HO:=(Z0++[c0,Hk [] (z2k (hat 1)) (zf2 1 h1 (loC yZ x0 <| loC F4_ p_ <| loN)),zg 0,Hm (shM rE rE r_),Hs (zf2 0 h2 (loC F4_ p_ <| loC F4_ r_ <| loN))]);obtain c1|c1:=zy ae
  ·cases c1.2;cases hl1;cases aa;exact yF (H:=zx ((UI (P:=prog) ua hy 11 (s:=dw) (x:=p_) (s':=yr.1) (b:=yr.2) .nilFunc h0).or X0)) .ret [(0,.own (.opq (YY yr.1).q))] (Z1++[c1]) λst0 h0=>hE _ st0 (.inr rfl) h0
  cases c1.2;exact yB (H:=zx ((UI (P:=prog) ua hy 11 (s:=dw) (x:=p_) (s':=yr.1) (b:=yr.2) .nilFunc h0).or X0)) ar _ hl1 (Z1++[c1])
 cases c0.2;cases hl1;cases aa;exact yF (H:=zx ((UI (P:=prog) ua hy 11 (s:=dw) (x:=p_) (s':=yr.1) (b:=yr.2) .nilFunc h0).or X0)) .normal [(0,.own (.opq (YY yr.1).q))] (Z0++[c0]) λst0 h0=>hE _ st0 (.inl rfl) h0
def l32:List y8:=ZY 134 yZ (eT3 F8_ rE rE) kT::l31
def KL [H:HS X0 l31]:OkH l32:=yS1 false func134 λm_ r0 aa E hE=>by
 obtain⟨r_,h0,aa⟩:=zo aa;let Z0:List HO:=[Hh (.v 2 [2]),Hm (shM rE rE []),zC1 14 h0];obtain c0|c0:=zy aa
 ·cases c0.2;exact yEl hE (Z0++[c0,Hm (shM rE rE [])])
 refine yK 1111 [] [2,3] (λz:List Int×Int=>kS z.1 z.2=some r0) (λz=>[(2,.own (.box (eSl 1 false rE z.1))),(3,.own (.box (I z.2)))]) [1,2,3] (Z0++[Hb c0,Hh (.cut 1)]) ?_ λJ1 ar=>?_
 ·rintro⟨p_,n_⟩ aa;cases aa;exact yE hE []
 obtain⟨ai,h1,t2,ht2,aa⟩:=yg c0.2;refine yAt (sub [1,1,1,2,1,0] (zbd f134)) (frs [1,1,1,2,1,0] [J1] (zbd f134) []) [(2,.own (.box (eSl 1 true rE []))),(3,.own (.box (I (-1)))),(13,.d (.fn 174 [.sptr (.agg [I ai.Inputs,I ai.Outputs,eSl 1 false xH ai.Rows])]))] [zC1 3 h1] λst0 h0=>?_;refine z0d (g:=.tmp 13) (ps:=[14]) (assign:=(sub [1,1,1,2,1,0,0] (zbd f134))) (body:=(sub [1,1,1,2,1,0,1] (zbd f134))) (K:=174) (caps:=[.sptr (.agg [I ai.Inputs,I ai.Outputs,eSl 1 false xH ai.Rows])]) (by kernel_rfl) [2,3,13] (λs=>[(2,.own (.box (eSl 1 false rE s.1))),(3,.own (.box (I s.2))),(13,.d (.fn 174 [.sptr (.agg [I ai.Inputs,I ai.Outputs,eSl 1 false xH ai.Rows])]))]) (λz=>nomatch z) (λz=>nomatch z) ((λ(x:List Int) (_:Bool) (_:Value)=>[F8_ x])) (F:=@jI ai) (λs x=>vh s.1 s.2 x) (([]:List Int),(-1)) t2 _ h0 inferInstance (by kernel_rfl) (by decide) (λ_=>rfl) (by rintro⟨⟩) (by kernel_rfl) (λ_ _ _=>rfl) (JU (H:=zd 0) ai) ht2 ?_ ?_
 ·rintro qg ⟨nv,ca⟩ kq vr av ae;replace ae:vh nv ca kq=some av:=ae;refine yF .normal [(2,.own (.box (eSl 1 false rE nv))),(3,.own (.box (I ca))),(6,.d (eSl 1 false rE kq)),(13,.d (.fn 174 [.sptr (.agg [I ai.Inputs,I ai.Outputs,eSl 1 false xH ai.Rows])]))] [] λst0 h0=>⟨rfl,z5j h0 ?_⟩;cases ae;exact yF .normal ([(2,.own (.box (eSl 1 false rE kq))),(3,.own (.box (I (w64 (ca+1))))),(13,.d (.fn 174 [.sptr (.agg [I ai.Inputs,I ai.Outputs,eSl 1 false xH ai.Rows])]))]) [] λst0 h0=>⟨rfl,_,h0,LeL.refl _⟩
 rcases t2 with⟨nv,ca⟩|z
 ·dsimp only at aa;exact XM (by kernel_rfl) (ar _ [(2,.own (.box (eSl 1 false rE nv))),(3,.own (.box (I ca)))] (nv,ca) aa (show Own.canon [2,3] _=ofL _ by kernel_rfl) inferInstance)
 cases z
def l33:List y8:=ZY 135 F8_ rE uO::l32
def QM [H:HS X0 l32]:OkH l33:=yS1 true func135 λx_ r0 aa E hE=>by
 obtain c0|c0:=zy aa
 ·cases c0.2
 obtain⟨mq,h0,aa⟩:=zo c0.2;refine yK 1111 [] [3] (zI qp r0) (λz=>[(3,.d (I z))]) [0,3] [Ha (lnM rE x_),c0,Hi rE h0,Hh (.cut 0)] ?_ λJ1 ar=>?_
 ·rintro m_ aa;cases aa;exact yE hE []
 refine yMb 1111210 [J1] [0,3,4] (λx=>[(3,.d (I x.1)),(4,.d (I x.2))]) aa  [] λt2 aa ⟨pb,i_⟩ m2 av ae hl1 J2 au=>?_;obtain c1|c1:=zy ae
 ·obtain⟨l7,h1,ae⟩:=zo c1.2;cases ae;exact yB au _ hl1 [Ha (lnM rE x_),c1,Hi rE h1]
 cases c1.2;cases hl1;exact yB ar pb aa [Ha (lnM rE x_),c1]
def l34:List y8:=ZY 133 z3Z eB ZJ::l33
def Jv [H:HS X0 l33]:OkH l34:=yS1 true func133 λx0 r0 aa E hE=>by obtain⟨r_,h0,ai,h1,aa⟩:=yg aa;cases aa;exact yE hE [zC1 1 h0,zC1 0 h1,Ha (lnM rE r_.1)]
def l35:List y8:=ZY 58 yZ rE xc::l34
def JV [H:HS X0 l34]:OkH l35:=yS1 true func58 λm_ r0 aa E hE=>by
 obtain⟨r_,h0,aa⟩:=zo aa;let Z0:List HO:=[zC1 17 h0];obtain c0|c0:=zy aa
 ·cases c0.2;exact yE hE (Z0++[c0])
 refine yK 111 [] [] (λz:Unit=>jR=some r0) (λz=>[]) [1] (Z0++[c0,Hh (.cut 0)]) ?_ λJ1 ar=>?_
 ·rintro⟨⟩ aa;cases aa;exact yE hE []
 obtain⟨ai,h1,ak,h2,aa⟩:=yg c0.2;let Z1:List HO:=[zC1 16 h1,Hh (.u 70),qT,zC1 11 h2];obtain c1|c1:=zy aa
 ·cases c1.2;exact yE hE (Z1++[c1])
 obtain⟨am,h3,aa⟩:=zo c1.2;let Z2:List HO:=(Z1++[c1,qT,zC1 7 h3]);obtain c2|c2:=zy aa
 ·cases c2.2;exact yE hE (Z2++[c2])
 obtain⟨az,h4,aa⟩:=zo c2.2;let Z3:List HO:=(Z2++[c2,qT,zC1 0 h4]);obtain c3|c3:=zy aa
 ·cases c3.2;exact yE hE (Z3++[c3])
 exact yB ar () c3.2 (Z3++[c3,qF])
def l36:List y8:=qW 25 yZ rE rE ub::l35
def z2L [H:HS X0 l35]:OkH l36:=yS2 true func25 λm_ bound r0 aa E hE=>by
 obtain⟨r_,h0,aa⟩:=zo aa;let Z0:List HO:=[zC1 0 h0];obtain c0|c0:=zy aa
 ·cases c0.2;exact yE hE (Z0++[c0])
 let Z1:List HO:=(Z0++[c0,Ha (lnM xH m_.Rows)]);obtain c1|c1:=zy c0.2
 ·cases c1.2;exact yE hE (Z1++(rpN 7 (Hb c1) [qT]))
 let Z2:List HO:=(Z1++(rpN 4 (Hb c1) [Ha (lnM xH m_.Rows),c1,c1,c1]));obtain c2|c2:=zy c1.2
 ·cases c2.2;exact yE hE (Z2++[c2])
 cases c2.2;exact yE hE (Z2++[c2])
def l37:List y8:=qW 165 yZ rE (zp6 186 z3Z (eSp rE)) Wf::l36
def z0B [H:HS X0 l36]:OkH l37:=yS2 true func165 λm_ from_ r0 aa E hE=>by cases aa;exact yE hE []
abbrev Un (x0:z6)(YY:σ->z18)(cw:zj)(yr:σ×Bool)(ap:List zl)(jl:Int)(eu:List Bool)(nd:List zj):List (Nat×T):=[(0,.own (.opq (YY yr.1).q)),(1,.d (.sptr (yZ x0))),(4,.own (eOs 1 true eB eu)),(5,.own (eDq 3 Zq nd)),(6,.own (.box (Zq cw))),(36,.d (eSl 2 false WD ap)),(37,.d (I ((ap.length:Nat):Int))),(38,.d (I jl))]
abbrev Ul (x0:z6)(YY:σ->z18)(cw:zj)(yr:σ×Bool)(ap:List zl)(gn:List Bool)(fx:List zj)(jl:Int):List (Nat×T):=[(0,.own (.opq (YY yr.1).q)),(1,.d (.sptr (yZ x0))),(4,.own (eOs 1 true eB gn)),(5,.own (eDq 3 Zq fx)),(6,.own (.box (Zq cw))),(36,.d (eSl 2 false WD ap)),(37,.d (I ((ap.length:Nat):Int))),(38,.d (I jl))]
abbrev Um (x0:z6)(YY:σ->z18)(dw:σ)(kh:List Bool)(d8:List zj):List (Nat×T):=[(0,.own (.opq (YY dw).q)),(1,.d (.sptr (yZ x0))),(4,.own (eOs 1 true eB kh)),(5,.own (eDq 3 Zq d8))]
def JQ [H:HS X0 l37](x0:z6)(x1:Int):z6Y prog (.fn 186 [.sptr (.agg [I x0.Inputs,I x0.Outputs,eSl 1 false xH x0.Rows]),.sptr (I x1)]) (λ(x:zj) (_:Bool) (_:Value)=>[Zq x]) (@jG x0 x1):=by
 refine z2c (tt:=ua) (nt:=f186.ntmps) (body:=zbd f186) zt func186 rfl (by kernel_rfl) rfl rfl (by show(3:Nat)<=68;decide) ?_;intro σ yv YY yy hy sg r0 aa E hE;obtain⟨g0,aa⟩:=gdE aa;obtain⟨mj,h0,t1,ht1,aa⟩:=yg aa;refine yLx 11110 [] (λs=>ue x0 yy s.1 s.2.1 s.2.2) (λx=>Um x0 YY x.1 x.2.1 x.2.2) (sg,((List.replicate ((x0.Rows.length:Nat):Int).toNat false).set x1.toNat true),([(zj.mk x1 (-1) (-1))]:List zj)) ht1 [(0,.own (.opq (YY sg).q)),(1,.d (.sptr (yZ x0))),(4,.own (eOs 1 true eB ((List.replicate ((x0.Rows.length:Nat):Int).toNat false).set x1.toNat true))),(5,.own (eOs 3 true Zq ([(zj.mk x1 (-1) (-1))])))] inferInstance [Ha (lnM xH x0.Rows),Hn (rL g0),Ha (rM 1 eB ((x0.Rows.length:Nat):Int) false),Hn (iL eB h0),Hs (iM eB h0),Hs (iM eB h0),Hl (sM eB (List.replicate ((x0.Rows.length:Nat):Int).toNat false) x1 true)] λ⟨dw,kh,d8⟩ m1 av ae hl1 J1 ar=>?_;let Z0:List HO:=[Hn (rfl:eDq 3 Zq d8=A.opq (z1P 3 (d8.map Zq)).q),Ha (lnM Zq d8)];obtain c0|c0:=zy ae
 ·refine yC (H:=zx ((xQl zt 20 244 3 (d8.map Zq) (by kernel_rfl)).or X0)) 11110010 [J1] [0,1,4,5] (Z0++[c0,Hh (.cut 0)]) ?_;obtain⟨cw,h1,ae⟩:=zo c0.2;refine z6V (by kernel_rfl) (x:=(sub [1,1,1,0,0,1,0,0] (zbd f186))) (y:=(sub [1,1,1,0,0,1,0,1] (zbd f186))) 5 (λst1=>Own.canon [0,1,4,5,6] st1=ofL [(0,.own (.opq (YY dw).q)),(1,.d (.sptr (yZ x0))),(4,.own (eOs 1 true eB kh)),(5,.own (eDq 3 Zq d8)),(6,.own (.box (Zq cw)))]) (λkc=>yF (H:=zx ((xQd zt 24 3 5 kc (0:Int) (d8.map Zq) (Zq cw)).or ((xQi zt 23 3 5 kc (d8.map Zq)).or X0))) .normal [(0,.own (.opq (YY dw).q)),(1,.d (.sptr (yZ x0))),(4,.own (eOs 1 true eB kh)),(5,.own (eDq 3 Zq d8)),(6,.own (.box (Zq cw)))] [Hn (⟨rfl,rfl,rfl,rfl,i0 h1,(iL Zq h1).2⟩:T.als 5 [] 0 0=T.als 5 [] 0 0/\some kc=some kc/\T.own (eDq 3 Zq d8)=T.own (eDq 3 Zq d8)/\some 3=some 3/\(0:Int)<=0/\(0:Int).toNat<(d8.map Zq).length),Hn (⟨rfl,rfl,rfl,iM Zq h1,rfl,z0h.isD cw⟩:T.d (.atom (z9s 3 kc (0:Int)))=T.d (.atom (z9s 3 kc (0:Int)))/\some kc=some kc/\T.own (eDq 3 Zq d8)=T.own (eDq 3 Zq d8)/\(d8.map Zq)[(0:Int).toNat]?=some (Zq cw)/\true=true/\(Zq cw).isD=true)] λst0 h0=>⟨rfl,h0⟩) λst1 h1=>z5j h1 ?_;obtain⟨g1,ae⟩:=gdE ae;obtain⟨yr,h2,ae⟩:=zo ae;let Z1:List HO:=[Hn (rfl:eDq 3 Zq d8=A.opq (z1P 3 (d8.map Zq)).q),Hn (⟨g1.1,cuB Zq g1⟩:(0:Int)<=1/\(1:Int).toNat<=(d8.map Zq).length),Hn (drM Zq d8 (1:Int).toNat),Hn (z1x (yv:=yv) (Y:=YY) (enc:=(λ(x:zj) (_:Bool) (_:Value)=>[Zq x])) (s:=dw) (x:=cw) (s':=yr.1) (b:=yr.2) (v:=.nilFunc) [Zq cw] (show JO [Zq cw] [Zq cw] from inferInstance))];obtain c1|c1:=zy ae
  ·cases c1.2;cases hl1;cases aa;exact yF (H:=zx ((UI (P:=prog) ua hy 29 (s:=dw) (x:=cw) (s':=yr.1) (b:=yr.2) .nilFunc h2).or ((xQs zt 26 3 (d8.map Zq) ((d8.drop (1:Int).toNat).map Zq)).or X0))) .ret [(0,.own (.opq (YY yr.1).q))] (Z1++[c1]) λst0 h0=>hE _ st0 (.inr rfl) h0
  obtain⟨ap,h3,t2,ht2,ae⟩:=yg c1.2;refine yL (H:=zx ((UI (P:=prog) ua hy 29 (s:=dw) (x:=cw) (s':=yr.1) (b:=yr.2) .nilFunc h2).or ((xQs zt 26 3 (d8.map Zq) ((d8.drop (1:Int).toNat).map Zq)).or X0))) 1111001011110 [J1] (λs=>wN cw yr ap s.1 s.2.1 s.2.2) (λx=>Ul x0 YY cw yr ap x.1 x.2.1 x.2.2) (kh,(d8.drop (1:Int).toNat),0) ht2  (Z1++[c1,Hi xH h3,Ha (lnM WD ap)]) λ⟨gn,fx,jl⟩ m2 dj ah hl2 J2 au=>?_;obtain c2|c2:=zy ah
  ·refine yKs 1111001011110011 [J1,J2] [0,1,4,5,6,36,37,38] (λz:List Bool×List zj=>xh jl z.1 z.2=some dj) (λz=>Un x0 YY cw yr ap jl z.1 z.2) [c2,Hh (.cut 0)] ?_ λJ3 bg=>?_
   ·rintro⟨eu,nd⟩ ah;cases ah;exact yB au _ hl2 []
   obtain⟨al,h4,ah⟩:=zo c2.2;let Z2:List HO:=[Hi WD h4];obtain c3|c3:=zy ah
   ·obtain⟨p7,h5,ah⟩:=zo c3.2;let Z3:List HO:=(Z2++(rpN 4 (Hb c3) [Hn (iL eB h5),c3,Hs (iM eB h5),c3,c3]));obtain c4|c4:=zy ah
    ·obtain⟨ra,h6,ah⟩:=zo c4.2;obtain⟨g2,ah⟩:=gdE ah;exact yB (H:=zx ((xQa zt 66 3 (fx.map Zq) ((fx++[(zj.mk al.To cw.state_ jl)]).map Zq)).or X0)) bg ((gn.set al.To.toNat true),(fx++[(zj.mk al.To cw.state_ jl)])) ah (Z3++[c4,Hn (iL eB h6),Hs (iM eB h6),Hs (iM eB h6),Hl (sM eB gn al.To true),Hn (⟨rfl,dM Zq [(zj.mk al.To cw.state_ jl)],rfl⟩:3=3/\A.areD ([(zj.mk al.To cw.state_ jl)].map Zq)=true/\true=true),Hn (⟨rfl,aL Zq Zq g2,dM Zq fx⟩:eDq 3 Zq fx=A.opq (z1P 3 (fx.map Zq)).q/\(fx.map Zq).length+([(zj.mk al.To cw.state_ jl)].map Zq).length<=lim/\A.areD (fx.map Zq)=true),Hn (aM Zq fx [(zj.mk al.To cw.state_ jl)])])
    exact yB bg (gn,fx) c4.2 (Z3++[c4])
   exact yB bg (gn,fx) c3.2 (Z2++(rpN 7 (Hb c3) [qF]))
  cases c2.2;cases hl2;cases ae;exact yB ar _ hl1 [c2]
 cases c0.2;cases hl1;cases aa;exact yF (H:=zx ((xQl zt 20 244 3 (d8.map Zq) (by kernel_rfl)).or X0)) .normal [(0,.own (.opq (YY dw).q))] (Z0++[c0]) λst0 h0=>hE _ st0 (.inl rfl) h0
def l38:List y8:=ZY 139 F8_ F7_ ye::l37
def Uh [H:HS X0 l37]:OkH l38:=yS1 true func139 λs_ r0 aa E hE=>by
 refine zc2 rfl 0 (sz:=1) (t:=false) (es:=s_.map rE) (by kernel_rfl) λcu hv0 hn=>?_;rcases hn with⟨hn0,he0⟩|hn0
 ·obtain⟨_,aa⟩:=gdE aa;rw[show s_=[] from List.map_eq_nil_iff.1 he0]at aa;cases aa;exact yEl (H:=zx ((zkX zt 4 51 (by kernel_rfl) hn0).or ((xMv prog 3 0 cu hv0).or X0))) hE [Hn (rfl:some cu=some cu),Hn (⟨rfl,rfl⟩:T.d (.atom cu)=T.d (.atom cu)/\T.d (.atom (.slice none 0 0))=T.d (.atom (.slice none 0 0))),qT]
 obtain⟨g0,aa⟩:=gdE aa;cases aa;exact yE (H:=zx ((zkX zt 4 51 (by kernel_rfl) hn0).or ((xMv prog 3 0 cu hv0).or X0))) hE [Hn (rfl:some cu=some cu),Hn (⟨rfl,rfl⟩:T.d (.atom cu)=T.d (.atom cu)/\T.d (.atom (.slice none 0 0))=T.d (.atom (.slice none 0 0))),qF,Hn (dM rE s_),Hn (aL rE rE g0),Hl (aM0 rE s_)]
def l39:List y8:=ZY 111 F8_ F4_ zP::l38
def UK [H:HS X0 l38]:OkH l39:=yS1 true func111 λs_ r0 aa E hE=>by obtain⟨g0,aa⟩:=gdE aa;cases aa;exact yE hE [Ha (lnM rE s_),Ha (lnM rE s_),Hn (slB g0),Hn (slC g0),Hn (zjv rE g0),Ha (zny 1 rE s_ 0 ((s_.length:Nat):Int).toNat)]
def l40:List y8:=qW 146 yZ rE (eT2 WF (eSl 1 true eB)) Ve::l39
def z47 [H:HS X0 l39]:OkH l40:=yS2 false func146 λm_ from_ r0 aa E hE=>by
 obtain⟨g0,aa⟩:=gdE aa;obtain⟨g1,aa⟩:=gdE aa;refine yK (H:=zx ((xMs zt 12 51).or X0)) 111 [] [6,7] (λz:List (List Int)×List Bool=>We z.1 z.2=some r0) (λz=>[(6,.own (.box (eOs 1 true F4_ z.1))),(7,.own (.box (eOs 1 true eB z.2)))]) [1,2,6,7] [Ha (lnM xH m_.Rows),Hn (rL g0),Ha (rM 1 F4_ ((m_.Rows.length:Nat):Int) ([]:List Int)),Ha (lnM xH m_.Rows),Hn (rL g1),Ha (rM 1 eB ((m_.Rows.length:Nat):Int) false),Hh (.cut 0)] ?_ λJ1 ar=>?_
 ·rintro⟨l_,is⟩ aa;cases aa;exact yE hE [Hm (shM F4_ F4_ l_),Hm (shM eB eB is)]
 obtain⟨r_,h0,t2,ht2,aa⟩:=yg aa;refine yAt (sub [1,1,2,1,0] (zbd f146)) (frs [1,1,2,1,0] [J1] (zbd f146) []) [(6,.own (.box (eOs 1 true F4_ (List.replicate ((m_.Rows.length:Nat):Int).toNat ([]:List Int))))),(7,.own (.box (eOs 1 true eB (List.replicate ((m_.Rows.length:Nat):Int).toNat false)))),(19,.d (.fn 186 [.sptr (.agg [I r_.1.Inputs,I r_.1.Outputs,eSl 1 false xH r_.1.Rows]),.sptr (I r_.2)]))] [zC2 2 h0] λst0 h0=>?_;refine z0d (g:=.tmp 19) (ps:=[20]) (assign:=(sub [1,1,2,1,0,0] (zbd f146))) (body:=(sub [1,1,2,1,0,1] (zbd f146))) (K:=186) (caps:=[.sptr (.agg [I r_.1.Inputs,I r_.1.Outputs,eSl 1 false xH r_.1.Rows]),.sptr (I r_.2)]) (by kernel_rfl) [6,7,19] (λs=>[(6,.own (.box (eOs 1 true F4_ s.1))),(7,.own (.box (eOs 1 true eB s.2))),(19,.d (.fn 186 [.sptr (.agg [I r_.1.Inputs,I r_.1.Outputs,eSl 1 false xH r_.1.Rows]),.sptr (I r_.2)]))]) (λz=>nomatch z) (λz=>nomatch z) ((λ(x:zj) (_:Bool) (_:Value)=>[Zq x])) (F:=@jG r_.1 r_.2) (λs x=>wG s.1 s.2 x) ((List.replicate ((m_.Rows.length:Nat):Int).toNat ([]:List Int)),(List.replicate ((m_.Rows.length:Nat):Int).toNat false)) t2 _ h0 inferInstance (by kernel_rfl) (by decide) (λ_=>rfl) (by rintro⟨⟩) (by kernel_rfl) (λ_ _ _=>rfl) (JQ (H:=zd 2) r_.1 r_.2) ht2 ?_ ?_
 ·rintro qg ⟨dr,ii⟩ jn vr av ae;replace ae:wG dr ii jn=some av:=ae;refine yF .normal [(6,.own (.box (eOs 1 true F4_ dr))),(7,.own (.box (eOs 1 true eB ii))),(8,.own (.box (Zq jn))),(19,.d (.fn 186 [.sptr (.agg [I r_.1.Inputs,I r_.1.Outputs,eSl 1 false xH r_.1.Rows]),.sptr (I r_.2)]))] [] λst0 h0=>⟨rfl,z5j h0 ?_⟩;obtain⟨pq,h1,ae⟩:=zo ae;let Z0:List HO:=[Hn (iL eB h1),Hs (iM eB h1),Hs (iM eB h1),Hl (sM eB ii jn.state_ true)];obtain c0|c0:=zy ae
  ·obtain⟨bi,h2,ai,h3,ae⟩:=yg c0.2;obtain⟨g2,ae⟩:=gdE ae;obtain⟨ak,h4,ew,h5,ae⟩:=yg ae;cases ae;exact yF .normal ([(6,.own (.box (eOs 1 true F4_ (dr.set jn.state_.toNat ak)))),(7,.own (.box (eOs 1 true eB (ii.set jn.state_.toNat true)))),(19,.d (.fn 186 [.sptr (.agg [I r_.1.Inputs,I r_.1.Outputs,eSl 1 false xH r_.1.Rows]),.sptr (I r_.2)]))]) (Z0++[c0,Hn (iL F4_ h2),Hs (iM F4_ h2),Hk [] (z2k (hat 1)) (zf1 1 h3 (loC F4_ bi <| loN)),Hq (dM rE [jn.input_]),Hn (dM rE [jn.input_]),Hn (aL rE rE g2),Hl (aM rE ai [jn.input_]),zg 0,Hm (shM rE rE (ai++[jn.input_])),Hs (zf1 0 h4 (loC F8_ (ai++[jn.input_]) <| loN)),Hm (shM rE rE (ai++[jn.input_])),Hn (iL F4_ h5),Hs (iM F4_ h5),Hs (iM F4_ h5),Hl (sM F4_ dr jn.state_ ak)]) λst0 h0=>⟨rfl,_,h0,LeL.refl _⟩
  cases c0.2;exact yF .normal ([(6,.own (.box (eOs 1 true F4_ dr))),(7,.own (.box (eOs 1 true eB (ii.set jn.state_.toNat true)))),(19,.d (.fn 186 [.sptr (.agg [I r_.1.Inputs,I r_.1.Outputs,eSl 1 false xH r_.1.Rows]),.sptr (I r_.2)]))]) (Z0++[c0]) λst0 h0=>⟨rfl,_,h0,LeL.refl _⟩
 rcases t2 with⟨dr,ii⟩|z
 ·dsimp only at aa;exact XM (by kernel_rfl) (ar _ [(6,.own (.box (eOs 1 true F4_ dr))),(7,.own (.box (eOs 1 true eB ii)))] (dr,ii) aa (show Own.canon [6,7] _=ofL _ by kernel_rfl) inferInstance)
 cases z
def l41:List y8:=ZY 114 yZ (eT3 WF (eSl 1 true eB) rE) XZ::l40
def z2G [H:HS X0 l40]:OkH l41:=yS1 false func114 λm_ r0 aa E hE=>by
 obtain⟨r_,h0,aa⟩:=zo aa;let Z0:List HO:=[zC1 23 h0];obtain c0|c0:=zy aa
 ·cases c0.2;exact yE hE (Z0++[c0,Hm (shM F8_ F8_ []),Hm (shM eB eB [])])
 obtain⟨ai,h1,aa⟩:=zo c0.2;cases aa;exact yE hE (Z0++[c0,zC2 0 h1])
def l42:List y8:=qW 127 rE (eSp rE) eB Vd::l41
def z1c [H:HS X0 l41]:OkH l42:=yS2 true func127 λc_ x1 r0 aa E hE=>by
 obtain c0|c0:=zy aa
 ·cases c0.2;exact yE hE (rpN 4 (Hb c0) [])
 cases c0.2;exact yE hE (rpN 4 (Hb c0) [])
def l43:List y8:=qW 156 F8_ (KH 127 (eSp rE)) rE vR::l42
def XO [H:HS X0 l42]:OkH l43:=yS2 true func156 λs_ f_ r0 aa E hE=>by
 refine yK 11 [] [] (λz:Unit=>qq=some r0) (λz=>[]) [0,1] [Hh (.cut 1)] ?_ λJ1 ar=>?_
 ·rintro⟨⟩ aa;cases aa;exact yE hE []
 refine yMb 11210 [J1] [0,1,7,8] (λx=>[(8,.d (I x))]) aa  [Ha (lnM rE s_)] λt2 aa x8 m2 av ae hl1 J2 au=>?_;obtain c0|c0:=zy ae
 ·obtain⟨eb,h0,r_,h1,ae⟩:=yg c0.2;let Z0:List HO:=[c0,Hi rE h0,zC2 0 h1];obtain c1|c1:=zy ae
  ·cases c1.2;cases hl1;cases aa;exact yE hE (Z0++[c1])
  cases c1.2;exact yB au _ hl1 (Z0++[c1])
 cases c0.2;cases hl1;exact yB ar () aa [c0]
def l44:List y8:=qW 126 F8_ (KH 127 (eSp rE)) eB wT::l43
def Yq [H:HS X0 l43]:OkH l44:=yS2 true func126 λs_ f_ r0 aa E hE=>by obtain⟨r_,h0,aa⟩:=zo aa;cases aa;exact yE hE [zC2 0 h0]
def l45:List y8:=qW 93 F8_ rE rE ud::l44
def z44 [H:HS X0 l44]:OkH l45:=yS2 true func93 λw_ inputs r0 aa E hE=>by
 obtain c0|c0:=zy aa
 ·cases c0.2;exact yE hE (rpN 4 (Hb c0) [qT])
 let Z0:List HO:=[c0,c0,Ha (lnM rE w_),c0,c0];obtain c1|c1:=zy c0.2
 ·cases c1.2;exact yE hE (Z0++[c1])
 obtain c2|c2:=zy c1.2
 ·cases c2.2;exact yE hE (Z0++(Hb c1::(rpN 4 (Hb c2) [qT])))
 obtain⟨r_,h0,aa⟩:=zo c2.2;let Z1:List HO:=(Z0++[c1,c2,c2,c2,zC2 0 h0,c2]);obtain c3|c3:=zy aa
 ·cases c3.2;exact yE hE (Z1++[c3])
 cases c3.2;exact yE hE (Z1++[c3])
def l46:List y8:=qW 89 wF rE rE X9::l45
def z49 [H:HS X0 l45]:OkH l46:=yS2 true func89 λl_ inputs r0 aa E hE=>by
 obtain c0|c0:=zy aa
 ·cases c0.2;exact yE hE (rpN 4 (Hb c0) [qT])
 let Z0:List HO:=[c0,c0,Ha (lnM F8_ l_),c0,c0];obtain c1|c1:=zy c0.2
 ·cases c1.2;exact yE hE (Z0++[c1])
 obtain c2|c2:=zy c1.2
 ·cases c2.2;exact yE hE (Z0++[c1,c2])
 refine yK 1111 [] [] (λz:Unit=>Jc=some r0) (λz=>[]) [0,1] (Z0++[c1,c2,Hh (.cut 0)]) ?_ λJ1 ar=>?_
 ·rintro⟨⟩ aa;cases aa;exact yE hE []
 refine yMb 1111210 [J1] [1,17,18,19] (λx=>[(19,.d (I x))]) c2.2  [Ha (lnM F8_ l_)] λt2 aa dy m2 av ae hl1 J2 au=>?_;obtain c3|c3:=zy ae
 ·obtain⟨bi,h0,r_,h1,ae⟩:=yg c3.2;let Z1:List HO:=[c3,Hi F8_ h0,zC2 0 h1];obtain c4|c4:=zy ae
  ·cases c4.2;cases hl1;cases aa;exact yE hE (Z1++[c4])
  cases c4.2;exact yB au _ hl1 (Z1++[c4])
 cases c3.2;cases hl1;exact yB ar () aa [c3]
def l47:List y8:=ZY 105 wF z40 w9::l46
def Vg [H:HS X0 l46]:OkH l47:=yS1 true func105 λs_ r0 aa E hE=>by
 refine zc2 rfl 0 (sz:=1) (t:=false) (es:=s_.map F8_) (by kernel_rfl) λcu hv0 hn=>?_;rcases hn with⟨hn0,he0⟩|hn0
 ·obtain⟨_,aa⟩:=gdE aa;rw[show s_=[] from List.map_eq_nil_iff.1 he0]at aa;cases aa;exact yEl (H:=zx ((zkX zt 4 32 (by kernel_rfl) hn0).or ((xMv prog 3 0 cu hv0).or X0))) hE [Hn (rfl:some cu=some cu),Hn (⟨rfl,rfl⟩:T.d (.atom cu)=T.d (.atom cu)/\T.d (.atom (.slice none 0 0))=T.d (.atom (.slice none 0 0))),qT]
 obtain⟨g0,aa⟩:=gdE aa;cases aa;exact yE (H:=zx ((zkX zt 4 32 (by kernel_rfl) hn0).or ((xMv prog 3 0 cu hv0).or X0))) hE [Hn (rfl:some cu=some cu),Hn (⟨rfl,rfl⟩:T.d (.atom cu)=T.d (.atom cu)/\T.d (.atom (.slice none 0 0))=T.d (.atom (.slice none 0 0))),qF,Hn (dM F8_ s_),Hn (aL F8_ F8_ g0),Hl (aM0 F8_ s_)]
def l48:List y8:=ZY 171 rE eB YQ::l47
def z1q [H:HS X0 l47]:OkH l48:=yS1 true func171 λx_ r0 aa E hE=>by cases aa;exact yE hE []
def l49:List y8:=qW 154 rE rE rE qD::l48
def KS [H:HS X0 l48]:OkH l49:=yS2 true func154 λx_ y_ r0 aa E hE=>by
 obtain⟨r_,h0,ai,h1,aa⟩:=yg aa;let Z0:List HO:=[zC1 0 h0,zC1 0 h1];obtain c0|c0:=zy aa
 ·obtain c1|c1:=zy c0.2
  ·cases c1.2;exact yE hE (Z0++[c0,c1])
  cases c1.2;exact yE hE (Z0++[c0,c1])
 obtain c2|c2:=zy c0.2
 ·cases c2.2;exact yE hE (Z0++[c0,c2])
 obtain c3|c3:=zy c2.2
 ·cases c3.2;exact yE hE (Z0++[c0,c2,c3])
 obtain c4|c4:=zy c3.2
 ·cases c4.2;exact yE hE (Z0++[c0,c2,c3,c4])
 cases c4.2;exact yE hE (Z0++[c0,c2,c3,c4])
def l50:List y8:=qW 155 F8_ F8_ rE wW::l49
def WH [H:HS X0 l49]:OkH l50:=yS2 true func155 λs1 s2 r0 aa E hE=>by
 refine yNs 11 [] [0,1] (λz:Unit=>vA s1 s2=some r0) (λz=>[]) [Hh (.cut 1)] ?_ λJ1 ar=>?_
 ·rintro⟨⟩ aa;let Z0:List HO:=[Ha (lnM rE s1),Ha (lnM rE s2)];obtain c0|c0:=zy aa
  ·cases c0.2;exact yE hE (Z0++[c0])
  cases c0.2;exact yE hE (Z0++[c0])
 refine yMb 11210 [J1] [0,1,9,10,11] (λx=>[(11,.d (I x))]) aa  [Ha (lnM rE s1)] λt2 aa ig m2 av ae hl1 J2 au=>?_;obtain c1|c1:=zy ae
 ·obtain⟨pa,h0,ae⟩:=zo c1.2;let Z1:List HO:=[c1,Hi rE h0,Ha (lnM rE s2)];obtain c2|c2:=zy ae
  ·cases c2.2;cases hl1;cases aa;exact yE hE (Z1++[c2])
  obtain⟨nw,h1,r_,h2,ae⟩:=yg c2.2;let Z2:List HO:=(Z1++[c2,Hi rE h1,zC2 0 h2]);obtain c3|c3:=zy ae
  ·cases c3.2;cases hl1;cases aa;exact yE hE (Z2++[c3])
  cases c3.2;exact yB au _ hl1 (Z2++[c3])
 cases c1.2;cases hl1;exact yB ar () aa [c1]
def l51:List y8:=ZY 153 F8_ rE QH::l50
def z5J [H:HS X0 l50]:OkH l51:=yS1 true func153 λvals r0 aa E hE=>by
 refine yN 111 [] [3] (λz:Unit=>VQ=some r0) (λz=>[]) [0,3] [Hh (.cut 2)] ?_ λJ1 ar=>?_
 ·rintro⟨⟩ aa;cases aa;exact yE hE []
 refine yMb 111210 [J1] [3,6,7,8] (λx=>[(8,.d (I x))]) aa  [Ha (lnM rE vals)] λt2 aa x8 m2 av ae hl1 J2 au=>?_;obtain c0|c0:=zy ae
 ·obtain⟨pr,h0,ae⟩:=zo c0.2;obtain c1|c1:=zy ae
  ·cases c1.2;cases hl1;cases aa;exact yE hE [c0,Hi rE h0,c1]
  cases c1.2;exact yB au _ hl1 [c0,Hi rE h0,c1]
 cases c0.2;cases hl1;exact yB ar () aa [c0]
def l52:List y8:=qW 125 F8_ F8_ rE yI::l51
def z1b [H:HS X0 l51]:OkH l52:=yS2 true func125 λa_ b_ r0 aa E hE=>by obtain⟨r_,h0,ai,h1,ak,h2,aa⟩:=ZS aa;cases aa;exact yE hE [Ha (lnM rE a_),Ha (lnM rE b_),zC2 2 h0,zC2 1 h1,zg 0,Hm (shM rE rE ([r_,ai])),Hs (zf1 0 h2 (loC F4_ [r_,ai] <| loN))]
def l53:List y8:=qW 138 F8_ F8_ eB qZ::l52
def z0C [H:HS X0 l52]:OkH l53:=yS2 true func138 λa_ b_ r0 aa E hE=>by obtain⟨r_,h0,aa⟩:=zo aa;cases aa;exact yE hE [zC2 0 h0]
def l54:List y8:=qW 137 z40 (zic 138) z40 xD [true,false]::l53
def y5:XH prog:=((zna zt 64).or X0)
def Yr [H:HS y5 l53]:OkH l54:=yS2 true func137 λs_ eq r0 aa E hE=>by
 refine z5i (y:=eOs 1 false F8_ s_) rfl 0 (by kernel_rfl) (by kernel_rfl) λcu hv0=>?_;let Z0:List HO:=[Ha (lnM F8_ s_)];obtain c0|c0:=zy aa
 ·cases c0.2;exact yE hE (Z0++[c0])
 refine yN 111 [] [0] (λz:Unit=>uc s_=some r0) (λz=>[]) [0,1] (Z0++[c0,Hh (.cut 0)]) ?_ λJ1 ar=>?_
 ·rintro⟨⟩ aa;cases aa;exact yE hE []
 refine yMb 111210 [J1] [0,1,5] (λx=>[(5,.d (I x))]) c0.2  [] λt2 aa k_ m2 av ae hl1 J2 au=>?_;let Z1:List HO:=[Ha (lnM F8_ s_)];obtain c1|c1:=zy ae
 ·refine yNs 11121001 [J1,J2] [0,1,5] (λz:Unit=>w8 k_=some av) (λz=>[]) (Z1++[c1,Hh (.cut 0)]) ?_ λJ3 bg=>?_
  ·rintro⟨⟩ ae;cases ae;exact yB au _ hl1 []
  obtain⟨eb,h0,nn,h1,r_,h2,ae⟩:=ZS c1.2;let Z2:List HO:=[Hn (iL F8_ h0),Hs (iM F8_ h0),Hn (iL F8_ h1),Hs (iM F8_ h1),zC2 0 h2];obtain c2|c2:=zy ae
  ·obtain⟨g0,ae⟩:=gdE c2.2;refine yK (H:=zx ((xAs prog 6 (V6 1 cu k_)).or ((xVw zt 31 0 cu).or y5))) 1112100120101 [J1,J2,J3] [0,5] (λz:List (List Int)×Int=>yi z.1 z.2=some av) (λz=>[(0,.own (eOs 1 false F8_ z.1)),(5,.d (I z.2))]) [0,1,5,6] (Z2++[c2,Hn (⟨.inl rfl,rfl⟩:(T.als 0 [] 0 0=T.als 0 [] 0 0\/T.als 0 [] 0 0=T.d (.atom cu))/\some cu=some cu),Hn (⟨g0.1,cuB F8_ g0⟩:(0:Int)<=k_/\k_.toNat<=(s_.map F8_).length),Hn (rfl:T.d (.atom (V6 1 cu k_))=T.d (.atom (V6 1 cu k_))),Hh (.cut 1)]) ?_ λJ4 db=>?_
   ·rintro⟨bk,de⟩ ae;obtain⟨g1,ae⟩:=gdE ae;obtain⟨g2,ae⟩:=gdE ae;obtain⟨g3,ae⟩:=gdE ae;cases ae;cases hl1;cases aa;exact yE (H:=zx ((xVc zt 61 1 0 cu de).or ((xVw zt 61 0 cu).or y5))) hE [Hn (⟨.inl rfl,rfl⟩:(T.als 0 [] 0 0=T.als 0 [] 0 0\/T.als 0 [] 0 0=T.d (.atom cu))/\some cu=some cu),Hn (⟨g1.1,cuB F8_ g1⟩:(0:Int)<=de/\de.toNat<=(bk.map F8_).length),Hn (⟨rfl,rfl⟩:T.d (.atom (V6 1 cu de))=T.d (.atom (V6 1 cu de))/\some cu=some cu),Hn (⟨g2.1,cuB F8_ g2,dM F8_ bk⟩:(0:Int)<=de/\de.toNat<=(bk.map F8_).length/\A.areD (bk.map F8_)=true),Hx (.l ((bk.take de.toNat++List.replicate (bk.length - de.toNat) []).map F8_)) (vcM F8_ bk de.toNat ([]:List Int)),Hn g3.1,Hn (cuB F8_ g3),Hl (cuM F8_ (bk.take de.toNat++List.replicate (bk.length - de.toNat) []) de)]
   refine yMb 1112100120101210 [J1,J2,J3,J4] [0,1,5,6,7] (λx=>[(0,.own (eOs 1 false F8_ x.1)),(5,.d (I x.2.1)),(7,.d (I x.2.2))]) ae  [] λt5 ae ⟨da,kj,k2⟩ m5 dj ah hl2 J5 dc=>?_;let Z3:List HO:=[Hn (⟨rfl,rfl⟩:T.d (.atom (V6 1 cu k_))=T.d (.atom (V6 1 cu k_))/\some cu=some cu),Hx (.a (.atom (.int .i64 ((da.length - k_.toNat:Nat):Int)))) (vlM F8_ da k_.toNat)];obtain c3|c3:=zy ah
   ·refine yNs (H:=zx ((xVl zt 34 32 1 0 cu k_ (by kernel_rfl)).or y5)) 111210012010121001 [J1,J2,J3,J4,J5] [0,1,5,6,7] (λz:List (List Int)×Int=>yh k2 z.1 z.2=some dj) (λz=>[(0,.own (eOs 1 false F8_ z.1)),(5,.d (I z.2))]) (Z3++[c3,Hh (.cut 0)]) ?_ λJ6 ep=>?_
    ·rintro⟨ng,p8⟩ ah;cases ah;exact yB dc _ hl2 []
    obtain⟨g4,ah⟩:=gdE c3.2;obtain⟨ot,h3,ah⟩:=zo ah;obtain⟨g5,ah⟩:=gdE ah;obtain⟨ou,h4,ai,h5,ah⟩:=yg ah;let Z4:List HO:=[Hn (⟨rfl,rfl⟩:T.d (.atom (V6 1 cu k_))=T.d (.atom (V6 1 cu k_))/\some cu=some cu),Hn (⟨g4.1,g4.2,(iL F8_ h3).2⟩:(0:Int)<=k_/\(0:Int)<=k2/\(k_+k2).toNat<(da.map F8_).length),Hs (iM F8_ h3),Hn (⟨rfl,rfl⟩:T.d (.atom (V6 1 cu k_))=T.d (.atom (V6 1 cu k_))/\some cu=some cu),Hn (⟨g5.1,g5.2,(iL F8_ h4).2⟩:(0:Int)<=k_/\(0:Int)<=w64 (k2 - 1)/\(k_+(w64 (k2 - 1))).toNat<(da.map F8_).length),Hs (iM F8_ h4),zC2 0 h5];obtain c4|c4:=zy ah
    ·obtain⟨g6,ah⟩:=gdE c4.2;obtain⟨ov,h6,r9,h7,ah⟩:=yg ah;exact yB (H:=zx ((xVi zt 54 1 0 cu k_).or ((xVi zt 46 1 0 cu k_).or ((xVi zt 41 1 0 cu k_).or y5)))) ep ((da.set kj.toNat ov),w64 (kj+1)) ah (Z4++[c4,Hn (⟨rfl,rfl⟩:T.d (.atom (V6 1 cu k_))=T.d (.atom (V6 1 cu k_))/\some cu=some cu),Hn (⟨g6.1,g6.2,(iL F8_ h6).2⟩:(0:Int)<=k_/\(0:Int)<=k2/\(k_+k2).toNat<(da.map F8_).length),Hs (iM F8_ h6),Hn (iL F8_ h7),Hs (iM F8_ h7),Hs (iM F8_ h7),Hl (sM F8_ da kj ov)])
    exact yB (H:=zx ((xVi zt 46 1 0 cu k_).or ((xVi zt 41 1 0 cu k_).or y5))) ep (da,kj) c4.2 (Z4++[c4])
   cases c3.2;cases hl2;exact yB (H:=zx ((xVl zt 34 32 1 0 cu k_ (by kernel_rfl)).or y5)) db (da,kj) ae (Z3++[c3])
  exact yB bg () c2.2 (Z2++[c2])
 cases c1.2;cases hl1;exact yB ar () aa (Z1++[c1])
def xN:y8:=spR (α:=List (List Int)) (ρ:=List (List Int)) 112 (λx=>[z40 x]) (λr=>(eOs 1 true F8_) r) (λx=>wy x) [true] (znY)
def XT:∀x r,(λx=>wy x) x=some r->(KI.add xN).run 112 ((KI.add xN).norm 112 ((λx=>[z40 x]) x))=some ((λr=>(eOs 1 true F8_) r) r):=λx r h=>zmF h rfl
def XV:(KI.add xN).gives 112=[true]:=zhx
def vw [H:HS X0 l54]:xN.Ok prog:=by refine za6 ?_;rintro s_ r0 aa;refine zY true func112 λE hE=>?_;cases aa;exact yE (H:=zx ((xCl zt 8).or X0)) hE [Ha (lnM F8_ s_),Ha (lnM F8_ s_),Hn (mO _:(0:Int)<=((s_.length:Nat):Int)),Hn (mO _:(0:Int)<=((s_.length:Nat):Int)),Hn (clB F8_ s_),Ha (clE 1 F8_ s_)]
def l55:List y8:=ZY 91 wF rE X7::l54
def z48 [H:HS X0 l54]:OkH l55:=yS1 true func91 λl_ r0 aa E hE=>by
 refine yK 11 [] [2] (zI Jb r0) (λz=>[(2,.d (I z))]) [0,2] [Hh (.cut 1)] ?_ λJ1 ar=>?_
 ·rintro n_ aa;cases aa;exact yE hE []
 refine yMb 11210 [J1] [2,5,6,7] (λx=>[(2,.d (I x.1)),(7,.d (I x.2))]) aa  [Ha (lnM F8_ l_)] λt2 aa ⟨ca,x7⟩ m2 av ae hl1 J2 au=>?_;obtain c0|c0:=zy ae
 ·obtain⟨bi,h0,ae⟩:=zo c0.2;cases ae;exact yB au _ hl1 [c0,Hi F8_ h0,Ha (lnM rE bi)]
 cases c0.2;cases hl1;exact yB ar ca aa [c0]
def l56:List y8:=ZY 104 wF (eT2 WF rE) xJ::l55
def z2H [H:HS X0 l55]:OkH l56:=yS1 false func104 λl_ r0 aa E hE=>by
 obtain⟨r_,h0,aa⟩:=zo aa;refine yC 111 [] [4] [zC1 8 h0,Hh (.cut 0)] ?_;obtain⟨sorted,h1,aa⟩:=zo aa;refine z6V (by kernel_rfl) (x:=(sub [1,1,0] (zbd f104))) (y:=(sub [1,1,1] (zbd f104))) 4 (λst1=>Own.canon [4] st1=ofL [(4,.own (eOs 1 false F8_ sorted))]) (λjo=>yF (H:=zx ((Zo (P:=prog) ua [4] (za8 zjt (f:=F8_) (t:=false) (v:=jo) (λ_=>rfl) (λ_=>rfl) (λx y c h=>(zk2 3 h :)) h1) 10).or X0)) .normal [(4,.own (eOs 1 false F8_ sorted))] [Hn (Wj (f:=.fn 136 []) (xs:=[.atom jo,.fn 125 []]) (ls:=[(jo,eOs 1 false F8_ r_)]) (r:=.tup []) (ys:=[eOs 1 false F8_ sorted]) [.atom jo,.fn 125 []] (show JO [.atom jo,.fn 125 []] [.atom jo,.fn 125 []] from inferInstance))] λst0 h0=>⟨rfl,h0⟩) λst1 h1=>z5j h1 ?_;obtain⟨ai,h2,ak,h3,aa⟩:=yg aa;let Z0:List HO:=[zC2 1 h2,Hh (.g [true]),Hn XV,Hx (.a ((eOs 1 true F8_) ak)) (XT ai _ h3),Ha (lnM F8_ ak)];obtain c0|c0:=zy aa
 ·cases c0.2;exact yEx (H:=zx ((z41 zt (vw (H:=zd 1)) 13).or X0)) hE (Z0++(rpN 4 (Hb c0) [qT,Hm (shM F8_ F8_ [])])) (.tup [eSl 1 true F4_ [],I 3]) (show LeV (.tup [eSl 1 true F4_ [],I 3]) (.tup [eSl 1 true F4_ ([]:List (List Int)),I 3]) from inferInstance)
 obtain⟨am,h4,aa⟩:=zo c0.2;let Z1:List HO:=(Z0++[Hb c0,Hb c0,zg 0,Hm (shM F8_ F8_ ak),Hs (zf1 0 h4 (loC z5s ak <| loN)),Hb c0,Hb c0]);obtain c1|c1:=zy aa
 ·cases c1.2;exact yEx (H:=zx ((z41 zt (vw (H:=zd 1)) 13).or X0)) hE (Z1++[c1,Hm (shM F8_ F8_ [])]) (.tup [eSl 1 true F4_ [],I 3]) (show LeV (.tup [eSl 1 true F4_ [],I 3]) (.tup [eSl 1 true F4_ ([]:List (List Int)),I 3]) from inferInstance)
 refine yC (H:=zx ((z41 zt (vw (H:=zd 1)) 13).or X0)) 111111 [] [4] (Z1++[Hb c1,Hh (.cut 0)]) ?_;refine z5i (y:=eOs 1 true F8_ ak) (by kernel_rfl) 4 (by kernel_rfl) (by kernel_rfl) λjo hv4=>?_;refine yKs 111111 [] [4] (zI X8 r0) (λz=>[(4,.own (eOs 1 true (eFl 1 rE) z))]) [Hh (.cut 0)] ?_ λJ1 ar=>?_
 ·rintro out aa;obtain⟨hfl0,aa⟩:=gdE aa;cases aa;exact yEx hE [Hm (shM (eFl 1 rE) (eFl 1 rE) out)] (.tup [eSl 1 true (eFl 1 rE) out,I 0]) (haveI:=flA (s:=1) (t:=1) (b:=true) (f:=rE) hfl0;show LeV (.tup [eSl 1 true (eFl 1 rE) out,I 0]) (.tup [eSl 1 true F4_ (out.map (·.1)),I 0]) from inferInstance)
 obtain⟨t2,ht2,aa⟩:=zo c1.2;refine yLx (H:=zx ((xVl zt 23 32 1 4 jo (0:Int) (by kernel_rfl)).or ((xMw prog 22 4 1 jo).or X0))) 111111210 [J1] (λs=>wO ak s.1 s.2) (λx=>[(4,.own (eOs 1 true (eFl 1 rE) x.1)),(22,.d (.atom (V6 1 jo (0:Int)))),(23,.d (I ((ak.length - (0:Int).toNat:Nat):Int))),(24,.d (I x.2))]) ((ak.map λq=>(q,false)),0) ht2 [(4,.own (eOs 1 true F8_ ak)),(22,.d (.atom (V6 1 jo (0:Int)))),(23,.d (I ((ak.length - (0:Int).toNat:Nat):Int))),(24,.d (I 0))] inferInstance [Hn (rfl:some jo=some jo),Hn (⟨rfl,rfl⟩:T.d (.atom (V6 1 jo (0:Int)))=T.d (.atom (V6 1 jo (0:Int)))/\some jo=some jo),Hx (.a (.atom (.int .i64 ((ak.length - (0:Int).toNat:Nat):Int)))) (vlM F8_ ak (0:Int).toNat)] λ⟨ax,ga⟩ m2 av ae hl1 J2 au=>?_;obtain c2|c2:=zy ae
 ·obtain⟨g0,ae⟩:=gdE c2.2;obtain⟨dn,h5,az,h6,bn,h7,jr,h8,ae⟩:=z7P ae;cases ae;exact yB (H:=zx ((xVi zt 27 1 4 jo (0:Int)).or X0)) au _ hl1 [Hb c2,Hn (⟨rfl,rfl⟩:T.d (.atom (V6 1 jo (0:Int)))=T.d (.atom (V6 1 jo (0:Int)))/\some jo=some jo),Hn (⟨g0.1,g0.2,(iL (eFl 1 rE) h5).2⟩:(0:Int)<=0/\(0:Int)<=ga/\(0+ga).toNat<(ax.map (eFl 1 rE)).length),Hs (iM (eFl 1 rE) h5),Hk [] (z2k (hat 17)) (zf1 17 h6 (loC (eSl 1 dn.2 rE) dn.1 <| loN)),zg 16,Hm (shM rE rE az),Hs (zf1 16 h7 (loC F8_ az <| loN)),Hm (shM rE rE az),Hn (iL (eFl 1 rE) h8),Hs (iM (eFl 1 rE) h8),Hs (iM (eFl 1 rE) h8),Hl (sM (eFl 1 rE) ax ga (bn,true))]
 cases c2.2;cases hl1;exact yB ar ax aa [Hb c2]
def l57:List y8:=qW 115 wF rE (eT2 WF rE) Zy::l56
def z5w [H:HS X0 l56]:OkH l57:=yS2 false func115 λl_ inputs r0 aa E hE=>by
 obtain⟨r_,h0,aa⟩:=zo aa;let Z0:List HO:=[zC2 10 h0];obtain c0|c0:=zy aa
 ·cases c0.2;exact yE hE (Z0++[c0,Hm (shM F8_ F8_ [])])
 obtain⟨ai,h1,aa⟩:=zo c0.2;cases aa;exact yE hE (Z0++[c0,zC1 0 h1])
def l58:List y8:=ZY 70 yZ (eT2 WF rE) qV::l57
def z1p [H:HS X0 l57]:OkH l58:=yS1 false func70 λm_ r0 aa E hE=>by
 obtain⟨r_,h0,aa⟩:=zo aa;let Z0:List HO:=[zC1 31 h0];obtain c0|c0:=zy aa
 ·cases c0.2;exact yE hE (Z0++[c0,Hm (shM F8_ F8_ [])])
 obtain c1|c1:=zy c0.2
 ·cases c1.2;exact yE hE (Z0++[c0,c1,Hm (shM F8_ F8_ [])])
 obtain⟨ai,h1,aa⟩:=zo c1.2;let Z1:List HO:=(Z0++[c0,c1,zC1 16 h1]);obtain c2|c2:=zy aa
 ·cases c2.2;exact yE hE (Z1++[c2,Hm (shM F8_ F8_ [])])
 obtain⟨ak,h2,aa⟩:=zo c2.2;cases aa;exact yE hE (Z1++[c2,Hk [] (z2k (hat 0)) (zf2 0 h2 (loC WF ai.1 <| loC rE m_.Inputs <| loN))])
def l59:List y8:=z0O 119 rE rE rE (eT2 WF rE) WK::l58
def z7S:XH prog:=((Wc zt (.inl 83) [82]).or X0)
def z75 [H:HS z7S l58]:OkH l59:=yS3 false func119 λinputs from_ to r0 aa E hE=>by
 obtain c0|c0:=zy aa
 ·cases c0.2;exact yE hE [c0,Hm (shM F8_ F8_ [])]
 obtain c1|c1:=zy c0.2
 ·cases c1.2;exact yE hE [c0,c1,c1,c1,qT,Hm (shM F8_ F8_ [])]
 let Z0:List HO:=[c0,c1,c1,c1];obtain c2|c2:=zy c1.2
 ·cases c2.2;exact yE hE (Z0++[c2,Hm (shM F8_ F8_ [])])
 obtain c3|c3:=zy c2.2
 ·cases c3.2;exact yE hE (Z0++[c2,c3,Hm (shM F8_ F8_ [])])
 obtain⟨t1,ht1,aa⟩:=zo c3.2;refine yMx 1111111110 [] [0,1,2,8,9,10,11] (λx=>[(8,.own (eOs 1 false F8_ x.1)),(9,.own (eOs 1 false F8_ x.2.1)),(10,.d (I x.2.2.1)),(11,.d (I x.2.2.2))]) ht1 [(8,.own (eOs 1 true F8_ [])),(9,.own (eOs 1 true F4_ ([[]]))),(10,.d (I 0)),(11,.d (I 0))] (Z0++[c2,c3,Hh (.v 5 [9]),Hm (shM F5_ F4_ ([[]]:List (List Int)))]) λ⟨out,ay,n_,k_⟩ m1 av ae hl1 J1 ar=>?_;refine yN 11111111100 [J1] [0,1,2,8,9,10,11,45,46,49,50,51,52,58] (λz:List (List Int)×List (List Int)×Int×Int×Bool×Bool=>UN k_ z.1 z.2.1 z.2.2.1 z.2.2.2.1 z.2.2.2.2.1 z.2.2.2.2.2=some av) (λz=>[(8,.own (eOs 1 false F8_ z.1)),(9,.own (eOs 1 false F8_ z.2.1)),(10,.d (I z.2.2.1)),(45,.d (I z.2.2.2.1)),(46,.d (B z.2.2.2.2.1)),(49,.d (I k_)),(50,.d (I to)),(51,.d (B (decide (k_<to)))),(52,.d (B (decide (k_<to)))),(58,.d (B z.2.2.2.2.2))]) [0,1,2,8,9,10,11] [Hh (.cut 0)] ?_ λJ2 au=>?_
 ·rintro⟨aj,cq,ca,ri,nh,oz⟩ ae;cases ae;exact yB ar _ hl1 []
 refine yNs 1111111110020 [J1,J2] [0,1,2,8,9,10,11] (λz:List (List Int)×Int=>Yc inputs to ay k_ z.1 z.2=some av) (λz=>[(8,.own (eOs 1 false F8_ z.1)),(10,.d (I z.2))]) [Hh (.cut 0)] ?_ λJ3 bg=>?_
 ·rintro⟨ax,cd⟩ ae;refine yN 11111111100201 [J1,J2] [0,1,2,8,9,10,11,45,46,49,50,51,52,58] (zI (Yb inputs to ay k_ ax cd) av) (λz=>[(45,.d (I cd)),(46,.d (B (decide (cd > 65536)))),(49,.d (I k_)),(50,.d (I to)),(51,.d (B (decide (k_<to)))),(52,.d (B (decide (k_<to)))),(58,.d (B z))]) [0,1,2,8,9,10,11] [Hh (.cut 0)] ?_ λJ4 db=>?_
  ·rintro il ae;obtain c4|c4:=zy ae
   ·obtain⟨r_,h0,ae⟩:=zo c4.2;cases ae;cases hl1;cases aa;exact yE hE [c4,zg 2,Hm (shM F8_ F8_ ax),Hs (zf1 2 h0 (loC wF ax <| loN)),Hm (shM F8_ F8_ ax)]
   refine yN 11111111100201111 [J1,J2] [0,1,2,8,10,11,12,45,46,49,50,51,52,58] (zI (UM k_ ax cd il) av) (λz=>[(12,.own (eOs 1 false F8_ z))]) [0,1,2,8,9,10,11,12,45,46,49,50,51,52,58] [c4,Hh (.cut 1)] ?_ λJ5 dc=>?_
   ·rintro next ae
    exact yB au (ax,next,cd,cd,decide (cd > 65536),il) ae []
   obtain⟨t6,kb,ae⟩:=zo c4.2;refine yMx 11111111100201111210 [J1,J2,J5] [0,1,2,8,9,10,11,12,45,46,49,50,51,52,58,67,68,69] (λx=>[(12,.own (eOs 1 false F8_ x.1)),(69,.d (I x.2))]) kb [(12,.own (eOs 1 true F8_ [])),(69,.d (I 0))] [Ha (lnM F8_ ay)] λ⟨cr,lc⟩ m6 dj ah hl2 J6 ep=>?_;obtain c5|c5:=zy ah
   ·refine yNs 11111111100201111210011 [J1,J2,J5,J6] [0,1,2,8,9,10,11,12,45,46,49,50,51,52,58,67,68,69] (zI (UL lc) dj) (λz=>[(12,.own (eOs 1 false F8_ z))]) [c5,Hh (.cut 0)] ?_ λJ7 gw=>?_
    ·rintro ff ah;cases ah;exact yB ep _ hl2 []
    obtain⟨a8,h1,t8,ht8,ah⟩:=yg c5.2;refine yM 1111111110020111121001120110 [J1,J2,J5,J6,J7] [0,1,2,8,9,10,11,12,14,45,46,49,50,51,52,58,67,68,69,73,74] (λx=>[(12,.own (eOs 1 false F8_ x.1)),(74,.d (I x.2))]) ht8  [Hn (iL F8_ h1),Hs (iM F8_ h1)] λ⟨cb,ld⟩ m8 nb aw hl3 J8 lq=>?_;obtain c6|c6:=zy aw
    ·obtain⟨ai,h2,aw⟩:=zo c6.2;obtain⟨g0,aw⟩:=gdE aw;obtain⟨g1,aw⟩:=gdE aw;cases aw;exact yB lq _ hl3 [c6,zC1 19 h2,Hq (dM rE [ld]),Hn (dM rE [ld]),Hn (aN rE rE g0 (by simp)),Hl (aM rE ai [ld]),Hm (shM rE rE (ai++[ld])),Hq (dM F8_ [(ai++[ld])]),Hn (dM F8_ [(ai++[ld])]),Hn (aL F8_ F8_ g1),Hl (aM F8_ cb [(ai++[ld])])]
    cases c6.2;cases hl3;exact yB gw cb ah [c6]
   cases c5.2;cases hl2;exact yB dc cr ae [c5]
  let Z1:List HO:=[Ha (lnM F8_ ax)];obtain c7|c7:=zy ae
  ·cases c7.2;cases hl1;cases aa;exact yE hE (Z1++(Hb c7::Hb c7::Hb c7::(rpN 7 qT [Hm (shM F8_ F8_ [])])))
  obtain c8|c8:=zy c7.2
  ·cases c8.2;cases hl1;cases aa;exact yE hE (Z1++(Hb c7::Hb c7::Hb c7::(rpN 6 (Hb c8) [qT,Hm (shM F8_ F8_ [])])))
  let Z2:List HO:=(Z1++(Hb c7::Hb c7::Hb c7::(rpN 4 (Hb c8) [])));obtain c9|c9:=zy c8.2
  ·let Z3:List HO:=(Z2++[c9,c9,Ha (lnM F8_ ay),c9,c9,c9,c8,c9,c8]);obtain c10|c10:=zy c9.2
   ·cases c10.2;cases hl1;cases aa;exact yE hE (Z3++[c10,Hm (shM F8_ F8_ [])])
   exact yB db (decide ((w64 (((ay.length:Nat):Int)*inputs)) > 4096)) c10.2 (Z3++[c10])
  exact yB db false c9.2 (Z2++(rpN 5 (Hb c9) [c8,c9,c8,qF]))
 obtain c11|c11:=zy ae
 ·obtain⟨g2,ae⟩:=gdE c11.2;exact yB bg ((out++ay),w64 (n_+(w64 (k_*((ay.length:Nat):Int))))) ae [c11,Hq (dM F8_ ay),Hn (dM F8_ ay),Hn (aL F8_ F8_ g2),Hl (aM F8_ out ay),Ha (lnM F8_ ay)]
 exact yB bg (out,n_) c11.2 [c11]
def l60:List y8:=qW 73 rE rE (eT2 WF rE) WN::l59
def z5v [H:HS X0 l59]:OkH l60:=yS2 false func73 λinputs k_ r0 aa E hE=>by obtain⟨r_,h0,aa⟩:=zo aa;cases aa;exact yE hE [zC3 0 h0]
def l61:List y8:=ZY 90 wF eB Vi::l60
def z4a [H:HS X0 l60]:OkH l61:=yS1 true func90 λl_ r0 aa E hE=>by
 refine yK 11 [] [] (λz:Unit=>Wi=some r0) (λz=>[]) [0] [Hh (.cut 1)] ?_ λJ1 ar=>?_
 ·rintro⟨⟩ aa;cases aa;exact yE hE []
 refine yMb 11210 [J1] [0,3] (λx=>[(3,.d (I x))]) aa  [] λt2 aa i_ m2 av ae hl1 J2 au=>?_;let Z0:List HO:=[Ha (lnM F8_ l_)];obtain c0|c0:=zy ae
 ·obtain⟨bi,h0,ew,h1,r_,h2,ae⟩:=ZS c0.2;let Z1:List HO:=(Z0++[c0,Hi F8_ h0,Hi F8_ h1,zC2 8 h2]);obtain c1|c1:=zy ae
  ·cases c1.2;cases hl1;cases aa;exact yE hE (Z1++[c1])
  cases c1.2;exact yB au _ hl1 (Z1++[c1])
 cases c0.2;cases hl1;exact yB ar () aa (Z0++[c0])
def l62:List y8:=qW 54 wF rE rE jQ::l61
def z4d [H:HS X0 l61]:OkH l62:=yS2 true func54 λl_ inputs r0 aa E hE=>by
 obtain⟨r_,h0,aa⟩:=zo aa;let Z0:List HO:=[zC2 15 h0];obtain c0|c0:=zy aa
 ·cases c0.2;exact yE hE (Z0++[c0])
 obtain⟨ai,h1,aa⟩:=zo c0.2;let Z1:List HO:=(Z0++[c0,zC1 0 h1]);obtain c1|c1:=zy aa
 ·cases c1.2;exact yE hE (Z1++[c1])
 obtain⟨ak,h2,aa⟩:=zo c1.2;let Z2:List HO:=(Z1++[c1,zC1 6 h2]);obtain c2|c2:=zy aa
 ·cases c2.2;exact yE hE (Z2++[c2])
 cases c2.2;exact yE hE (Z2++[c2])
def l63:List y8:=qW 103 rE zon rE WJ::l62
def z5u [H:HS X0 l62]:OkH l63:=yS2 true func103 λinputs l_ r0 aa E hE=>by
 refine yK 11 [] [] (λz:Unit=>Vh=some r0) (λz=>[]) [0,1] [Hh (.cut 1)] ?_ λJ1 ar=>?_
 ·rintro⟨⟩ aa;cases aa;exact yE hE []
 refine yMb 11210 [J1] [0,8,9,10] (λx=>[(10,.d (I x))]) aa  [Ha (lnM wF l_)] λt2 aa gi m2 av ae hl1 J2 au=>?_;obtain c0|c0:=zy ae
 ·obtain⟨bi,h0,r_,h1,ae⟩:=yg c0.2;let Z0:List HO:=[c0,Hi wF h0,zC2 0 h1];obtain c1|c1:=zy ae
  ·cases c1.2;cases hl1;cases aa;exact yE hE (Z0++[c1])
  cases c1.2;exact yB au _ hl1 (Z0++[c1])
 cases c0.2;cases hl1;exact yB ar () aa [c0]
def l64:List y8:=ZY 166 F8_ Kv JZ::l63
def z74 [H:HS X0 l63]:OkH l64:=yS1 true func166 λw_ r0 aa E hE=>by
 obtain⟨g0,aa⟩:=gdE aa;refine yK 111 [] [3] (zI z0j r0) (λz=>[(3,.own (eOs 1 true (eI .u8) z))]) [0,3] [Ha (lnM rE w_),Hn (rL g0),Ha (rM 1 (eI .u8) ((w_.length:Nat):Int) (0:Int)),Hh (.cut 0)] ?_ λJ1 ar=>?_
 ·rintro b_ aa;cases aa;exact yE (H:=zx ((zos prog zh0).or X0)) hE [Hx (.a (Kv (u8s b_))) (stM b_)]
 refine yMb 111210 [J1] [3,9,10,11] (λx=>[(3,.own (eOs 1 true (eI .u8) x.1)),(11,.d (I x.2))]) aa  [Ha (lnM rE w_)] λt2 aa ⟨kw,ig⟩ m2 av ae hl1 J2 au=>?_;obtain c0|c0:=zy ae
 ·obtain⟨fc,h0,dx,h1,ae⟩:=yg c0.2;cases ae;exact yB au _ hl1 [c0,Hi rE h0,Hn (iL (eI .u8) h1),Hs (iM (eI .u8) h1),Hs (iM (eI .u8) h1),Hl (sM (eI .u8) kw ig (IntKind.u8.wrap (fc)))]
 cases c0.2;cases hl1;exact yB ar kw aa [c0]
def l65:List y8:=z0O 147 wF wF rE (eT2 WF rE) Yd::l64
def z2I [H:HS X0 l64]:OkH l65:=yS3 false func147 λa_ b_ inputs r0 aa E hE=>by
 obtain⟨r_,h0,aa⟩:=zo aa;let Z0:List HO:=[zg 1,Hm (shM wF wF ([a_,b_])),Hs (zf2 1 h0 (loC rE inputs <| loC (eSl 1 true wF) [a_,b_] <| loN))];obtain c0|c0:=zy aa
 ·cases c0.2;exact yE hE (Z0++[c0,Hm (shM F8_ F8_ [])])
 refine yK (H:=zx ((zio prog 26).or X0)) 111111 [] [11] (zI kE r0) (λz=>[(11,.own (eOs 1 false F8_ z))]) [0,1,9,10,11] (Z0++[c0,Hh (.cut 3)]) ?_ λJ1 ar=>?_
 ·rintro out aa;obtain⟨ai,h1,aa⟩:=zo aa;cases aa;exact yE hE [zg 8,Hm (shM F8_ F8_ out),Hs (zf1 8 h1 (loC wF out <| loN)),Hm (shM F8_ F8_ out)]
 obtain⟨t2,ht2,aa⟩:=zo c0.2;refine yMx 111111210 [J1] [1,9,10,11,27,28,29] (λx=>[(9,.own (.opq (QU (Yn Kv eB x.1)))),(10,.d (I x.2.1)),(11,.own (eOs 1 false F8_ x.2.2.1)),(29,.d (I x.2.2.2))]) ht2 [(9,.own (.opq (QU (Yn Kv eB ([]:List ((List UInt8)×Bool)))))),(10,.d (I 0)),(11,.own (eOs 1 true F8_ [])),(29,.d (I 0))] [Ha (lnM F8_ a_)] λ⟨kh,n_,aj,fg⟩ m2 av ae hl1 J2 au=>?_;obtain c1|c1:=zy ae
 ·refine yNs 111111210011 [J1,J2] [1,9,10,11,27,28,29] (λz:(List ((List UInt8)×Bool))×Int×List (List Int)=>kD fg z.1 z.2.1 z.2.2=some av) (λz=>[(9,.own (.opq (QU (Yn Kv eB z.1)))),(10,.d (I z.2.1)),(11,.own (eOs 1 false F8_ z.2.2))]) [c1,Hh (.cut 0)] ?_ λJ3 bg=>?_
  ·rintro⟨gn,ca,ax⟩ ae;cases ae;exact yB au _ hl1 []
  obtain⟨dv,h2,t4,ht4,ae⟩:=yg c1.2;refine yM 11111121001120110 [J1,J2,J3] [1,9,10,11,13,27,28,29,33,34,35] (λx=>[(9,.own (.opq (QU (Yn Kv eB x.1)))),(10,.d (I x.2.1)),(11,.own (eOs 1 false F8_ x.2.2.1)),(35,.d (I x.2.2.2))]) ht4  [Hi F8_ h2,Ha (lnM F8_ b_)] λ⟨eu,cd,bo,ib⟩ m4 dj ah hl2 J4 db=>?_;obtain c2|c2:=zy ah
  ·obtain⟨dx,h3,ak,h4,ah⟩:=yg c2.2;obtain⟨g0,ah⟩:=gdE ah;let Z1:List HO:=[c2,Hi F8_ h3,zC1 25 h4,Hn (apM rE g0),Hl (aM rE ak dx),Ha (lnM rE (ak++dx))];obtain c3|c3:=zy ah
   ·cases c3.2;cases hl2;cases ae;cases hl1;cases aa;exact yE (H:=zx ((xAp zt 42).or X0)) hE (Z1++[c3,Hm (shM F8_ F8_ [])])
   refine yN (H:=zx ((xAp zt 42).or X0)) 1111112100112011001100111 [J1,J2,J3,J4] [1,9,10,11,13,27,28,29,33,34,35] (λz:(List ((List UInt8)×Bool))×Int×List (List Int)=>q9 ib z.1 z.2.1 z.2.2=some dj) (λz=>[(9,.own (.opq (QU (Yn Kv eB z.1)))),(10,.d (I z.2.1)),(11,.own (eOs 1 false F8_ z.2.2))]) [1,9,10,11,13,16,27,28,29,33,34,35] (Z1++[c3,Hh (.cut 0)]) ?_ λJ5 dc=>?_
   ·rintro⟨oc,lf,gx⟩ ah;let Z2:List HO:=[Ha (lnM F8_ gx)];obtain c4|c4:=zy ah
    ·cases c4.2;cases hl2;cases ae;cases hl1;cases aa;exact yE hE (Z2++[c4,c4,c4,qT,Hm (shM F8_ F8_ [])])
    obtain c5|c5:=zy c4.2
    ·cases c5.2;cases hl2;cases ae;cases hl1;cases aa;exact yE hE (Z2++[c4,c4,c4,c5,Hm (shM F8_ F8_ [])])
    cases c5.2;exact yB db _ hl2 (Z2++[c4,c4,c4,c5])
   obtain⟨am,h5,val,h6,ah⟩:=yg c3.2;replace h6:=wL h6;let Z3:List HO:=[zC1 0 h5,Hn (⟨rfl,rfl,z6Q (λ_=>rfl) eu⟩:A.opq (QU (Yn Kv eB eu))=A.opq (QU (Yn Kv eB eu))/\z4W (Kv am)=true/\∀p∈Yn Kv eB eu,z4W p.1=true),Hx (.a (eB val)) ((zo0 (f:=Kv) (g:=eB) (z0:=false) (z:=.atom (.bool false)) rfl am eu).trans (congrArg eB h6))];obtain c6|c6:=zy ah
   ·obtain⟨g1,ah⟩:=gdE c6.2;exact yB (H:=zx ((zn7 zb3 52 (Yn Kv eB eu) (Yn Kv eB (z26 eu am true))).or ((z9N zb3 50 (Yn Kv eB eu)).or X0))) dc ((z26 eu am true),w64 (cd+(((ak++dx).length:Nat):Int)),(bo++[(ak++dx)])) ah (Z3++[c6,Hn (⟨rfl,rfl,rfl,rfl,z6Q (λ_=>rfl) eu⟩:T.own (.opq (QU (Yn Kv eB eu)))=T.own (.opq (QU (Yn Kv eB eu)))/\0=0/\z4W (Kv am)=true/\(eB true).isD=true/\∀p∈Yn Kv eB eu,z4W p.1=true),Hn (zaF (f:=Kv) (g:=eB) am true eu),Hq (dM F8_ [(ak++dx)]),Hn (dM F8_ [(ak++dx)]),Hn (aL F8_ F8_ g1),Hl (aM F8_ bo [(ak++dx)]),Ha (lnM rE (ak++dx))])
   exact yB (H:=zx ((z9N zb3 50 (Yn Kv eB eu)).or X0)) dc (eu,cd,bo) c6.2 (Z3++[c6])
  cases c2.2;cases hl2;exact yB bg (eu,cd,bo) ae [c2]
 cases c1.2;cases hl1;exact yB ar aj aa [c1]
def l66:List y8:=qW 116 yZ rE (eT2 WF rE) Zk::l65
def KR [H:HS X0 l65]:OkH l66:=yS2 false func116 λm_ k_ r0 aa E hE=>by
 obtain⟨r_,h0,aa⟩:=zo aa;let Z0:List HO:=[zC1 7 h0];obtain c0|c0:=zy aa
 ·cases c0.2;exact yE hE (Z0++[c0,Hm (shM F8_ F8_ [])])
 obtain c1|c1:=zy c0.2
 ·cases c1.2;exact yE hE (Z0++[c0,c1,Hm (shM F8_ F8_ [])])
 obtain⟨ai,h1,aa⟩:=zo c1.2;let Z1:List HO:=(Z0++[c0,c1,zC2 5 h1]);obtain c2|c2:=zy aa
 ·cases c2.2;exact yE hE (Z1++[c2,Hm (shM F8_ F8_ [])])
 obtain⟨ak,h2,aa⟩:=zo c2.2;cases aa;exact yE hE (Z1++[c2,Hk [] (z2k (hat 0)) (zf3 0 h2 (loC WF r_.1 <| loC WF ai.1 <| loC rE m_.Inputs <| loN))])
def l67:List y8:=ZY 71 yZ (eT2 WF rE) vt::l66
def QP [H:HS X0 l66]:OkH l67:=yS1 false func71 λm_ r0 aa E hE=>by obtain⟨r_,h0,aa⟩:=zo aa;cases aa;exact yE hE [zC2 0 h0]
def l68:List y8:=ZY 148 rE (KH 167 (eSp rE)) Ym::l67
def z32 [H:HS X0 l67]:OkH l68:=yS1 true func148 λn_ r0 aa E hE=>by cases aa;exact yE hE []
abbrev Ja (x0:Int)(YY:σ->z18)(x6:Int)(js:σ):List (Nat×T):=[(0,.own (.opq (YY js).q)),(1,.d (.sptr (I x0))),(5,.d (I x0)),(6,.d (I x6))]
abbrev QZ (x0:Int)(YY:σ->z18)(x6:Int)(gg:σ)(b_:Int):List (Nat×T):=[(0,.own (.opq (YY gg).q)),(1,.d (.sptr (I x0))),(3,.d (I x6)),(4,.d (I b_)),(5,.d (I x0)),(6,.d (I x6))]
abbrev J0 (x0:Int)(YY:σ->z18)(dw:σ)(x6:Int):List (Nat×T):=[(0,.own (.opq (YY dw).q)),(1,.d (.sptr (I x0))),(5,.d (I x0)),(6,.d (I x6))]
def VX [H:HS X0 l68](x0:Int):z6Y prog (.fn 167 [.sptr (I x0)]) (λ(x:Int×Int) (_:Bool) (_:Value)=>[rE x.1,rE x.2]) (@vG x0):=by
 refine z2c (tt:=ua) (nt:=f167.ntmps) (body:=zbd f167) zt func167 rfl (by kernel_rfl) rfl rfl (by show(2:Nat)<=22;decide) ?_;intro σ yv YY yy hy sg r0 aa E hE;obtain⟨t1,ht1,aa⟩:=zo aa;refine yL 110 [] (λs=>ZO x0 yy s.1 s.2) (λx=>J0 x0 YY x.1 x.2) (sg,0) ht1  [] λ⟨dw,x6⟩ m1 av ae hl1 J1 ar=>?_;obtain c0|c0:=zy ae
 ·refine yKs 110011 [J1] [0,1,5,6] (zI (ZP x6) av) (λz=>Ja x0 YY x6 z) [c0,Hh (.cut 0)] ?_ λJ2 au=>?_
  ·rintro js ae;cases ae;exact yB ar _ hl1 []
  obtain⟨t3,ht3,ae⟩:=zo c0.2;refine yL 11001120110 [J1,J2] (λs=>qR x0 yy x6 s.1 s.2) (λx=>QZ x0 YY x6 x.1 x.2) (dw,w64 (x6+1)) ht3  [] λ⟨gg,b_⟩ m3 dj ah hl2 J3 bg=>?_;obtain c1|c1:=zy ah
  ·obtain⟨yr,h0,ah⟩:=zo c1.2;let Z0:List HO:=[c1,Hn (z1x (yv:=yv) (Y:=YY) (enc:=(λ(x:Int×Int) (_:Bool) (_:Value)=>[rE x.1,rE x.2])) (s:=gg) (x:=(x6,b_)) (s':=yr.1) (b:=yr.2) (v:=.nilFunc) [rE x6,rE b_] (show JO [rE x6,rE b_] [rE x6,rE b_] from inferInstance))];obtain c2|c2:=zy ah
   ·cases c2.2;cases hl2;cases ae;cases hl1;cases aa;exact yF (H:=zx ((UI (P:=prog) ua hy 19 (s:=gg) (x:=(x6,b_)) (s':=yr.1) (b:=yr.2) .nilFunc h0).or X0)) .ret [(0,.own (.opq (YY yr.1).q))] (Z0++[c2]) λst0 h0=>hE _ st0 (.inr rfl) h0
   cases c2.2;exact yB (H:=zx ((UI (P:=prog) ua hy 19 (s:=gg) (x:=(x6,b_)) (s':=yr.1) (b:=yr.2) .nilFunc h0).or X0)) bg _ hl2 (Z0++[c2])
  cases c1.2;cases hl2;exact yB au gg ae [c1]
 cases c0.2;cases hl1;cases aa;exact yF .normal [(0,.own (.opq (YY dw).q))] [c0] λst0 h0=>hE _ st0 (.inl rfl) h0
def l69:List y8:=qW 118 rE rE eB Qe::l68
def z33 [H:HS X0 l68]:OkH l69:=yS2 true func118 λa_ b_ r0 aa E hE=>by cases aa;exact yE hE []
def l70:List y8:=qW 187 rE z3Z eB ZX::l69
def z0E [H:HS X0 l69]:OkH l70:=yS2 true func187 λs_ x1 r0 aa E hE=>by
 obtain c0|c0:=zy aa
 ·cases c0.2;exact yE hE (rpN 6 (Hb c0) [])
 cases c0.2;exact yE hE (rpN 4 (Hb c0) [Ha (lnM xH x1.Rows),c0,c0])
def vP:y8:=spF (α:=List Int×z6) (ρ:=Int) 156 (λx=>[F8_ x.1,(KH 187 z3Z) x.2]) (λr=>rE r) (λx=>xp x.1 x.2) [] (by rintro⟨a0,a1⟩ ⟨b0,b1⟩ h;have e0:=kp.inj (f:=F8_) _ _ (List.cons.inj h).1;replace h:=(List.cons.inj h).2;have e1:=kp.inj (f:=(KH 187 z3Z)) _ _ (List.cons.inj h).1;subst e0 e1;rfl)
def Ya [H:HS X0 l70]:vP.Ok prog:=by
 refine UR ?_;rintro⟨s_,f_⟩ r0 aa;refine zY true func156 λE hE=>?_;refine yK 11 [] [] (λz:Unit=>vQ=some r0) (λz=>[]) [0,1] [Hh (.cut 1)] ?_ λJ1 ar=>?_
 ·rintro⟨⟩ aa;cases aa;exact yE hE []
 refine yMb 11210 [J1] [0,1,7,8] (λx=>[(8,.d (I x))]) aa  [Ha (lnM rE s_)] λt2 aa x8 m2 av ae hl1 J2 au=>?_;obtain c0|c0:=zy ae
 ·obtain⟨eb,h0,r_,h1,ae⟩:=yg c0.2;let Z0:List HO:=[c0,Hi rE h0,zC2 0 h1];obtain c1|c1:=zy ae
  ·cases c1.2;cases hl1;cases aa;exact yE hE (Z0++[c1])
  cases c1.2;exact yB au _ hl1 (Z0++[c1])
 cases c0.2;cases hl1;exact yB ar () aa [c0]
def wZ:y8:=spF (α:=List Int×z6) (ρ:=Bool) 126 (λx=>[F8_ x.1,(KH 187 z3Z) x.2]) (λr=>eB r) (λx=>xT x.1 x.2) [] (by rintro⟨a0,a1⟩ ⟨b0,b1⟩ h;have e0:=kp.inj (f:=F8_) _ _ (List.cons.inj h).1;replace h:=(List.cons.inj h).2;have e1:=kp.inj (f:=(KH 187 z3Z)) _ _ (List.cons.inj h).1;subst e0 e1;rfl)
def v8 [H:HS X0 l70]:wZ.Ok prog:=by refine UR ?_;rintro⟨s_,f_⟩ r0 aa;refine zY true func126 λE hE=>?_;obtain⟨r_,h0,aa⟩:=zo aa;cases aa;exact yE (H:=zx ((z41 zt (Ya (H:=zd 0)) 7).or X0)) hE [Hc (Ctr.add_has KI vP) (x:=(s_,f_)) h0 (loC F8_ s_ <| loC (KH 187 z3Z) f_ <| loN)]
def l71:List y8:=qW 168 yZ F8_ rE W1::l70
def z2N [H:HS X0 l70]:OkH l71:=yS2 true func168 λm_ l_ r0 aa E hE=>by
 obtain⟨r_,h0,aa⟩:=zo aa;let Z0:List HO:=[zC1 53 h0];obtain c0|c0:=zy aa
 ·cases c0.2;exact yE hE (Z0++[c0])
 obtain⟨ai,h1,aa⟩:=zo c0.2;let Z1:List HO:=(Z0++[c0,Hc (Ctr.add_has KI wZ) (x:=(l_,m_)) h1 (loC F8_ l_ <| loC (KH 187 z3Z) m_ <| loN)]);obtain c1|c1:=zy aa
 ·cases c1.2;exact yE (H:=zx ((z41 zt (v8 (H:=zd 0)) 13).or X0)) hE (Z1++[c1])
 cases c1.2;exact yE (H:=zx ((z41 zt (v8 (H:=zd 0)) 13).or X0)) hE (Z1++[c1])
def l72:List y8:=ZY 188 yZ (KH 199 z3Z) UQ::l71
def z2O [H:HS X0 l71]:OkH l72:=yS1 true func188 λm_ r0 aa E hE=>by cases aa;exact yE hE []
abbrev QY (x0:z6)(YY:σ->z18)(x8:Int)(js:σ):List (Nat×T):=[(0,.own (.opq (YY js).q)),(1,.d (.sptr (yZ x0))),(7,.d (I ((x0.Rows.length:Nat):Int))),(8,.d (I x8))]
abbrev QV (x0:z6)(YY:σ->z18)(x8:Int)(gg:σ)(t_:Int):List (Nat×T):=[(0,.own (.opq (YY gg).q)),(1,.d (.sptr (yZ x0))),(3,.d (I x8)),(4,.d (I t_)),(7,.d (I ((x0.Rows.length:Nat):Int))),(8,.d (I x8))]
abbrev QX (x0:z6)(YY:σ->z18)(dw:σ)(x8:Int):List (Nat×T):=[(0,.own (.opq (YY dw).q)),(1,.d (.sptr (yZ x0))),(7,.d (I ((x0.Rows.length:Nat):Int))),(8,.d (I x8))]
def z0F [H:HS X0 l72](x0:z6):z6Y prog (.fn 199 [.sptr (.agg [I x0.Inputs,I x0.Outputs,eSl 1 false xH x0.Rows])]) (λ(x:Int×Int) (_:Bool) (_:Value)=>[rE x.1,rE x.2]) (@uH x0):=by
 refine z2c (tt:=ua) (nt:=f199.ntmps) (body:=zbd f199) zt func199 rfl (by kernel_rfl) rfl rfl (by show(2:Nat)<=26;decide) ?_;intro σ yv YY yy hy sg r0 aa E hE;obtain⟨t1,ht1,aa⟩:=zo aa;refine yL 110 [] (λs=>ZD x0 yy s.1 s.2) (λx=>QX x0 YY x.1 x.2) (sg,0) ht1  [Ha (lnM xH x0.Rows)] λ⟨dw,x8⟩ m1 av ae hl1 J1 ar=>?_;obtain c0|c0:=zy ae
 ·refine yKs 110011 [J1] [0,1,7,8] (zI (ZF x8) av) (λz=>QY x0 YY x8 z) [c0,Hh (.cut 0)] ?_ λJ2 au=>?_
  ·rintro js ae;cases ae;exact yB ar _ hl1 []
  obtain⟨t3,ht3,ae⟩:=zo c0.2;refine yL 11001120110 [J1,J2] (λs=>qI x0 yy x8 s.1 s.2) (λx=>QV x0 YY x8 x.1 x.2) (dw,w64 (x8+1)) ht3  [] λ⟨gg,t_⟩ m3 dj ah hl2 J3 bg=>?_;let Z0:List HO:=[Ha (lnM xH x0.Rows)];obtain c1|c1:=zy ah
  ·obtain⟨yr,h0,ah⟩:=zo c1.2;let Z1:List HO:=(Z0++[c1,Hn (z1x (yv:=yv) (Y:=YY) (enc:=(λ(x:Int×Int) (_:Bool) (_:Value)=>[rE x.1,rE x.2])) (s:=gg) (x:=(x8,t_)) (s':=yr.1) (b:=yr.2) (v:=.nilFunc) [rE x8,rE t_] (show JO [rE x8,rE t_] [rE x8,rE t_] from inferInstance))]);obtain c2|c2:=zy ah
   ·cases c2.2;cases hl2;cases ae;cases hl1;cases aa;exact yF (H:=zx ((UI (P:=prog) ua hy 23 (s:=gg) (x:=(x8,t_)) (s':=yr.1) (b:=yr.2) .nilFunc h0).or X0)) .ret [(0,.own (.opq (YY yr.1).q))] (Z1++[c2]) λst0 h0=>hE _ st0 (.inr rfl) h0
   cases c2.2;exact yB (H:=zx ((UI (P:=prog) ua hy 23 (s:=gg) (x:=(x8,t_)) (s':=yr.1) (b:=yr.2) .nilFunc h0).or X0)) bg _ hl2 (Z1++[c2])
  cases c1.2;cases hl2;exact yB au gg ae (Z0++[c1])
 cases c0.2;cases hl1;cases aa;exact yF .normal [(0,.own (.opq (YY dw).q))] [c0] λst0 h0=>hE _ st0 (.inl rfl) h0
def xM:y8:=spR (α:=List Int×Int) (ρ:=List Int) 202 (λx:List Int×Int=>[F4_ x.1,rE x.2]) (λr:List Int=>F7_ r) (λx:List Int×Int=>xC x.1 x.2) [] (zp2)
def XS:∀x r,(λx:List Int×Int=>xC x.1 x.2) x=some r->(KI.add xM).run 202 ((KI.add xM).norm 202 ((λx:List Int×Int=>[F4_ x.1,rE x.2]) x))=some ((λr:List Int=>F7_ r) r):=λx r h=>zmF (F:=λx:List Int×Int=>xC x.1 x.2) (x:=x) h rfl
def XU:(KI.add xM).gives 202=[]:=zhx
def Wg [H:HS X0 l72]:xM.Ok prog:=by
 refine za6 ?_;rintro⟨l,n⟩ r0 aa;cases l with
 | cons a l=>cases aa
 | nil=>
  have h1:0<n/\n<=1000000:=by
   have h2:(decide (0<n)&&decide (n<=1000000))=true:=by
    cases h:(decide (0<n)&&decide (n<=1000000)) with
    | true=>rfl
    | false=>have h3:(bif (true&&(decide (0<n)&&decide (n<=1000000))) then some [] else none)=some r0:=aa;rw[h]at h3;cases h3
   simpa using h2
  have h3:(bif (true&&(decide (0<n)&&decide (n<=1000000))) then some ([]:List Int) else none)=some r0:=aa;rw[decide_eq_true h1.1,decide_eq_true h1.2]at h3;cases h3;exact zbt n h1.1 h1.2
def l73:List y8:=ZY 200 wF F7_ ve::l72
def Vf [H:HS X0 l72]:OkH l73:=yS1 true func200 λslices r0 aa E hE=>by
 refine yNs 111 [] [0,3] (zI (vT slices) r0) (λz=>[(3,.d (I z))]) [Hh (.cut 2)] ?_ λJ1 ar=>?_
 ·rintro size aa;obtain⟨r_,h0,aa⟩:=zo aa;refine yK (H:=zx ((z41 zt (Wg (H:=zd 0)) 24).or X0)) 11111 [] [6] (zI vS r0) (λz=>[(6,.own (eOs 1 false rE z))]) [0,6] [Hh (.g []),Hn XU,Hx (.a (F7_ r_)) (XS ([],size) _ h0),Hh (.cut 0)] ?_ λJ2 au=>?_
  ·rintro mr aa;cases aa;exact yE hE []
  refine yMb 11111210 [J2] [6,25,26,27] (λx=>[(6,.own (eOs 1 false rE x.1)),(27,.d (I x.2))]) aa  [Ha (lnM F8_ slices)] λt3 aa ⟨iu,pc⟩ m3 av ae hl1 J3 bg=>?_;obtain c0|c0:=zy ae
  ·obtain⟨lu,h1,ae⟩:=zo c0.2;obtain⟨g0,ae⟩:=gdE ae;cases ae;exact yB bg _ hl1 [c0,Hi F8_ h1,Hn (dM rE lu),Hn (aL rE rE g0),Hl (aM rE iu lu)]
  cases c0.2;cases hl1;exact yB au iu aa [c0]
 refine yMb 111210 [J1] [0,3,9,10,11] (λx=>[(3,.d (I x.1)),(11,.d (I x.2))]) aa  [Ha (lnM F8_ slices)] λt4 aa ⟨l8,ig⟩ m4 av ae hl1 J4 db=>?_;obtain c1|c1:=zy ae
 ·obtain⟨ly,h2,ae⟩:=zo c1.2;let Z0:List HO:=[c1,Hi F8_ h2,Ha (lnM rE ly)];obtain c2|c2:=zy ae
  ·cases c2.2
  cases c2.2;exact yB db _ hl1 (Z0++[c2])
 cases c1.2;cases hl1;exact yB ar l8 aa [c1]
abbrev VW (n_:Int)(f_:ArN 64 (ArN 64 (List Int)))(out:List Int):List (Nat×T):=[(0,.own (.box (xL 64 (xL 64 (eNl 1 rE)) f_))),(4,.d (I n_)),(11,.own (eOs 1 false rE out))]
abbrev VV (m_:z6)(t_:Int)(n_:Int)(f_:ArN 64 (ArN 64 (List Int)))(ap:List zl)(i7:Int):List (Nat×T):=[(0,.own (.box (xL 64 (xL 64 (eNl 1 rE)) f_))),(3,.d (I t_)),(4,.d (I n_)),(6,.own (.box (yZ m_))),(11,.own (eOs 1 true rE [])),(19,.d (eSl 2 false WD ap)),(20,.d (I ((ap.length:Nat):Int))),(21,.d (I i7))]
abbrev VU (m_:z6)(t_:Int)(n_:Int)(f_:ArN 64 (ArN 64 (List Int)))(ap:List zl)(i7:Int):List (Nat×T):=[(0,.own (.box (xL 64 (xL 64 (eNl 1 rE)) f_))),(3,.d (I t_)),(4,.d (I n_)),(6,.own (.box (yZ m_))),(11,.own (eOs 1 true rE [])),(19,.d (eSl 2 false WD ap)),(20,.d (I ((ap.length:Nat):Int))),(21,.d (I i7))]
def X3 [H:HS X0 l73](bz:Value):∀(m_:z6) (s_:Int) (t_:Int) (n_:Int) (f_:ArN 64 (ArN 64 (List Int))) (r0:List Int×ArN 64 (ArN 64 (List Int))),vO m_ s_ t_ n_ f_=some r0->qG prog (.fn 189 []) [.atom bz,.agg [I m_.Inputs,I m_.Outputs,eSl 1 false xH m_.Rows],I s_,I t_,I n_] ([bz].zip [.box (xL 64 (xL 64 (eNl 1 rE)) f_)]) (eNl 1 rE r0.1) [.box (xL 64 (xL 64 (eNl 1 rE)) r0.2)]:=by
 intro m_ s_ t_ n_ f_ r0 aa;refine zbf (tt:=ua) (nt:=f189.ntmps) (body:=zbd f189) [0] zt func189 rfl (by kernel_rfl) rfl rfl (by show(5:Nat)<=85;decide) (by decide) rfl rfl rfl rfl (λE hG hE=>?_) rfl;unfold vO at aa;refine yA (H:=zx ((xRe prog 10 (.atom (.slice none 0 0)) (eNl 1 rE ([]:List Int)) (zfs 1)).or ((Wc zt (.inl 76) [66]).or X0))) 11 [] [(0,.own (.box (xL 64 (xL 64 (eNl 1 rE)) f_))),(2,.d (I s_)),(3,.d (I t_)),(4,.d (I n_)),(6,.own (.box (yZ m_)))] [Hn (rfl:T.d (.atom (.slice none 0 0))=T.d (.atom (.slice none 0 0)))] ?_;refine zeU (c':=(sub [1,0] (zbd f189))) (by kernel_rfl) hG ?_;refine yJ (H:=zx ((Wc zt (.inl 76) [66]).or X0)) 11011 [] [0,4,11] (λz:List Int=>vK n_ f_ z=some r0) (λz=>VW n_ f_ z) [(0,.own (.box (xL 64 (xL 64 (eNl 1 rE)) f_))),(2,.d (I s_)),(3,.d (I t_)),(4,.d (I n_)),(6,.own (.box (yZ m_))),(11,.own (eOs 1 true rE []))] [Hh (.cut 2)] ?_ λJ1 ar=>?_
 ·rintro out aa;unfold vK at aa;obtain c0|c0:=zy aa
  ·obtain rfl:=wL c0.2;exact yF (H:=zx ((xRe prog 10 (.atom (.slice none 0 0)) (eNl 1 rE ([]:List Int)) (zfs 1)).or ((Wc zt (.inl 76) [66]).or X0))) .ret [(0,.own (.box (xL 64 (xL 64 (eNl 1 rE)) f_))),(10,.d (eNl 1 rE ([]:List Int)))] [Ha (lnM rE out),c0,Hn (rfl:T.d (.atom (.slice none 0 0))=T.d (.atom (.slice none 0 0)))] λst0 h0=>hE _ st0 (.inr rfl) (Xy h0 ⟨⟨rfl,rfl⟩,trivial⟩) (zo3 h0 rfl rfl)
  obtain⟨r_,h0,aa⟩:=zo c0.2;obtain⟨g0,aa⟩:=gdE aa;obtain rfl:=wL aa;exact yF (H:=zx ((xRe prog 10 (eSl 1 true rE r_) (eNl 1 rE r_) (λS v q=>(LeA.slNl 1 true rE g0).repV q)).or ((Wc zt (.inl 76) [66]).or X0))) .ret [(0,.own (.box (xL 64 (xL 64 (eNl 1 rE)) f_))),(10,.d (eNl 1 rE r_))] [Ha (lnM rE out),c0,zg 34,Hm (shM rE rE out),Hs (zf1 34 h0 (loC F8_ out <| loN)),Hm (shM rE rE out),Hn (rfl:T.d (eSl 1 true rE r_)=T.d (eSl 1 true rE r_))] λst0 h0=>hE _ st0 (.inr rfl) (Xy h0 ⟨⟨rfl,rfl⟩,trivial⟩) (zo3 h0 rfl rfl)
 obtain⟨ap,h1,t2,ht2,aa⟩:=yg aa;refine yL (H:=zx ((Wc zt (.inl 76) [66]).or X0)) 11011210 [J1] (λs=>wt m_ t_ n_ f_ ap s) (λx=>VU m_ t_ n_ f_ ap x) 0 ht2  [Hi xH h1,Ha (lnM WD ap)] λi7 m2 av ae hl1 J2 au=>?_;try unfold wt at ae;obtain c1|c1:=zy ae
 ·refine yJ (H:=zx ((Wc zt (.inl 76) [66]).or X0)) 11011210011 [J1,J2] [0,3,4,6,11,19,20,21] (λz:Unit=>xG i7=some av) (λz=>VV m_ t_ n_ f_ ap i7) [(0,.own (.box (xL 64 (xL 64 (eNl 1 rE)) f_))),(3,.d (I t_)),(4,.d (I n_)),(6,.own (.box (yZ m_))),(11,.own (eOs 1 true rE [])),(19,.d (eSl 2 false WD ap)),(20,.d (I ((ap.length:Nat):Int))),(21,.d (I i7))] [c1,Hh (.cut 0)] ?_ λJ3 bg=>?_
  ·rintro⟨⟩ ae;unfold xG at ae;obtain rfl:=wL ae;exact yB (H:=zx ((Wc zt (.inl 76) [66]).or X0)) au _ hl1 []
  obtain⟨al,h2,du,h3,bp,h4,ae⟩:=ZS c1.2;let Z0:List HO:=[Hi WD h2,Hi xH h3,Hi WD h4];obtain c2|c2:=zy ae
  ·obtain rfl:=wL c2.2;obtain rfl:=hl1;exact yBx (H:=zx ((Wc zt (.inl 76) [66]).or X0)) ar [i7] aa [(0,.own (.box (xL 64 (xL 64 (eNl 1 rE)) f_))),(4,.d (I n_)),(11,.own (eOs 1 true rE ([i7])))] inferInstance (Z0++[c2])
  obtain c3|c3:=zy c2.2
  ·let Z1:List HO:=(Z0++(Hb c2::(rpN 4 (Hb c3) [])));obtain c4|c4:=zy c3.2
   ·obtain⟨cell,h5,co,h6,ae⟩:=yg c4.2;let Z2:List HO:=(Z1++(rpN 7 (Hb c4) (Hn (⟨Qn (by kernel_rfl) f_ (i0 h5),(iL (xL 64 (eNl 1 rE)) h5).2⟩:ku ua 246 ((f_.l).map (xL 64 (eNl 1 rE))) al.To=true/\al.To.toNat<((f_.l).map (xL 64 (eNl 1 rE))).length)::Hb c4::Hh (.f)::Hs (iM (xL 64 (eNl 1 rE)) h5)::Hn (⟨Qn (by kernel_rfl) cell (i0 h6),(iL (eNl 1 rE) h6).2⟩:ku ua 221 ((cell.l).map (eNl 1 rE)) bp.To=true/\bp.To.toNat<((cell.l).map (eNl 1 rE)).length)::Hb c4::Hh (.f)::Hs (iM (xL 64 (eNl 1 rE)) h5)::Hh (.f)::Hs (iM (eNl 1 rE) h6)::Hn (rfl:T.d (eNl 1 rE co)=T.d (eNl 1 rE co))::Hb c4::Ha (lnM rE co)::(rpN 4 (Hb c4) []))));obtain c5|c5:=zy ae
    ·obtain⟨iv,h7,d9,h8,ai,h9,ae⟩:=ZS c5.2;obtain rfl:=wL ae;obtain rfl:=hl1;exact yB (H:=zx ((xLs zt 75 (eNl 1 rE d9) (eSl 1 false rE d9) inferInstance).or ((xBl zt 66).or ((xLs zt 59 (eNl 1 rE co) (eSl 1 false rE co) inferInstance).or ((Wc zt (.inl 76) [66]).or X0))))) ar ai aa (Z2++[c5,Hn (⟨Qn (by kernel_rfl) f_ (i0 h7),(iL (xL 64 (eNl 1 rE)) h7).2⟩:ku ua 246 ((f_.l).map (xL 64 (eNl 1 rE))) al.To=true/\al.To.toNat<((f_.l).map (xL 64 (eNl 1 rE))).length),Hh (.op 9),Hh (.f),Hs (iM (xL 64 (eNl 1 rE)) h7),Hn (⟨Qn (by kernel_rfl) iv (i0 h8),(iL (eNl 1 rE) h8).2⟩:ku ua 221 ((iv.l).map (eNl 1 rE)) bp.To=true/\bp.To.toNat<((iv.l).map (eNl 1 rE)).length),Hh (.op 0),Hh (.f),Hs (iM (xL 64 (eNl 1 rE)) h7),Hh (.f),Hs (iM (eNl 1 rE) h8),Hn (rfl:T.d (eNl 1 rE d9)=T.d (eNl 1 rE d9)),Hm (shM rE rE ([i7])),zg 0,Hm (shM F8_ F8_ ([[i7],d9])),Hs (zf1 0 h9 (loC z5s [[i7],d9] <| loN)),Hm (shM F8_ F8_ ([[i7],d9]))])
    exact yB (H:=zx ((xLs zt 59 (eNl 1 rE co) (eSl 1 false rE co) inferInstance).or ((Wc zt (.inl 76) [66]).or X0))) bg () c5.2 (Z2++[c5])
   exact yB (H:=zx ((Wc zt (.inl 76) [66]).or X0)) bg () c4.2 (Z1++(rpN 14 (Hb c4) [qF]))
  exact yB (H:=zx ((Wc zt (.inl 76) [66]).or X0)) bg () c3.2 (Z0++(Hb c2::(rpN 4 (Hb c3) (rpN 15 qF []))))
 obtain rfl:=wL c1.2;obtain rfl:=hl1;exact yBx (H:=zx ((Wc zt (.inl 76) [66]).or X0)) ar ([]:List Int) aa [(0,.own (.box (xL 64 (xL 64 (eNl 1 rE)) f_))),(4,.d (I n_)),(11,.own (eOs 1 true rE []))] inferInstance [c1]
def JT [H:HS X0 l73](bz:Value):∀(s_:Int) (t_:Int) (w_:List Int) (f_:ArN 64 (ArN 64 (List Int))) (r0:ArN 64 (ArN 64 (List Int))),uC s_ t_ w_ f_=some r0->qG prog (.fn 190 []) [.atom bz,I s_,I t_,eNl 1 rE w_] ([bz].zip [.box (xL 64 (xL 64 (eNl 1 rE)) f_)]) (.tup []) [.box (xL 64 (xL 64 (eNl 1 rE)) r0)]:=by intro s_ t_ w_ f_ r0 aa;refine z57 (tt:=ua) (nt:=f190.ntmps) (body:=zbd f190) [0] zt func190 rfl (by kernel_rfl) rfl rfl (by show(4:Nat)<=22;decide) (by decide) rfl rfl (λE hE=>?_) rfl;unfold uC at aa;refine zhW 0 (v:=bz) ⟨_,rfl⟩ (by kernel_rfl) λb0 hb0=>?_;subst hb0;obtain⟨cell,h0,co,h1,arr,h2,aa⟩:=ZS aa;replace h2:=wL h2;obtain⟨arr1,h3,aa⟩:=zo aa;replace h3:=wL h3;obtain⟨iv,h4,d9,h5,arr2,h6,aa⟩:=ZS aa;replace h6:=wL h6;obtain⟨pt,h7,aa⟩:=zo aa;replace h7:=wL h7;obtain rfl:=wL aa;exact yF (H:=zx ((xIr zt 21 0 t_.toNat b0).or ((xRi zt 20 64 64 b0).or ((xNr prog 19 b0).or ((xMv prog 11 0 (z1T b0) rfl).or X0))))) .normal [(0,.own (.box (xL 64 (xL 64 (eNl 1 rE)) pt)))] [Hn (rfl:some (z1T b0)=some (z1T b0)),Hn (⟨Qn (by kernel_rfl) f_ (i0 h0),(iL (xL 64 (eNl 1 rE)) h0).2⟩:ku ua 246 ((f_.l).map (xL 64 (eNl 1 rE))) s_=true/\s_.toNat<((f_.l).map (xL 64 (eNl 1 rE))).length),Hh (.op 10),Hh (.f),Hs (iM (xL 64 (eNl 1 rE)) h0),Hn (⟨Qn (by kernel_rfl) cell (i0 h1),(iL (eNl 1 rE) h1).2⟩:ku ua 221 ((cell.l).map (eNl 1 rE)) t_=true/\t_.toNat<((cell.l).map (eNl 1 rE)).length),Hh (.op 0),Hh (.f),Hs (iM (xL 64 (eNl 1 rE)) h0),Hh (.f),Hs (iM (eNl 1 rE) h1),Hh (.f),Hs (iM (xL 64 (eNl 1 rE)) h0),Hh (.f),Hs (iM (eNl 1 rE) h1),Hx (.l ((arr.l).map (eNl 1 rE))) ((ArN.setL (eNl 1 rE) cell t_ w_).trans (congrArg (λq=>(ArN.l q).map (eNl 1 rE)) h2)),Hx (.l ((arr1.l).map (xL 64 (eNl 1 rE)))) ((ArN.setL (xL 64 (eNl 1 rE)) f_ s_ arr).trans (congrArg (λq=>(ArN.l q).map (xL 64 (eNl 1 rE))) h3)),Hn (rfl:T.d (.atom (z1T b0))=T.d (.atom (z1T b0))),Hn (⟨rfl,i0 h4,zfY (x:=arr1) h4⟩:T.d (.atom (z1T b0))=T.d (.atom (z1T b0))/\0<=t_/\t_.toNat<64),Hn (⟨⟨congrArg (λk=>T.d (.atom (.pointer (some ⟨b0,k,none⟩)))) (zhX (f:=(xL 64 (eNl 1 rE))) arr1 h4).symm,(iL (xL 64 (eNl 1 rE)) h4).2⟩,rfl⟩:(T.d (.atom (.pointer (some ⟨b0,t_.toNat*64,none⟩)))=T.d (.atom (.pointer (some ⟨b0,A.sizes (((arr1.l).map (xL 64 (eNl 1 rE))).take t_.toNat),none⟩)))/\t_.toNat<((arr1.l).map (xL 64 (eNl 1 rE))).length)/\some (z1T b0)=some (z1T b0)),Hh (.op 2),Hh (.f),Hs (iM (xL 64 (eNl 1 rE)) h4),Hn (⟨Qn (by kernel_rfl) iv (i0 h5),(iL (eNl 1 rE) h5).2⟩:ku ua 221 ((iv.l).map (eNl 1 rE)) s_=true/\s_.toNat<((iv.l).map (eNl 1 rE)).length),Hh (.op 0),Hh (.f),Hs (iM (xL 64 (eNl 1 rE)) h4),Hh (.f),Hs (iM (eNl 1 rE) h5),Hh (.f),Hs (iM (xL 64 (eNl 1 rE)) h4),Hh (.f),Hs (iM (eNl 1 rE) h5),Hx (.l ((arr2.l).map (eNl 1 rE))) ((ArN.setL (eNl 1 rE) iv s_ w_).trans (congrArg (λq=>(ArN.l q).map (eNl 1 rE)) h6)),Hx (.l ((pt.l).map (xL 64 (eNl 1 rE)))) ((ArN.setL (xL 64 (eNl 1 rE)) arr1 t_ arr2).trans (congrArg (λq=>(ArN.l q).map (xL 64 (eNl 1 rE))) h7))] λst0 h0=>hE _ st0 (.inl rfl) (Xy h0 ⟨⟨rfl,rfl⟩,trivial⟩)
def l74:List y8:=ZY 169 yZ (eBx (xL 64 (xL 64 (eNl 1 rE)))) uB::l73
abbrev UA (f_:ArN 64 (ArN 64 (List Int))):List (Nat×T):=[(3,.own (.box (.box (xL 64 (xL 64 (eNl 1 rE)) f_))))]
abbrev Uz (m_:z6)(n_:Int)(ni:ArN 64 (ArN 64 (List Int))):List (Nat×T):=[(1,.own (.box (yZ m_))),(3,.own (.box (.box (xL 64 (xL 64 (eNl 1 rE)) ni)))),(4,.own (.box (I n_)))]
abbrev Uw (m_:z6)(n_:Int)(now:List zZ)(od:ArN 64 (ArN 64 (List Int)))(pd:Int):List (Nat×T):=[(1,.own (.box (yZ m_))),(3,.own (.box (.box (xL 64 (xL 64 (eNl 1 rE)) od)))),(4,.own (.box (I n_))),(48,.d (eSl 4 false (zL rE rE (eNl 1 rE) eB) now)),(49,.d (I ((now.length:Nat):Int))),(50,.d (I pd))]
abbrev Uy (m_:z6)(n_:Int)(p9:ArN 64 (ArN 64 (List Int)))(now:List zZ):List (Nat×T):=[(1,.own (.box (yZ m_))),(3,.own (.box (.box (xL 64 (xL 64 (eNl 1 rE)) p9)))),(4,.own (.box (I n_))),(5,.own (.box (eOs 4 false (zL rE rE (eNl 1 rE) eB) now)))]
abbrev wY (m_:z6)(n_:Int)(ai:z6)(j9:ArN 64 (ArN 64 (List Int)))(jk:List zZ):List (Nat×T):=[(1,.own (.box (yZ m_))),(3,.own (.box (.box (xL 64 (xL 64 (eNl 1 rE)) j9)))),(4,.own (.box (I n_))),(5,.own (.box (eOs 4 false (zL rE rE (eNl 1 rE) eB) jk))),(22,.d (.fn 199 [.sptr (.agg [I ai.Inputs,I ai.Outputs,eSl 1 false xH ai.Rows])]))]
abbrev Ux (m_:z6)(ky:ArN 64 (ArN 64 (List Int)))(n_:Int):List (Nat×T):=[(1,.own (.box (yZ m_))),(3,.own (.box (.box (xL 64 (xL 64 (eNl 1 rE)) ky)))),(4,.own (.box (I n_)))]
def JS [H:HS X0 l73]:OkH l74:=by
 refine zO1 λm_ r0 aa=>?_;try unfold uB at aa;refine z5g (tt:=ua) (rs:=[(true,2,none)]) (n:=⟨f169.ntmps,[]⟩) (body:=zbd f169) zt func169 rfl (by kernel_rfl) rfl rfl (by show(1:Nat)<=65;decide) λE hE=>?_
 refine yJ 111 [] [3] (λz:ArN 64 (ArN 64 (List Int))=>uq z=some r0) (λz=>UA z) [(1,.own (.box (yZ m_))),(3,.own (.box (.box (xL 64 (xL 64 (eNl 1 rE)) (ArN.rep 64 (ArN.rep 64 ([]:List Int)))))))] [Hh (.cut 2)] ?_ λJ1 ar=>?_
 ·rintro f_ aa;unfold uq at aa;obtain rfl:=wL aa;let ZE:List HO:=[];exact z2v X0 zt H.ok z20 hE 4000 (hs:=hoH ZE) (x:=(.box (xL 64 (xL 64 (eNl 1 rE)) f_))) (hoB ZE) (by kernel_rfl) (LeV.refl _)
 obtain⟨t2,ht2,aa⟩:=zo aa;refine yL 111210 [J1] (λs=>ul m_ s.1 s.2) (λx=>Ux m_ x.1 x.2) ((ArN.rep 64 (ArN.rep 64 ([]:List Int))),1) ht2  [] λ⟨ky,n_⟩ m2 av ae hl1 J2 au=>?_;try unfold ul at ae
 let Z0:List HO:=[Ha (lnM xH m_.Rows)];obtain c0|c0:=zy ae
 ·refine yJ 11121001 [J1,J2] [1,3,4] (λz:ArN 64 (ArN 64 (List Int))=>uo n_ z=some av) (λz=>Uz m_ n_ z) [(1,.own (.box (yZ m_))),(3,.own (.box (.box (xL 64 (xL 64 (eNl 1 rE)) ky)))),(4,.own (.box (I n_)))] (Z0++[c0,Hh (.cut 0)]) ?_ λJ3 bg=>?_
  ·rintro ni ae;unfold uo at ae;obtain rfl:=wL ae;exact yB au _ hl1 []
  refine yJ 11121001201 [J1,J2,J3] [1,3,4,5] (λz:ArN 64 (ArN 64 (List Int))×List zZ=>um n_ z.1 z.2=some av) (λz=>Uy m_ n_ z.1 z.2) [(1,.own (.box (yZ m_))),(3,.own (.box (.box (xL 64 (xL 64 (eNl 1 rE)) ky)))),(4,.own (.box (I n_))),(5,.own (.box (eOs 4 true (zL rE rE F8_ eB) [])))] [Hh (.cut 1)] ?_ λJ4 db=>?_
  ·rintro⟨p9,now⟩ ae;unfold um at ae;obtain⟨t5,ht5,ae⟩:=zo ae;refine yL 11121001201110 [J1,J2,J3] (λs=>wS now s.1 s.2) (λx=>Uw m_ n_ now x.1 x.2) (p9,0) ht5  [Hh (.v 0 [5]),Hm (shM (zL rE rE (eNl 1 rE) eB) (zL rE rE (eNl 1 rE) eB) now),Hh (.v 1 [5]),Ha (lnM (zL rE rE (eNl 1 rE) eB) now)] λ⟨od,pd⟩ m5 dj ah hl2 J5 dc=>?_;try unfold wS at ah;obtain c1|c1:=zy ah
   ·obtain⟨ic,h0,r_,h1,ah⟩:=yg c1.2;obtain rfl:=wL ah;exact yB (H:=zx ((z9O (P:=prog) ua 3 0 (fa:=.fn 190 []) (z:=.box (xL 64 (xL 64 (eNl 1 rE)) od)) (z':=.box (xL 64 (xL 64 (eNl 1 rE)) r_)) (r:=.tup []) (xl:=[]) (xr:=[rE ic.S,rE ic.T,(eNl 1 rE) ic.Word]) rfl rfl (λv=>JT (H:=zd 0) v _ _ _ _ _ h1) 61).or X0)) dc _ hl2 [c1,Hi (zL rE rE (eNl 1 rE) eB) h0,Hn (⟨rfl,leP (show JO [] [] from inferInstance),leP (show JO [rE ic.S,rE ic.T,(eNl 1 rE) ic.Word] [rE ic.S,rE ic.T,(eNl 1 rE) ic.Word] from inferInstance),rfl,rfl⟩:([.fn 190 []]:List A)=[.fn 190 []]/\LeP [] []/\LeP [rE ic.S,rE ic.T,(eNl 1 rE) ic.Word] [rE ic.S,rE ic.T,(eNl 1 rE) ic.Word]/\T.als 3 [.deref] 0 0=T.als 3 [.deref] 0 0/\T.own (.box (.box (xL 64 (xL 64 (eNl 1 rE)) od)))=T.own (.box (.box (xL 64 (xL 64 (eNl 1 rE)) od))))]
   obtain rfl:=wL c1.2;obtain rfl:=hl2;exact yB bg od ae [c1]
  obtain⟨ai,h2,t6,kb,ae⟩:=yg c0.2;refine yAt (sub [1,1,2,1,0,0,1,2,0,1,2,1,0] (zbd f169)) (frs [1,1,2,1,0,0,1,2,0,1,2,1,0] [J1,J2,J3,J4] (zbd f169) []) [(1,.own (.box (yZ m_))),(3,.own (.box (.box (xL 64 (xL 64 (eNl 1 rE)) ky)))),(4,.own (.box (I n_))),(5,.own (.box (eOs 4 true (zL rE rE (eNl 1 rE) eB) []))),(22,.d (.fn 199 [.sptr (.agg [I ai.Inputs,I ai.Outputs,eSl 1 false xH ai.Rows])]))] [zC1 1 h2] λst0 h0=>?_;refine z0d (g:=.tmp 22) (ps:=[23,24]) (assign:=(sub [1,1,2,1,0,0,1,2,0,1,2,1,0,0] (zbd f169))) (body:=(sub [1,1,2,1,0,0,1,2,0,1,2,1,0,1] (zbd f169))) (K:=199) (caps:=[.sptr (.agg [I ai.Inputs,I ai.Outputs,eSl 1 false xH ai.Rows])]) (by kernel_rfl) [1,3,4,5,22] (λs=>wY m_ n_ ai s.1 s.2) (λz=>nomatch z) (λz=>nomatch z) ((λ(x:Int×Int) (_:Bool) (_:Value)=>[rE x.1,rE x.2])) (F:=@uH ai) (λs x=>xj m_ n_ s.1 s.2 x.1 x.2) (ky,([]:List zZ)) t6 _ h0 inferInstance (by kernel_rfl) (by decide) (λ_=>rfl) (by rintro⟨⟩) (by kernel_rfl) (λ_ _ _=>rfl) (z0F (H:=zd 1) ai) kb ?_ ?_
  ·rintro sr ⟨j9,jk⟩ ⟨kx,ga⟩ vr dj ah;replace ah:xj m_ n_ j9 jk kx ga=some dj:=ah;unfold xj at ah;refine yF .normal [(1,.own (.box (yZ m_))),(3,.own (.box (.box (xL 64 (xL 64 (eNl 1 rE)) j9)))),(4,.own (.box (I n_))),(5,.own (.box (eOs 4 false (zL rE rE (eNl 1 rE) eB) jk))),(6,.d (I kx)),(7,.d (I ga)),(22,.d (.fn 199 [.sptr (.agg [I ai.Inputs,I ai.Outputs,eSl 1 false xH ai.Rows])]))] [] λst0 h0=>⟨rfl,z5j h0 ?_⟩;obtain⟨cell,h3,co,h4,ah⟩:=yg ah;let Z1:List HO:=[Hn (⟨Qn (by kernel_rfl) j9 (i0 h3),(iL (xL 64 (eNl 1 rE)) h3).2⟩:ku ua 246 ((j9.l).map (xL 64 (eNl 1 rE))) kx=true/\kx.toNat<((j9.l).map (xL 64 (eNl 1 rE))).length),Hh (.op 5),Hh (.f),Hs (iM (xL 64 (eNl 1 rE)) h3),Hn (⟨Qn (by kernel_rfl) cell (i0 h4),(iL (eNl 1 rE) h4).2⟩:ku ua 221 ((cell.l).map (eNl 1 rE)) ga=true/\ga.toNat<((cell.l).map (eNl 1 rE)).length),Hh (.op 0),Hh (.f),Hs (iM (xL 64 (eNl 1 rE)) h3),Hh (.f),Hs (iM (eNl 1 rE) h4),Hn (⟨rfl,rfl⟩:T.d (eNl 1 rE co)=T.d (eNl 1 rE co)/\T.d (.atom (.slice none 0 0))=T.d (.atom (.slice none 0 0)))];obtain c2|c2:=zy ah
   ·obtain rfl:=wL c2.2;exact yF (H:=zx ((zin zt 32 51 1 (co.map rE) true (!co.isEmpty) (by kernel_rfl) (nlB true rE co)).or X0)) .normal (wY m_ n_ ai j9 jk) (Z1++[c2]) λst0 h0=>⟨rfl,_,h0,LeL.refl _⟩
   obtain⟨ak,h5,ah⟩:=zo c2.2;let Z2:List HO:=(Z1++[c2,Hn (⟨rfl,leP (show JO [] [] from inferInstance),leP (show JO [yZ m_,rE kx,rE ga,rE n_] [yZ m_,rE kx,rE ga,rE n_] from inferInstance),rfl,rfl⟩:([.fn 189 []]:List A)=[.fn 189 []]/\LeP [] []/\LeP [yZ m_,rE kx,rE ga,rE n_] [yZ m_,rE kx,rE ga,rE n_]/\T.als 3 [.deref] 0 0=T.als 3 [.deref] 0 0/\T.own (.box (.box (xL 64 (xL 64 (eNl 1 rE)) j9)))=T.own (.box (.box (xL 64 (xL 64 (eNl 1 rE)) j9)))),Hn (⟨rfl,rfl⟩:T.d (eNl 1 rE ak.1)=T.d (eNl 1 rE ak.1)/\T.d (.atom (.slice none 0 0))=T.d (.atom (.slice none 0 0)))]);obtain c3|c3:=zy ah
   ·obtain⟨g0,ah⟩:=gdE c3.2;obtain rfl:=wL ah;exact yF (H:=zx ((zin zt 40 51 1 (ak.1.map rE) true (!ak.1.isEmpty) (by kernel_rfl) (nlB true rE ak.1)).or ((z9O (P:=prog) ua 3 0 (fa:=.fn 189 []) (z:=.box (xL 64 (xL 64 (eNl 1 rE)) j9)) (z':=.box (xL 64 (xL 64 (eNl 1 rE)) ak.2)) (r:=eNl 1 rE ak.1) (xl:=[]) (xr:=[yZ m_,rE kx,rE ga,rE n_]) rfl rfl (λv=>X3 (H:=zd 0) v _ _ _ _ _ _ h5) 38).or ((zin zt 32 51 1 (co.map rE) true (!co.isEmpty) (by kernel_rfl) (nlB true rE co)).or X0)))) .normal (wY m_ n_ ai ak.2 (jk++[(zZ.mk kx ga ak.1 false)])) (Z2++[c3,Hq (dM (zL rE rE (eNl 1 rE) eB) [(zZ.mk kx ga ak.1 false)]),Hn (dM (zL rE rE (eNl 1 rE) eB) [(zZ.mk kx ga ak.1 false)]),Hn (aL (zL rE rE (eNl 1 rE) eB) (zL rE rE (eNl 1 rE) eB) g0),Hl (aM (zL rE rE (eNl 1 rE) eB) jk [(zZ.mk kx ga ak.1 false)])]) λst0 h0=>⟨rfl,_,h0,LeL.refl _⟩
   obtain rfl:=wL c3.2;exact yF (H:=zx ((zin zt 40 51 1 (ak.1.map rE) true (!ak.1.isEmpty) (by kernel_rfl) (nlB true rE ak.1)).or ((z9O (P:=prog) ua 3 0 (fa:=.fn 189 []) (z:=.box (xL 64 (xL 64 (eNl 1 rE)) j9)) (z':=.box (xL 64 (xL 64 (eNl 1 rE)) ak.2)) (r:=eNl 1 rE ak.1) (xl:=[]) (xr:=[yZ m_,rE kx,rE ga,rE n_]) rfl rfl (λv=>X3 (H:=zd 0) v _ _ _ _ _ _ h5) 38).or ((zin zt 32 51 1 (co.map rE) true (!co.isEmpty) (by kernel_rfl) (nlB true rE co)).or X0)))) .normal (wY m_ n_ ai ak.2 jk) (Z2++[c3]) λst0 h0=>⟨rfl,_,h0,LeL.refl _⟩
  rcases t6 with⟨j9,jk⟩|z
  ·dsimp only at ae;exact XM (by kernel_rfl) (db _ [(1,.own (.box (yZ m_))),(3,.own (.box (.box (xL 64 (xL 64 (eNl 1 rE)) j9)))),(4,.own (.box (I n_))),(5,.own (.box (eOs 4 false (zL rE rE (eNl 1 rE) eB) jk)))] (j9,jk) ae (show Own.canon [1,3,4,5] _=ofL _ by kernel_rfl) inferInstance)
  cases z
 obtain rfl:=wL c0.2;obtain rfl:=hl1;exact yB ar ky aa (Z0++[c0])
def l75:List y8:=z0O 149 yZ rE rE (eT3 F4_ eB rE) qn::l74
def KJ [H:HS X0 l74]:OkH l75:=yS3 false func149 λm_ s_ t_ r0 aa E hE=>by
 let u0:=(xL 64 (eNl 1 rE));obtain⟨r_,h0,aa⟩:=zo aa;let Z0:List HO:=[zg 3,Hm (shM rE rE ([s_,t_])),Hs (zf2 3 h0 (loC yZ m_ <| loC F4_ [s_,t_] <| loN))];obtain c0|c0:=zy aa
 ·cases c0.2;exact yE hE (Z0++[c0,Hm (shM rE rE [])])
 obtain⟨ai,h1,cell,h2,co,h3,ak,h4,am,h5,aa⟩:=zeR c0.2;cases aa;exact yE (H:=zx ((xLs zt 26 (eNl 1 rE co) (eSl 1 false rE co) inferInstance).or X0)) hE (Z0++[c0,zC1 0 h1,Hn (⟨Qn (by kernel_rfl) ai (i0 h2),(iL u0 h2).2⟩:ku ua 246 ((ai.l).map u0) s_=true/\s_.toNat<((ai.l).map u0).length),Hh (.op 4),Hh (.f),Hs (iM u0 h2),Hn (⟨Qn (by kernel_rfl) cell (i0 h3),(iL (eNl 1 rE) h3).2⟩:ku ua 221 ((cell.l).map (eNl 1 rE)) t_=true/\t_.toNat<((cell.l).map (eNl 1 rE)).length),Hh (.op 0),Hh (.f),Hs (iM u0 h2),Hh (.f),Hs (iM (eNl 1 rE) h3),Hn (rfl:T.d (eNl 1 rE co)=T.d (eNl 1 rE co)),zC1 36 h4,zg 35,Hm (shM rE rE ak),Hs (zf1 35 h5 (loC F8_ ak <| loN)),Hm (shM rE rE ak),Ha (lnM rE am)])
def l76:List y8:=qW 117 yZ (zic 118) (eT2 WF rE) Wa::l75
abbrev KC (m_:z6)(x5:Int)(out:List (List Int)):List (Nat×T):=[(2,.own (.box (yZ m_))),(4,.own (.box (eOs 1 true F8_ []))),(5,.own (.box (I x5))),(6,.own (.box (eOs 1 false F4_ out)))]
abbrev vu (m_:z6)(ai:Int)(ge:Int)(aj:List (List Int)):List (Nat×T):=[(2,.own (.box (yZ m_))),(3,.own (.box (.fn 118 []))),(4,.own (.box (eOs 1 true F8_ []))),(5,.own (.box (I ge))),(6,.own (.box (eOs 1 false F4_ aj))),(15,.d (.fn 167 [.sptr (I ai)]))]
def z31 [H:HS X0 l75]:OkH l76:=yS2 false func117 λm_ is r0 aa E hE=>by
 refine yJ 111 [] [2,4,5,6] (λz:Int×List (List Int)=>Zh m_ z.1 z.2=some r0) (λz=>KC m_ z.1 z.2) [(2,.own (.box (yZ m_))),(3,.own (.box (.fn 118 []))),(4,.own (.box (eOs 1 true F8_ []))),(5,.own (.box (I 0))),(6,.own (.box (eOs 1 true F8_ [])))] [Hh (.cut 2)] ?_ λJ1 ar=>?_
 ·rintro⟨x5,out⟩ aa;unfold Zh at aa;obtain⟨r_,h0,aa⟩:=zo aa;obtain rfl:=wL aa;exact yE hE [zg 18,Hm (shM F4_ F4_ out),Hs (zf2 18 h0 (loC zop out <| loC rE m_.Inputs <| loN)),Hm (shM F4_ F4_ out)]
 obtain⟨ai,h1,t2,ht2,aa⟩:=yg aa;refine yAt (sub [1,1,2,1,0] (zbd f117)) (frs [1,1,2,1,0] [J1] (zbd f117) []) [(2,.own (.box (yZ m_))),(3,.own (.box (.fn 118 []))),(4,.own (.box (eOs 1 true F8_ []))),(5,.own (.box (I 0))),(6,.own (.box (eOs 1 true F4_ []))),(15,.d (.fn 167 [.sptr (I ai)]))] [Ha (lnM xH m_.Rows),zC1 7 h1] λst0 h0=>?_;refine z0d (g:=.tmp 15) (ps:=[16,17]) (assign:=(sub [1,1,2,1,0,0] (zbd f117))) (body:=(sub [1,1,2,1,0,1] (zbd f117))) (K:=167) (caps:=[.sptr (I ai)]) (by kernel_rfl) [2,3,4,5,6,15] (λs=>vu m_ ai s.1 s.2) (λs=>vu m_ ai s.1 s.2) (λs=>Code.ret) ((λ(x:Int×Int) (_:Bool) (_:Value)=>[rE x.1,rE x.2])) (F:=@vG ai) (λs x=>u6 m_ s.1 s.2 x.1 x.2) (0,([]:List (List Int))) t2 _ h0 inferInstance (by kernel_rfl) (by decide) (λ_=>rfl) (λ_=>rfl) (by kernel_rfl) (λ_ _ _=>rfl) (VX (H:=zd 7) ai) ht2 ?_ ?_
 ·rintro qg ⟨ge,aj⟩ ⟨ft,ba⟩ vr av ae;replace ae:u6 m_ ge aj ft ba=some av:=ae;unfold u6 at ae;refine yF .normal [(2,.own (.box (yZ m_))),(3,.own (.box (.fn 118 []))),(4,.own (.box (eOs 1 true F8_ []))),(5,.own (.box (I ge))),(6,.own (.box (eOs 1 false F4_ aj))),(7,.d (I ft)),(8,.d (I ba)),(15,.d (.fn 167 [.sptr (I ai)]))] [] λst0 h0=>⟨rfl,z5j h0 ?_⟩;obtain⟨ak,h2,ae⟩:=zo ae;let Z0:List HO:=[zC2 6 h2];obtain c0|c0:=zy ae
  ·obtain rfl:=wL c0.2;exact yF .normal (vu m_ ai ge aj) (Z0++[c0]) λst0 h0=>⟨rfl,_,h0,LeL.refl _⟩
  obtain⟨am,h3,ae⟩:=zo c0.2;let Z1:List HO:=(Z0++[c0,zC3 0 h3]);obtain c1|c1:=zy ae
  ·obtain rfl:=wL c1.2;exact yF .ret (vu m_ ai am.2.2 aj) (Z1++[c1]) λst0 h0=>⟨rfl,_,h0,LeL.refl _⟩
  obtain⟨g0,ae⟩:=gdE c1.2;obtain rfl:=wL ae;exact yF .normal (vu m_ ai ge (aj++[am.1])) (Z1++[c1,Hq (dM F4_ [am.1]),Hn (dM F4_ [am.1]),Hn (aL F4_ F4_ g0),Hl (aM F4_ aj [am.1])]) λst0 h0=>⟨rfl,_,h0,LeL.refl _⟩
 rcases t2 with⟨ge,aj⟩|z
 ·dsimp only at aa;exact XM (by kernel_rfl) (ar _ [(2,.own (.box (yZ m_))),(4,.own (.box (eOs 1 true F8_ []))),(5,.own (.box (I ge))),(6,.own (.box (eOs 1 false F4_ aj)))] (ge,aj) aa (show Own.canon [2,4,5,6] _=ofL _ by kernel_rfl) inferInstance)
 obtain⟨ge,aj⟩:=z;dsimp only at aa;show AWP _ _ (Code.ret) _ _;obtain rfl:=wL aa;exact yE hE [Hm (shM F8_ F8_ [])]
def l77:List y8:=ZY 72 yZ (eT2 WF rE) QG::l76
def z5I [H:HS X0 l76]:OkH l77:=yS1 false func72 λm_ r0 aa E hE=>by
 obtain⟨r_,h0,aa⟩:=zo aa;let Z0:List HO:=[zC1 41 h0];obtain c0|c0:=zy aa
 ·cases c0.2;exact yE hE (Z0++[c0,Hm (shM F8_ F8_ [])])
 obtain⟨ai,h1,aa⟩:=zo c0.2;cases aa;exact yE hE (Z0++[c0,zC2 0 h1])
def l78:List y8:=qW 74 rE rE (eT2 WF rE) Vj::l77
def z4c [H:HS X0 l77]:OkH l78:=yS2 false func74 λinputs k_ r0 aa E hE=>by obtain⟨r_,h0,aa⟩:=zo aa;cases aa;exact yE hE [zC3 18 h0]
def l79:List y8:=ZY 75 wF wF Xb::l78
def z4e [H:HS X0 l78]:OkH l79:=yS1 false func75 λl_ r0 aa E hE=>by
 let Z0:List HO:=[Ha (lnM F8_ l_)];obtain c0|c0:=zy aa
 ·cases c0.2;exact yEl hE (Z0++[c0,Hm (shM F5_ F4_ ([[]]))])
 cases c0.2;exact yE hE (Z0++[Hb c0])
def l80:List y8:=z0O 120 rE rE (eSp rE) eB VK::l79
def z4s [H:HS X0 l79]:OkH l80:=yS3 true func120 λa_ b_ x2 r0 aa E hE=>by
 obtain c0|c0:=zy aa
 ·cases c0.2;exact yE hE (rpN 4 (Hb c0) [])
 cases c0.2;exact yE hE (rpN 4 (Hb c0) [])
def Xd:y8:=spF (α:=z6×Int) (ρ:=List (List Int)×Int) 117 (λx=>[yZ x.1,(KH 120 (eSp rE)) x.2]) (λr=>.tup [WF r.1,rE r.2]) (λx=>uG x.1 x.2) [] (by rintro⟨a0,a1⟩ ⟨b0,b1⟩ h;have e0:=kp.inj (f:=yZ) _ _ (List.cons.inj h).1;replace h:=(List.cons.inj h).2;have e1:=kp.inj (f:=(KH 120 (eSp rE))) _ _ (List.cons.inj h).1;subst e0 e1;rfl)
abbrev UF (m_:z6)(x5:Int)(out:List (List Int)):List (Nat×T):=[(2,.own (.box (yZ m_))),(4,.own (.box (eOs 1 true F8_ []))),(5,.own (.box (I x5))),(6,.own (.box (eOs 1 false F4_ out)))]
abbrev xR (m_:z6)(is:Int)(ai:Int)(ge:Int)(aj:List (List Int)):List (Nat×T):=[(2,.own (.box (yZ m_))),(3,.own (.box (.fn 120 [.sptr (I is)]))),(4,.own (.box (eOs 1 true F8_ []))),(5,.own (.box (I ge))),(6,.own (.box (eOs 1 false F4_ aj))),(15,.d (.fn 167 [.sptr (I ai)]))]
def JY [H:HS X0 l80]:Xd.Ok prog:=by
 refine UR ?_;rintro⟨m_,is⟩ r0 aa;try unfold uG at aa;refine zY false func117 λE hE=>?_;refine yJ 111 [] [2,4,5,6] (λz:Int×List (List Int)=>uA m_ z.1 z.2=some r0) (λz=>UF m_ z.1 z.2) [(2,.own (.box (yZ m_))),(3,.own (.box (.fn 120 [.sptr (I is)]))),(4,.own (.box (eOs 1 true F8_ []))),(5,.own (.box (I 0))),(6,.own (.box (eOs 1 true F8_ [])))] [Hh (.cut 2)] ?_ λJ1 ar=>?_
 ·rintro⟨x5,out⟩ aa;unfold uA at aa;obtain⟨r_,h0,aa⟩:=zo aa;obtain rfl:=wL aa;exact yE hE [zg 23,Hm (shM F4_ F4_ out),Hs (zf2 23 h0 (loC zop out <| loC rE m_.Inputs <| loN)),Hm (shM F4_ F4_ out)]
 obtain⟨ai,h1,t2,ht2,aa⟩:=yg aa;refine yAt (sub [1,1,2,1,0] (zbd f117)) (frs [1,1,2,1,0] [J1] (zbd f117) []) [(2,.own (.box (yZ m_))),(3,.own (.box (.fn 120 [.sptr (I is)]))),(4,.own (.box (eOs 1 true F8_ []))),(5,.own (.box (I 0))),(6,.own (.box (eOs 1 true F4_ []))),(15,.d (.fn 167 [.sptr (I ai)]))] [Ha (lnM xH m_.Rows),zC1 12 h1] λst0 h0=>?_;refine z0d (g:=.tmp 15) (ps:=[16,17]) (assign:=(sub [1,1,2,1,0,0] (zbd f117))) (body:=(sub [1,1,2,1,0,1] (zbd f117))) (K:=167) (caps:=[.sptr (I ai)]) (by kernel_rfl) [2,3,4,5,6,15] (λs=>xR m_ is ai s.1 s.2) (λs=>xR m_ is ai s.1 s.2) (λs=>Code.ret) ((λ(x:Int×Int) (_:Bool) (_:Value)=>[rE x.1,rE x.2])) (F:=@vG ai) (λs x=>yG m_ is s.1 s.2 x.1 x.2) (0,([]:List (List Int))) t2 _ h0 inferInstance (by kernel_rfl) (by decide) (λ_=>rfl) (λ_=>rfl) (by kernel_rfl) (λ_ _ _=>rfl) (VX (H:=zd 12) ai) ht2 ?_ ?_
 ·rintro qg ⟨ge,aj⟩ ⟨ft,ba⟩ vr av ae;replace ae:yG m_ is ge aj ft ba=some av:=ae;unfold yG at ae;refine yF .normal [(2,.own (.box (yZ m_))),(3,.own (.box (.fn 120 [.sptr (I is)]))),(4,.own (.box (eOs 1 true F8_ []))),(5,.own (.box (I ge))),(6,.own (.box (eOs 1 false F4_ aj))),(7,.d (I ft)),(8,.d (I ba)),(15,.d (.fn 167 [.sptr (I ai)]))] [] λst0 h0=>⟨rfl,z5j h0 ?_⟩;obtain⟨ak,h2,ae⟩:=zo ae;let Z0:List HO:=[zC3 0 h2];obtain c0|c0:=zy ae
  ·obtain rfl:=wL c0.2;exact yF .normal (xR m_ is ai ge aj) (Z0++[c0]) λst0 h0=>⟨rfl,_,h0,LeL.refl _⟩
  obtain⟨am,h3,ae⟩:=zo c0.2;let Z1:List HO:=(Z0++[c0,zC3 5 h3]);obtain c1|c1:=zy ae
  ·obtain rfl:=wL c1.2;exact yF .ret (xR m_ is ai am.2.2 aj) (Z1++[c1]) λst0 h0=>⟨rfl,_,h0,LeL.refl _⟩
  obtain⟨g0,ae⟩:=gdE c1.2;obtain rfl:=wL ae;exact yF .normal (xR m_ is ai ge (aj++[am.1])) (Z1++[c1,Hq (dM F4_ [am.1]),Hn (dM F4_ [am.1]),Hn (aL F4_ F4_ g0),Hl (aM F4_ aj [am.1])]) λst0 h0=>⟨rfl,_,h0,LeL.refl _⟩
 rcases t2 with⟨ge,aj⟩|z
 ·dsimp only at aa;exact XM (by kernel_rfl) (ar _ [(2,.own (.box (yZ m_))),(4,.own (.box (eOs 1 true F8_ []))),(5,.own (.box (I ge))),(6,.own (.box (eOs 1 false F4_ aj)))] (ge,aj) aa (show Own.canon [2,4,5,6] _=ofL _ by kernel_rfl) inferInstance)
 obtain⟨ge,aj⟩:=z;dsimp only at aa;show AWP _ _ (Code.ret) _ _;obtain rfl:=wL aa;exact yE hE [Hm (shM F8_ F8_ [])]
def l81:List y8:=qW 76 yZ rE (eT2 WF rE) Ks::l80
def z7c [H:HS X0 l80]:OkH l81:=yS2 false func76 λm_ s_ r0 aa E hE=>by
 obtain⟨r_,h0,aa⟩:=zo aa;let Z0:List HO:=[zC1 45 h0];obtain c0|c0:=zy aa
 ·cases c0.2;exact yE hE (Z0++[c0,Hm (shM F8_ F8_ [])])
 obtain c1|c1:=zy c0.2
 ·cases c1.2;exact yE hE (Z0++(Hb c0::(rpN 6 (Hb c1) [qT,Hm (shM F8_ F8_ [])])))
 let Z1:List HO:=(Z0++(Hb c0::(rpN 4 (Hb c1) [Ha (lnM xH m_.Rows),c1,c1])));obtain c2|c2:=zy c1.2
 ·cases c2.2;exact yE hE (Z1++[c2,Hm (shM F8_ F8_ [])])
 obtain⟨ai,h1,aa⟩:=zo c2.2;cases aa;exact yE (H:=zx ((z41 zt (JY (H:=zd 0)) 23).or X0)) hE (Z1++[c2,Hc (Ctr.add_has KI Xd) (x:=(m_,s_)) h1 (loC yZ m_ <| loC (KH 120 (eSp rE)) s_ <| loN)])
def l82:List y8:=qW 36 yZ rE (eT2 (ePo Jr) rE) ji::l81
def z0D [H:HS X0 l81]:OkH l82:=yS2 false func36 λm_ bound r0 aa E hE=>by
 refine yC 111 [] [1,2,6] [Hh (.cut 2)] ?_;refine z5i (y:=.box (.agg [.agg [I m_.Inputs,I m_.Outputs,eSl 1 false xH m_.Rows],eOs 1 true F8_ [],eOs 1 true F8_ [],eOs 1 true F8_ [],eOs 1 true wF [],eOs 1 true F8_ [],eOs 1 true F8_ []])) (by kernel_rfl) 6 (by kernel_rfl) (by kernel_rfl) λmf hv6=>?_;obtain⟨r_,h0,ai,h1,ak,h2,am,h3,az,h4,aa⟩:=zeR aa;refine yN 111111111 [] [2,6] (λz:Unit=>ZA m_ r_ ai ak am az=some r0) (λz=>[]) [2,6,7] [zC1 23 h0,Hn (⟨rfl,by decide⟩:true=true/\0<5),zC1 14 h1,Hn (⟨rfl,by decide⟩:true=true/\1<5),zC1 4 h2,Hn (⟨rfl,by decide⟩:true=true/\2<5),Ha (lnM xH m_.Rows),zC2 21 h3,Hn (⟨rfl,by decide⟩:true=true/\3<5),Ha (lnM xH m_.Rows),zC2 3 h4,Hn (⟨rfl,by decide⟩:true=true/\4<5),Hh (.cut 0)] ?_ λJ1 ar=>?_
 ·rintro⟨⟩ aa;obtain⟨bn,h5,aa⟩:=zo aa;refine yK 11111111111 [] [6] (zI (WO m_ r_ ai am az bn) r0) (λz=>[(6,.own (.box (.agg [yZ m_,eSl 1 true F4_ r_.1,eSl 1 true F4_ ai.1,eSl 1 false F8_ bn,eOs 1 false wF z,eSl 1 true F4_ am.1,eSl 1 true F4_ az.1])))]) [2,6] [Hk [] (z2k (hat 2)) (zf1 2 h5 (loC WF ak.1 <| loN)),Hh (.cut 0)] ?_ λJ2 au=>?_
  ·rintro lh aa;cases aa;exact yEx hE [Hm (shM wF wF lh)] (.tup [.sptr (.agg [.agg [I m_.Inputs,I m_.Outputs,eSl 1 false xH m_.Rows],eSl 1 true F4_ r_.1,eSl 1 true F4_ ai.1,eSl 1 false F8_ bn,eSl 1 false wF lh,eSl 1 true F4_ am.1,eSl 1 true F4_ az.1]),I 0]) (show LeV (.tup [.sptr (.agg [.agg [I m_.Inputs,I m_.Outputs,eSl 1 false xH m_.Rows],eSl 1 true F4_ r_.1,eSl 1 true F4_ ai.1,eSl 1 false F8_ bn,eSl 1 false wF lh,eSl 1 true F4_ am.1,eSl 1 true F4_ az.1]),I 0]) (.tup [.dop (poQ (some (.agg [.agg [I m_.Inputs,I m_.Outputs,eSl 1 false xH m_.Rows],eSl 1 false F8_ r_.1,eSl 1 false F8_ ai.1,eSl 1 false F8_ bn,eSl 1 false wF lh,eSl 1 false F8_ am.1,eSl 1 false F8_ az.1]))),I 0]) from inferInstance)
  obtain⟨t3,ht3,aa⟩:=zo aa;refine yMx 11111111111210 [J2] [2,6,91,92] (λx=>[(6,.own (.box (.agg [yZ m_,eSl 1 true F4_ r_.1,eSl 1 true F4_ ai.1,eSl 1 false F8_ bn,eOs 1 false wF x.1,eSl 1 true F4_ am.1,eSl 1 true F4_ az.1]))),(92,.d (I x.2))]) ht3 [(6,.own (.box (.agg [yZ m_,eSl 1 true F4_ r_.1,eSl 1 true F4_ ai.1,eSl 1 false F8_ bn,eOs 1 true wF [],eSl 1 true F4_ am.1,eSl 1 true F4_ az.1]))),(92,.d (I 0))] [Ha (lnM xH m_.Rows)] λ⟨j4,oe⟩ m3 av ae hl1 J3 bg=>?_;obtain c0|c0:=zy ae
  ·obtain⟨cx,h6,ae⟩:=zo c0.2;let Z0:List HO:=[Hb c0,zC2 0 h6];obtain c1|c1:=zy ae
   ·cases c1.2;cases hl1;cases aa;exact yEx hE (Z0++[c1]) (.tup [.atom (.pointer none),I cx.2]) (show LeV (.tup [.atom (.pointer none),I cx.2]) (.tup [.dop (poQ none),I cx.2]) from inferInstance)
   obtain⟨gb,h7,ae⟩:=zo c1.2;obtain⟨g0,ae⟩:=gdE ae;cases ae;exact yB (H:=zx ((xNc prog 113 6 mf).or ((xMv prog 104 6 mf hv6).or X0))) bg _ hl1 (Z0++[Hb c1,Hn (rfl:some mf=some mf),Hk [] (z2k (hat 2)) (zf1 2 h7 (loC WF cx.1 <| loN)),Hq (dM wF [gb]),Hn (dM wF [gb]),Hn (aL wF wF g0),Hl (aM wF j4 [gb]),Hn (⟨rfl,rfl⟩:T.d (.atom mf)=T.d (.atom mf)/\some mf=some mf)])
  cases c0.2;cases hl1;exact yB au j4 aa [Hb c0]
 obtain c2|c2:=zy aa
 ·cases c2.2;exact yEx hE [Hh (.u 70),qT,c2] (.tup [.atom (.pointer none),I r_.2]) (show LeV (.tup [.atom (.pointer none),I r_.2]) (.tup [.dop (poQ none),I r_.2]) from inferInstance)
 let Z1:List HO:=[Hh (.u 70),qT,Hb c2,qT];obtain c3|c3:=zy c2.2
 ·cases c3.2;exact yEx hE (Z1++[c3]) (.tup [.atom (.pointer none),I ai.2]) (show LeV (.tup [.atom (.pointer none),I ai.2]) (.tup [.dop (poQ none),I ai.2]) from inferInstance)
 obtain c4|c4:=zy c3.2
 ·cases c4.2;exact yEx hE (Z1++[c3,qT,c4]) (.tup [.atom (.pointer none),I ak.2]) (show LeV (.tup [.atom (.pointer none),I ak.2]) (.tup [.dop (poQ none),I ak.2]) from inferInstance)
 obtain c5|c5:=zy c4.2
 ·cases c5.2;exact yEx hE (Z1++[c3,qT,c4,qT,c5]) (.tup [.atom (.pointer none),I am.2]) (show LeV (.tup [.atom (.pointer none),I am.2]) (.tup [.dop (poQ none),I am.2]) from inferInstance)
 let Z2:List HO:=(Z1++[Hb c3,qT,Hb c4,qT,Hb c5,qT]);obtain c6|c6:=zy c5.2
 ·cases c6.2;exact yEx hE (Z2++[c6]) (.tup [.atom (.pointer none),I az.2]) (show LeV (.tup [.atom (.pointer none),I az.2]) (.tup [.dop (poQ none),I az.2]) from inferInstance)
 exact yB ar () c6.2 (Z2++[Hb c6,qF])
def xI [H:HS X0 l82](bz:Value):∀(parts:List (List Int)) (b_:z8) (r0:z8×Bool),xy parts b_=some r0->z7U prog 219 [.atom bz,eSl 1 false F8_ parts] ([bz].zip [.box (.agg [eOs 16 false F2_ b_.nodes_,I b_.leaves_,I b_.most_])]) r0.2 (.iface 124 (.agg #[])) (.tup []) [.box (.agg [eOs 16 false F2_ r0.1.nodes_,I r0.1.leaves_,I r0.1.most_])]:=by
 intro parts b_ r0 aa;refine z56 (tt:=ua) (nt:=f219.ntmps) (body:=zbd f219) [0] zt func219 rfl (by kernel_rfl) rfl rfl (by show(2:Nat)<=105;decide) (by decide) rfl rfl rfl (λE hE hD=>?_);refine yK 111 [] [0] (λz:List (zz Int)×Int=>ZC b_ z.1 z.2=some r0) (λz=>[(0,.own (.box (.agg [eOs 16 false F2_ z.1,I z.2,I b_.most_])))]) [0,1,4,5] [Hh (.cut 2)] ?_ λJ1 ar=>?_
 ·rintro⟨br,cp⟩ aa;obtain c0|c0:=zy aa
  ·refine yC 111110 [] [0] [c0,Hh (.stp 0)] ?_;cases c0.2;exact yP (H:=zx ((zg7 prog 104 124 underlying124).or X0)) 2 [] λst0=>hD rfl st0
  cases c0.2;exact yF .normal [(0,.own (.box (.agg [eOs 16 false F2_ br,I cp,I b_.most_])))] [c0] λst0 h0=>hE rfl _ st0 (.inl rfl) (Xy h0 ⟨⟨rfl,rfl⟩,trivial⟩)
 refine yMb 111210 [J1] [0,4,5,11,12,13] (λx=>[(0,.own (.box (.agg [eOs 16 false F2_ x.1,I x.2.1,I b_.most_]))),(4,.d (.atom (.int .i32 x.2.2.1))),(5,.d (B x.2.2.2.1)),(13,.d (I x.2.2.2.2))]) aa  [Ha (lnM F8_ parts)] λt2 aa ⟨bh,cj,at_,nq,fq⟩ m2 av ae hl1 J2 au=>?_;obtain c1|c1:=zy ae
 ·refine yNs 111210011 [J1,J2] [0,4,5,11,12,13] (λz:List (zz Int)×Int×Int×Bool=>ZB fq z.1 z.2.1 z.2.2.1 z.2.2.2=some av) (λz=>[(0,.own (.box (.agg [eOs 16 false F2_ z.1,I z.2.1,I b_.most_]))),(4,.d (.atom (.int .i32 z.2.2.1))),(5,.d (B z.2.2.2))]) [c1,Hh (.cut 0)] ?_ λJ3 bg=>?_
  ·rintro⟨bm,ce,ia,nj⟩ ae;cases ae;exact yB au _ hl1 []
  obtain⟨fl,h0,t4,ht4,ae⟩:=yg c1.2;refine yM 11121001120110 [J1,J2,J3] [0,4,5,11,12,13,17,18,19] (λx=>[(0,.own (.box (.agg [eOs 16 false F2_ x.1,I x.2.1,I b_.most_]))),(4,.d (.atom (.int .i32 x.2.2.1))),(5,.d (B x.2.2.2.1)),(19,.d (I x.2.2.2.2))]) ht4  [Hi F8_ h0,Ha (lnM rE fl)] λ⟨aq,bc,gc,ka,dy⟩ m4 dj ah hl2 J4 db=>?_;obtain c2|c2:=zy ah
  ·obtain⟨dt,h1,je,h2,cell,h3,ah⟩:=ZS c2.2;refine yN 111210011201100110011 [J1,J2,J3,J4] [0,5,10,11,12,13,17,18,19] (λz:List (zz Int)×Int×Bool×Int=>vM dy z.1 z.2.1 z.2.2.1 z.2.2.2=some dj) (λz=>[(0,.own (.box (.agg [eOs 16 false F2_ z.1,I z.2.1,I b_.most_]))),(5,.d (B z.2.2.1)),(10,.d (.atom (.int .i32 z.2.2.2)))]) [0,4,5,9,10,11,12,13,17,18,19] [c2,Hi rE h1,Hn (iL F2_ h2),Hs (iM F2_ h2),Hn (⟨arJ (by kernel_rfl) (i0 h3),(iL (eI .i32) h3).2⟩:ku ua 162 ((zz.toL je).map (eI .i32)) dt=true/\dt.toNat<((zz.toL je).map (eI .i32)).length),Hh (.op 0),Hh (.f),Hx (.a (eOs 16 false F2_ aq)) (rfl:some (eOs 16 false F2_ aq:A)=some (eOs 16 false F2_ aq)),Hs (iM F2_ h2),Hh (.f),Hs (iM (eI .i32) h3),Hh (.cut 0)] ?_ λJ5 dc=>?_
   ·rintro⟨ct,cg,nk,next⟩ ah;cases ah;exact yB db _ hl2 []
   obtain c3|c3:=zy ah
   ·refine yN 1112100112011001100112101 [J1,J2,J3,J4,J5] [0,4,9,10,11,12,13,17,18,19] (zI (yn aq gc dy dt) dj) (λz=>[(0,.own (.box (.agg [eOs 16 false F2_ aq,I z,I b_.most_])))]) [0,4,5,9,10,11,12,13,17,18,19] [c3,Ha (lnM F2_ aq),Hh (.cut 0)] ?_ λJ6 ep=>?_
    ·rintro eg ah;obtain⟨iw,h4,co,h5,arr,h6,ah⟩:=ZS ah;replace h6:=wL h6;obtain⟨g0,ah⟩:=gdE ah;exact yB dc (((aq.set gc.toNat arr)++([(zz.mk 0 0 0 0 0 0 0 0 0 0 0 0 0 0 0 0)]:List (zz Int))),eg,true,IntKind.i32.wrap (((aq.length:Nat):Int))) ah [Hn (iL F2_ h4),Hs (iM F2_ h4),Hn (⟨arJ (by kernel_rfl) (i0 h5),(iL (eI .i32) h5).2⟩:ku ua 162 ((zz.toL iw).map (eI .i32)) dt=true/\dt.toNat<((zz.toL iw).map (eI .i32)).length),Hh (.op 0),Hh (.f),Hx (.a (eOs 16 false F2_ aq)) (rfl:some (eOs 16 false F2_ aq:A)=some (eOs 16 false F2_ aq)),Hs (iM F2_ h4),Hh (.f),Hs (iM (eI .i32) h5),Hh (.f),Hx (.a (eOs 16 false F2_ aq)) (rfl:some (eOs 16 false F2_ aq:A)=some (eOs 16 false F2_ aq)),Hs (iM F2_ h4),Hh (.f),Hs (iM (eI .i32) h5),Hx (.l ((zz.toL arr).map (eI .i32))) ((zz.setL (eI .i32) iw dt (IntKind.i32.wrap (((aq.length:Nat):Int)))).trans (congrArg (λq=>(zz.toL q).map (eI .i32)) h6)),Hl (sM F2_ aq gc arr),Hx (.l [eOs 16 false F2_ (aq.set gc.toNat arr),I eg,I b_.most_]) (rfl:([eOs 16 false F2_ (aq.set gc.toNat arr),I eg,I b_.most_]:List A)=[eOs 16 false F2_ (aq.set gc.toNat arr),I eg,I b_.most_]),Hq (dM F2_ ([(zz.mk 0 0 0 0 0 0 0 0 0 0 0 0 0 0 0 0)]:List (zz Int))),Hn (dM F2_ ([(zz.mk 0 0 0 0 0 0 0 0 0 0 0 0 0 0 0 0)]:List (zz Int))),Hn (aL F2_ F2_ g0),Hl (aM F2_ (aq.set gc.toNat arr) ([(zz.mk 0 0 0 0 0 0 0 0 0 0 0 0 0 0 0 0)]:List (zz Int)))]
    obtain c4|c4:=zy c3.2
    ·obtain c5|c5:=zy c4.2
     ·let Z0:List HO:=(Hb c4::Hb c4::Hb c4::(rpN 5 (Hb c5) [Ha (lnM F2_ aq),c5,c4,c5,c4]));obtain c6|c6:=zy c5.2
      ·exact yB ep (w64 (bc+1)) c6.2 (Z0++(rpN 9 (Hb c6) [c4,c6,c4,qT]))
      obtain⟨dp,h7,ah⟩:=zo c6.2;let Z1:List HO:=(Z0++(rpN 6 (Hb c6) [Hn (iL F2_ h7),c6,Hs (iM F2_ h7),c6,c6,c4,c6,c4]));obtain c7|c7:=zy ah
      ·exact yB ep (w64 (bc+1)) c7.2 (Z1++[c7])
      exact yB ep bc c7.2 (Z1++[c7])
     obtain⟨em,h8,ah⟩:=zo c5.2;let Z2:List HO:=(Hb c4::Hb c4::Hb c4::(rpN 6 (Hb c5) (Hb c4::Hb c5::Hb c4::(rpN 6 qF [Hn (iL F2_ h8),qF,Hs (iM F2_ h8),qF,qF,c4,qF,c4]))));obtain c8|c8:=zy ah
     ·exact yB ep (w64 (bc+1)) c8.2 (Z2++[c8])
     exact yB ep bc c8.2 (Z2++[c8])
    exact yB ep bc c4.2 (rpN 7 (Hb c4) [qF])
   exact yB dc (aq,bc,ka,cell) c3.2 [c3]
  cases c2.2;cases hl2;exact yB bg (aq,bc,gc,ka) ae [c2]
 cases c1.2;cases hl1;exact yB ar (bh,cj) aa [c1]
def QL [H:HS X0 l82](bz:Value):∀(x0:Qp) (x_:zC) (b_:z8) (r0:z8×Bool),vb x0 x_ b_=some r0->z7U prog 218 [.agg [],.sptr (.agg [.agg [I x_.m_.Inputs,I x_.m_.Outputs,eSl 1 false xH x_.m_.Rows],eSl 1 false F8_ x_.q_,eSl 1 false F8_ x_.p_,eSl 1 false F8_ x_.all_,eSl 1 false wF x_.each_,eSl 1 false F8_ x_.short_,eSl 1 false F8_ x_.exact_]),.atom bz] ([bz].zip [.box (.agg [eOs 16 false F2_ b_.nodes_,I b_.leaves_,I b_.most_])]) r0.2 (.iface 124 (.agg #[])) (.tup []) [.box (.agg [eOs 16 false F2_ r0.1.nodes_,I r0.1.leaves_,I r0.1.most_])]:=by
 intro x0 x_ b_ r0 aa;refine z56 (tt:=ua) (nt:=f218.ntmps) (body:=zbd f218) [2] zt func218 rfl (by kernel_rfl) rfl rfl (by show(3:Nat)<=48;decide) (by decide) rfl rfl rfl (λE hE hD=>?_);refine yMb 1110 [] [1,2,15,16,17] (λx=>[(2,.own (.box (.agg [eOs 16 false F2_ x.1,I x.2.1,I x.2.2.1]))),(17,.d (I x.2.2.2))]) aa  [Ha (lnM F8_ x_.p_)] λt1 aa ⟨br,cp,fm,ba⟩ m1 av ae hl1 J1 ar=>?_;obtain c0|c0:=zy ae
 ·refine yNs 1110011 [J1] [1,2,15,16,17] (λz:List (zz Int)×Int×Int=>Yi ba z.1 z.2.1 z.2.2=some av) (λz=>[(2,.own (.box (.agg [eOs 16 false F2_ z.1,I z.2.1,I z.2.2])))]) [c0,Hh (.cut 0)] ?_ λJ2 au=>?_
  ·rintro⟨bh,cj,fh⟩ ae;cases ae;exact yB ar _ hl1 []
  obtain⟨bj,h0,t3,ht3,ae⟩:=yg c0.2;refine yM 111001120110 [J1,J2] [1,2,7,15,16,17,24,25,26] (λx=>[(2,.own (.box (.agg [eOs 16 false F2_ x.1,I x.2.1,I x.2.2.1]))),(26,.d (I x.2.2.2))]) ht3  [Hi F8_ h0,Ha (lnM F8_ x_.short_)] λ⟨bm,ce,d0,gk⟩ m3 dj ah hl2 J3 bg=>?_;obtain c1|c1:=zy ah
  ·refine yNs 111001120110011 [J1,J2,J3] [1,2,7,15,16,17,24,25,26] (λz:List (zz Int)×Int×Int=>Yh gk z.1 z.2.1 z.2.2=some dj) (λz=>[(2,.own (.box (.agg [eOs 16 false F2_ z.1,I z.2.1,I z.2.2])))]) [c1,Hh (.cut 0)] ?_ λJ4 db=>?_
   ·rintro⟨aq,bc,fj⟩ ah;cases ah;exact yB bg _ hl2 []
   obtain⟨a6,h1,t5,ht5,ah⟩:=yg c1.2;refine yM 11100112011001120110 [J1,J2,J3,J4] [1,2,7,9,15,16,17,24,25,26,33,34,35] (λx=>[(2,.own (.box (.agg [eOs 16 false F2_ x.1,I x.2.1,I x.2.2.1]))),(35,.d (I x.2.2.2))]) ht5  [Hi F8_ h1,Ha (lnM F8_ x_.all_)] λ⟨ct,cg,dz,ib⟩ m5 nb aw hl3 J5 dc=>?_;obtain c2|c2:=zy aw
   ·obtain⟨fy,h2,aw⟩:=zo c2.2;refine yC 11100112011001120110011001 [J1,J2,J3,J4,J5] [1,2,7,9,11,15,16,17,24,25,26,33,34,35] [c2,Hi F8_ h2,Hh (.stp 0)] ?_;obtain⟨r_,h3,aw⟩:=zo aw;obtain c3|c3:=zy aw
    ·cases c3.2;cases hl3;cases ah;cases hl2;cases ae;cases hl1;cases aa;exact yD 5 [2] ((xI (H:=zd 0) bz _ _ _ h3).2 c3.1) [.atom bz,z5s [bj,a6,fy]] inferInstance [Hm (shM F8_ F8_ ([bj,a6,fy]))] λst0=>hD rfl st0
    cases c3.2;exact yB (H:=zx ((Zo (P:=prog) ua [2] ((xI (H:=zd 0) bz _ _ _ h3).1 c3.1) 44).or X0)) dc _ hl3 [Hm (shM F8_ F8_ ([bj,a6,fy])),Hn (Wj (f:=.fn 219 []) (xs:=[.atom bz,wF [bj,a6,fy]]) (ls:=[(bz,.box (.agg [eOs 16 false F2_ ct,I cg,I dz]))]) (r:=.tup []) (ys:=[.box (.agg [eOs 16 false F2_ r_.1.nodes_,I r_.1.leaves_,I r_.1.most_])]) [.atom bz,z5s [bj,a6,fy]] (show JO [.atom bz,z5s [bj,a6,fy]] [.atom bz,wF [bj,a6,fy]] from inferInstance))]
   cases c2.2;cases hl3;exact yB db (ct,cg,dz) ah [c2]
  cases c1.2;cases hl2;exact yB au (bm,ce,d0) ae [c1]
 cases c0.2;cases hl1;cases aa;exact yF .normal [(2,.own (.box (.agg [eOs 16 false F2_ br,I cp,I fm])))] [c0] λst0 h0=>hE rfl _ st0 (.inl rfl) (Xy h0 ⟨⟨rfl,rfl⟩,trivial⟩)
def l83:List y8:=z0O 228 wF F8_ (zic 125) (eT2 rE eB) yT::l82
def qH [H:HS X0 l82]:OkH l83:=yS3 false func228 λx_ target cmp r0 aa E hE=>by
 refine yN 1111 [] [0,1,2,8,9] (zI (yx x_ target) r0) (λz=>[(9,.d (I z))]) [0,1,2,8,9,10] [Ha (lnM F8_ x_),Hh (.cut 1)] ?_ λJ1 ar=>?_
 ·rintro i_ aa;obtain c0|c0:=zy aa
  ·obtain⟨mq,h0,r_,h1,aa⟩:=yg c0.2;cases aa;exact yE hE (rpN 4 (Hb c0) [Hi F8_ h0,c0,c0,c0,zC2 30 h1,c0,c0])
  cases c0.2;exact yE hE (rpN 9 (Hb c0) [])
 refine yMb 111120 [J1] [0,1,2,8,9,10] (λx=>[(9,.d (I x.1)),(10,.d (I x.2))]) aa  [] λt2 aa ⟨fk,j_⟩ m2 av ae hl1 J2 au=>?_;obtain c1|c1:=zy ae
 ·obtain⟨l7,h2,ai,h3,ae⟩:=yg c1.2;let Z0:List HO:=[c1,Hi F8_ h2,zC2 30 h3];obtain c2|c2:=zy ae
  ·cases c2.2;exact yB (H:=zx ((zn8 prog).or X0)) au _ hl1 (Z0++[c2])
  cases c2.2;exact yB (H:=zx ((zn8 prog).or X0)) au _ hl1 (Z0++[c2])
 cases c1.2;cases hl1;exact yB ar fk aa [c1]
def l84:List y8:=qW 225 wF F8_ eB z0V::l83
def z9g [H:HS X0 l83]:OkH l84:=yS2 true func225 λl_ w_ r0 aa E hE=>by obtain⟨r_,h0,aa⟩:=zo aa;cases aa;exact yE hE [zC3 0 h0]
def l85:List y8:=qW 224 F8_ zlf eB kB::l84
def z1d [H:HS X0 l84]:OkH l85:=yS2 true func224 λw_ x1 r0 aa E hE=>by obtain⟨r_,h0,aa⟩:=zo aa;cases aa;exact yE hE [zC2 0 h0]
def l86:List y8:=qW 227 wF (KH 224 zlf) rE vz::l85
def X4 [H:HS X0 l85]:OkH l86:=yS2 true func227 λs_ f_ r0 aa E hE=>by
 refine yK 11 [] [] (λz:Unit=>uP=some r0) (λz=>[]) [0,1] [Hh (.cut 1)] ?_ λJ1 ar=>?_
 ·rintro⟨⟩ aa;cases aa;exact yE hE []
 refine yMb 11210 [J1] [0,1,7,8] (λx=>[(8,.d (I x))]) aa  [Ha (lnM F8_ s_)] λt2 aa x8 m2 av ae hl1 J2 au=>?_;obtain c0|c0:=zy ae
 ·obtain⟨eb,h0,r_,h1,ae⟩:=yg c0.2;let Z0:List HO:=[c0,Hi F8_ h0,zC2 0 h1];obtain c1|c1:=zy ae
  ·cases c1.2;cases hl1;cases aa;exact yE hE (Z0++[c1])
  cases c1.2;exact yB au _ hl1 (Z0++[c1])
 cases c0.2;cases hl1;exact yB ar () aa [c0]
def l87:List y8:=qW 223 z40 (KH 224 zlf) z40 xO [true,false]::l86
def uV:XH prog:=((zna zt 41).or X0)
def YG [H:HS uV l86]:OkH l87:=yS2 true func223 λs_ kz r0 aa E hE=>by
 refine z5i (y:=eOs 1 false F8_ s_) rfl 0 (by kernel_rfl) (by kernel_rfl) λcu hv0=>?_;obtain⟨r_,h0,aa⟩:=zo aa;let Z0:List HO:=[zg 0,Hm (shM F8_ F8_ s_),Hs (zf2 0 h0 (loC wF s_ <| loC (KH 224 zlf) kz <| loN))];obtain c0|c0:=zy aa
 ·cases c0.2;exact yE hE (Z0++[c0])
 refine yK 1111 [] [0,5] (λz:List (List Int)×Int=>xa z.1 z.2=some r0) (λz=>[(0,.own (eOs 1 false F8_ z.1)),(5,.d (I z.2))]) [0,1,5] (Z0++[c0,Hh (.cut 0)]) ?_ λJ1 ar=>?_
 ·rintro⟨bk,i_⟩ aa;obtain⟨g0,aa⟩:=gdE aa;obtain⟨g1,aa⟩:=gdE aa;obtain⟨g2,aa⟩:=gdE aa;cases aa;exact yE (H:=zx ((xVc zt 38 1 0 cu i_).or ((xVw zt 38 0 cu).or uV))) hE [Hn (⟨.inl rfl,rfl⟩:(T.als 0 [] 0 0=T.als 0 [] 0 0\/T.als 0 [] 0 0=T.d (.atom cu))/\some cu=some cu),Hn (⟨g0.1,cuB F8_ g0⟩:(0:Int)<=i_/\i_.toNat<=(bk.map F8_).length),Hn (⟨rfl,rfl⟩:T.d (.atom (V6 1 cu i_))=T.d (.atom (V6 1 cu i_))/\some cu=some cu),Hn (⟨g1.1,cuB F8_ g1,dM F8_ bk⟩:(0:Int)<=i_/\i_.toNat<=(bk.map F8_).length/\A.areD (bk.map F8_)=true),Hx (.l ((bk.take i_.toNat++List.replicate (bk.length - i_.toNat) []).map F8_)) (vcM F8_ bk i_.toNat ([]:List Int)),Hn g2.1,Hn (cuB F8_ g2),Hl (cuM F8_ (bk.take i_.toNat++List.replicate (bk.length - i_.toNat) []) i_)]
 refine yMb 1111210 [J1] [0,1,5,6] (λx=>[(0,.own (eOs 1 false F8_ x.1)),(5,.d (I x.2.1)),(6,.d (I x.2.2))]) c0.2  [] λt2 aa ⟨da,fk,j_⟩ m2 av ae hl1 J2 au=>?_;let Z1:List HO:=[Ha (lnM F8_ da)];obtain c1|c1:=zy ae
 ·refine yNs 111121001 [J1,J2] [0,1,5,6] (λz:List (List Int)×Int=>ym j_ z.1 z.2=some av) (λz=>[(0,.own (eOs 1 false F8_ z.1)),(5,.d (I z.2))]) (Z1++[c1,Hh (.cut 0)]) ?_ λJ3 bg=>?_
  ·rintro⟨ng,qa⟩ ae;cases ae;exact yB au _ hl1 []
  obtain⟨eb,h1,ai,h2,ae⟩:=yg c1.2;let Z2:List HO:=[Hn (iL F8_ h1),Hs (iM F8_ h1),zC2 1 h2];obtain c2|c2:=zy ae
  ·obtain⟨nn,h3,ae⟩:=zo c2.2;exact yB bg ((da.set fk.toNat eb),w64 (fk+1)) ae (Z2++[c2,Hn (iL F8_ h3),Hs (iM F8_ h3),Hs (iM F8_ h3),Hl (sM F8_ da fk eb)])
  exact yB bg (da,fk) c2.2 (Z2++[c2])
 cases c1.2;cases hl1;exact yB ar (da,fk) aa (Z1++[c1])
def l88:List y8:=z0O 221 wF wF rE (eT2 WF rE) Zz::l87
def z4b [H:HS X0 l87]:OkH l88:=yS3 false func221 λa_ b_ inputs r0 aa E hE=>by
 obtain⟨r_,h0,aa⟩:=zo aa;let Z0:List HO:=[zg 24,Hm (shM wF wF ([a_,b_])),Hs (zf2 24 h0 (loC rE inputs <| loC (eSl 1 true wF) [a_,b_] <| loN))];obtain c0|c0:=zy aa
 ·cases c0.2;exact yE hE (Z0++[c0,Hm (shM F8_ F8_ [])])
 obtain⟨ai,h1,ak,h2,am,h3,aa⟩:=ZS c0.2;cases aa;exact yE hE (Z0++[c0,zC1 40 h1,zC2 0 h2,zg 31,Hm (shM F8_ F8_ ak),Hs (zf1 31 h3 (loC wF ak <| loN)),Hm (shM F8_ F8_ ak)])
def l89:List y8:=qW 92 yZ rE rE vF::l88
def z0K [H:HS X0 l88]:OkH l89:=yS2 true func92 λm_ s_ r0 aa E hE=>by
 obtain⟨r_,h0,aa⟩:=zo aa;let Z0:List HO:=[zC1 71 h0];obtain c0|c0:=zy aa
 ·cases c0.2;exact yE hE (Z0++[c0])
 obtain c1|c1:=zy c0.2
 ·cases c1.2;exact yE hE (Z0++(Hb c0::(rpN 6 (Hb c1) [qT])))
 let Z1:List HO:=(Z0++(Hb c0::(rpN 4 (Hb c1) [Ha (lnM xH m_.Rows),c1,c1])));obtain c2|c2:=zy c1.2
 ·cases c2.2;exact yE hE (Z1++[c2])
 cases c2.2;exact yE hE (Z1++[c2])
def l90:List y8:=z0O 94 yZ rE F8_ (λr:List Int×Int=>.opq (Qq [some (F5_ r.1),some (rE r.2)])) Yl::l89
def z2Z [H:HS X0 l89]:OkH l90:=by
 refine zO3 λm_ s_ w_ r0 aa=>?_;refine z5g (tt:=ua) (rs:=[(true,6,none),(false,7,none)]) (n:=⟨f94.ntmps,[]⟩) (body:=zbd f94) zt func94 rfl (by kernel_rfl) rfl rfl (by show(3:Nat)<=43;decide) λE hE=>?_;obtain⟨g0,aa⟩:=gdE aa;refine yK 111 [] [1,8] (λz:Int×List Int=>Xz z.1 z.2=some r0) (λz=>[(1,.d (I z.1)),(8,.own (eOs 1 true rE z.2))]) [1,2,3,8] [Ha (lnM rE w_),Hn (rL g0),Ha (rM 1 rE ((w_.length:Nat):Int) (0:Int)),Hh (.cut 0)] ?_ λJ1 ar=>?_
 ·rintro⟨bk,out⟩ aa;cases aa;let ZE:List HO:=[];exact z2v X0 zt H.ok z20 hE 4000 (hs:=hoH ZE) (x:=(.opq (Qq [some (eOs 1 true rE out),some (I bk)]))) (hoB ZE) (by kernel_rfl) (LeV.refl _)
 refine yMb 111210 [J1] [1,3,8,15,16,17] (λx=>[(1,.d (I x.1)),(8,.own (eOs 1 true rE x.2.1)),(17,.d (I x.2.2))]) aa  [Ha (lnM rE w_)] λt2 aa ⟨da,aj,ba⟩ m2 av ae hl1 J2 au=>?_;obtain c0|c0:=zy ae
 ·obtain⟨fc,h0,r_,h1,ae⟩:=yg c0.2;refine yN 1112100110011 [J1,J2] [3,8,9,11,15,16,17] (λz:Int×Int=>vZ aj ba z.1 z.2=some av) (λz=>[(11,.own (.box (.agg [I z.1,I z.2])))]) [1,3,8,9,10,11,15,16,17] [c0,Hi rE h0,zC0 77 h1,Hh (.cut 0)] ?_ λJ3 bg=>?_
  ·rintro⟨gz,nr⟩ ae;obtain⟨dn,h2,ae⟩:=zo ae;cases ae;exact yB au _ hl1 [Hn (iL rE h2),Hs (iM rE h2),Hs (iM rE h2),Hl (sM rE aj ba nr)]
  obtain c1|c1:=zy ae
  ·obtain⟨ap,h3,al,h4,ae⟩:=yg c1.2;exact yB bg (al.To,al.Out) ae [c1,Hi xH h3,Hi WD h4]
  exact yB bg (r_.To,r_.Out) c1.2 [c1]
 cases c0.2;cases hl1;exact yB ar (da,aj) aa [c0]
def l91:List y8:=z0O 226 yZ rE F8_ (eT2 rE rE) jE::l90
def z0N [H:HS X0 l90]:OkH l91:=yS3 false func226 λm_ s_ w_ r0 aa E hE=>by
 obtain⟨r_,h0,aa⟩:=zo aa;let Z0:List HO:=[zC2 1 h0];obtain c0|c0:=zy aa
 ·cases c0.2;exact yE hE (Z0++[c0])
 obtain⟨ai,h1,aa⟩:=zo c0.2;let Z1:List HO:=(Z0++[c0,zC2 45 h1]);obtain c1|c1:=zy aa
 ·cases c1.2;exact yE hE (Z1++[c1])
 obtain⟨ak,h2,aa⟩:=zo c1.2;cases aa;exact yE (H:=zx ((z0A prog 31 [none,some (I ak.2)]).or ((z0A prog 30 [some (eOs 1 true rE ak.1),some (I ak.2)]).or X0))) hE (Z1++[c1,zC3 0 h2,Hn (⟨rfl,rfl⟩:T.own (.opq (Qq [some (eOs 1 true rE ak.1),some (I ak.2)]))=T.own (.opq (Qq [some (eOs 1 true rE ak.1),some (I ak.2)]))/\1=1),Hn (⟨rfl,rfl⟩:T.own (.opq (Qq [none,some (I ak.2)]))=T.own (.opq (Qq [none,some (I ak.2)]))/\1=1)])
def l92:List y8:=z0O 222 zle F8_ F8_ wF xo::l91
def Jt [H:HS X0 l91]:OkH l92:=yS3 true func222 λx_ u_ v_ r0 aa E hE=>by obtain⟨r_,h0,ai,h1,pk,h2,aa⟩:=ZS aa;cases aa;exact yE hE [zC3 0 h0,zC3 0 h1,Hi wF h2]
def UJ [H:HS X0 l92](bz:Value):∀(x0:Ue) (x_:zC) (b_:z8) (r0:z8×Bool),wP x0 x_ b_=some r0->z7U prog 220 [.agg [],.sptr (.agg [.agg [I x_.m_.Inputs,I x_.m_.Outputs,eSl 1 false xH x_.m_.Rows],eSl 1 false F8_ x_.q_,eSl 1 false F8_ x_.p_,eSl 1 false F8_ x_.all_,eSl 1 false wF x_.each_,eSl 1 false F8_ x_.short_,eSl 1 false F8_ x_.exact_]),.atom bz] ([bz].zip [.box (.agg [eOs 16 false F2_ b_.nodes_,I b_.leaves_,I b_.most_])]) r0.2 (.iface 124 (.agg #[])) (.tup []) [.box (.agg [eOs 16 false F2_ r0.1.nodes_,I r0.1.leaves_,I r0.1.most_])]:=by
 intro x0 x_ b_ r0 aa;refine z56 (tt:=ua) (nt:=f220.ntmps) (body:=zbd f220) [2] zt func220 rfl (by kernel_rfl) rfl rfl (by show(3:Nat)<=106;decide) (by decide) rfl rfl rfl (λE hE hD=>?_);refine yNs 11 [] [1,2] (λz:List (zz Int)×Int×Int=>uM x_ b_ z.1 z.2.1 z.2.2=some r0) (λz=>[(2,.own (.box (.agg [eOs 16 false F2_ z.1,I z.2.1,I z.2.2])))]) [Hh (.cut 1)] ?_ λJ1 ar=>?_
 ·rintro⟨br,cp,fm⟩ aa;obtain⟨r_,h0,t2,ht2,aa⟩:=yg aa;refine yM 111110 [] [1,2,73,74,75] (λx=>[(2,.own (.box (.agg [eOs 16 false F2_ x.1,I x.2.1,I x.2.2.1]))),(75,.d (I x.2.2.2))]) ht2  [zC3 4 h0,Ha (lnM F4_ r_.1)] λ⟨bh,cj,fh,jg⟩ m2 av ae hl1 J2 au=>?_;obtain c0|c0:=zy ae
  ·refine yNs 111110011 [J2] [1,2,73,74,75] (λz:List (zz Int)×Int×Int=>Zx jg z.1 z.2.1 z.2.2=some av) (λz=>[(2,.own (.box (.agg [eOs 16 false F2_ z.1,I z.2.1,I z.2.2])))]) [c0,Hh (.cut 0)] ?_ λJ3 bg=>?_
   ·rintro⟨bm,ce,d0⟩ ae;cases ae;exact yB au _ hl1 []
   obtain⟨u_,h1,t4,ht4,ae⟩:=yg c0.2;refine yM (H:=zx ((xLs zt 78 (eSl 1 true rE u_) (eSl 1 false rE u_) inferInstance).or X0)) 11111001120110 [J2,J3] [1,2,15,73,74,75,82,83,84] (λx=>[(2,.own (.box (.agg [eOs 16 false F2_ x.1,I x.2.1,I x.2.2.1]))),(84,.d (I x.2.2.2))]) ht4  [Hi F4_ h1,Hn (rfl:T.d (eSl 1 true rE u_)=T.d (eSl 1 true rE u_)),Ha (lnM F8_ x_.exact_)] λ⟨aq,bc,fj,j7⟩ m4 dj ah hl2 J4 db=>?_;obtain c1|c1:=zy ah
   ·refine yNs 11111001120110011 [J2,J3,J4] [1,2,15,73,74,75,82,83,84] (λz:List (zz Int)×Int×Int=>Zw j7 z.1 z.2.1 z.2.2=some dj) (λz=>[(2,.own (.box (.agg [eOs 16 false F2_ z.1,I z.2.1,I z.2.2])))]) [c1,Hh (.cut 0)] ?_ λJ5 dc=>?_
    ·rintro⟨ct,cg,dz⟩ ah;cases ah;exact yB db _ hl2 []
    obtain⟨ez,h2,ai,h3,t6,kb,ah⟩:=ZS c1.2;refine yM 1111100112011001120110 [J2,J3,J4,J5] [1,2,15,17,73,74,75,82,83,84,91,92,93] (λx=>[(2,.own (.box (.agg [eOs 16 false F2_ x.1,I x.2.1,I x.2.2.1]))),(93,.d (I x.2.2.2))]) kb  [Hi F8_ h2,zC3 0 h3,Ha (lnM F8_ ai)] λ⟨ju,eg,km,m0⟩ m6 nb aw hl3 J6 ep=>?_;obtain c2|c2:=zy aw
    ·obtain⟨dm,h4,aw⟩:=zo c2.2;refine yC 1111100112011001120110011001 [J2,J3,J4,J5,J6] [1,2,15,17,19,73,74,75,82,83,84,91,92,93] [c2,Hi F8_ h4,Hh (.stp 0)] ?_;obtain⟨ak,h5,aw⟩:=zo aw;obtain c3|c3:=zy aw
     ·cases c3.2;cases hl3;cases ah;cases hl2;cases ae;cases hl1;cases aa;exact yD 5 [2] ((xI (H:=zd 10) bz _ _ _ h5).2 c3.1) [.atom bz,z5s [u_,ez,dm]] inferInstance [Hm (shM F8_ F8_ ([u_,ez,dm]))] λst0=>hD rfl st0
     cases c3.2;exact yB (H:=zx ((Zo (P:=prog) ua [2] ((xI (H:=zd 10) bz _ _ _ h5).1 c3.1) 102).or X0)) ep _ hl3 [Hm (shM F8_ F8_ ([u_,ez,dm])),Hn (Wj (f:=.fn 219 []) (xs:=[.atom bz,wF [u_,ez,dm]]) (ls:=[(bz,.box (.agg [eOs 16 false F2_ ju,I eg,I km]))]) (r:=.tup []) (ys:=[.box (.agg [eOs 16 false F2_ ak.1.nodes_,I ak.1.leaves_,I ak.1.most_])]) [.atom bz,z5s [u_,ez,dm]] (show JO [.atom bz,z5s [u_,ez,dm]] [.atom bz,wF [u_,ez,dm]] from inferInstance))]
    cases c2.2;cases hl3;exact yB dc (ju,eg,km) ah [c2]
   cases c1.2;cases hl2;exact yB bg (aq,bc,fj) ae [c1]
  cases c0.2;cases hl1;cases aa;exact yF .normal [(2,.own (.box (.agg [eOs 16 false F2_ bh,I cj,I fh])))] [c0] λst0 h0=>hE rfl _ st0 (.inl rfl) (Xy h0 ⟨⟨rfl,rfl⟩,trivial⟩)
 refine yMb 11210 [J1] [1,2,23,24,25] (λx=>[(2,.own (.box (.agg [eOs 16 false F2_ x.1,I x.2.1,I x.2.2.1]))),(25,.d (I x.2.2.2))]) aa  [Ha (lnM F8_ x_.q_)] λt7 aa ⟨jx,jb,ko,jh⟩ m7 av ae hl1 J7 gw=>?_;obtain c4|c4:=zy ae
 ·refine yNs 11210011 [J1,J7] [1,2,23,24,25] (λz:List (zz Int)×Int×Int=>Zv jh z.1 z.2.1 z.2.2=some av) (λz=>[(2,.own (.box (.agg [eOs 16 false F2_ z.1,I z.2.1,I z.2.2])))]) [c4,Hh (.cut 0)] ?_ λJ8 lq=>?_
  ·rintro⟨lz,lk,ml⟩ ae;cases ae;exact yB gw _ hl1 []
  obtain⟨gq,h6,t9,ht9,ae⟩:=yg c4.2;refine yM 1121001120110 [J1,J7,J8] [1,2,7,23,24,25,32,33,34] (λx=>[(2,.own (.box (.agg [eOs 16 false F2_ x.1,I x.2.1,I x.2.2.1]))),(34,.d (I x.2.2.2))]) ht9  [Hi F8_ h6,Ha (lnM F8_ x_.short_)] λ⟨jw,ja,kn,fw⟩ m9 dj ah hl2 J9 qe=>?_;obtain c5|c5:=zy ah
  ·refine yNs 1121001120110011 [J1,J7,J8,J9] [1,2,7,23,24,25,32,33,34] (λz:List (zz Int)×Int×Int=>kG fw z.1 z.2.1 z.2.2=some dj) (λz=>[(2,.own (.box (.agg [eOs 16 false F2_ z.1,I z.2.1,I z.2.2])))]) [c5,Hh (.cut 0)] ?_ λJ10 hJ10=>?_
   ·rintro⟨l4,ll,mp⟩ ah;cases ah;exact yB qe _ hl2 []
   obtain⟨a6,h7,sc,ht11,ah⟩:=yg c5.2;refine yM 112100112011001120110 [J1,J7,J8,J9,J10] [1,2,7,9,23,24,25,32,33,34,41,42,43] (λx=>[(2,.own (.box (.agg [eOs 16 false F2_ x.1,I x.2.1,I x.2.2.1]))),(43,.d (I x.2.2.2))]) ht11  [Hi F8_ h7,Ha (lnM F8_ x_.all_)] λ⟨i8,ix,jv,my⟩ su nb aw hl3 se pw=>?_;obtain c6|c6:=zy aw
   ·obtain⟨fy,h8,aw⟩:=zo c6.2;refine yC 112100112011001120110011001 [J1,J7,J8,J9,J10,se] [1,2,7,9,11,23,24,25,32,33,34,41,42,43] [c6,Hi F8_ h8,Hh (.stp 0)] ?_;obtain⟨am,h9,aw⟩:=zo aw;obtain c7|c7:=zy aw
    ·cases c7.2;cases hl3;cases ah;cases hl2;cases ae;cases hl1;cases aa;exact yD 5 [2] ((xI (H:=zd 10) bz _ _ _ h9).2 c7.1) [.atom bz,z5s [gq,a6,fy]] inferInstance [Hm (shM F8_ F8_ ([gq,a6,fy]))] λst0=>hD rfl st0
    cases c7.2;exact yB (H:=zx ((Zo (P:=prog) ua [2] ((xI (H:=zd 10) bz _ _ _ h9).1 c7.1) 52).or X0)) pw _ hl3 [Hm (shM F8_ F8_ ([gq,a6,fy])),Hn (Wj (f:=.fn 219 []) (xs:=[.atom bz,wF [gq,a6,fy]]) (ls:=[(bz,.box (.agg [eOs 16 false F2_ i8,I ix,I jv]))]) (r:=.tup []) (ys:=[.box (.agg [eOs 16 false F2_ am.1.nodes_,I am.1.leaves_,I am.1.most_])]) [.atom bz,z5s [gq,a6,fy]] (show JO [.atom bz,z5s [gq,a6,fy]] [.atom bz,wF [gq,a6,fy]] from inferInstance))]
   cases c6.2;cases hl3;exact yB hJ10 (i8,ix,jv) ah [c6]
  cases c5.2;cases hl2;exact yB lq (jw,ja,kn) ae [c5]
 cases c4.2;cases hl1;exact yB ar (jx,jb,ko) aa [c4]
def Uf [H:HS X0 l92](bz:Value):∀(x0:V8) (x_:zC) (b_:z8) (r0:z8×Bool),wq x0 x_ b_=some r0->z7U prog 229 [.agg [],.sptr (.agg [.agg [I x_.m_.Inputs,I x_.m_.Outputs,eSl 1 false xH x_.m_.Rows],eSl 1 false F8_ x_.q_,eSl 1 false F8_ x_.p_,eSl 1 false F8_ x_.all_,eSl 1 false wF x_.each_,eSl 1 false F8_ x_.short_,eSl 1 false F8_ x_.exact_]),.atom bz] ([bz].zip [.box (.agg [eOs 16 false F2_ b_.nodes_,I b_.leaves_,I b_.most_])]) r0.2 (.iface 124 (.agg #[])) (.tup []) [.box (.agg [eOs 16 false F2_ r0.1.nodes_,I r0.1.leaves_,I r0.1.most_])]:=by
 intro x0 x_ b_ r0 aa;refine z56 (tt:=ua) (nt:=f229.ntmps) (body:=zbd f229) [2] zt func229 rfl (by kernel_rfl) rfl rfl (by show(3:Nat)<=48;decide) (by decide) rfl rfl rfl (λE hE hD=>?_);refine yMb 1110 [] [1,2,15,16,17] (λx=>[(2,.own (.box (.agg [eOs 16 false F2_ x.1,I x.2.1,I x.2.2.1]))),(17,.d (I x.2.2.2))]) aa  [Ha (lnM F8_ x_.p_)] λt1 aa ⟨br,cp,fm,ba⟩ m1 av ae hl1 J1 ar=>?_;obtain c0|c0:=zy ae
 ·refine yNs 1110011 [J1] [1,2,15,16,17] (λz:List (zz Int)×Int×Int=>kK ba z.1 z.2.1 z.2.2=some av) (λz=>[(2,.own (.box (.agg [eOs 16 false F2_ z.1,I z.2.1,I z.2.2])))]) [c0,Hh (.cut 0)] ?_ λJ2 au=>?_
  ·rintro⟨bh,cj,fh⟩ ae;cases ae;exact yB ar _ hl1 []
  obtain⟨bj,h0,t3,ht3,ae⟩:=yg c0.2;refine yM 111001120110 [J1,J2] [1,2,7,15,16,17,24,25,26] (λx=>[(2,.own (.box (.agg [eOs 16 false F2_ x.1,I x.2.1,I x.2.2.1]))),(26,.d (I x.2.2.2))]) ht3  [Hi F8_ h0,Ha (lnM F8_ x_.short_)] λ⟨bm,ce,d0,gk⟩ m3 dj ah hl2 J3 bg=>?_;obtain c1|c1:=zy ah
  ·refine yNs 111001120110011 [J1,J2,J3] [1,2,7,15,16,17,24,25,26] (λz:List (zz Int)×Int×Int=>kJ gk z.1 z.2.1 z.2.2=some dj) (λz=>[(2,.own (.box (.agg [eOs 16 false F2_ z.1,I z.2.1,I z.2.2])))]) [c1,Hh (.cut 0)] ?_ λJ4 db=>?_
   ·rintro⟨aq,bc,fj⟩ ah;cases ah;exact yB bg _ hl2 []
   obtain⟨a6,h1,r_,h2,t5,ht5,ah⟩:=ZS c1.2;refine yM 11100112011001120110 [J1,J2,J3,J4] [1,2,7,9,15,16,17,24,25,26,33,34,35] (λx=>[(2,.own (.box (.agg [eOs 16 false F2_ x.1,I x.2.1,I x.2.2.1]))),(35,.d (I x.2.2.2))]) ht5  [Hi F8_ h1,zC3 0 h2,Ha (lnM F8_ r_)] λ⟨ct,cg,dz,ib⟩ m5 nb aw hl3 J5 dc=>?_;obtain c2|c2:=zy aw
   ·obtain⟨dm,h3,aw⟩:=zo c2.2;refine yC 11100112011001120110011001 [J1,J2,J3,J4,J5] [1,2,7,9,11,15,16,17,24,25,26,33,34,35] [c2,Hi F8_ h3,Hh (.stp 0)] ?_;obtain⟨ai,h4,aw⟩:=zo aw;obtain c3|c3:=zy aw
    ·cases c3.2;cases hl3;cases ah;cases hl2;cases ae;cases hl1;cases aa;exact yD 5 [2] ((xI (H:=zd 10) bz _ _ _ h4).2 c3.1) [.atom bz,z5s [bj,a6,dm]] inferInstance [Hm (shM F8_ F8_ ([bj,a6,dm]))] λst0=>hD rfl st0
    cases c3.2;exact yB (H:=zx ((Zo (P:=prog) ua [2] ((xI (H:=zd 10) bz _ _ _ h4).1 c3.1) 44).or X0)) dc _ hl3 [Hm (shM F8_ F8_ ([bj,a6,dm])),Hn (Wj (f:=.fn 219 []) (xs:=[.atom bz,wF [bj,a6,dm]]) (ls:=[(bz,.box (.agg [eOs 16 false F2_ ct,I cg,I dz]))]) (r:=.tup []) (ys:=[.box (.agg [eOs 16 false F2_ ai.1.nodes_,I ai.1.leaves_,I ai.1.most_])]) [.atom bz,z5s [bj,a6,dm]] (show JO [.atom bz,z5s [bj,a6,dm]] [.atom bz,wF [bj,a6,dm]] from inferInstance))]
   cases c2.2;cases hl3;exact yB db (ct,cg,dz) ah [c2]
  cases c1.2;cases hl2;exact yB au (bm,ce,d0) ae [c1]
 cases c0.2;cases hl1;cases aa;exact yF .normal [(2,.own (.box (.agg [eOs 16 false F2_ br,I cp,I fm])))] [c0] λst0 h0=>hE rfl _ st0 (.inl rfl) (Xy h0 ⟨⟨rfl,rfl⟩,trivial⟩)
def l93:List y8:=z0O 37 zle (eIf 77) rE (eT2 (ePo Va) eB) ug::l92
def z1e [H:HS X0 l92]:OkH l93:=by
 have hE:∀b:z8,(A.agg [eOs 16 false F2_ b.nodes_,eI .i64 b.leaves_,eI .i64 b.most_]).live=true/\(A.agg [eOs 16 false F2_ b.nodes_,eI .i64 b.leaves_,eI .i64 b.most_]).shut=yH zlh rE rE b:=λb=>⟨z0z.live (f:=yH zoq rE rE) b,z0z.sh (f:=yH zoq rE rE) b⟩;refine UR ?_;rintro⟨x,s,most⟩ r0 aa;obtain⟨r,hr,aa⟩:=zo aa;obtain rfl:=wL aa;have key:∀(T kf:Nat),(∀w,(method 392 T (.agg #[]) "gauntlet/suites.fill").run prog w=.ok (kf,.agg #[]) w)->(∀args w,(callFunc kf args).run prog w=.ok (.enter kf args) w) ->
   (∀bv,z7U prog kf [.agg [],zle x,.atom bv] [(bv,.box (.agg [.osl 16 false [.agg (List.replicate 16 (.atom (.int .i32 0)))],.atom (.int .i64 0),.atom (.int .i64 most)]))] r.2 (.iface 124 (.agg #[])) (.tup []) [.box (.agg [eOs 16 false F2_ r.1.nodes_,eI .i64 r.1.leaves_,eI .i64 r.1.most_])]) ->
   uW prog 37 [zle x,.atom (.iface T (.agg #[])),.atom (.int .i64 most)] (.tup [ePo Va (bif r.2 then none else some r.1),eB (!r.2)]):=by
  intro T kf h1 h2 h3;have q:=z7F h1 h2 rfl (hE r.1).1 (hE r.1).2 h3;refine q.le ?_;cases r.2
  ·exact(show LeV (.tup [.sptr (yH zlh rE rE r.1),.atom (.bool true)]) (.tup [.dop (poQ (some (yH zlh rE rE r.1))),.atom (.bool true)]) from inferInstance)
  exact(show LeV (.tup [.atom (.pointer none),.atom (.bool false)]) (.tup [.dop (poQ none),.atom (.bool false)]) from inferInstance)
 match s,hr with
 | 0,hr=>exact key 77 218 Tryz.meth77 (λ_ _=>by kernel_rfl) λbv=>QL (H:=zd 10) bv ⟨⟩ x _ r hr
 | 1,hr=>exact key 78 220 Tryz.meth78 (λ_ _=>by kernel_rfl) λbv=>UJ (H:=zd 0) bv ⟨⟩ x _ r hr
 | 2,hr=>exact key 79 229 Tryz.meth79 (λ_ _=>by kernel_rfl) λbv=>Uf (H:=zd 0) bv ⟨⟩ x _ r hr
 | n+3,hr=>cases hr
def xz:y8:=spR (α:=List (List Int)) (ρ:=List (List Int)) 112 (λx=>[(eOs 1 false F4_) x]) (λr=>zlg r) (λx=>wg x) [true] (znY)
def XD:∀x r,(λx=>wg x) x=some r->(KI.add xz).run 112 ((KI.add xz).norm 112 ((λx=>[(eOs 1 false F4_) x]) x))=some ((λr=>zlg r) r):=λx r h=>zmF h rfl
def XE:(KI.add xz).gives 112=[true]:=zhx
def XP [H:HS X0 l93]:xz.Ok prog:=by refine za6 ?_;rintro s_ r0 aa;refine zY true func112 λE hE=>?_;cases aa;exact yE (H:=zx ((xCl zt 8).or X0)) hE [Ha (lnM F4_ s_),Ha (lnM F4_ s_),Hn (mO _:(0:Int)<=((s_.length:Nat):Int)),Hn (mO _:(0:Int)<=((s_.length:Nat):Int)),Hn (clB F4_ s_),Ha (clE 1 F4_ s_)]
def l94:List y8:=ZY 69 (eSp Va) zlg v7::l93
abbrev Uv (out:List (List Int)):List (Nat×T):=[(2,.own (eOs 1 false F4_ out))]
abbrev Uu (b_:z8)(ax:List (List Int))(next:List zf):List (Nat×T):=[(0,.d (.sptr (Va b_))),(2,.own (eOs 1 false F4_ ax)),(4,.own (eOs 2 false UG next))]
abbrev Ut (b_:z8)(ay:List zf)(ba:Int)(gx:List (List Int))(ff:List zf):List (Nat×T):=[(0,.d (.sptr (Va b_))),(2,.own (eOs 1 false F4_ gx)),(3,.own (eOs 2 false UG ay)),(4,.own (eOs 2 false UG ff)),(15,.als 3 [] 0 0),(16,.d (I ((ay.length:Nat):Int))),(17,.d (I ba))]
abbrev Us (b_:z8)(ay:List zf)(bo:List (List Int))(ba:Int)(a8:zf)(cb:List zf)(pu:Bool):List (Nat×T):=[(0,.d (.sptr (Va b_))),(2,.own (eOs 1 false F4_ bo)),(3,.own (eOs 2 false UG ay)),(4,.own (eOs 2 false UG cb)),(6,.own (.box (UG a8))),(7,.d (B pu)),(15,.als 3 [] 0 0),(16,.d (I ((ay.length:Nat):Int))),(17,.d (I ba))]
abbrev Ur (b_:z8)(ay:List zf)(bo:List (List Int))(ba:Int)(a8:zf)(a7:zz Int)(fg:Int)(og:List zf)(oh:Bool):List (Nat×T):=[(0,.d (.sptr (Va b_))),(2,.own (eOs 1 false F4_ bo)),(3,.own (eOs 2 false UG ay)),(4,.own (eOs 2 false UG og)),(6,.own (.box (UG a8))),(7,.d (B oh)),(15,.als 3 [] 0 0),(16,.d (I ((ay.length:Nat):Int))),(17,.d (I ba)),(28,.d (F2_ a7)),(29,.d (I fg))]
abbrev Uo (b_:z8)(ay:List zf)(bo:List (List Int))(ba:Int)(a8:zf)(a7:zz Int)(iq:List zf)(l9:Bool)(fg:Int):List (Nat×T):=[(0,.d (.sptr (Va b_))),(2,.own (eOs 1 false F4_ bo)),(3,.own (eOs 2 false UG ay)),(4,.own (eOs 2 false UG iq)),(6,.own (.box (UG a8))),(7,.d (B l9)),(15,.als 3 [] 0 0),(16,.d (I ((ay.length:Nat):Int))),(17,.d (I ba)),(28,.d (F2_ a7)),(29,.d (I fg))]
abbrev Up (b_:z8)(ay:List zf)(bo:List (List Int))(cr:List zf)(ba:Int):List (Nat×T):=[(0,.d (.sptr (Va b_))),(2,.own (eOs 1 false F4_ bo)),(3,.own (eOs 2 false UG ay)),(4,.own (eOs 2 false UG cr)),(15,.als 3 [] 0 0),(16,.d (I ((ay.length:Nat):Int))),(17,.d (I ba))]
abbrev Uq (b_:z8)(aj:List (List Int))(ay:List zf):List (Nat×T):=[(0,.d (.sptr (Va b_))),(2,.own (eOs 1 false F4_ aj)),(3,.own (eOs 2 false UG ay))]
def uU:XH prog:=((Wc zt (.inl 52) [51]).or ((Wc zt (.inl 43) [42]).or ((Wc zt (.inl 11) [10]).or X0)))
def JR [H:HS uU l93]:OkH l94:=yS1 true func69 λb_ r0 aa E hE=>by
 refine yJ 111 [] [2] (λz:List (List Int)=>uk z=some r0) (λz=>Uv z) [(0,.d (.sptr (Va b_))),(2,.own (eOs 1 true F8_ [])),(3,.own (eOs 2 true (yY (eI .i32) F4_) ([(zf.mk 0 [])])))] [Hm (shM rE rE []),Hh (.cut 0)] ?_ λJ1 ar=>?_
 ·rintro out aa;unfold uk at aa;obtain⟨r_,h0,aa⟩:=zo aa;obtain rfl:=wL aa;exact yE (H:=zx ((z41 zt (XP (H:=zd 0)) 57).or uU)) hE [Hh (.g [true]),Hn XE,Hx (.a (zlg r_)) (XD out _ h0)]
 obtain⟨t2,ht2,aa⟩:=zo aa;refine yLx 11120 [J1] (λs=>uh b_ s.1 s.2) (λx=>Uq b_ x.1 x.2) (([]:List (List Int)),([(zf.mk 0 [])]:List zf)) ht2 [(0,.d (.sptr (Va b_))),(2,.own (eOs 1 true F4_ [])),(3,.own (eOs 2 true (yY (eI .i32) F4_) ([(zf.mk 0 [])])))] inferInstance [] λ⟨aj,ay⟩ m2 av ae hl1 J2 au=>?_;try unfold uh at ae
 let Z0:List HO:=[Ha (lnM UG ay)];obtain c0|c0:=zy ae
 ·refine yJ 111200101 [J1,J2] [0,2,4] (λz:List (List Int)×List zf=>uj z.1 z.2=some av) (λz=>Uu b_ z.1 z.2) [(0,.d (.sptr (Va b_))),(2,.own (eOs 1 false F4_ aj)),(3,.own (eOs 2 false UG ay)),(4,.own (eOs 2 true UG []))] (Z0++[c0,Hh (.cut 1)]) ?_ λJ3 bg=>?_
  ·rintro⟨ax,next⟩ ae;unfold uj at ae;obtain rfl:=wL ae;exact yB au _ hl1 []
  obtain⟨t4,ht4,ae⟩:=zo c0.2;refine yLx 111200101210 [J1,J2,J3] (λs=>yl b_ ay s.1 s.2.1 s.2.2) (λx=>Up b_ ay x.1 x.2.1 x.2.2) (aj,([]:List zf),0) ht4 [(0,.d (.sptr (Va b_))),(2,.own (eOs 1 false F4_ aj)),(3,.own (eOs 2 false UG ay)),(4,.own (eOs 2 true UG [])),(15,.als 3 [] 0 0),(16,.d (I ((ay.length:Nat):Int))),(17,.d (I 0))] inferInstance [Ha (lnM UG ay)] λ⟨bo,cr,ba⟩ m4 dj ah hl2 J4 db=>?_;try unfold yl at ah;obtain c1|c1:=zy ah
  ·refine yJ 111200101210011 [J1,J2,J3,J4] [0,2,3,4,15,16,17] (λz:List (List Int)×List zf=>wR ba z.1 z.2=some dj) (λz=>Ut b_ ay ba z.1 z.2) [(0,.d (.sptr (Va b_))),(2,.own (eOs 1 false F4_ bo)),(3,.own (eOs 2 false UG ay)),(4,.own (eOs 2 false UG cr)),(15,.als 3 [] 0 0),(16,.d (I ((ay.length:Nat):Int))),(17,.d (I ba))] [c1,Hh (.cut 0)] ?_ λJ5 dc=>?_
   ·rintro⟨gx,ff⟩ ah;unfold wR at ah;obtain rfl:=wL ah;exact yB db _ hl2 []
   obtain⟨a8,h1,ah⟩:=zo c1.2;refine yJ 1112001012100112011 [J1,J2,J3,J4,J5] [0,2,3,4,6,7,15,16,17] (λz:List zf×Bool=>ui bo ba a8 z.1 z.2=some dj) (λz=>Us b_ ay bo ba a8 z.1 z.2) [(0,.d (.sptr (Va b_))),(2,.own (eOs 1 false F4_ bo)),(3,.own (eOs 2 false UG ay)),(4,.own (eOs 2 false UG cr)),(6,.own (.box (UG a8))),(7,.d (B true)),(15,.als 3 [] 0 0),(16,.d (I ((ay.length:Nat):Int))),(17,.d (I ba))] [Hn (iL UG h1),Hs (iM UG h1),Hh (.cut 1)] ?_ λJ6 ep=>?_
   ·rintro⟨cb,pu⟩ ah;unfold ui at ah;obtain c2|c2:=zy ah
    ·obtain⟨ai,h2,ah⟩:=zo c2.2;obtain⟨g0,ah⟩:=gdE ah;exact yB dc ((bo++[ai]),cb) ah [c2,zC1 54 h2,Hq (dM F4_ [ai]),Hn (dM F4_ [ai]),Hn (aL F4_ F4_ g0),Hl (aM F4_ bo [ai])]
    exact yB dc (bo,cb) c2.2 [c2]
   obtain⟨a7,h3,t7,ht7,ah⟩:=yg ah;refine yL 1112001012100112011210 [J1,J2,J3,J4,J5,J6] (λs=>yk a8 a7 s.1 s.2.1 s.2.2) (λx=>Uo b_ ay bo ba a8 a7 x.1 x.2.1 x.2.2) (cr,true,0) ht7  [Hi F2_ h3] λ⟨iq,l9,fg⟩ m7 nb aw hl3 J7 gw=>?_;try unfold yk at aw;obtain c3|c3:=zy aw
   ·refine yJ 1112001012100112011210011 [J1,J2,J3,J4,J5,J6,J7] [0,2,3,4,6,7,15,16,17,28,29] (λz:List zf×Bool=>wQ fg z.1 z.2=some nb) (λz=>Ur b_ ay bo ba a8 a7 fg z.1 z.2) [(0,.d (.sptr (Va b_))),(2,.own (eOs 1 false F4_ bo)),(3,.own (eOs 2 false UG ay)),(4,.own (eOs 2 false UG iq)),(6,.own (.box (UG a8))),(7,.d (B l9)),(15,.als 3 [] 0 0),(16,.d (I ((ay.length:Nat):Int))),(17,.d (I ba)),(28,.d (F2_ a7)),(29,.d (I fg))] [c3,Hh (.cut 0)] ?_ λJ8 lq=>?_
    ·rintro⟨og,oh⟩ aw;unfold wQ at aw;obtain rfl:=wL aw;exact yB gw _ hl3 []
    obtain⟨cell,h4,aw⟩:=zo c3.2;let Z1:List HO:=[Hs (iM (eI .i32) h4),Hn (ixV (k:=.i32) (tt:=ua) (e:=21) (l:=[a7.e0,a7.e1,a7.e2,a7.e3,a7.e4,a7.e5,a7.e6,a7.e7,a7.e8,a7.e9,a7.e10,a7.e11,a7.e12,a7.e13,a7.e14,a7.e15]) (λ_=>by kernel_rfl) h4 (m:=16) rfl)];obtain c4|c4:=zy aw
    ·obtain⟨ak,h5,aw⟩:=zo c4.2;obtain⟨g1,aw⟩:=gdE aw;obtain⟨g2,aw⟩:=gdE aw;exact yB (H:=zx ((zn9 zt 32).or uU)) lq ((iq++[(zf.mk cell (ak++[fg]))]),false) aw (Z1++[c4,zC1 54 h5,Hq (dM rE [fg]),Hn (dM rE [fg]),Hn (aN rE rE g1 (by simp)),Hl (aM rE ak [fg]),Hm (shM rE rE (ak++[fg])),Hq (dM UG [(zf.mk cell (ak++[fg]))]),Hn (dM UG [(zf.mk cell (ak++[fg]))]),Hn (aL UG UG g2),Hl (aM UG iq [(zf.mk cell (ak++[fg]))])])
    exact yB (H:=zx ((zn9 zt 32).or uU)) lq (iq,l9) c4.2 (Z1++[c4])
   obtain rfl:=wL c3.2;obtain rfl:=hl3;exact yB ep (iq,l9) ah [c3]
  obtain rfl:=wL c1.2;obtain rfl:=hl2;exact yB bg (bo,cr) ae [c1]
 obtain rfl:=wL c0.2;obtain rfl:=hl1;exact yB ar aj aa (Z0++[c0])
def l95:List y8:=zgJ 35 (eIf 77) yZ rE rE (eT2 WF rE) yR::l94
def z2J [H:HS X0 l94]:OkH l95:=yS4 false func35 λs_ m_ bound bf r0 aa E hE=>by
 obtain⟨r_,h0,aa⟩:=zo aa;let Z0:List HO:=[zC2 58 h0];obtain c0|c0:=zy aa
 ·cases c0.2;exact yE hE (Z0++[c0,Hm (shM F8_ F8_ [])])
 obtain c1|c1:=zy c0.2
 ·cases c1.2;exact yE hE (Z0++[c0,c1,c1,c1,qT,Hm (shM F8_ F8_ [])])
 let Z1:List HO:=(Z0++[c0,c1,c1,c1]);obtain c2|c2:=zy c1.2
 ·cases c2.2;exact yE hE (Z1++[c2,Hm (shM F8_ F8_ [])])
 obtain⟨ai,h1,aa⟩:=zo c2.2;let Z2:List HO:=(Z1++[c2,zC2 12 h1,Hn (rfl:T.d (ePo Jr ai.1)=T.d (ePo Jr ai.1))]);obtain c3|c3:=zy aa
 ·cases c3.2;exact yE (H:=zx ((xRe prog 11 (ePo Jr ai.1) (ePo Jr ai.1) (λ_ _ q=>q)).or X0)) hE (Z2++[c3,Hm (shM F8_ F8_ [])])
 obtain⟨there,h2,ak,h3,aa⟩:=yg c3.2;let Z3:List HO:=(Z2++[c3,Hn (rfl:T.d (ePo Jr ai.1)=T.d (ePo Jr ai.1)),zC3 1 h3,Hn (rfl:T.d (ePo Va ak.1)=T.d (ePo Va ak.1))]);obtain c4|c4:=zy aa
 ·cases c4.2;exact yE (H:=zx ((xRe prog 13 (ePo Va ak.1) (ePo Va ak.1) (λ_ _ q=>q)).or ((xRe prog 38 (ePo Jr ai.1) (.sptr (.agg [.agg [I there.m_.Inputs,I there.m_.Outputs,eSl 1 false xH there.m_.Rows],eSl 1 false F8_ there.q_,eSl 1 false F8_ there.p_,eSl 1 false F8_ there.all_,eSl 1 false wF there.each_,eSl 1 false F8_ there.short_,eSl 1 false F8_ there.exact_])) (poM (f:=Jr) h2)).or ((xRe prog 11 (ePo Jr ai.1) (ePo Jr ai.1) (λ_ _ q=>q)).or X0)))) hE (Z3++[c4,Hm (shM F8_ F8_ [])])
 obtain⟨ee,h4,am,h5,az,h6,aa⟩:=ZS c4.2;let Z4:List HO:=(Z3++[c4,Hn (rfl:T.d (ePo Va ak.1)=T.d (ePo Va ak.1)),zC1 0 h5,zg 32,Hm (shM F4_ F4_ am),Hs (zf2 32 h6 (loC WF am <| loC rE m_.Inputs <| loN))]);obtain c5|c5:=zy aa
 ·cases c5.2;exact yE (H:=zx ((xRe prog 46 (ePo Va ak.1) (.sptr (.agg [eSl 16 false F2_ ee.nodes_,I ee.leaves_,I ee.most_])) (poM (f:=Va) h4)).or ((xRe prog 13 (ePo Va ak.1) (ePo Va ak.1) (λ_ _ q=>q)).or ((xRe prog 38 (ePo Jr ai.1) (.sptr (.agg [.agg [I there.m_.Inputs,I there.m_.Outputs,eSl 1 false xH there.m_.Rows],eSl 1 false F8_ there.q_,eSl 1 false F8_ there.p_,eSl 1 false F8_ there.all_,eSl 1 false wF there.each_,eSl 1 false F8_ there.short_,eSl 1 false F8_ there.exact_])) (poM (f:=Jr) h2)).or ((xRe prog 11 (ePo Jr ai.1) (ePo Jr ai.1) (λ_ _ q=>q)).or X0))))) hE (Z4++[c5,Hm (shM F8_ F8_ [])])
 cases c5.2;exact yE (H:=zx ((xRe prog 46 (ePo Va ak.1) (.sptr (.agg [eSl 16 false F2_ ee.nodes_,I ee.leaves_,I ee.most_])) (poM (f:=Va) h4)).or ((xRe prog 13 (ePo Va ak.1) (ePo Va ak.1) (λ_ _ q=>q)).or ((xRe prog 38 (ePo Jr ai.1) (.sptr (.agg [.agg [I there.m_.Inputs,I there.m_.Outputs,eSl 1 false xH there.m_.Rows],eSl 1 false F8_ there.q_,eSl 1 false F8_ there.p_,eSl 1 false F8_ there.all_,eSl 1 false wF there.each_,eSl 1 false F8_ there.short_,eSl 1 false F8_ there.exact_])) (poM (f:=Jr) h2)).or ((xRe prog 11 (ePo Jr ai.1) (ePo Jr ai.1) (λ_ _ q=>q)).or X0))))) hE (Z4++[c5,Hm (shM F4_ F4_ am)])
def l96:List y8:=z0O 10 yZ rE rE (eT2 WF rE) W0::l95
def z9h [H:HS X0 l95]:OkH l96:=yS3 false func10 λm_ bound bf r0 aa E hE=>by obtain⟨r_,h0,aa⟩:=zo aa;cases aa;exact yE (H:=zx ((zg7 prog 9 77 underlying77).or X0)) hE [zC4 0 h0]
def l97:List y8:=z0O 11 yZ rE rE (eT2 WF rE) UO::l96
def z78 [H:HS X0 l96]:OkH l97:=yS3 false func11 λm_ bound bf r0 aa E hE=>by obtain⟨r_,h0,aa⟩:=zo aa;cases aa;exact yE (H:=zx ((zg7 prog 9 78 underlying78).or X0)) hE [zC4 1 h0]
def l98:List y8:=z0O 12 yZ rE rE (eT2 WF rE) WQ::l97
def z5x [H:HS X0 l97]:OkH l98:=yS3 false func12 λm_ bound bf r0 aa E hE=>by obtain⟨r_,h0,aa⟩:=zo aa;cases aa;exact yE (H:=zx ((zg7 prog 9 79 underlying79).or X0)) hE [zC4 2 h0]
def l99:List y8:=qW 13 yZ rE (eT2 F1_ rE) qd::l98
def z2K [H:HS X0 l98]:OkH l99:=yS2 false func13 λm_ bound r0 aa E hE=>by
 obtain⟨r_,h0,aa⟩:=zo aa;let Z0:List HO:=[zC2 62 h0];obtain c0|c0:=zy aa
 ·cases c0.2;exact yE hE (Z0++[c0])
 obtain⟨ai,h1,aa⟩:=zo c0.2;let Z1:List HO:=(Z0++[c0,zC2 16 h1,Hn (rfl:T.d (ePo Jr ai.1)=T.d (ePo Jr ai.1))]);obtain c1|c1:=zy aa
 ·cases c1.2;exact yE (H:=zx ((xRe prog 7 (ePo Jr ai.1) (ePo Jr ai.1) (λ_ _ q=>q)).or X0)) hE (Z1++[c1])
 refine yK (H:=zx ((xRe prog 7 (ePo Jr ai.1) (ePo Jr ai.1) (λ_ _ q=>q)).or X0)) 11111 [] [4] (zI Xc r0) (λz=>[(4,.own (.box (F1_ z)))]) [4,7] (Z1++[c1,Hh (.cut 0)]) ?_ λJ1 ar=>?_
 ·rintro n_ aa;cases aa;exact yE hE []
 refine yMb (H:=zx ((zg7 prog 33 79 underlying79).or ((zg7 prog 31 78 underlying78).or ((zg7 prog 29 77 underlying77).or X0)))) 11111210 [J1] [4,7,34,35,36] (λx=>[(4,.own (.box (F1_ x.1))),(36,.d (I x.2))]) c1.2  [Ha (lnM (eIf 77) ([0,1,2]:List Nat))] λt2 aa ⟨ca,kl⟩ m2 av ae hl1 J2 au=>?_;obtain c2|c2:=zy ae
 ·obtain⟨mj,h2,there,h3,ak,h4,ae⟩:=ZS c2.2;let Z2:List HO:=[c2,Hn (iL (eIf 77) h2),Hs (iM (eIf 77) h2),Hn (rfl:T.d (ePo Jr ai.1)=T.d (ePo Jr ai.1)),zC3 5 h4,Hn (rfl:T.d (ePo Va ak.1)=T.d (ePo Va ak.1))];obtain c3|c3:=zy ae
  ·cases c3.2;cases hl1;cases aa;exact yE (H:=zx ((xRe prog 10 (ePo Va ak.1) (ePo Va ak.1) (λ_ _ q=>q)).or ((xRe prog 42 (ePo Jr ai.1) (.sptr (.agg [.agg [I there.m_.Inputs,I there.m_.Outputs,eSl 1 false xH there.m_.Rows],eSl 1 false F8_ there.q_,eSl 1 false F8_ there.p_,eSl 1 false F8_ there.all_,eSl 1 false wF there.each_,eSl 1 false F8_ there.short_,eSl 1 false F8_ there.exact_])) (poM (f:=Jr) h3)).or X0))) hE (Z2++[c3])
  obtain⟨ee,h5,cell,h6,arr,h7,ae⟩:=ZS c3.2;replace h7:=wL h7;cases ae;exact yB (H:=zx ((xRe prog 51 (ePo Va ak.1) (.sptr (.agg [eSl 16 false F2_ ee.nodes_,I ee.leaves_,I ee.most_])) (poM (f:=Va) h5)).or ((xRe prog 10 (ePo Va ak.1) (ePo Va ak.1) (λ_ _ q=>q)).or ((xRe prog 42 (ePo Jr ai.1) (.sptr (.agg [.agg [I there.m_.Inputs,I there.m_.Outputs,eSl 1 false xH there.m_.Rows],eSl 1 false F8_ there.q_,eSl 1 false F8_ there.p_,eSl 1 false F8_ there.all_,eSl 1 false wF there.each_,eSl 1 false F8_ there.short_,eSl 1 false F8_ there.exact_])) (poM (f:=Jr) h3)).or X0)))) au _ hl1 (Z2++[c3,Hn (rfl:T.d (ePo Va ak.1)=T.d (ePo Va ak.1)),Hn (⟨arJ (by kernel_rfl) (i0 h6),(iL rE h6).2⟩:ku ua 36 ((XN.toL ca).map rE) kl=true/\kl.toNat<((XN.toL ca).map rE).length),Hh (.op 7),Hh (.f),Hs (iM rE h6),Hh (.f),Hs (iM rE h6),Hx (.l ((XN.toL arr).map rE)) ((XN.setL rE ca kl (mx ee.leaves_ 1)).trans (congrArg (λq=>(XN.toL q).map rE) h7))])
 cases c2.2;cases hl1;exact yB ar ca aa [c2]
end Go.Own
end
