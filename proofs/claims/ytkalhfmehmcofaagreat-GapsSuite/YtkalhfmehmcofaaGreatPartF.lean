/- -/
import Derived.Test.YtkalhfmehmcofaaGreatPartE
noncomputable section
set_option linter.unusedVariables false
set_option linter.defProp false
set_option linter.unusedSimpArgs false
namespace Go.Own
open Go.Proofs.Tryz
open Go.Proofs
set_option maxRecDepth 100000
set_option maxHeartbeats 8000000
def X0:XH prog:=xB zn
def z9z:prog.follows .mixedOrders=true:=by kernel_rfl
def zm7 {l:List y4}{s:y4}(h:((l.map y4.k).contains s.k)=false):∀t∈l,t.k≠s.k:=λt ht e=>by rw[List.contains_eq_mem,<-e,decide_eq_true (List.mem_map_of_mem ht)]at h;cases h
class HS (X:outParam (XH prog)) (l:outParam (List y4)) where
 c:Ctr
 ok:YS prog c
 has:∀t∈l,c.Has t
noncomputable abbrev zbd (f:Func):Code:=f.body.getD .skip
def zpR:ResultVar->Nat×TD
 |.tmp t=>(t,none)
 |.cell t c=>(t,some c)
noncomputable abbrev rsO (f:Func):=f.results.toList.map zpR
theorem zlz (f:Func):f.results=((rsO f).map z6E).toArray:=by
 have:z6E ∘ zpR=id:=funext λr=>by cases r<;>rfl
 simp[mP,this]
def OkH:List y4->Prop
 |s::_=>s.Ok prog
 |[]=>True
def eT2 {α β:Type}(f:α->A)(g:β->A)(r:α×β):A:=.tup [f r.1,g r.2]
def eT3 {α β γ:Type}(f:α->A)(g:β->A)(h:γ->A)(r:α×β×γ):A:=.tup [f r.1,g r.2.1,h r.2.2]
def zlt {ρ:Type}(k:Nat)(er:ρ->A)(F:Option ρ)(g:List Bool:=[]):y4:=spF (α:=Unit) k (λ_=>[]) er (λ_=>F) g λ_ _ _=>rfl
section
variable {α β γ δ ε ρ:Type}
noncomputable abbrev Inj (f:α->A):Prop:=∀x y,f x=f y->x=y
def Y6 (k:Nat)(e1:α->A)(er:ρ->A)(F:α->Option ρ)(g:List Bool:=[])(i1:Inj e1:=by exact uJ.inj):y4:=spF k (λx=>[e1 x]) er F g λx y h=>i1 _ _ (List.cons.inj h).1
def jV (k:Nat)(e1:α->A)(e2:β->A)(er:ρ->A)(F:α->β->Option ρ)(g:List Bool:=[])(i1:Inj e1:=by exact uJ.inj)(i2:Inj e2:=by exact uJ.inj):y4:=spF (α:=α×β) k (λx=>[e1 x.1,e2 x.2]) er (λx=>F x.1 x.2) g λx y h=>by simp at h;exact rE (i1 _ _ h.1) (i2 _ _ h.2)
def z0Q (k:Nat)(e1:α->A)(e2:β->A)(e3:γ->A)(er:ρ->A)(F:α->β->γ->Option ρ)(g:List Bool:=[])(i1:Inj e1:=by exact uJ.inj)(i2:Inj e2:=by exact uJ.inj)(i3:Inj e3:=by exact uJ.inj):y4:=spF (α:=α×β×γ) k (λx=>[e1 x.1,e2 x.2.1,e3 x.2.2]) er (λx=>F x.1 x.2.1 x.2.2) g λx y h=>by simp at h;exact rE (i1 _ _ h.1) (rE (i2 _ _ h.2.1) (i3 _ _ h.2.2))
def zjY (k:Nat)(e1:α->A)(e2:β->A)(e3:γ->A)(e4:δ->A)(er:ρ->A)(F:α->β->γ->δ->Option ρ)(g:List Bool:=[])(i1:Inj e1:=by exact uJ.inj)(i2:Inj e2:=by exact uJ.inj)(i3:Inj e3:=by exact uJ.inj)(i4:Inj e4:=by exact uJ.inj):y4:=spF (α:=α×β×γ×δ) k (λx=>[e1 x.1,e2 x.2.1,e3 x.2.2.1,e4 x.2.2.2]) er (λx=>F x.1 x.2.1 x.2.2.1 x.2.2.2) g λx y h=>by simp at h;exact rE (i1 _ _ h.1) (rE (i2 _ _ h.2.1) (rE (i3 _ _ h.2.2.1) (i4 _ _ h.2.2.2)))
variable {X:XH prog}{l:List y4}[H:HS X l]{k:Nat}{e1:α->A}{e2:β->A}{e3:γ->A}{e4:δ->A}{er:ρ->A}{g:List Bool}{i1:Inj e1}{i2:Inj e2}{i3:Inj e3}{i4:Inj e4}{a:α}{b:β}{c:γ}{d:δ}{r:ρ}{vs:List A}{F0:Option ρ}{F1:α->Option ρ}{F2:α->β->Option ρ}{F3:α->β->γ->Option ρ}{F4:α->β->γ->δ->Option ρ}
noncomputable abbrev zx (Y:XH prog):HS Y l:=⟨H.c,H.ok,H.has⟩
noncomputable abbrev zd {Y m}(n:Nat)(h:l.drop n=m:=by rfl):HS Y m:=⟨H.c,H.ok,λt q=>H.has t (rK (h▸q))⟩
noncomputable abbrev za {Y:XH prog}(s:y4)(hs:s.Ok prog)(h:((l.map y4.k).contains s.k)=false:=by kernel_rfl):HS Y (s::l):=⟨H.c.add s,Ctr.add_ok H.ok hs,λt q=>(pG.1 q).elim (λe=>e▸Ctr.add_has _ _) λq=>(H.has t q).add (zm7 h t q)⟩
def hat (i:Nat){s:y4}(h:l[i]?=some s:=by rfl):H.c.Has s:=H.has s (pT h)
def Hk (g:List Bool){k:Nat}{vs:List A}{r:A}(zg:H.c.gives k=g)(h:H.c.run k (H.c.norm k vs)=some r):HO:=([.g g,.a r],[ob zg,ob h])
def zg (i:Nat){s:y4}(h:l[i]?=some s:=by rfl):HO:=Hg (hat i h).gives
noncomputable abbrev zR [H:HS X l](k:Nat)(vs:List A)(r:A):Prop:=H.c.run k (H.c.norm k vs)=some r
def zf0 (i:Nat)(hr:F0=some r)(za:vs.map A.loose=[])(h:l[i]?=some (zlt k er F0 g):=by rfl):zR k vs (er r):=zk3 (x:=()) (hat i h) hr za
def zf1 (i:Nat)(hr:F1 a=some r)(za:vs.map A.loose=[e1 a])(h:l[i]?=some (Y6 k e1 er F1 g i1):=by rfl):zR k vs (er r):=zk3 (hat i h) hr za
def zf2 (i:Nat)(hr:F2 a b=some r)(za:vs.map A.loose=[e1 a,e2 b])(h:l[i]?=some (jV k e1 e2 er F2 g i1 i2):=by rfl):zR k vs (er r):=zk3 (x:=(a,b)) (hat i h) hr za
def zf3 (i:Nat)(hr:F3 a b c=some r)(za:vs.map A.loose=[e1 a,e2 b,e3 c])(h:l[i]?=some (z0Q k e1 e2 e3 er F3 g i1 i2 i3):=by rfl):zR k vs (er r):=zk3 (x:=(a,b,c)) (hat i h) hr za
def zf4 (i:Nat)(hr:F4 a b c d=some r)(za:vs.map A.loose=[e1 a,e2 b,e3 c,e4 d])(h:l[i]?=some (zjY k e1 e2 e3 e4 er F4 g i1 i2 i3 i4):=by rfl):zR k vs (er r):=zk3 (x:=(a,b,c,d)) (hat i h) hr za
def zC0 (i:Nat)(hr:F0=some r)(h:l[i]?=some (zlt k er F0 g):=by rfl):HO:=Hk g (z0r (hat i h)) (zf0 i hr loN h)
def zC1 (i:Nat)(hr:F1 a=some r)(h:l[i]?=some (Y6 k e1 er F1 g i1):=by rfl)(za:[e1 a].map A.loose=[e1 a]:=by exact loC _ _ loN):HO:=Hk g (z0r (hat i h)) (zf1 i hr za h)
def zC2 (i:Nat)(hr:F2 a b=some r)(h:l[i]?=some (jV k e1 e2 er F2 g i1 i2):=by rfl)(za:[e1 a,e2 b].map A.loose=[e1 a,e2 b]:=by exact loC _ _ (loC _ _ loN)):HO:=Hk g (z0r (hat i h)) (zf2 i hr za h)
def zC3 (i:Nat)(hr:F3 a b c=some r)(h:l[i]?=some (z0Q k e1 e2 e3 er F3 g i1 i2 i3):=by rfl)(za:[e1 a,e2 b,e3 c].map A.loose=[e1 a,e2 b,e3 c]:=by exact loC _ _ (loC _ _ (loC _ _ loN))):HO:=Hk g (z0r (hat i h)) (zf3 i hr za h)
def zC4 (i:Nat)(hr:F4 a b c d=some r)(h:l[i]?=some (zjY k e1 e2 e3 e4 er F4 g i1 i2 i3 i4):=by rfl)(za:[e1 a,e2 b,e3 c,e4 d].map A.loose=[e1 a,e2 b,e3 c,e4 d]:=by exact loC _ _ (loC _ _ (loC _ _ (loC _ _ loN)))):HO:=Hk g (z0r (hat i h)) (zf4 i hr za h)
include H in
def zk2 (i:Nat)(hr:F2 a b=some r)(h:l[i]?=some (jV k e1 e2 er F2 g i1 i2):=by rfl):uR prog k [e1 a,e2 b] (er r):=zj9 H.ok (hat i h) (x:=(a,b)) hr
variable {fn:Func}{pn:List (Nat×Value)}{n:Fr}{Q:Exit->St->Prop}{c:Code}{fs:List Fm}{st:St}{σ τ:Type}{J:St->Prop}
noncomputable abbrev hEt (keep:Bool)(rs:List (Nat×TD))(r:A)(E:St->Prop):Prop:=∀st x R U,zlB uQ keep rs st=some (x,R,U)->LeV x r->E st
noncomputable abbrev zN (fn:Func)(pn:List (Nat×Value)):Fr:=⟨fn.ntmps,pn⟩
noncomputable abbrev zW (fn:Func)(pn:List (Nat×Value))(Q:Exit->St->Prop)(c:Code)(fs:List Fm)(s:St):Prop:=AWP prog (zN fn pn) c s (Qf prog (zN fn pn) fs Q)
def zOk (f:Func)(n:Nat):Bool:=f.body.isSome && !(f.name == "runtime.NumGoroutine")&&Nat.ble n f.ntmps
noncomputable abbrev zB (keep:Bool)(fn:Func)(r:A)(vs:List A):Prop:=∀E,hEt keep (rsO fn) r E->zW fn [] (ziq E) (zbd fn) [] (ofL (z6f 0 vs))
def ySp {k:Nat}{r:A}{ls:List A}(keep:Bool)(hf:prog.funcs[k]?=some fn)(h:zB keep fn r ls){m:Nat}(hz:zOk fn m=true)(hm:ls.length=m):uR prog k ls r:=by subst hm;simp only[zOk,pN,s8]at hz;obtain⟨b,hb⟩:=rJ.1 hz.1.1;exact zgk (tt:=uQ) (keep:=keep) (rs:=rsO fn) (n:=⟨fn.ntmps,[]⟩) (body:=zbd fn) zn hf hz.1.2 (by simp[zbd,hb]) rfl (zlz fn) (Nat.le_of_ble_eq_true hz.2) h
def zY {k:Nat}{r:A}{ls:List A}(keep:Bool)(hf:prog.funcs[k]?=some fn)(h:zB keep fn r ls)(hz:zOk fn ls.length=true:=by kernel_rfl):uR prog k ls r:=ySp keep hf h hz rfl
def zO1 (h:∀a r,F1 a=some r->uR prog k [e1 a] (er r)):(Y6 k e1 er F1 g i1).Ok prog:=QF λx r q=>h x r q
def zO2 (h:∀a b r,F2 a b=some r->uR prog k [e1 a,e2 b] (er r)):(jV k e1 e2 er F2 g i1 i2).Ok prog:=QF λx r q=>h x.1 x.2 r q
def zO3 (h:∀a b c r,F3 a b c=some r->uR prog k [e1 a,e2 b,e3 c] (er r)):(z0Q k e1 e2 e3 er F3 g i1 i2 i3).Ok prog:=QF λx r q=>h x.1 x.2.1 x.2.2 r q
def zO4 (h:∀a b c d r,F4 a b c d=some r->uR prog k [e1 a,e2 b,e3 c,e4 d] (er r)):(zjY k e1 e2 e3 e4 er F4 g i1 i2 i3 i4).Ok prog:=QF λx r q=>h x.1 x.2.1 x.2.2.1 x.2.2.2 r q
def yS0 (keep:Bool)(hf:prog.funcs[k]?=some fn)(h:∀r,F0=some r->zB keep fn (er r) [])(hz:zOk fn 0=true:=by kernel_rfl):(zlt k er F0 g).Ok prog:=QF λ_ r q=>ySp keep hf (h r q) hz rfl
def yS1 (keep:Bool)(hf:prog.funcs[k]?=some fn)(h:∀a r,F1 a=some r->zB keep fn (er r) [e1 a])(hz:zOk fn 1=true:=by kernel_rfl):(Y6 k e1 er F1 g i1).Ok prog:=zO1 λa r q=>ySp keep hf (h a r q) hz rfl
def yS2 (keep:Bool)(hf:prog.funcs[k]?=some fn)(h:∀a b r,F2 a b=some r->zB keep fn (er r) [e1 a,e2 b])(hz:zOk fn 2=true:=by kernel_rfl):(jV k e1 e2 er F2 g i1 i2).Ok prog:=zO2 λa b r q=>ySp keep hf (h a b r q) hz rfl
def yS3 (keep:Bool)(hf:prog.funcs[k]?=some fn)(h:∀a b c r,F3 a b c=some r->zB keep fn (er r) [e1 a,e2 b,e3 c])(hz:zOk fn 3=true:=by kernel_rfl):(z0Q k e1 e2 e3 er F3 g i1 i2 i3).Ok prog:=zO3 λa b c r q=>ySp keep hf (h a b c r q) hz rfl
def yS4 (keep:Bool)(hf:prog.funcs[k]?=some fn)(h:∀a b c d r,F4 a b c d=some r->zB keep fn (er r) [e1 a,e2 b,e3 c,e4 d])(hz:zOk fn 4=true:=by kernel_rfl):(zjY k e1 e2 e3 e4 er F4 g i1 i2 i3 i4).Ok prog:=zO4 λa b c d r q=>ySp keep hf (h a b c d r q) hz rfl
section
variable {E:St->Prop}{r:A}{keep:Bool}{rs:List (Nat×TD)}(hE:hEt keep rs r E)(L:List HO)
noncomputable abbrev zrE [H:HS X l](n:Fr)(keep:Bool)(rs:List (Nat×TD))(c:Code)(fs:List Fm)(st:St)(L:List HO):=znG X uQ H.c n (zlB uQ keep rs) 4000 c fs st (hoH L)
include hE in
theorem yEx (x:A)(hle:LeV x r)(e:zrE n keep rs c fs st L=some (x,hoO L):=by kernel_rfl):AWP prog n c st (Qf prog n fs (ziq E)):=zdm X zn H.ok z9z hE 4000 (hoB L) (by rw[<-z9T];exact e) hle
include hE in
theorem yE (e:zrE n keep rs c fs st L=some (r,hoO L):=by kernel_rfl):AWP prog n c st (Qf prog n fs (ziq E)):=yEx hE L r (LeV.refl _) e
def vE (r:Option (A×List Prop)):A:=match r with|some (x,_)=>x|none=>.dead 0
include hE in
theorem yEl (e:zrE n keep rs c fs st L=some (vE (zrE n keep rs c fs st L),hoO L):=by kernel_rfl)(e2:(vE (zrE n keep rs c fs st L)).loose=r:=by kernel_rfl):AWP prog n c st (Qf prog n fs (ziq E)):=yEx hE L _ ⟨λ_ _ _ _ q=>e2▸q.loose⟩ e
end
noncomputable abbrev zzq [H:HS X l](n:Fr)(ks:TC)(c:Code)(fs:List Fm)(st:St)(L:List HO):=znF X uQ H.c n ks 4000 c fs st (hoH L)
def yW {ks:TC}{s:zak}{s0:St}(L:List HO)(e:zzq n ks c fs st L=some (s,s0,hoO L))(h:∀st0,canon ks st0=s0->s.sem prog n Q st0):AWP prog n c st (Qf prog n fs Q) :=
 zjE X zn H.ok z9z ks 4000 (hoB L) (by rw[<-z9T];exact e) h
noncomputable abbrev hJt (ks:TC)(J:St->Prop)(Inv:τ->Prop)(S:τ->List (Nat×T)):Prop:=∀st' l' z,Inv z->Own.canon ks st'=ofL l'->LeL l' (S z)->J st'
variable {live:TC}{S:τ->List (Nat×T)}{Inv:τ->Prop}
def yBx (hJ:hJt live J Inv S)(z:τ)(hz:Inv z)(l:List (Nat×T))(hl:LeL l (S z))(L:List HO)(e:zzq n live c fs st L=some (.back J,ofL l,hoO L):=by kernel_rfl):AWP prog n c st (Qf prog n fs Q):=yW L e λst0 h0=>hJ st0 _ z hz h0 hl
def yB (hJ:hJt live J Inv S)(z:τ)(hz:Inv z)(L:List HO)(e:zzq n live c fs st L=some (.back J,ofL (S z),hoO L):=by kernel_rfl):AWP prog n c st (Qf prog n fs Q):=yBx hJ z hz _ (LeL.refl _) L e
def yF (ex:Exit)(l:List (Nat×T))(L:List HO)(h:∀st0,Own.canon (z20 l) st0=ofL l->Q ex st0)(e:zzq n (z20 l) c fs st L=some (.fin ex,ofL l,hoO L):=by kernel_rfl):AWP prog n c st (Qf prog n fs Q):=yW L e h
def yAt (c':Code)(fs':List Fm)(l:List (Nat×T))(L:List HO)(h:∀st0,Own.canon (z20 l) st0=ofL l->AWP prog n c' st0 (Qf prog n fs' Q))(e:zzq n (z20 l) c fs st L=some (.at c' fs',ofL l,hoO L):=by kernel_rfl):AWP prog n c st (Qf prog n fs Q):=yW L e h
def yD (i:Nat)(L:TC){k:Nat}{xs0:List A}{ls:List (Value×A)}{pv:Value}(hd:z0N prog k xs0 ls pv)(xs:List A)(hx:Jr xs xs0)(Lh:List HO)(hQ:∀st',Q (.panic (kI pv)) st')(e:zoU X uQ H.c n c i L st (hoH Lh)=some ([.fn k []],xs,ls,hoO Lh):=by kernel_rfl):AWP prog n c st (Qf prog n fs Q):=yD6 X zn H.ok i L hd xs hx Lh e hQ
def yP (i:Nat){T:Nat}{v:Value}(Lh:List HO)(hQ:∀st',Q (.panic (kI (.iface T v))) st')(e:znU X uQ H.c n c i st (hoH Lh)=some (.atom (.iface T v),hoO Lh):=by kernel_rfl):AWP prog n c st (Qf prog n fs Q):=yP6 X zn H.ok i Lh e hQ
def dgL (n:Nat):TC:=Nat.rec (motive:=λ_=>Nat->TC->TC) (λ_ l=>l) (λ_ ih m l=>if m<10 then l else ih (m/10) (m%10::l)) 40 n []
noncomputable instance (n:Nat):OfNat TC n:=⟨dgL n⟩
noncomputable abbrev zzt (p:TC)(d:Nat)(fn:Func):Code:=sub (p++[d]) (zbd fn)
noncomputable abbrev zzp (p:TC)(fn:Func):Code:=sub p (zbd fn)
noncomputable abbrev zzm (p:TC)(Js:List (St->Prop))(fn:Func):=frs p Js (zbd fn) []
noncomputable abbrev zzr [H:HS X l](fn:Func)(pn:List (Nat×Value))(ks:TC)(c:Code)(fs:List Fm)(st:St)(L:List HO):=zzq (zN fn pn) ks c fs st L
noncomputable abbrev zzs [H:HS X l](fn:Func)(pn:List (Nat×Value))(ks:TC)(c:Code)(fs:List Fm)(st:St)(L:List HO):St:=stO (zzr fn pn ks c fs st L)
noncomputable abbrev zzu (p:TC)(Js:List (St->Prop))(fn:Func)(s:St)(L:List HO):Option (zak×St×List Prop):=some (.at (zzp p fn) (zzm p Js fn),s,hoO L)
noncomputable abbrev zzv (fn:Func)(pn:List (Nat×Value))(Q:Exit->St->Prop)(p:TC)(Js:List (St->Prop))(Inv:σ->Prop)(S:σ->St):Prop:=∀z,Inv z->zW fn pn Q (zzt p 1 fn) (zzm p Js fn) (S z)
noncomputable abbrev zzw (fn:Func)(pn:List (Nat×Value))(Q:Exit->St->Prop)(p:TC)(Js:List (St->Prop))(live:TC)(Inv:σ->Prop)(S:σ->List (Nat×T))(s:St):Prop:=∀J:St->Prop,hJt live J Inv S->zW fn pn Q (zzt p 2 fn) (.pre J::zzm p Js fn) s
noncomputable abbrev rdT (fn:Func)(pn:List (Nat×Value))(Q:Exit->St->Prop)(p:TC)(Js:List (St->Prop))(ks:TC)(f:σ->Option (LR σ τ))(t:τ)(S:σ->List (Nat×T)):Prop:=∀x m lr,f x=some lr->zqj f m t lr->∀J:St->Prop,hJt ks J (λx'=>z0k f m x'=some t) S->zW fn pn Q (zzt p 0 fn) (.pre J::zzm p Js fn) (ofL (S x))
variable (path:TC)(Js:List (St->Prop))
theorem yC (ks:TC)(L:List HO)(h:zW fn pn Q (zzp path fn) (zzm path Js fn) (zzs fn pn ks c fs st L))(e:zzr fn pn ks c fs st L=zzu path Js fn (zzs fn pn ks c fs st L) L:=by kernel_rfl):zW fn pn Q c fs st:=yW L e λst0 h0=>AWP.canon ks (by rw[h0];exact h)
theorem yA (l:List (Nat×T))(L:List HO)(h:zW fn pn Q (zzp path fn) (zzm path Js fn) (ofL l))(e:zzr fn pn (z20 l) c fs st L=zzu path Js fn (ofL l) L:=by kernel_rfl):zW fn pn Q c fs st:=yW L e λst0 h0=>z4e h0 h
section
variable {f:σ->Option (LR σ τ)}{t:τ}
theorem yLx (f:σ->Option (LR σ τ))(S:σ->List (Nat×T))(x0:σ){t:τ}(ht:loop f x0=some t)(l:List (Nat×T))(hl:LeL l (S x0))(L:List HO)(round:rdT fn pn Q path Js (z20 l) f t S)(e:zzr fn pn (z20 l) c fs st L=zzu path Js fn (ofL l) L:=by kernel_rfl)(e2:zzp path fn=.loop (zzt path 0 fn):=by kernel_rfl)(hk:∀x,z20 (S x)=z20 l:=by exact λ_=>rfl):zW fn pn Q c fs st:=by refine yW L e λst0 h0=>?_;refine zgr (X:=σ×Nat) e2 (z20 l) (λx=>z0k f x.2 x.1=some t) (λx=>x.2) (λx=>S x.1) (x0,Vn) _ h0 hl ht ?_;rintro⟨x,k⟩ hx J hJ;obtain⟨m,lr,rfl,hf,hr⟩:=zo5 hx;exact round x m lr hf hr J λst' l' x' h1 h2 h3=>hJ st' l' (x',m) h1 (gH m) h2 h3
theorem yL (f:σ->Option (LR σ τ))(S:σ->List (Nat×T))(x0:σ){t:τ}(ht:loop f x0=some t)(L:List HO)(round:rdT fn pn Q path Js (z20 (S x0)) f t S)(e:zzr fn pn (z20 (S x0)) c fs st L=zzu path Js fn (ofL (S x0)) L:=by kernel_rfl)(e2:zzp path fn=.loop (zzt path 0 fn):=by kernel_rfl)(hk:∀x,z20 (S x)=z20 (S x0):=by exact λ_=>rfl):zW fn pn Q c fs st:=yLx path Js f S x0 ht _ (LeL.refl _) L round e e2 hk
variable (ks:TC)(dl:σ->List (Nat×T)){x0:σ}
theorem yM (ht:loop f x0=some t)(L:List HO)(round:rdT fn pn Q path Js ks f t λx=>clS ks (zzs fn pn ks c fs st L) (dl x))(e:zzr fn pn ks c fs st L=zzu path Js fn (ofL (clS ks (zzs fn pn ks c fs st L) (dl x0))) L:=by kernel_rfl)(e2:zzp path fn=.loop (zzt path 0 fn):=by kernel_rfl):zW fn pn Q c fs st:=by
 have hk:∀x,z20 (clS ks (zzs fn pn ks c fs st L) (dl x))=ks:=λx=>z9J _ _ _;refine yLx path Js f (λx=>clS ks (zzs fn pn ks c fs st L) (dl x)) x0 ht _ (LeL.refl _) L ?_ (by rw[hk];exact e) e2 λx=>by rw[hk,hk]
 rw[hk];exact round
theorem yMb {ρ':Type}{k:τ->Option ρ'}{r:ρ'}(hb:Option.bind (loop f x0) k=some r)(L:List HO)(round:∀t,k t=some r->rdT fn pn Q path Js ks f t λx=>clS ks (zzs fn pn ks c fs st L) (dl x))(e:zzr fn pn ks c fs st L=zzu path Js fn (ofL (clS ks (zzs fn pn ks c fs st L) (dl x0))) L:=by kernel_rfl)(e2:zzp path fn=.loop (zzt path 0 fn):=by kernel_rfl):zW fn pn Q c fs st:=by obtain⟨t,ht,h⟩:=zl hb;exact yM path Js ks dl ht L (round t h) e e2
def okT:T->Bool
 |.own _|.d _|.gone=>true
 |.als _ p _ _=>p.isEmpty
 |_=>false
theorem zlO {x:T}(h:okT x=true):LeT x x:=by
 cases x with
 |own x=>exact⟨x,rfl,inferInstance⟩
 |d x=>exact⟨x,rfl,inferInstance⟩
 |gone=>rfl
 |als r p er ec=>cases p with
  |nil=>exact⟨rfl,rfl⟩
  |cons a p=>cases h
 |_=>cases h
theorem zhi {s:St}:∀{d d':List (Nat×T)},z2n d d'->z20 d=z20 d'->∀{ks:TC},(ks.all λk=>okT (s k).t)=true->z2n (clS ks s d) (clS ks s d')
 |_,_,_,_,[],_=>z2n.nil
 |d,d',hd,hk,k::ks,h=>by
  simp only[List.all_cons,pN]at h;refine z2n.cons' ?_ (zhi hd hk h.2);have q:=(hd.ent k).2.2;clear hd;induction d generalizing d' with
  |nil=>cases d' with
   |nil=>exact zlO h.1
   |cons y d'=>cases hk
  |cons x d ih=>cases d' with
   |nil=>cases hk
   |cons y d'=>
    simp only[z20,gO,List.cons.injEq]at hk;simp only[ofL,hk.1]at q;simp only[List.lookup,hk.1];by_cases e:k=y.1
    ·subst e;simpa using q
    simp only[e,if_false]at q;rw[show(k==y.1)=false by simpa using e];exact ih _ hk.2 q
theorem yMx (ht:loop f x0=some t)(d0:List (Nat×T))(L:List HO)(round:rdT fn pn Q path Js ks f t λx=>clS ks (zzs fn pn ks c fs st L) (dl x))(e:zzr fn pn ks c fs st L=zzu path Js fn (ofL (clS ks (zzs fn pn ks c fs st L) d0)) L:=by kernel_rfl)(e2:zzp path fn=.loop (zzt path 0 fn):=by kernel_rfl)(ho:(ks.all λk=>okT (zzs fn pn ks c fs st L k).t)=true:=by kernel_rfl)(hk:z20 d0=z20 (dl x0):=by rfl)(hd:z2n d0 (dl x0):=by infer_instance):zW fn pn Q c fs st:=by
 have hk:∀d,z20 (clS ks (zzs fn pn ks c fs st L) d)=ks:=λd=>z9J _ _ _;refine yLx path Js f (λx=>clS ks (zzs fn pn ks c fs st L) (dl x)) x0 ht (clS ks (zzs fn pn ks c fs st L) d0) ⟨.inr (zhi hd ‹_› ho)⟩ L ?_ (by rw[hk];exact e) e2 λx=>by rw[hk,hk]
 rw[hk];exact round
end
noncomputable abbrev zI {ρ:Type}(F:σ->Option ρ)(r:ρ)(z:σ):Prop:=F z=some r
variable (live:TC)(Inv:σ->Prop)(S:σ->List (Nat×T))
theorem yK (ks:TC)(L:List HO)(h1:zzv fn pn Q path Js Inv λz=>ofL (S z))(h2:zzw fn pn Q path Js live Inv S (zzs fn pn ks c fs st L))(e:zzr fn pn ks c fs st L=zzu path Js fn (zzs fn pn ks c fs st L) L:=by kernel_rfl)(e2:zzp path fn=.seq (zzt path 2 fn) (zzt path 1 fn):=by kernel_rfl):zW fn pn Q c fs st:=by refine yW L e λst0 h0=>?_;show AWP prog _ (zzp path fn) st0 _;rw[e2];refine AWP.canon ks ?_;rw[h0];refine AWP.nextC live λK hK=>h2 K λst' l' z hz he hl=>hK st' ?_;rw[he];exact zgs hl (h1 z hz)
theorem yJ (l:List (Nat×T))(L:List HO)(h1:zzv fn pn Q path Js Inv λz=>ofL (S z))(h2:zzw fn pn Q path Js live Inv S (ofL l))(e:zzr fn pn (z20 l) c fs st L=zzu path Js fn (ofL l) L:=by kernel_rfl)(e2:zzp path fn=.seq (zzt path 2 fn) (zzt path 1 fn):=by kernel_rfl):zW fn pn Q c fs st:=yW L e λst0 h0=>zgt e2 live (z20 l) _ h0 Inv S h1 h2
theorem yN (ks:TC)(L:List HO)(h1:zzv fn pn Q path Js Inv λz=>ofL (clS live (zzs fn pn ks c fs st L) (S z)))(h2:zzw fn pn Q path Js live Inv (λz=>clS live (zzs fn pn ks c fs st L) (S z)) (zzs fn pn ks c fs st L))(e:zzr fn pn ks c fs st L=zzu path Js fn (zzs fn pn ks c fs st L) L:=by kernel_rfl)(e2:zzp path fn=.seq (zzt path 2 fn) (zzt path 1 fn):=by kernel_rfl):zW fn pn Q c fs st:=yK path Js live Inv _ ks L h1 h2 e e2
theorem yNs (L:List HO)(h1:zzv fn pn Q path Js Inv λz=>ofL (clS live (zzs fn pn live c fs st L) (S z)))(h2:zzw fn pn Q path Js live Inv (λz=>clS live (zzs fn pn live c fs st L) (S z)) (zzs fn pn live c fs st L))(e:zzr fn pn live c fs st L=zzu path Js fn (zzs fn pn live c fs st L) L:=by kernel_rfl)(e2:zzp path fn=.seq (zzt path 2 fn) (zzt path 1 fn):=by kernel_rfl):zW fn pn Q c fs st:=yK path Js live Inv _ live L h1 h2 e e2
theorem yKs (L:List HO)(h1:zzv fn pn Q path Js Inv λz=>ofL (S z))(h2:zzw fn pn Q path Js live Inv S (zzs fn pn live c fs st L))(e:zzr fn pn live c fs st L=zzu path Js fn (zzs fn pn live c fs st L) L:=by kernel_rfl)(e2:zzp path fn=.seq (zzt path 2 fn) (zzt path 1 fn):=by kernel_rfl):zW fn pn Q c fs st:=yK path Js live Inv S live L h1 h2 e e2
end
def Hb {t b:Bool}{p:Prop}(h:t=b/\p):HO:=Hq h.1
noncomputable instance {t b:Bool}{p:Prop}(h:t=b/\p):CoeDep (t=b/\p) h HO:=⟨Hb h⟩
def zV {α β γ:Type}{x:Option α}{f:α->Option β}{g:α->β->Option γ}{r:γ}(h:Option.bind x (λu=>Option.bind (f u) (g u))=some r):∃u,x=some u/\∃v,f u=some v/\g u v=some r:=by obtain⟨u,h,q⟩:=zl h;exact⟨u,h,zl q⟩
def ZK {α β γ δ:Type}{x:Option α}{f:α->Option β}{g:α->β->Option γ}{k:α->β->γ->Option δ}{r:δ}(h:Option.bind x (λu=>Option.bind (f u) λv=>Option.bind (g u v) (k u v))=some r):∃u,x=some u/\∃v,f u=some v/\∃w,g u v=some w/\k u v w=some r:=by obtain⟨u,h,q⟩:=zl h;exact⟨u,h,zV q⟩
def z7L {α β γ δ ε:Type}{x:Option α}{f:α->Option β}{g:α->β->Option γ}{k:α->β->γ->Option δ}{l:α->β->γ->δ->Option ε}{r:ε}(h:Option.bind x (λu=>Option.bind (f u) λv=>Option.bind (g u v) λw=>Option.bind (k u v w) (l u v w))=some r):∃u,x=some u/\∃v,f u=some v/\∃w,g u v=some w/\∃y,k u v w=some y/\l u v w y=some r:=by obtain⟨u,h,q⟩:=zl h;exact⟨u,h,ZK q⟩
def zb0 {α β γ δ ε ζ:Type}{x:Option α}{f:α->Option β}{g:α->β->Option γ}{k:α->β->γ->Option δ}{l:α->β->γ->δ->Option ε}{m:α->β->γ->δ->ε->Option ζ}{r:ζ}(h:Option.bind x (λu=>Option.bind (f u) λv=>Option.bind (g u v) λw=>Option.bind (k u v w) λy=>Option.bind (l u v w y) (m u v w y))=some r):∃u,x=some u/\∃v,f u=some v/\∃w,g u v=some w/\∃y,k u v w=some y/\∃z,l u v w y=some z/\m u v w y z=some r:=by obtain⟨u,h,q⟩:=zl h;exact⟨u,h,z7L q⟩
def zii:znc prog 22 9:=zi9 (e:=5) underlying22 underlying5 underlying9
def zce:zdG prog 220 9 4 z5J (.atom (.bool false)):=zfD underlying220 underlying9 ⟨.bool false,λw=>z91 (f:=Tryz.t4) κ rfl w,λS=>yI.2 ⟨rfl,rfl⟩⟩ rfl
def z7f:zdG prog 229 234 3 (zaN [.i64,.i64,.i64,.i64,.i64,.i64,.i64,.i64,.i64,.i64,.i64,.i64,.i64,.i64,.i64,.i64,.i64,.i64,.i64,.i64,.i64,.i64,.i64,.i64,.i64,.i64,.i64,.i64,.i64,.i64,.i64,.i64,.i64]) (.atom (.int .i64 0)):=zfE underlying229 _ underlying234 (exq Go.Ex.zpN) (z93.eqn rfl) rfl ⟨.int .i64 0,λw=>z91 (f:=Tryz.t3) κ rfl w,λS=>yI.2 ⟨rfl,rfl⟩⟩ rfl
def zjc:zan prog 54 0 3 0:=zcT underlying54 _ rfl rfl rfl
def zny:zjO prog 66 1 false:=zf8 zn (t:=57) Tryz.so66 rfl rfl κ θ
def l0:List y4:=[]
def l1:=Y6 17 y6 zK Xs::l0
def z2A [H:HS X0 l0]:OkH l1:=yS1 false func17 λl_ r0 aa E hE=>by
 refine yN 111 [] [2,3] (zI UX r0) (λz=>[(3,.own (.box (.agg [I 1,I 2,eOs 1 false y6 z])))]) [0,2,3] [Hh (.cut 2)] ?_ λJ1 au=>?_
 ·rintro fl aa;cases aa;exact yE hE [Hm (shM y6 y6 fl)]
 obtain⟨t2,ht2,aa⟩:=zl aa;refine yMx 111210 [J1] [0,2,3,4] (λx=>[(3,.own (.box (.agg [I 1,I 2,eOs 1 false y6 x.1]))),(4,.d (I x.2))]) ht2 [(3,.own (.box (.agg [I 1,I 2,eOs 1 true y6 []]))),(4,.d (I 0))] [] λ⟨dv,i_⟩ m2 aw ae hl1 J2 ax=>?_;let Z0:List HO:=[Ha (lnM F9_ l_)];obtain c0|c0:=zt ae
 ·obtain⟨g0,ae⟩:=gdE c0.2;obtain⟨g1,ae⟩:=gdE ae;cases ae;exact yB ax _ hl1 (Z0++[c0,Hn (slA g0),Hn (slB g0),Hn (znA F9_ g0),Ha (slM 2 false F9_ l_ i_.toNat (w64 (i_+1)).toNat),Hq (dM y6 ([((l_.drop i_.toNat).take ((w64 (i_+1)).toNat-i_.toNat))]:List (List z7))),Hn (dM y6 ([((l_.drop i_.toNat).take ((w64 (i_+1)).toNat-i_.toNat))]:List (List z7))),Hn (aL y6 y6 g1),Hl (aM y6 dv ([((l_.drop i_.toNat).take ((w64 (i_+1)).toNat-i_.toNat))]:List (List z7)))])
 cases c0.2;cases hl1;exact yB au dv aa (Z0++[c0])
def l2:=zlt 124 F9_ um::l1
def z2y [H:HS X0 l1]:OkH l2:=yS0 false func124 λr0 aa E hE=>by cases aa;exact yE hE []
def l3:=jV 97 zK F9_ eB Xr::l2
def z2z [H:HS X0 l2]:OkH l3:=yS2 true func97 λm_ x_ r0 aa E hE=>by
 obtain⟨r_,h0,aa⟩:=zl aa;let Z0:List HO:=[zC0 0 h0];obtain c0|c0:=zt aa
 ·cases c0.2;exact yE hE (Z0++(rpN 10 (Hb c0) []))
 let Z1:List HO:=(Z0++(rpN 4 (Hb c0) []));obtain c1|c1:=zt c0.2
 ·let Z2:List HO:=(Z1++(rpN 5 (Hb c1) [Ha (lnM y6 m_.i),c1,c0,c1,c0]));obtain c2|c2:=zt c1.2
  ·let Z3:List HO:=(Z2++[c2,c2,c2,c0,c2,c0]);obtain c3|c3:=zt c2.2
   ·cases c3.2;exact yE hE (Z3++(rpN 5 (Hb c3) [c0,c3,c0]))
   cases c3.2;exact yE hE (Z3++(rpN 5 (Hb c3) [c0,c3,c0]))
  cases c2.2;exact yE hE (Z2++(Hb c2::Hb c2::Hb c2::Hb c0::Hb c2::Hb c0::(rpN 5 qF [c0,qF,c0])))
 cases c1.2;exact yE hE (Z1++(rpN 6 (Hb c1) (Hb c0::Hb c1::Hb c0::qF::qF::qF::Hb c0::qF::Hb c0::(rpN 5 qF [c0,qF,c0]))))
def l4:=jV 96 F9_ z4i eB Xb::l3
def KS [H:HS X0 l3]:OkH l4:=yS2 true func96 λx_ x1 r0 aa E hE=>by obtain⟨r_,h0,aa⟩:=zl aa;cases aa;exact yE hE [zC2 0 h0]
abbrev sZ:=eI .i64
def l5:=jV 123 y6 (z0T 96 z4i) sZ xp::l4
def jH [H:HS X0 l4]:OkH l5:=yS2 true func123 λs_ f_ r0 aa E hE=>by
 refine yK 11 [] [] (λz:Unit=>wk=some r0) (λz=>[]) [0,1] [Hh (.cut 1)] ?_ λJ1 au=>?_
 ·rintro⟨⟩ aa;cases aa;exact yE hE []
 refine yMb 11210 [J1] [0,1,7,8] (λx=>[(8,.d (I x))]) aa  [Ha (lnM F9_ s_)] λt2 aa x8 m2 aw ae hl1 J2 ax=>?_;obtain c0|c0:=zt ae
 ·obtain⟨d9,h0,r_,h1,ae⟩:=zV c0.2;let Z0:List HO:=[c0,Hi F9_ h0,zC2 0 h1];obtain c1|c1:=zt ae
  ·cases c1.2;cases hl1;cases aa;exact yE hE (Z0++[c1])
  cases c1.2;exact yB ax _ hl1 (Z0++[c1])
 cases c0.2;cases hl1;exact yB au () aa [c0]
def l6:=jV 95 y6 (z0T 96 z4i) eB y8::l5
def uS [H:HS X0 l5]:OkH l6:=yS2 true func95 λs_ f_ r0 aa E hE=>by obtain⟨r_,h0,aa⟩:=zl aa;cases aa;exact yE hE [zC2 0 h0]
def l7:=Y6 64 zK sZ yU::l6
def z1V [H:HS X0 l6]:OkH l7:=yS1 true func64 λm_ r0 aa E hE=>by
 obtain c0|c0:=zt aa
 ·cases c0.2;exact yE hE (rpN 4 (Hb c0) (rpN 6 qT []))
 let Z0:List HO:=(rpN 4 (Hb c0) []);obtain c1|c1:=zt c0.2
 ·cases c1.2;exact yE hE (Z0++(rpN 5 (Hb c1) [qT]))
 let Z1:List HO:=(Z0++[c1,c1,c1,Ha (lnM y6 m_.i),c1,c1]);obtain c2|c2:=zt c1.2
 ·cases c2.2;exact yE hE (Z1++[c2])
 obtain c3|c3:=zt c2.2
 ·cases c3.2;exact yE hE (Z1++(Hb c2::(rpN 4 (Hb c3) (rpN 6 qT []))))
 let Z2:List HO:=(Z1++(Hb c2::(rpN 4 (Hb c3) [])));obtain c4|c4:=zt c3.2
 ·cases c4.2;exact yE hE (Z2++(rpN 5 (Hb c4) [qT]))
 let Z3:List HO:=(Z2++[c4,c4,c4,Ha (lnM y6 m_.i),c4,c4]);obtain c5|c5:=zt c4.2
 ·cases c5.2;exact yE hE (Z3++[c5])
 refine yK 1111 [] [] (λz:Unit=>VG=some r0) (λz=>[]) [1] (Z3++[c5,Hh (.cut 0)]) ?_ λJ1 au=>?_
 ·rintro⟨⟩ aa;cases aa;exact yE hE []
 refine yMb 1111210 [J1] [1,34,35,36] (λx=>[(36,.d (I x))]) c5.2  [Ha (lnM y6 m_.i),Hh (.n 1 [1])] λt2 aa ov m2 aw ae hl1 J2 ax=>?_;obtain c6|c6:=zt ae
 ·obtain⟨al,h0,ae⟩:=zl c6.2;let Z4:List HO:=[c6,Hi y6 h0,Ha (lnM F9_ al)];obtain c7|c7:=zt ae
  ·cases c7.2;cases hl1;cases aa;exact yE hE (Z4++(rpN 4 (Hb c7) [qT]))
  obtain⟨r_,h1,ae⟩:=zl c7.2;let Z5:List HO:=(Z4++[c7,c7,c7,zC2 0 h1,c7]);obtain c8|c8:=zt ae
  ·cases c8.2;cases hl1;cases aa;exact yE hE (Z5++[c8])
  cases c8.2;exact yB ax _ hl1 (Z5++[c8])
 cases c6.2;cases hl1;exact yB au () aa [c6]
def l8:=Y6 83 zK (zqM (zoS sZ (z0T 106 z4i)) (zoS sZ (z0T 108 z4i)) (zoS sZ (z0T 110 z4i))) Wf::l7
def z0Y [H:HS X0 l7]:OkH l8:=yS1 false func83 λm_ r0 aa E hE=>by cases aa;exact yE hE []
def l9:=Y6 153 zK (z0T 165 z4i) Vf::l8
def z1U [H:HS X0 l8]:OkH l9:=yS1 true func153 λm_ r0 aa E hE=>by cases aa;exact yE hE []
variable {σ:Type}
abbrev Qt (x0:z6)(YY:σ->Qv)(fk:Int)(kp:σ):List (Nat×T):=[(0,.own (.opq (YY kp).q)),(8,.d (eSl 1 false y6 x0.i)),(9,.d (I (x0.i.length:Int))),(10,.d (I fk))]
abbrev Qq (x0:z6)(YY:σ->Qv)(fk:Int)(al:List z7)(gx:σ)(ba:Int):List (Nat×T):=[(0,.own (.opq (YY gx).q)),(3,.d (I fk)),(8,.d (eSl 1 false y6 x0.i)),(9,.d (I (x0.i.length:Int))),(10,.d (I fk)),(15,.d (eSl 2 false F9_ al)),(16,.d (I (al.length:Int))),(17,.d (I ba))]
abbrev Qr (x0:z6)(YY:σ->Qv)(de:σ)(fk:Int):List (Nat×T):=[(0,.own (.opq (YY de).q)),(8,.d (eSl 1 false y6 x0.i)),(9,.d (I (x0.i.length:Int))),(10,.d (I fk))]
def KR [H:HS X0 l9](x0:z6):z8Y prog (.fn 165 [.sptr (.agg [I x0.j,I x0.m,eSl 1 false y6 x0.i])]) (λ(x:wF Int×z7) (_:Bool) (_:Value)=>[F0_ x.1,F9_ x.2]) (@jX x0):=by
 refine z3c (tt:=uQ) (nt:=f165.ntmps) (body:=zbd f165) zn func165 rfl κ rfl rfl (by show(2:Nat)<=31;decide) ?_;intro σ yv YY yy hy sg r0 aa E hE;obtain⟨t1,ht1,aa⟩:=zl aa;refine yL 110 [] (λs=>uo x0 yy s.1 s.2) (λx=>Qr x0 YY x.1 x.2) (sg,0) ht1  [Ha (lnM y6 x0.i)] λ⟨de,fk⟩ m1 aw ae hl1 J1 au=>?_;obtain c0|c0:=zt ae
 ·refine yKs 110011 [J1] [0,8,9,10] (zI (kD fk) aw) (λz=>Qt x0 YY fk z) [c0,Hh (.cut 0)] ?_ λJ2 ax=>?_
  ·rintro kp ae;cases ae;exact yB au _ hl1 []
  obtain⟨al,h0,t3,ht3,ae⟩:=zV c0.2;refine yL 11001120110 [J1,J2] (λs=>wQ yy fk al s.1 s.2) (λx=>Qq x0 YY fk al x.1 x.2) (de,0) ht3  [Hi y6 h0,Ha (lnM F9_ al)] λ⟨gx,ba⟩ m3 dc ah hl2 J3 bk=>?_;obtain c1|c1:=zt ah
  ·obtain⟨ak,h1,yr,h2,ah⟩:=zV c1.2;let Z0:List HO:=[c1,Hi F9_ h1,Hn (z2I (yv:=yv) (Y:=YY) (enc:=(λ(x:wF Int×z7) (_:Bool) (_:Value)=>[F0_ x.1,F9_ x.2])) (s:=gx) (x:=((wF.mk fk ba),ak)) (s':=yr.1) (b:=yr.2) (v:=.nilFunc) [F0_ (wF.mk fk ba),F9_ ak] (show Jr [F0_ (wF.mk fk ba),F9_ ak] [F0_ (wF.mk fk ba),F9_ ak] from inferInstance))];obtain c2|c2:=zt ah
   ·cases c2.2;cases hl2;cases ae;cases hl1;cases aa;exact yF (H:=zx ((Qx (P:=prog) uQ hy 27 (s:=gx) (x:=((wF.mk fk ba),ak)) (s':=yr.1) (b:=yr.2) .nilFunc h2).or X0)) .ret [(0,.own (.opq (YY yr.1).q))] (Z0++[c2]) λst0 h0=>hE _ st0 (.inr rfl) h0
   cases c2.2;exact yB (H:=zx ((Qx (P:=prog) uQ hy 27 (s:=gx) (x:=((wF.mk fk ba),ak)) (s':=yr.1) (b:=yr.2) .nilFunc h2).or X0)) bk _ hl2 (Z0++[c2])
  cases c1.2;cases hl2;exact yB ax gx ae [c1]
 cases c0.2;cases hl1;cases aa;exact yF .normal [(0,.own (.opq (YY de).q))] [c0] λst0 h0=>hE _ st0 (.inl rfl) h0
def l10:=Y6 154 (eSl 2 false F0_) (eSl 2 true F0_) uj::l9
def V8 [H:HS X0 l9]:OkH l10:=yS1 true func154 λs_ r0 aa E hE=>by obtain⟨g0,aa⟩:=gdE aa;cases aa;exact yE hE [Ha (lnM F0_ s_),Ha (lnM F0_ s_),Hn (slB g0),Hn (slC g0),Hn (zib F0_ g0),Ha (znz 2 F0_ s_ 0 (s_.length:Int).toNat)]
def l11:=Y6 139 zK (eSl 2 true F0_) Zx::l10
def JW [H:HS X0 l10]:OkH l11:=yS1 true func139 λm_ r0 aa E hE=>by
 refine yK 111 [] [3] (zI qK r0) (λz=>[(3,.own (.box (eOs 2 false F0_ z)))]) [1,3] [Hh (.cut 2)] ?_ λJ1 au=>?_
 ·rintro out aa;obtain⟨r_,h0,aa⟩:=zl aa;cases aa;exact yE hE [zg 0,Hm (shM F0_ F0_ out),Hs (zf1 0 h0 (loC (eSl 2 false F0_) out<|loN)),Hm (shM F0_ F0_ out)]
 obtain⟨ai,h1,t2,ht2,aa⟩:=zV aa;refine yAt (sub [1,1,2,1,0] (zbd f139)) (frs [1,1,2,1,0] [J1] (zbd f139) []) [(3,.own (.box (eOs 2 true F0_ []))),(7,.d (.fn 165 [.sptr (.agg [I ai.j,I ai.m,eSl 1 false y6 ai.i])]))] [zC1 1 h1] λst0 h0=>?_;refine z1m (g:=.tmp 7) (ps:=[8,9]) (assign:=(sub [1,1,2,1,0,0] (zbd f139))) (body:=(sub [1,1,2,1,0,1] (zbd f139))) (K:=165) (caps:=[.sptr (.agg [I ai.j,I ai.m,eSl 1 false y6 ai.i])]) κ [3,7] (λs=>[(3,.own (.box (eOs 2 false F0_ s))),(7,.d (.fn 165 [.sptr (.agg [I ai.j,I ai.m,eSl 1 false y6 ai.i])]))]) (λz=>nomatch z) (λz=>nomatch z) ((λ(x:wF Int×z7) (_:Bool) (_:Value)=>[F0_ x.1,F9_ x.2])) (F:=@jX ai) (λs x=>yw s x.1 x.2) ([]:List (wF Int)) t2 _ h0 inferInstance κ θ (λ_=>rfl) (by rintro⟨⟩) κ (λ_ _ _=>rfl) (KR (H:=zd 1) ai) ht2 ?_ ?_
 ·rintro qu aj ⟨x8,x9⟩ vr aw ae;replace ae:yw aj x8 x9=some aw:=ae;refine yF .normal [(3,.own (.box (eOs 2 false F0_ aj))),(4,.own (.box (F0_ x8))),(5,.own (.box (F9_ x9))),(7,.d (.fn 165 [.sptr (.agg [I ai.j,I ai.m,eSl 1 false y6 ai.i])]))] [] λst0 h0=>⟨rfl,z4e h0 ?_⟩;obtain⟨am,h2,ae⟩:=zl ae;let Z0:List HO:=[zC0 8 h2];obtain c0|c0:=zt ae
  ·obtain⟨g0,ae⟩:=gdE c0.2;cases ae;exact yF .normal ([(3,.own (.box (eOs 2 false F0_ (aj++[x8])))),(7,.d (.fn 165 [.sptr (.agg [I ai.j,I ai.m,eSl 1 false y6 ai.i])]))]) (Z0++[c0,Hq (dM F0_ [x8]),Hn (dM F0_ [x8]),Hn (aL F0_ F0_ g0),Hl (aM F0_ aj [x8])]) λst0 h0=>⟨rfl,_,h0,LeL.refl _⟩
  cases c0.2;exact yF .normal ([(3,.own (.box (eOs 2 false F0_ aj))),(7,.d (.fn 165 [.sptr (.agg [I ai.j,I ai.m,eSl 1 false y6 ai.i])]))]) (Z0++[c0]) λst0 h0=>⟨rfl,_,h0,LeL.refl _⟩
 rcases t2 with aj|z
 ·dsimp only at aa;exact YQ κ (au _ [(3,.own (.box (eOs 2 false F0_ aj)))] aj aa (show Own.canon [3] _=ofL _ by kernel_rfl) inferInstance)
 cases z
def l12:=Y6 107 zK (eT2 eB sZ) qU::l11
def Ko [H:HS X0 l11]:OkH l12:=yS1 false func107 λm_ r0 aa E hE=>by
 obtain⟨r_,h0,aa⟩:=zl aa;let Z0:List HO:=[zC1 4 h0];obtain c0|c0:=zt aa
 ·cases c0.2;exact yE hE (Z0++[c0])
 obtain⟨ai,h1,aa⟩:=zl c0.2;cases aa;exact yE hE (Z0++[c0,zC1 0 h1,Ha (lnM F0_ ai)])
def l13:=Y6 106 z4i eB Yb::l12
def Kn [H:HS X0 l12]:OkH l13:=yS1 true func106 λx0 r0 aa E hE=>by obtain⟨r_,h0,aa⟩:=zl aa;cases aa;exact yE hE [zC1 0 h0]
def Q3 [H:HS X0 l13](ct:Value)(lv:Value)(lw:Value):∀(fu:Nat) (s_:Int) (y0:List Bool) (y1:z6) (r0:List Bool×z6),ya fu s_ y0 y1=some r0->xS prog (.fn 140 [.atom ct,.atom lv,.atom lw]) [I s_] ([ct,lv,lw].zip [.box (eOs 1 true eB y0),.box (.agg [I y1.j,I y1.m,eSl 1 false y6 y1.i]),.box (.fn 140 [.atom ct,.atom lv,.atom lw])]) (.tup []) [.box (eOs 1 true eB r0.1),.box (.agg [I r0.2.j,I r0.2.m,eSl 1 false y6 r0.2.i]),.box (.fn 140 [.atom ct,.atom lv,.atom lw])]:=by
 intro fu;induction fu with
 |zero=>intro s_ y0 y1 r0 aa;exact nomatch (show none=some r0 from aa)
 |succ fu ih=>
  intro s_ y0 y1 r0 aa;replace aa:wU (ya fu) s_ y0 y1=some r0:=aa;generalize ya fu=mg at ih aa;refine z5R (tt:=uQ) (nt:=f140.ntmps) (body:=zbd f140) [1,2,3] zn func140 rfl κ rfl rfl (by show(4:Nat)<=33;decide) θ rfl rfl (λE hE=>?_) rfl;obtain c0|c0:=zt aa
  ·cases c0.2;exact yF .ret [(1,.own (.box (eOs 1 true eB y0))),(2,.own (.box (.agg [I y1.j,I y1.m,eSl 1 false y6 y1.i]))),(3,.own (.box (.fn 140 [.atom ct,.atom lv,.atom lw])))] (rpN 5 (Hb c0) [qT]) λst0 h0=>hE _ st0 (.inr rfl) (Yc h0 ⟨⟨rfl,rfl⟩,⟨⟨rfl,rfl⟩,⟨⟨rfl,rfl⟩,trivial⟩⟩⟩)
  obtain⟨se,h0,aa⟩:=zl c0.2;let Z0:List HO:=[c0,c0,c0,Hn (iL eB h0),c0,Hs (iM eB h0),c0];obtain c1|c1:=zt aa
  ·cases c1.2;exact yF .ret [(1,.own (.box (eOs 1 true eB y0))),(2,.own (.box (.agg [I y1.j,I y1.m,eSl 1 false y6 y1.i]))),(3,.own (.box (.fn 140 [.atom ct,.atom lv,.atom lw])))] (Z0++[c1]) λst0 h0=>hE _ st0 (.inr rfl) (Yc h0 ⟨⟨rfl,rfl⟩,⟨⟨rfl,rfl⟩,⟨⟨rfl,rfl⟩,trivial⟩⟩⟩)
  obtain⟨sk,h1,al,h2,t1,ht1,aa⟩:=ZK c1.2;refine yM 11110 [] [1,2,3,22,23,24] (λx=>[(1,.own (.box (eOs 1 true eB x.1))),(2,.own (.box (.agg [I x.2.1,I x.2.2.1,eSl 1 false y6 x.2.2.2.1]))),(24,.d (I x.2.2.2.2))]) ht1  (Z0++[c1,Hn (iL eB h1),Hs (iM eB h1),Hs (iM eB h1),Hl (sM eB y0 s_ true),Hi y6 h2,Ha (lnM F9_ al)]) λ⟨x1,iy,il,ki,fe⟩ m1 aw ae hl1 J1 au=>?_;obtain c2|c2:=zt ae
  ·obtain⟨ak,h3,r_,h4,ae⟩:=zV c2.2;cases ae;exact yB (H:=zx ((z2o (P:=prog) uQ [1,2,3] (ih _ _ _ _ h4) 31).or X0)) au _ hl1 [c2,Hi F9_ h3,Hn (Uc (f:=.fn 140 [.atom ct,.atom lv,.atom lw]) (xs:=[sZ ak.o]) (ls:=[(ct,.box (eOs 1 true eB x1)),(lv,.box (.agg [I iy,I il,eSl 1 false y6 ki])),(lw,.box (.fn 140 [.atom ct,.atom lv,.atom lw]))]) (r:=.tup []) (ys:=[.box (eOs 1 true eB r_.1),.box (.agg [I r_.2.j,I r_.2.m,eSl 1 false y6 r_.2.i]),.box (.fn 140 [.atom ct,.atom lv,.atom lw])]) [sZ ak.o] (show Jr [sZ ak.o] [sZ ak.o] from inferInstance))]
  cases c2.2;cases hl1;cases aa;exact yF .normal [(1,.own (.box (eOs 1 true eB x1))),(2,.own (.box (.agg [I iy,I il,eSl 1 false y6 ki]))),(3,.own (.box (.fn 140 [.atom ct,.atom lv,.atom lw])))] [c2] λst0 h0=>hE _ st0 (.inl rfl) (Yc h0 ⟨⟨rfl,rfl⟩,⟨⟨rfl,rfl⟩,⟨⟨rfl,rfl⟩,trivial⟩⟩⟩)
def l14:=jV 155 (eSl 1 false eB) eB sZ uH::l13
def Vr [H:HS X0 l13]:OkH l14:=yS2 true func155 λs_ v_ r0 aa E hE=>by
 refine yK 11 [] [] (λz:Unit=>jJ=some r0) (λz=>[]) [0,1] [Hh (.cut 1)] ?_ λJ1 au=>?_
 ·rintro⟨⟩ aa;cases aa;exact yE hE []
 refine yMb 11210 [J1] [0,1,7,8] (λx=>[(8,.d (I x))]) aa  [Ha (lnM eB s_)] λt2 aa x8 m2 aw ae hl1 J2 ax=>?_;obtain c0|c0:=zt ae
 ·obtain⟨d9,h0,ae⟩:=zl c0.2;obtain c1|c1:=zt ae
  ·cases c1.2;cases hl1;cases aa;exact yE hE [c0,Hi eB h0,c1]
  cases c1.2;exact yB ax _ hl1 [c0,Hi eB h0,c1]
 cases c0.2;cases hl1;exact yB au () aa [c0]
def l15:=jV 141 (eSl 1 false eB) eB eB xX::l14
def XP [H:HS X0 l14]:OkH l15:=yS2 true func141 λs_ v_ r0 aa E hE=>by obtain⟨r_,h0,aa⟩:=zl aa;cases aa;exact yE hE [zC2 0 h0]
def l16:=Y6 109 zK (eT2 eB sZ) vq::l15
def JX [H:HS X0 l15]:OkH l16:=yS1 false func109 λm_ r0 aa E hE=>by
 obtain⟨r_,h0,aa⟩:=zl aa;let Z0:List HO:=[zC1 8 h0];obtain c0|c0:=zt aa
 ·cases c0.2;exact yE hE (Z0++[c0])
 obtain⟨g0,aa⟩:=gdE c0.2;refine yC 11111 [] [1,5,6] (Z0++[c0,Ha (lnM y6 m_.i),Hn (rL g0),Ha (rM 1 eB (m_.i.length:Int) false),Hh (.cut 1)]) ?_;refine z7P κ 5 λbm=>?_;refine z7P κ 1 λqn=>?_;refine z7P κ 6 λly=>?_;obtain⟨ai,h1,am,h2,aa⟩:=zV aa;cases aa;exact yE (H:=zx ((z2o (P:=prog) uQ [5,1,6] (Q3 (H:=zd 2) bm qn ly Vn _ _ _ _ h1) 18).or ((xMk prog uQ).or X0))) hE [Hn (Uc (f:=.fn 140 [.atom bm,.atom qn,.atom ly]) (xs:=[sZ 0]) (ls:=[(bm,.box (eOs 1 true eB (List.replicate (m_.i.length:Int).toNat false))),(qn,.box (.agg [I m_.j,I m_.m,eSl 1 false y6 m_.i])),(ly,.box (.fn 140 [.atom bm,.atom qn,.atom ly]))]) (r:=.tup []) (ys:=[.box (eOs 1 true eB ai.1),.box (.agg [I ai.2.j,I ai.2.m,eSl 1 false y6 ai.2.i]),.box (.fn 140 [.atom bm,.atom qn,.atom ly])]) [sZ 0] (show Jr [sZ 0] [sZ 0] from inferInstance)),zg 0,Hm (shM eB eB ai.1),Hs (zf2 0 h2 (loC (eSl 1 true eB) ai.1<|loC eB false<|loN))]
def l17:=Y6 108 z4i eB Ya::l16
def Km [H:HS X0 l16]:OkH l17:=yS1 true func108 λx0 r0 aa E hE=>by obtain⟨r_,h0,aa⟩:=zl aa;cases aa;exact yE hE [zC1 0 h0]
def l18:=Y6 142 zK (z0T 156 z4i) Vb::l17
def z1S [H:HS X0 l17]:OkH l18:=yS1 true func142 λm_ r0 aa E hE=>by cases aa;exact yE hE []
def l19:=z0Q 166 zK F5_ sZ F8_ kL::l18
def z3Q [H:HS X0 l18]:OkH l19:=yS3 false func166 λm_ p_ s_ r0 aa E hE=>by
 refine yN 111 [] [6,7] (zI W1 r0) (λz=>[(7,.own (.box (F8_ z)))]) [1,2,3,6,7] [Hh (.cut 2)] ?_ λJ1 au=>?_
 ·rintro out aa;cases aa;exact yE hE []
 obtain⟨al,h0,t2,ht2,aa⟩:=zV aa;refine yM 111210 [J1] [1,6,7,14,15,16] (λx=>[(7,.own (.box (F8_ x.1))),(16,.d (I x.2))]) ht2  [Hi y6 h0,Ha (lnM F9_ al)] λ⟨aj,ep⟩ m2 aw ae hl1 J2 ax=>?_;obtain c0|c0:=zt ae
 ·refine yNs 111210011 [J1,J2] [1,6,7,14,15,16] (zI (Zc ep) aw) (λz=>[(7,.own (.box (F8_ z)))]) [c0,Hh (.cut 0)] ?_ λJ3 bk=>?_
  ·rintro ay ae;cases ae;exact yB ax _ hl1 []
  obtain⟨ak,h1,cell,h2,arr,h3,ae⟩:=ZK c0.2;replace h3:=zZ h3;let Z0:List HO:=[Hi F9_ h1,Hn (⟨arJ κ (i0 h2),(iL F0_ h2).2⟩:YR uQ 231 ((zw.toL aj).map F0_) ep=true/\ep.toNat<((zw.toL aj).map F0_).length),Hh (.op 9),Hh (.f),Hs (iM F0_ h2),Hh (.f),Hs (iM F0_ h2),Hx (.l ((zw.toL arr).map F0_)) ((zw.setL F0_ aj ep (wF.mk ak.r (-1))).trans (congrArg (λq=>(zw.toL q).map F0_) h3))];obtain c1|c1:=zt ae
  ·obtain⟨bg,h4,ca,h5,arr1,h6,ae⟩:=ZK c1.2;replace h6:=zZ h6;exact yB bk arr1 ae (Z0++[c1,Hi sZ h4,Hn (⟨arJ κ (i0 h5),(iL F0_ h5).2⟩:YR uQ 231 ((zw.toL arr).map F0_) ep=true/\ep.toNat<((zw.toL arr).map F0_).length),Hh (.op 2),Hh (.f),Hs (iM F0_ h5),Hn (⟨rfl,θ⟩:true=true/\1<2),Hh (.op 0),Hh (.f),Hs (iM F0_ h5),Hh (.f),Hx (.a (I ca.e1)) (rfl:some (I ca.e1:A)=some (I ca.e1)),Hh (.f),Hs (iM F0_ h5),Hh (.f),Hx (.a (I ca.e1)) (rfl:some (I ca.e1:A)=some (I ca.e1)),Hx (.l [I ca.e0,I bg]) (rfl:[I ca.e0,I bg]=[I ca.e0,I bg]),Hx (.l ((zw.toL arr1).map F0_)) ((zw.setL F0_ arr ep (wF.mk ca.e0 bg)).trans (congrArg (λq=>(zw.toL q).map F0_) h6))])
  exact yB bk arr c1.2 (Z0++[c1])
 cases c0.2;cases hl1;exact yB au aj aa [c0]
def l20:=jV 157 zK F5_ F2_ Zf::l19
def z0V [H:HS X0 l19]:OkH l20:=yS2 true func157 λm_ p_ r0 aa E hE=>by
 let u0:=(zaN [.i64,.i64,.i64,.i64,.i64,.i64,.i64,.i64,.i64,.i64,.i64,.i64,.i64,.i64,.i64,.i64,.i64,.i64,.i64,.i64,.i64,.i64,.i64,.i64,.i64,.i64,.i64,.i64,.i64,.i64,.i64,.i64,.i64]);obtain⟨g0,aa⟩:=gdE aa;refine yK (H:=zx ((zkh prog 12).or X0)) 1111 [] [6] (zI Ze r0) (λz=>[(6,.own (eOs 1 true sZ z))]) [1,2,5,6] [Ha (lnM sZ p_),Hn (rL g0),Ha (rM 1 sZ (p_.length:Int) (0:Int)),Hh (.cut 0)] ?_ λJ1 au=>?_
 ·rintro out aa;cases aa;exact yE hE []
 refine yMb 1111210 [J1] [1,2,5,6,16,17,18] (λx=>[(5,.own (.opq (z0j (YO z1L sZ x.1)))),(6,.own (eOs 1 true sZ x.2.1)),(18,.d (I x.2.2))]) aa  [Ha (lnM sZ p_)] λt2 aa ⟨names,aj,fh⟩ m2 aw ae hl1 J2 ax=>?_;obtain c0|c0:=zt ae
 ·obtain⟨bg,h0,r_,h1,ae⟩:=zV c0.2;refine yNs 11112100110011 [J1,J2] [1,2,5,6,7,9,16,17,18] (zI (vn aj fh bg r_) aw) (λz=>[(5,.own (.opq (z0j (YO z1L sZ z))))]) [c0,Hi sZ h0,zC3 0 h1,Hh (.cut 0)] ?_ λJ3 bk=>?_
  ·rintro io ae;obtain⟨val,h2,ae⟩:=zl ae;replace h2:=zZ h2;obtain⟨fx,h3,ae⟩:=zl ae;cases ae;exact yB (H:=zx ((zb9 z7f 45 (YO z1L sZ io)).or X0)) ax _ hl1 [Hn (⟨rfl,rfl,z7G (λ_=>rfl) io⟩:A.opq (z0j (YO z1L sZ io))=A.opq (z0j (YO z1L sZ io))/\u0 (z1L (zJ.mk bg r_))=true/\∀p∈YO z1L sZ io,u0 p.1=true),Hx (.a (sZ val)) ((zpW (f:=z1L) (g:=sZ) (z0:=0) (z:=.atom (.int .i64 0)) rfl (zJ.mk bg r_) io).trans (congrArg sZ h2)),Hn (iL sZ h3),Hs (iM sZ h3),Hs (iM sZ h3),Hl (sM sZ aj fh val)]
  obtain⟨qw,h4,ae⟩:=zl ae;replace h4:=zZ h4;let Z0:List HO:=[Hn (⟨rfl,rfl,z7G (λ_=>rfl) names⟩:A.opq (z0j (YO z1L sZ names))=A.opq (z0j (YO z1L sZ names))/\u0 (z1L (zJ.mk bg r_))=true/\∀p∈YO z1L sZ names,u0 p.1=true),Hx (.a (.tup [I qw,B ((VU names (zJ.mk bg r_)).isSome)])) ((zqK (f:=z1L) (g:=sZ) (z0:=0) (z:=.atom (.int .i64 0)) rfl (zJ.mk bg r_) names).trans (congrArg (λx=>A.tup [sZ x,.atom (.bool (VU names (zJ.mk bg r_)).isSome)]) h4))];obtain c1|c1:=zt ae
  ·exact yB (H:=zx ((zpe z7f 37 (YO z1L sZ names) (YO z1L sZ (z35 names (zJ.mk bg r_) (names.length:Int)))).or ((znm z7f 40 (YO z1L sZ names)).or ((zb9 z7f 32 (YO z1L sZ names)).or X0)))) bk (z35 names (zJ.mk bg r_) (names.length:Int)) c1.2 (Z0++[c1,Hn (rfl:A.opq (z0j (YO z1L sZ names))=A.opq (z0j (YO z1L sZ names))),Hx (aLn names.length) (zjj z1L sZ names),Hn (⟨rfl,rfl,rfl,rfl,z7G (λ_=>rfl) names⟩:T.own (.opq (z0j (YO z1L sZ names)))=T.own (.opq (z0j (YO z1L sZ names)))/\0=0/\u0 (z1L (zJ.mk bg r_))=true/\(sZ (names.length:Int)).isD=true/\∀p∈YO z1L sZ names,u0 p.1=true),Hn (zbU (f:=z1L) (g:=sZ) (zJ.mk bg r_) (names.length:Int) names)])
  exact yB (H:=zx ((zb9 z7f 32 (YO z1L sZ names)).or X0)) bk names c1.2 (Z0++[c1])
 cases c0.2;cases hl1;exact yB au aj aa [c0]
def l21:=jV 158 F5_ F5_ eB vH::l20
def Q1 [H:HS X0 l20]:OkH l21:=yS2 true func158 λs1 s2 r0 aa E hE=>by
 let Z0:List HO:=[Ha (lnM sZ s1),Ha (lnM sZ s2)];obtain c0|c0:=zt aa
 ·cases c0.2;exact yE hE (Z0++[c0])
 refine yK 111 [] [] (λz:Unit=>ui=some r0) (λz=>[]) [0,1] (Z0++[c0,Hh (.cut 0)]) ?_ λJ1 au=>?_
 ·rintro⟨⟩ aa;cases aa;exact yE hE []
 refine yMb 111210 [J1] [0,1,12,13] (λx=>[(13,.d (I x))]) c0.2  [Ha (lnM sZ s1)] λt2 aa em m2 aw ae hl1 J2 ax=>?_;obtain c1|c1:=zt ae
 ·obtain⟨ow,h0,nh,h1,ae⟩:=zV c1.2;let Z1:List HO:=[c1,Hi sZ h0,Hi sZ h1];obtain c2|c2:=zt ae
  ·cases c2.2;cases hl1;cases aa;exact yE hE (Z1++[c2])
  cases c2.2;exact yB ax _ hl1 (Z1++[c2])
 cases c1.2;cases hl1;exact yB au () aa [c1]
abbrev Qp (x0:z6)(YY:σ->Qv)(de:σ)(p_:TB):List (Nat×T):=[(0,.own (.opq (YY de).q)),(1,.d (.sptr (zK x0))),(3,.own (eOs 1 true sZ p_))]
def KP [H:HS X0 l21](x0:z6):z8Y prog (.fn 156 [.sptr (.agg [I x0.j,I x0.m,eSl 1 false y6 x0.i])]) (λ(x:TB) (_:Bool) (_:Value)=>[F5_ x]) (@jW x0):=by
 refine z3c (tt:=uQ) (nt:=f156.ntmps) (body:=zbd f156) zn func156 rfl κ rfl rfl (by show(2:Nat)<=19;decide) ?_;intro σ yv YY yy hy sg r0 aa E hE;obtain⟨g0,aa⟩:=gdE aa;obtain⟨t1,ht1,aa⟩:=zl aa;refine yL 110 [] (λs=>uk x0 yy s.1 s.2) (λx=>Qp x0 YY x.1 x.2) (sg,(List.replicate (x0.i.length:Int).toNat (0:Int))) ht1  [Ha (lnM y6 x0.i),Hn (rL g0),Ha (rM 1 sZ (x0.i.length:Int) (0:Int))] λ⟨de,p_⟩ m1 aw ae hl1 J1 au=>?_;obtain⟨yr,h0,ae⟩:=zl ae;let Z0:List HO:=[Hm (shM sZ sZ p_),Hn (z2I (yv:=yv) (Y:=YY) (enc:=(λ(x:TB) (_:Bool) (_:Value)=>[F5_ x])) (s:=de) (x:=p_) (s':=yr.1) (b:=yr.2) (v:=.nilFunc) [F3_ p_] (show Jr [F3_ p_] [F5_ p_] from inferInstance))];obtain c0|c0:=zt ae
 ·obtain⟨r_,h1,ai,h2,ae⟩:=zV c0.2;let Z1:List HO:=(Z0++[c0,Hk [] (z0r (hat 1)) (zf2 1 h1 (loC zK x0 <| loC F3_ p_ <| loN)),zg 0,Hm (shM sZ sZ r_),Hs (zf2 0 h2 (loC F3_ p_ <| loC F3_ r_ <| loN))]);obtain c1|c1:=zt ae
  ·cases c1.2;cases hl1;cases aa;exact yF (H:=zx ((Qx (P:=prog) uQ hy 11 (s:=de) (x:=p_) (s':=yr.1) (b:=yr.2) .nilFunc h0).or X0)) .ret [(0,.own (.opq (YY yr.1).q))] (Z1++[c1]) λst0 h0=>hE _ st0 (.inr rfl) h0
  cases c1.2;exact yB (H:=zx ((Qx (P:=prog) uQ hy 11 (s:=de) (x:=p_) (s':=yr.1) (b:=yr.2) .nilFunc h0).or X0)) au _ hl1 (Z1++[c1])
 cases c0.2;cases hl1;cases aa;exact yF (H:=zx ((Qx (P:=prog) uQ hy 11 (s:=de) (x:=p_) (s':=yr.1) (b:=yr.2) .nilFunc h0).or X0)) .normal [(0,.own (.opq (YY yr.1).q))] (Z0++[c0]) λst0 h0=>hE _ st0 (.inl rfl) h0
def l22:=Y6 111 zK (eT3 F5_ sZ sZ) Zh::l21
def z0W [H:HS X0 l21]:OkH l22:=yS1 false func111 λm_ r0 aa E hE=>by
 obtain⟨r_,h0,aa⟩:=zl aa;let Z0:List HO:=[Hh (.v 2 [2]),Hm (shM sZ sZ []),zC1 14 h0];obtain c0|c0:=zt aa
 ·cases c0.2;exact yEl hE (Z0++[c0,Hm (shM sZ sZ [])])
 refine yK 1111 [] [2,3] (λz:TB×Int=>Zg z.1 z.2=some r0) (λz=>[(2,.own (.box (eSl 1 false sZ z.1))),(3,.own (.box (I z.2)))]) [1,2,3] (Z0++[Hb c0,Hh (.cut 1)]) ?_ λJ1 au=>?_
 ·rintro⟨p_,n_⟩ aa;cases aa;exact yE hE []
 obtain⟨ai,h1,t2,ht2,aa⟩:=zV c0.2;refine yAt (sub [1,1,1,2,1,0] (zbd f111)) (frs [1,1,1,2,1,0] [J1] (zbd f111) []) [(2,.own (.box (eSl 1 true sZ []))),(3,.own (.box (I (-1)))),(13,.d (.fn 156 [.sptr (.agg [I ai.j,I ai.m,eSl 1 false y6 ai.i])]))] [zC1 3 h1] λst0 h0=>?_;refine z1m (g:=.tmp 13) (ps:=[14]) (assign:=(sub [1,1,1,2,1,0,0] (zbd f111))) (body:=(sub [1,1,1,2,1,0,1] (zbd f111))) (K:=156) (caps:=[.sptr (.agg [I ai.j,I ai.m,eSl 1 false y6 ai.i])]) κ [2,3,13] (λs=>[(2,.own (.box (eSl 1 false sZ s.1))),(3,.own (.box (I s.2))),(13,.d (.fn 156 [.sptr (.agg [I ai.j,I ai.m,eSl 1 false y6 ai.i])]))]) (λz=>nomatch z) (λz=>nomatch z) ((λ(x:TB) (_:Bool) (_:Value)=>[F5_ x])) (F:=@jW ai) (λs x=>vo s.1 s.2 x) (([]:TB),(-1)) t2 _ h0 inferInstance κ θ (λ_=>rfl) (by rintro⟨⟩) κ (λ_ _ _=>rfl) (KP (H:=zd 0) ai) ht2 ?_ ?_
 ·rintro qu ⟨nd,cb⟩ k9 vr aw ae;replace ae:vo nd cb k9=some aw:=ae;refine yF .normal [(2,.own (.box (eSl 1 false sZ nd))),(3,.own (.box (I cb))),(6,.d (eSl 1 false sZ k9)),(13,.d (.fn 156 [.sptr (.agg [I ai.j,I ai.m,eSl 1 false y6 ai.i])]))] [] λst0 h0=>⟨rfl,z4e h0 ?_⟩;cases ae;exact yF .normal ([(2,.own (.box (eSl 1 false sZ k9))),(3,.own (.box (I (w64 (cb+1))))),(13,.d (.fn 156 [.sptr (.agg [I ai.j,I ai.m,eSl 1 false y6 ai.i])]))]) [] λst0 h0=>⟨rfl,_,h0,LeL.refl _⟩
 rcases t2 with⟨nd,cb⟩|z
 ·dsimp only at aa;exact YQ κ (au _ [(2,.own (.box (eSl 1 false sZ nd))),(3,.own (.box (I cb)))] (nd,cb) aa (show Own.canon [2,3] _=ofL _ by kernel_rfl) inferInstance)
 cases z
def l23:=Y6 112 F5_ sZ uK::l22
def JV [H:HS X0 l22]:OkH l23:=yS1 true func112 λx_ r0 aa E hE=>by
 obtain c0|c0:=zt aa
 ·cases c0.2
 obtain⟨mc,h0,aa⟩:=zl c0.2;refine yK 1111 [] [3] (zI uY r0) (λz=>[(3,.d (I z))]) [0,3] [Ha (lnM sZ x_),c0,Hi sZ h0,Hh (.cut 0)] ?_ λJ1 au=>?_
 ·rintro m_ aa;cases aa;exact yE hE []
 refine yMb 1111210 [J1] [0,3,4] (λx=>[(3,.d (I x.1)),(4,.d (I x.2))]) aa  [] λt2 aa ⟨ox,i_⟩ m2 aw ae hl1 J2 ax=>?_;obtain c1|c1:=zt ae
 ·obtain⟨lp,h1,ae⟩:=zl c1.2;cases ae;exact yB ax _ hl1 [Ha (lnM sZ x_),c1,Hi sZ h1]
 cases c1.2;cases hl1;exact yB au ox aa [Ha (lnM sZ x_),c1]
def l24:=Y6 110 z4i eB Y9::l23
def Kl [H:HS X0 l23]:OkH l24:=yS1 true func110 λx0 r0 aa E hE=>by obtain⟨r_,h0,ai,h1,aa⟩:=zV aa;cases aa;exact yE hE [zC1 1 h0,zC1 0 h1,Ha (lnM sZ r_.1)]
def l25:=Y6 56 zK sZ xJ::l24
def KQ [H:HS X0 l24]:OkH l25:=yS1 true func56 λm_ r0 aa E hE=>by
 obtain⟨r_,h0,aa⟩:=zl aa;let Z0:List HO:=[zC1 17 h0];obtain c0|c0:=zt aa
 ·cases c0.2;exact yE hE (Z0++[c0])
 refine yK 111 [] [] (λz:Unit=>kC=some r0) (λz=>[]) [1] (Z0++[c0,Hh (.cut 0)]) ?_ λJ1 au=>?_
 ·rintro⟨⟩ aa;cases aa;exact yE hE []
 obtain⟨ai,h1,am,h2,aa⟩:=zV c0.2;let Z1:List HO:=[zC1 16 h1,Hh (.u 70),qT,zC1 11 h2];obtain c1|c1:=zt aa
 ·cases c1.2;exact yE hE (Z1++[c1])
 obtain⟨az,h3,aa⟩:=zl c1.2;let Z2:List HO:=(Z1++[c1,qT,zC1 7 h3]);obtain c2|c2:=zt aa
 ·cases c2.2;exact yE hE (Z2++[c2])
 obtain⟨cp,h4,aa⟩:=zl c2.2;let Z3:List HO:=(Z2++[c2,qT,zC1 0 h4]);obtain c3|c3:=zt aa
 ·cases c3.2;exact yE hE (Z3++[c3])
 exact yB au () c3.2 (Z3++[c3,qF])
def l26:=jV 35 zK sZ sZ VO::l25
def z6y [H:HS X0 l25]:OkH l26:=yS2 true func35 λm_ states r0 aa E hE=>by
 obtain c0|c0:=zt aa
 ·cases c0.2;exact yE hE [c0]
 refine yK 1111 [] [5] (zI z0u r0) (λz=>[(5,.d (I z))]) [1,2,5] [c0,Hh (.cut 1)] ?_ λJ1 au=>?_
 ·rintro n_ aa;cases aa;exact yE hE []
 refine yMb 1111210 [J1] [1,2,5,6] (λx=>[(5,.d (I x.1)),(6,.d (I x.2))]) c0.2  [] λt2 aa ⟨cb,i_⟩ m2 aw ae hl1 J2 ax=>?_;obtain c1|c1:=zt ae
 ·obtain c2|c2:=zt c1.2
  ·cases c2.2;exact yB ax _ hl1 [c1,c1,c1,c2]
  cases c2.2;cases hl1;exact yB au cb aa [c1,c1,c1,c2]
 cases c1.2;cases hl1;exact yB au cb aa [c1,c1,c1,qF]
def l27:=jV 34 zK sZ sZ VP::l26
def z6z [H:HS X0 l26]:OkH l27:=yS2 true func34 λm_ states r0 aa E hE=>by
 obtain⟨r_,h0,aa⟩:=zl aa;let Z0:List HO:=[zC1 1 h0];obtain c0|c0:=zt aa
 ·cases c0.2;exact yE hE (Z0++[c0])
 obtain c1|c1:=zt c0.2
 ·cases c1.2;exact yE hE (Z0++[c0,c1])
 obtain⟨ai,h1,aa⟩:=zl c1.2;let Z1:List HO:=(Z0++[c0,c1,zC2 0 h1]);obtain c2|c2:=zt aa
 ·cases c2.2;exact yE hE (Z1++[c2])
 cases c2.2;exact yE hE (Z1++[c2])
def l28:=jV 12 zK sZ (eT2 sZ sZ) UC::l27
def z5l [H:HS X0 l27]:OkH l28:=yS2 false func12 λm_ states r0 aa E hE=>by
 obtain⟨r_,h0,aa⟩:=zl aa;let Z0:List HO:=[zC2 0 h0];obtain c0|c0:=zt aa
 ·cases c0.2;exact yE hE (Z0++[c0])
 obtain⟨ai,h1,aa⟩:=zl c0.2;cases aa;exact yE hE (Z0++[c0,zC2 1 h1])
def l29:=jV 138 sZ (eSp sZ) eB VV::l28
def z2q [H:HS X0 l28]:OkH l29:=yS2 true func138 λc_ x1 r0 aa E hE=>by
 obtain c0|c0:=zt aa
 ·cases c0.2;exact yE hE (rpN 4 (Hb c0) [])
 cases c0.2;exact yE hE (rpN 4 (Hb c0) [])
def l30:=jV 152 F5_ (z0T 138 (eSp sZ)) sZ vN::l29
def WB [H:HS X0 l29]:OkH l30:=yS2 true func152 λs_ f_ r0 aa E hE=>by
 refine yK 11 [] [] (λz:Unit=>uZ=some r0) (λz=>[]) [0,1] [Hh (.cut 1)] ?_ λJ1 au=>?_
 ·rintro⟨⟩ aa;cases aa;exact yE hE []
 refine yMb 11210 [J1] [0,1,7,8] (λx=>[(8,.d (I x))]) aa  [Ha (lnM sZ s_)] λt2 aa x8 m2 aw ae hl1 J2 ax=>?_;obtain c0|c0:=zt ae
 ·obtain⟨d9,h0,r_,h1,ae⟩:=zV c0.2;let Z0:List HO:=[c0,Hi sZ h0,zC2 0 h1];obtain c1|c1:=zt ae
  ·cases c1.2;cases hl1;cases aa;exact yE hE (Z0++[c1])
  cases c1.2;exact yB ax _ hl1 (Z0++[c1])
 cases c0.2;cases hl1;exact yB au () aa [c0]
def l31:=jV 137 F5_ (z0T 138 (eSp sZ)) eB wN::l30
def YW [H:HS X0 l30]:OkH l31:=yS2 true func137 λs_ f_ r0 aa E hE=>by obtain⟨r_,h0,aa⟩:=zl aa;cases aa;exact yE hE [zC2 0 h0]
def l32:=jV 105 F5_ sZ sZ jZ::l31
def z4Z [H:HS X0 l31]:OkH l32:=yS2 true func105 λw_ inputs r0 aa E hE=>by
 obtain c0|c0:=zt aa
 ·cases c0.2;exact yE hE (rpN 4 (Hb c0) [qT])
 let Z0:List HO:=[c0,c0,Ha (lnM sZ w_),c0,c0];obtain c1|c1:=zt c0.2
 ·cases c1.2;exact yE hE (Z0++[c1])
 obtain c2|c2:=zt c1.2
 ·cases c2.2;exact yE hE (Z0++(Hb c1::(rpN 4 (Hb c2) [qT])))
 obtain⟨r_,h0,aa⟩:=zl c2.2;let Z1:List HO:=(Z0++[c1,c2,c2,c2,zC2 0 h0,c2]);obtain c3|c3:=zt aa
 ·cases c3.2;exact yE hE (Z1++[c3])
 cases c3.2;exact yE hE (Z1++[c3])
def l33:=jV 78 xq sZ sZ XS::l32
def z54 [H:HS X0 l32]:OkH l33:=yS2 true func78 λl_ inputs r0 aa E hE=>by
 obtain c0|c0:=zt aa
 ·cases c0.2;exact yE hE (rpN 4 (Hb c0) [qT])
 let Z0:List HO:=[c0,c0,Ha (lnM F5_ l_),c0,c0];obtain c1|c1:=zt c0.2
 ·cases c1.2;exact yE hE (Z0++[c1])
 obtain c2|c2:=zt c1.2
 ·cases c2.2;exact yE hE (Z0++[c1,c2])
 refine yK 1111 [] [] (λz:Unit=>K9=some r0) (λz=>[]) [0,1] (Z0++[c1,c2,Hh (.cut 0)]) ?_ λJ1 au=>?_
 ·rintro⟨⟩ aa;cases aa;exact yE hE []
 refine yMb 1111210 [J1] [1,17,18,19] (λx=>[(19,.d (I x))]) c2.2  [Ha (lnM F5_ l_)] λt2 aa gc m2 aw ae hl1 J2 ax=>?_;obtain c3|c3:=zt ae
 ·obtain⟨cq,h0,r_,h1,ae⟩:=zV c3.2;let Z1:List HO:=[c3,Hi F5_ h0,zC2 0 h1];obtain c4|c4:=zt ae
  ·cases c4.2;cases hl1;cases aa;exact yE hE (Z1++[c4])
  cases c4.2;exact yB ax _ hl1 (Z1++[c4])
 cases c3.2;cases hl1;exact yB au () aa [c3]
def l34:=Y6 135 sZ eB XD::l33
def z2D [H:HS X0 l33]:OkH l34:=yS1 true func135 λx_ r0 aa E hE=>by cases aa;exact yE hE []
def l35:=jV 101 sZ sZ sZ qL::l34
def z12 [H:HS X0 l34]:OkH l35:=yS2 true func101 λx_ y_ r0 aa E hE=>by
 obtain⟨r_,h0,ai,h1,aa⟩:=zV aa;let Z0:List HO:=[zC1 0 h0,zC1 0 h1];obtain c0|c0:=zt aa
 ·obtain c1|c1:=zt c0.2
  ·cases c1.2;exact yE hE (Z0++[c0,c1])
  cases c1.2;exact yE hE (Z0++[c0,c1])
 obtain c2|c2:=zt c0.2
 ·cases c2.2;exact yE hE (Z0++[c0,c2])
 obtain c3|c3:=zt c2.2
 ·cases c3.2;exact yE hE (Z0++[c0,c2,c3])
 obtain c4|c4:=zt c3.2
 ·cases c4.2;exact yE hE (Z0++[c0,c2,c3,c4])
 cases c4.2;exact yE hE (Z0++[c0,c2,c3,c4])
def l36:=jV 102 F5_ F5_ sZ wS::l35
def Vs [H:HS X0 l35]:OkH l36:=yS2 true func102 λs1 s2 r0 aa E hE=>by
 refine yNs 11 [] [0,1] (λz:Unit=>vB s1 s2=some r0) (λz=>[]) [Hh (.cut 1)] ?_ λJ1 au=>?_
 ·rintro⟨⟩ aa;let Z0:List HO:=[Ha (lnM sZ s1),Ha (lnM sZ s2)];obtain c0|c0:=zt aa
  ·cases c0.2;exact yE hE (Z0++[c0])
  cases c0.2;exact yE hE (Z0++[c0])
 refine yMb 11210 [J1] [0,1,9,10,11] (λx=>[(11,.d (I x))]) aa  [Ha (lnM sZ s1)] λt2 aa gn m2 aw ae hl1 J2 ax=>?_;obtain c1|c1:=zt ae
 ·obtain⟨ow,h0,ae⟩:=zl c1.2;let Z1:List HO:=[c1,Hi sZ h0,Ha (lnM sZ s2)];obtain c2|c2:=zt ae
  ·cases c2.2;cases hl1;cases aa;exact yE hE (Z1++[c2])
  obtain⟨nh,h1,r_,h2,ae⟩:=zV c2.2;let Z2:List HO:=(Z1++[c2,Hi sZ h1,zC2 0 h2]);obtain c3|c3:=zt ae
  ·cases c3.2;cases hl1;cases aa;exact yE hE (Z2++[c3])
  cases c3.2;exact yB ax _ hl1 (Z2++[c3])
 cases c1.2;cases hl1;exact yB au () aa [c1]
def l37:=Y6 100 F5_ sZ JQ::l36
def z6A [H:HS X0 l36]:OkH l37:=yS1 true func100 λvals r0 aa E hE=>by
 refine yN 111 [] [3] (λz:Unit=>UG=some r0) (λz=>[]) [0,3] [Hh (.cut 2)] ?_ λJ1 au=>?_
 ·rintro⟨⟩ aa;cases aa;exact yE hE []
 refine yMb 111210 [J1] [3,6,7,8] (λx=>[(8,.d (I x))]) aa  [Ha (lnM sZ vals)] λt2 aa x8 m2 aw ae hl1 J2 ax=>?_;obtain c0|c0:=zt ae
 ·obtain⟨pn,h0,ae⟩:=zl c0.2;obtain c1|c1:=zt ae
  ·cases c1.2;cases hl1;cases aa;exact yE hE [c0,Hi sZ h0,c1]
  cases c1.2;exact yB ax _ hl1 [c0,Hi sZ h0,c1]
 cases c0.2;cases hl1;exact yB au () aa [c0]
def l38:=jV 67 F5_ F5_ sZ yG::l37
def z2p [H:HS X0 l37]:OkH l38:=yS2 true func67 λa_ b_ r0 aa E hE=>by obtain⟨r_,h0,ai,h1,am,h2,aa⟩:=ZK aa;cases aa;exact yE hE [Ha (lnM sZ a_),Ha (lnM sZ b_),zC2 2 h0,zC2 1 h1,zg 0,Hm (shM sZ sZ ([r_,ai])),Hs (zf1 0 h2 (loC F3_ [r_,ai]<|loN))]
def l39:=Y6 79 xq eB U0::l38
def z56 [H:HS X0 l38]:OkH l39:=yS1 true func79 λl_ r0 aa E hE=>by
 refine yK 11 [] [] (λz:Unit=>V9=some r0) (λz=>[]) [0] [Hh (.cut 1)] ?_ λJ1 au=>?_
 ·rintro⟨⟩ aa;cases aa;exact yE hE []
 refine yMb 11210 [J1] [0,3] (λx=>[(3,.d (I x))]) aa  [] λt2 aa i_ m2 aw ae hl1 J2 ax=>?_;let Z0:List HO:=[Ha (lnM F5_ l_)];obtain c0|c0:=zt ae
 ·obtain⟨cq,h0,iu,h1,r_,h2,ae⟩:=ZK c0.2;let Z1:List HO:=(Z0++[c0,Hi F5_ h0,Hi F5_ h1,zC2 0 h2]);obtain c1|c1:=zt ae
  ·cases c1.2;cases hl1;cases aa;exact yE hE (Z1++[c1])
  cases c1.2;exact yB ax _ hl1 (Z1++[c1])
 cases c0.2;cases hl1;exact yB au () aa (Z0++[c0])
def l40:=Y6 71 xq sZ XQ::l39
def z52 [H:HS X0 l39]:OkH l40:=yS1 true func71 λl_ r0 aa E hE=>by
 refine yK 11 [] [2] (zI K8 r0) (λz=>[(2,.d (I z))]) [0,2] [Hh (.cut 1)] ?_ λJ1 au=>?_
 ·rintro n_ aa;cases aa;exact yE hE []
 refine yMb 11210 [J1] [2,5,6,7] (λx=>[(2,.d (I x.1)),(7,.d (I x.2))]) aa  [Ha (lnM F5_ l_)] λt2 aa ⟨cb,x7⟩ m2 aw ae hl1 J2 ax=>?_;obtain c0|c0:=zt ae
 ·obtain⟨cq,h0,ae⟩:=zl c0.2;cases ae;exact yB ax _ hl1 [c0,Hi F5_ h0,Ha (lnM sZ cq)]
 cases c0.2;cases hl1;exact yB au cb aa [c0]
def l41:=jV 53 xq sZ sZ kl::l40
def z5a [H:HS X0 l40]:OkH l41:=yS2 true func53 λl_ inputs r0 aa E hE=>by
 obtain⟨r_,h0,aa⟩:=zl aa;let Z0:List HO:=[zC2 7 h0];obtain c0|c0:=zt aa
 ·cases c0.2;exact yE hE (Z0++[c0])
 obtain⟨ai,h1,aa⟩:=zl c0.2;let Z1:List HO:=(Z0++[c0,zC1 1 h1]);obtain c1|c1:=zt aa
 ·cases c1.2;exact yE hE (Z1++[c1])
 obtain⟨am,h2,aa⟩:=zl c1.2;let Z2:List HO:=(Z1++[c1,zC1 0 h2]);obtain c2|c2:=zt aa
 ·cases c2.2;exact yE hE (Z2++[c2])
 cases c2.2;exact yE hE (Z2++[c2])
def l42:=z0Q 28 zK xq sZ sZ XL::l41
def z6w [H:HS X0 l41]:OkH l42:=yS3 true func28 λm_ l_ states r0 aa E hE=>by
 obtain⟨r_,h0,aa⟩:=zl aa;let Z0:List HO:=[zC2 14 h0];obtain c0|c0:=zt aa
 ·cases c0.2;exact yE hE (Z0++[c0])
 obtain⟨ai,h1,aa⟩:=zl c0.2;cases aa;exact yE hE (Z0++[c0,zC2 0 h1])
def l43:=jV 54 zK sZ (zpY 80 z4i (eSp sZ)) UB::l42
def z5k [H:HS X0 l42]:OkH l43:=yS2 true func54 λm_ states r0 aa E hE=>by cases aa;exact yE hE []
def l44:=Y6 81 zK eB Yx::l43
def z1X [H:HS X0 l43]:OkH l44:=yS1 true func81 λt_ r0 aa E hE=>by
 refine yNs 111 [] [1,3] (zI (jA t_) r0) (λz=>[(3,.d (I z))]) [Hh (.cut 2)] ?_ λJ1 au=>?_
 ·rintro next aa
  cases aa;exact yE hE [Ha (lnM y6 t_.i)]
 refine yMb 111210 [J1] [1,3,4] (λx=>[(3,.d (I x.1)),(4,.d (I x.2))]) aa  [] λt2 aa ⟨cr,s_⟩ m2 aw ae hl1 J2 ax=>?_;obtain c0|c0:=zt ae
 ·refine yNs 11121001 [J1,J2] [1,3,4] (zI (qZ s_) aw) (λz=>[(3,.d (I z))]) [c0,Hh (.cut 0)] ?_ λJ3 bk=>?_
  ·rintro fm ae;cases ae;exact yB ax _ hl1 []
  obtain⟨al,h0,t4,ht4,ae⟩:=zV c0.2;refine yM 111210012010 [J1,J2,J3] [1,3,4,16,17,18] (λx=>[(3,.d (I x.1)),(18,.d (I x.2))]) ht4  [Hi y6 h0,Ha (lnM F9_ al)] λ⟨cm,fh⟩ m4 dc ah hl2 J4 cx=>?_;obtain c1|c1:=zt ah
  ·refine yNs 111210012010011 [J1,J2,J3,J4] [1,3,4,16,17,18] (zI (vT fh) dc) (λz=>[(3,.d (I z))]) [c1,Hh (.cut 0)] ?_ λJ5 dh=>?_
   ·rintro gv ah;cases ah;exact yB cx _ hl2 []
   obtain⟨ak,h1,ah⟩:=zl c1.2;let Z0:List HO:=[Hi F9_ h1];obtain c2|c2:=zt ah
   ·cases c2.2;cases hl2;cases ae;cases hl1;cases aa;exact yE hE (Z0++[c2])
   obtain c3|c3:=zt c2.2
   ·exact yB dh (w64 (cm+1)) c3.2 (Z0++[c2,c3])
   exact yB dh cm c3.2 (Z0++[c2,c3])
  cases c1.2;cases hl2;exact yB bk cm ae [c1]
 cases c0.2;cases hl1;exact yB au cr aa [c0]
def l45:=z0Q 42 zK zK F5_ sZ Jg::l44
def z87 [H:HS X0 l44]:OkH l45:=yS3 true func42 λm_ other w_ r0 aa E hE=>by
 refine yK 111 [] [] (λz:Unit=>z1G=some r0) (λz=>[]) [2,3,4,7,8] [Hh (.cut 2)] ?_ λJ1 au=>?_
 ·rintro⟨⟩ aa;cases aa;exact yE hE []
 refine yMb 111210 [J1] [3,4,7,8,13,14,15] (λx=>[(7,.d (I x.1)),(8,.d (I x.2.1)),(15,.d (I x.2.2))]) aa  [Ha (lnM sZ w_)] λt2 aa ⟨s_,t_,gr⟩ m2 aw ae hl1 J2 ax=>?_;obtain c0|c0:=zt ae
 ·obtain⟨ge,h0,ae⟩:=zl c0.2;refine yN 11121001100111 [J1,J2] [3,4,8,9,10,11,12,13,14,15] (λz:Int×Int=>kQ other t_ gr ge z.1 z.2=some aw) (λz=>[(11,.own (.box (.agg [I z.1,I z.2])))]) [3,4,7,8,9,10,11,12,13,14,15] [c0,Hi sZ h0,Hh (.cut 2)] ?_ λJ3 bk=>?_
  ·rintro⟨kj,jn⟩ ae;refine yN 111210011001111 [J1,J2] [3,4,9,11,12,13,14,15] (λz:Int×Int=>kP gr kj jn z.1 z.2=some aw) (λz=>[(12,.own (.box (.agg [I z.1,I z.2])))]) [3,4,8,9,10,11,12,13,14,15] [Hh (.cut 0)] ?_ λJ4 cx=>?_
   ·rintro⟨oy,oj⟩ ae;obtain c1|c1:=zt ae
    ·cases c1.2;cases hl1;cases aa;exact yE hE [c1]
    cases c1.2;exact yB ax _ hl1 [c1]
   obtain c2|c2:=zt ae
   ·obtain⟨al,h1,ak,h2,ae⟩:=zV c2.2;exact yB cx (ak.o,ak.r) ae [c2,Hi y6 h1,Hi F9_ h2]
   exact yB cx ((-1),(-1)) c2.2 [c2]
  obtain c3|c3:=zt ae
  ·obtain⟨dp,h3,ar,h4,ae⟩:=zV c3.2;exact yB bk (ar.o,ar.r) ae [c3,Hi y6 h3,Hi F9_ h4]
  exact yB bk ((-1),(-1)) c3.2 [c3]
 cases c0.2;cases hl1;exact yB au () aa [c0]
def l46:=jV 82 zK zK eB VN::l45
def z7T:XH prog:=((zmQ zn 37).or X0)
def z6x [H:HS z7T l45]:OkH l46:=yS2 true func82 λm_ t_ r0 aa E hE=>by
 let u0:=(w64 ((m_.i.length:Int)*(t_.i.length:Int)));obtain⟨g0,aa⟩:=gdE aa;obtain⟨l5,h0,aa⟩:=zl aa;refine yK 11111 [] [] (λz:Unit=>z0t=some r0) (λz=>[]) [2,3,5,6] [Ha (lnM y6 m_.i),Ha (lnM y6 t_.i),Hn (rL g0),Ha (rM 1 eB u0 false),Hn (iL eB h0),Hs (iM eB h0),Hs (iM eB h0),Hl (sM eB (List.replicate u0.toNat false) 0 true),Hh (.cut 1)] ?_ λJ1 au=>?_
 ·rintro⟨⟩ aa;cases aa;exact yE hE []
 obtain⟨t2,ht2,aa⟩:=zl aa;refine yMx 1111120 [J1] [2,3,5,6] (λx=>[(5,.own (eOs 1 true eB x.1)),(6,.own (eOs 2 false F0_ x.2))]) ht2 [(5,.own (eOs 1 true eB ((List.replicate u0.toNat false).set (0:Int).toNat true))),(6,.own (eOs 2 true F0_ ([(wF.mk 0 0)])))] [] λ⟨ia,list⟩ m2 aw ae hl1 J2 ax=>?_;let Z0:List HO:=[Ha (lnM F0_ list)];obtain c0|c0:=zt ae
 ·obtain⟨ic,h1,ae⟩:=zl c0.2;obtain⟨g1,ae⟩:=gdE ae;obtain⟨al,h2,t3,ht3,ae⟩:=zV ae;refine yM 11111200101110 [J1,J2] [2,3,5,6,7,43,44,45] (λx=>[(5,.own (eOs 1 true eB x.1)),(6,.own (eOs 2 false F0_ x.2.1)),(45,.d (I x.2.2))]) ht3  (Z0++[c0,Ha (lnM F0_ list),Hn (iL F0_ h1),Hs (iM F0_ h1),Ha (lnM F0_ list),Hn g1.1,Hn (cuB F0_ g1),Hl (cuM F0_ list (w64 ((list.length:Int) - 1))),Hn (⟨rfl,θ⟩:true=true/\0<2),Hi y6 h2,Ha (lnM F9_ al)]) λ⟨dg,jo,jv⟩ m3 dc ah hl2 J3 bk=>?_;obtain c1|c1:=zt ah
  ·refine yNs 11111200101110011 [J1,J2,J3] [2,3,5,6,7,43,44,45] (λz:List Bool×List (wF Int)=>XB jv z.1 z.2=some dc) (λz=>[(5,.own (eOs 1 true eB z.1)),(6,.own (eOs 2 false F0_ z.2))]) [c1,Hh (.cut 0)] ?_ λJ4 cx=>?_
   ·rintro⟨cw,ni⟩ ah;cases ah;exact yB bk _ hl2 []
   obtain⟨ak,h3,dp,h4,ar,h5,ah⟩:=ZK c1.2;let Z1:List HO:=[Hi F9_ h3,Hn (⟨rfl,θ⟩:true=true/\1<2),Hi y6 h4,Hi F9_ h5];obtain c2|c2:=zt ah
   ·cases c2.2;cases hl2;cases ae;cases hl1;cases aa;exact yE hE (Z1++[c2])
   obtain⟨mi,h6,ah⟩:=zl c2.2;let Z2:List HO:=(Z1++[c2,Ha (lnM y6 t_.i),Hn (iL eB h6),Hs (iM eB h6)]);obtain c3|c3:=zt ah
   ·obtain⟨oc,h7,ah⟩:=zl c3.2;obtain⟨g2,ah⟩:=gdE ah;exact yB cx ((dg.set (w64 ((w64 (ak.o*(t_.i.length:Int)))+ar.o)).toNat true),(jo++[(wF.mk ak.o ar.o)])) ah (Z2++[c3,Hn (iL eB h7),Hs (iM eB h7),Hs (iM eB h7),Hl (sM eB dg (w64 ((w64 (ak.o*(t_.i.length:Int)))+ar.o)) true),Hq (dM F0_ [(wF.mk ak.o ar.o)]),Hn (dM F0_ [(wF.mk ak.o ar.o)]),Hn (aL F0_ F0_ g2),Hl (aM F0_ jo [(wF.mk ak.o ar.o)])])
   exact yB cx (dg,jo) c3.2 (Z2++[c3])
  cases c1.2;cases hl2;cases ae;exact yB ax _ hl1 [c1]
 cases c0.2;cases hl1;exact yB au () aa (Z0++[c0])
def l47:=jV 55 (wv zK xq eAn) zK eB w8::l46
def z10 [H:HS X0 l46]:OkH l47:=yS2 true func55 λx_ t_ r0 aa E hE=>by
 obtain⟨r_,h0,aa⟩:=zl aa;let Z0:List HO:=[zC1 2 h0];obtain c0|c0:=zt aa
 ·cases c0.2;exact yE hE (Z0++[c0])
 refine yNs 111 [] [2,3] (λz:Unit=>uN x_ t_=some r0) (λz=>[]) (Z0++[c0,Hh (.cut 0)]) ?_ λJ1 au=>?_
 ·rintro⟨⟩ aa;obtain⟨ai,h1,aa⟩:=zl aa;cases aa;exact yE hE [zC2 0 h1]
 refine yMb 111210 [J1] [2,3,11,12,13] (λx=>[(13,.d (I x))]) c0.2  [Ha (lnM F5_ x_.l_)] λt2 aa em m2 aw ae hl1 J2 ax=>?_;obtain c1|c1:=zt ae
 ·obtain⟨cq,h2,am,h3,ae⟩:=zV c1.2;let Z1:List HO:=[c1,Hi F5_ h2,zC3 1 h3];obtain c2|c2:=zt ae
  ·cases c2.2;cases hl1;cases aa;exact yE hE (Z1++[c2])
  cases c2.2;exact yB ax _ hl1 (Z1++[c2])
 cases c1.2;cases hl1;exact yB au () aa [c1]
abbrev KG (x0:z6)(x1:Int)(YY:σ->Qv)(bm:Value)(eu:List (Option (Int×Int×Int)))(yr:σ×Bool)(oz:List z7)(k_:Int):List (Nat×T):=[(0,.own (.opq (YY yr.1).q)),(1,.d (.sptr (zK x0))),(2,.d (.sptr (I x1))),(4,.own (.box (.agg [I x0.j,I x0.m,eOs 1 true (eNv 2 bm) eu]))),(5,.own (eOs 2 true F9_ oz)),(7,.d (I k_))]
abbrev KE (x0:z6)(x1:Int)(YY:σ->Qv)(bm:Value)(eu:List (Option (Int×Int×Int)))(yr:σ×Bool)(fp:List z7)(aq:Int):List (Nat×T):=[(0,.own (.opq (YY yr.1).q)),(1,.d (.sptr (zK x0))),(2,.d (.sptr (I x1))),(4,.own (.box (.agg [I x0.j,I x0.m,eOs 1 true (eNv 2 bm) eu]))),(5,.own (eOs 2 true F9_ fp)),(7,.d (I aq))]
abbrev KF (x0:z6)(x1:Int)(YY:σ->Qv)(bm:Value)(eu:List (Option (Int×Int×Int)))(de:σ)(all:List z7):List (Nat×T):=[(0,.own (.opq (YY de).q)),(1,.d (.sptr (zK x0))),(2,.d (.sptr (I x1))),(4,.own (.box (.agg [I x0.j,I x0.m,eOs 1 true (eNv 2 bm) eu]))),(5,.own (eOs 2 true F9_ all))]
abbrev KH (x0:z6)(x1:Int)(YY:σ->Qv)(sg:σ)(bm:Value)(eu:List (Option (Int×Int×Int))):List (Nat×T):=[(0,.own (.opq (YY sg).q)),(1,.d (.sptr (zK x0))),(2,.d (.sptr (I x1))),(4,.own (.box (.agg [I x0.j,I x0.m,eOs 1 true (eNv 2 bm) eu]))),(5,.own (eOs 2 true F9_ (List.replicate (w64 (x1*x0.j)).toNat (z7.mk 0 0))))]
abbrev KD (x0:z6)(x1:Int)(YY:σ->Qv)(sg:σ)(bm:Value)(je:List (Option (Int×Int×Int)))(fj:Int):List (Nat×T):=[(0,.own (.opq (YY sg).q)),(1,.d (.sptr (zK x0))),(2,.d (.sptr (I x1))),(4,.own (.box (.agg [I x0.j,I x0.m,eOs 1 true (eNv 2 bm) je]))),(5,.own (eOs 2 true F9_ (List.replicate (w64 (x1*x0.j)).toNat (z7.mk 0 0)))),(21,.d (I x1)),(22,.d (I fj))]
def z2B [H:HS X0 l47](x0:z6)(x1:Int):zjV prog (.fn 80 [.sptr (.agg [I x0.j,I x0.m,eSl 1 false y6 x0.i]),.sptr (I x1)]) (λ(x:z6) (_:Bool) (_:Value)=>[zK x]) (@ur x0 x1):=by
 refine zj4 (tt:=uQ) (nt:=f80.ntmps) (body:=zbd f80) zn func80 rfl κ rfl rfl (by show(3:Nat)<=95;decide) ?_;intro σ yv YY yy hy hw sg r0 aa E hE;obtain⟨g0,aa⟩:=gdE aa;obtain⟨g1,aa⟩:=gdE aa;refine yC 111 [] [0,1,2,4,5] [Hn (rL g0),Ha (rM 1 zql x1 ([]:List z7)),Hn (rL g1),Ha (rM 2 F9_ (w64 (x1*x0.j)) (z7.mk 0 0)),Hh (.cut 0)] ?_;refine z3u (y:=eOs 2 true F9_ (List.replicate (w64 (x1*x0.j)).toNat (z7.mk 0 0))) κ 5 κ κ λbm hv5=>?_;refine yKs 111 [] [0,1,2,4,5] (zI (Xd x0 x1 yy sg) r0) (λz=>KH x0 x1 YY sg bm z) [Hh (.cut 0)] ?_ λJ1 au=>?_
 ·rintro eu aa;obtain⟨t2,ht2,aa⟩:=zl aa;refine yL 11110 [] (λs=>yj x0 x1 yy eu s.1 s.2) (λx=>KF x0 x1 YY bm eu x.1 x.2) (sg,(List.replicate (w64 (x1*x0.j)).toNat (z7.mk 0 0))) ht2  [] λ⟨de,all⟩ m2 aw ae hl1 J2 ax=>?_;obtain⟨rows,h0,yr,h1,ae⟩:=zV ae;obtain c0|c0:=zt ae
  ·refine yKs (H:=zx ((xTy (P:=prog) uQ hy hw 48 4 5 2 bm (tg:=true) (tg5:=true) (u1:=.int .i64 x0.j) (u2:=.int .i64 x0.m) F9_ h0 θ (s:=de) (x:=(z6.mk x0.j x0.m rows)) (s':=yr.1) (b:=true) (yrE h1 c0.1) (λ_=>(inferInstance:Jr [zdQ (z6.mk x0.j x0.m rows)] [zK (z6.mk x0.j x0.m rows)]))).or X0)) 111100011 [J2] [0,1,2,4,5,7] (λz:List z7×Int=>Xc yr z.1 z.2=some aw) (λz=>KG x0 x1 YY bm eu yr z.1 z.2) [Hn (⟨rfl,rfl,rfl,rfl,rfl,rfl⟩:[A.atom yv]=[A.atom yv]/\[(yv,A.opq (YY de).q)]=[(yv,A.opq (YY de).q)]/\T.als 4 [.deref] 0 0=T.als 4 [.deref] 0 0/\T.own (.box (.agg [I x0.j,I x0.m,eOs 1 true (eNv 2 bm) eu]))=T.own (.box (.agg [I x0.j,I x0.m,eOs 1 true (eNv 2 bm) eu]))/\T.own (eOs 2 true F9_ all)=T.own (eOs 2 true F9_ all)/\some bm=some bm),Hq (congrArg Bool.not (Eq.refl true)),Ha (lnM F9_ all),Hh (.cut 0)] ?_ λJ3 bk=>?_
   ·rintro⟨oz,k_⟩ ae;obtain c1|c1:=zt ae
    ·cases c1.2;cases hl1;cases aa;exact yF .ret [(0,.own (.opq (YY yr.1).q))] [c1] λst0 h0=>hE _ st0 (.inr rfl) h0
    cases c1.2;exact yB ax _ hl1 [c1]
   obtain⟨t4,ht4,ae⟩:=zl c0.2;refine yL 11110001120 [J2,J3] (λs=>v7 x0 x1 s.1 s.2) (λx=>KE x0 x1 YY bm eu yr x.1 x.2) (all,w64 ((all.length:Int)-1)) ht4  [] λ⟨fp,aq⟩ m4 dc ah hl2 J4 cx=>?_;obtain c2|c2:=zt ah
   ·obtain⟨r9,h2,bw,h3,l5,h4,ah⟩:=ZK c2.2;let Z0:List HO:=[c2,Hn (⟨rfl,rfl⟩:T.als 5 [] 0 0=T.als 5 [] 0 0/\some bm=some bm),Hn (⟨i0 h2,(iL F9_ h2).2⟩:(0:Int)<=aq/\aq.toNat<(fp.map F9_).length),Hn (rfl:T.d (.atom (JE 2 bm aq))=T.d (.atom (JE 2 bm aq))),Hn (⟨rfl,rfl⟩:T.d (.atom (JE 2 bm aq))=T.d (.atom (JE 2 bm aq))/\some bm=some bm),Hn ((iL F9_ h3).2:aq.toNat<(fp.map F9_).length),Hs (iM F9_ h3),Hs (iM F9_ h3),Hs (iM F9_ h3),Hs (iM F9_ h3),Hs (iM F9_ h3),Hs (iM F9_ h3),Hs (iM F9_ h3),Hl (sM F9_ fp aq (z7.mk bw.o (w64 (bw.r+1)))),Hn (⟨rfl,rfl⟩:T.d (.atom (JE 2 bm aq))=T.d (.atom (JE 2 bm aq))/\some bm=some bm),Hn ((iL F9_ h4).2:aq.toNat<((fp.set aq.toNat (z7.mk bw.o (w64 (bw.r+1)))).map F9_).length),Hs (iM F9_ h4),Hs (iM F9_ h4),Hs (iM F9_ h4)];obtain c3|c3:=zt ah
    ·cases c3.2;cases hl2;exact yB (H:=zx ((xPm (P:=prog) 67 5 2 bm aq).or ((xPm (P:=prog) 60 5 2 bm aq).or ((xAs prog 8 (JE 2 bm aq)).or ((xPa zn 59 5 bm).or X0))))) bk ((fp.set aq.toNat (z7.mk bw.o (w64 (bw.r+1)))),aq) ae (Z0++[c3])
    obtain⟨j6,h5,ib,h6,ra,h7,ah⟩:=ZK c3.2;let Z1:List HO:=(Z0++[c3,Hn (⟨rfl,rfl⟩:T.d (.atom (JE 2 bm aq))=T.d (.atom (JE 2 bm aq))/\some bm=some bm),Hn ((iL F9_ h5).2:aq.toNat<((fp.set aq.toNat (z7.mk bw.o (w64 (bw.r+1)))).map F9_).length),Hs (iM F9_ h5),Hs (iM F9_ h5),Hs (iM F9_ h5),Hs (iM F9_ h5),Hl (sM F9_ (fp.set aq.toNat (z7.mk bw.o (w64 (bw.r+1)))) aq (z7.mk j6.o 0)),Hn (⟨rfl,rfl⟩:T.d (.atom (JE 2 bm aq))=T.d (.atom (JE 2 bm aq))/\some bm=some bm),Hn ((iL F9_ h6).2:aq.toNat<(((fp.set aq.toNat (z7.mk bw.o (w64 (bw.r+1)))).set aq.toNat (z7.mk j6.o 0)).map F9_).length),Hs (iM F9_ h6),Hs (iM F9_ h6),Hs (iM F9_ h6),Hs (iM F9_ h6),Hs (iM F9_ h6),Hs (iM F9_ h6),Hs (iM F9_ h6),Hl (sM F9_ ((fp.set aq.toNat (z7.mk bw.o (w64 (bw.r+1)))).set aq.toNat (z7.mk j6.o 0)) aq (z7.mk (w64 (ib.o+1)) ib.r)),Hn (⟨rfl,rfl⟩:T.d (.atom (JE 2 bm aq))=T.d (.atom (JE 2 bm aq))/\some bm=some bm),Hn ((iL F9_ h7).2:aq.toNat<((((fp.set aq.toNat (z7.mk bw.o (w64 (bw.r+1)))).set aq.toNat (z7.mk j6.o 0)).set aq.toNat (z7.mk (w64 (ib.o+1)) ib.r)).map F9_).length),Hs (iM F9_ h7),Hs (iM F9_ h7),Hs (iM F9_ h7)]);obtain c4|c4:=zt ah
    ·cases c4.2;cases hl2;exact yB (H:=zx ((xPm (P:=prog) 84 5 2 bm aq).or ((xPm (P:=prog) 77 5 2 bm aq).or ((xPm (P:=prog) 74 5 2 bm aq).or ((xPm (P:=prog) 67 5 2 bm aq).or ((xPm (P:=prog) 60 5 2 bm aq).or ((xAs prog 8 (JE 2 bm aq)).or ((xPa zn 59 5 bm).or X0)))))))) bk ((((fp.set aq.toNat (z7.mk bw.o (w64 (bw.r+1)))).set aq.toNat (z7.mk j6.o 0)).set aq.toNat (z7.mk (w64 (ib.o+1)) ib.r)),aq) ae (Z1++[c4])
    obtain⟨po,h8,ah⟩:=zl c4.2;cases ah;exact yB (H:=zx ((xPm (P:=prog) 90 5 2 bm aq).or ((xPm (P:=prog) 84 5 2 bm aq).or ((xPm (P:=prog) 77 5 2 bm aq).or ((xPm (P:=prog) 74 5 2 bm aq).or ((xPm (P:=prog) 67 5 2 bm aq).or ((xPm (P:=prog) 60 5 2 bm aq).or ((xAs prog 8 (JE 2 bm aq)).or ((xPa zn 59 5 bm).or X0))))))))) cx _ hl2 (Z1++[c4,Hn (⟨rfl,rfl⟩:T.d (.atom (JE 2 bm aq))=T.d (.atom (JE 2 bm aq))/\some bm=some bm),Hn ((iL F9_ h8).2:aq.toNat<((((fp.set aq.toNat (z7.mk bw.o (w64 (bw.r+1)))).set aq.toNat (z7.mk j6.o 0)).set aq.toNat (z7.mk (w64 (ib.o+1)) ib.r)).map F9_).length),Hs (iM F9_ h8),Hs (iM F9_ h8),Hs (iM F9_ h8),Hs (iM F9_ h8),Hl (sM F9_ (((fp.set aq.toNat (z7.mk bw.o (w64 (bw.r+1)))).set aq.toNat (z7.mk j6.o 0)).set aq.toNat (z7.mk (w64 (ib.o+1)) ib.r)) aq (z7.mk 0 po.r))])
   cases c2.2;cases hl2;exact yB bk (fp,aq) ae [c2]
  cases c0.2;cases hl1;cases aa;exact yF (H:=zx ((xTy (P:=prog) uQ hy hw 48 4 5 2 bm (tg:=true) (tg5:=true) (u1:=.int .i64 x0.j) (u2:=.int .i64 x0.m) F9_ h0 θ (s:=de) (x:=(z6.mk x0.j x0.m rows)) (s':=yr.1) (b:=false) (yrE h1 c0.1) (λ_=>(inferInstance:Jr [zdQ (z6.mk x0.j x0.m rows)] [zK (z6.mk x0.j x0.m rows)]))).or X0)) .ret [(0,.own (.opq (YY yr.1).q))] [Hn (⟨rfl,rfl,rfl,rfl,rfl,rfl⟩:[A.atom yv]=[A.atom yv]/\[(yv,A.opq (YY de).q)]=[(yv,A.opq (YY de).q)]/\T.als 4 [.deref] 0 0=T.als 4 [.deref] 0 0/\T.own (.box (.agg [I x0.j,I x0.m,eOs 1 true (eNv 2 bm) eu]))=T.own (.box (.agg [I x0.j,I x0.m,eOs 1 true (eNv 2 bm) eu]))/\T.own (eOs 2 true F9_ all)=T.own (eOs 2 true F9_ all)/\some bm=some bm),Hq (congrArg Bool.not (Eq.refl false))] λst0 h0=>hE _ st0 (.inr rfl) h0
 obtain⟨t5,ht5,aa⟩:=zl aa;refine yLx 111210 [J1] (λs=>xK x0 x1 s.1 s.2) (λx=>KD x0 x1 YY sg bm x.1 x.2) ((List.replicate x1.toNat none),0) ht5 [(0,.own (.opq (YY sg).q)),(1,.d (.sptr (zK x0))),(2,.d (.sptr (I x1))),(4,.own (.box (.agg [I x0.j,I x0.m,eOs 1 true zql (List.replicate x1.toNat ([]:List z7))]))),(5,.own (eOs 2 true F9_ (List.replicate (w64 (x1*x0.j)).toNat (z7.mk 0 0)))),(21,.d (I x1)),(22,.d (I 0))] inferInstance [] λ⟨je,fj⟩ m5 aw ae hl1 J5 dh=>?_;obtain c5|c5:=zt ae
 ·obtain⟨g2,ae⟩:=gdE c5.2;obtain⟨ph,h9,ae⟩:=zl ae;obtain⟨g3,ae⟩:=gdE ae;cases ae;exact yB (H:=zx ((xS3 zn 43 5 bm).or X0)) dh _ hl1 [c5,Hn (⟨rfl,rfl⟩:T.als 5 [] 0 0=T.als 5 [] 0 0/\some bm=some bm),Hn (⟨g2.1,g2.2.1,g2.2.2.1,s3B F9_ g2.2.2.2⟩:(0:Int)<=w64 (fj*x0.j)/\(w64 (fj*x0.j):Int)<=w64 ((w64 (fj+1))*x0.j)/\(w64 ((w64 (fj+1))*x0.j):Int)<=w64 ((w64 (fj+1))*x0.j)/\(w64 ((w64 (fj+1))*x0.j)).toNat<=((List.replicate (w64 (x1*x0.j)).toNat (z7.mk 0 0)).map F9_).length),Hn (iL (eNv 2 bm) h9),Hx (.a (.osl 2 true [])) (iMn 2 bm h9 g3),Hx (.a (.osl 2 true [])) (iMn 2 bm h9 g3),Hl (sM (eNv 2 bm) je fj (some (w64 (fj*x0.j),w64 ((w64 (fj+1))*x0.j),w64 ((w64 (fj+1))*x0.j))))]
 cases c5.2;cases hl1;exact yB au je aa [c5]
variable {v:Value}
def zhs [H:HS X0 l47]  {s:Int}{x:z6}{s':Int}{b:Bool}(h:some (w64 (s+1),true)=some (s',b)):xS prog (.fn 33 [.atom v]) [zK x] [(v,.box (sZ s))] (.atom (.bool b)) [.box (sZ s')]:=by cases h;exact z5Q (tt:=uQ) (nt:=6) (body:=(f33.body).getD .skip) (t:=3) [1] (args:=[zK x]) (caps:=[.atom v]) (xs:=[.box (I s)]) (vals:=[v]) (r:=.atom (.bool true)) (ys:=[.box (I (w64 (s+1)))]) zn func33 rfl κ rfl rfl (by show(2:Nat)<=6;decide) θ rfl rfl rfl rfl (λE hE=>yF .ret [(1,.own (.box (I (w64 (s+1))))),(3,.d (.atom (.bool true)))] [] λst0 h0=>hE _ st0 (.inr rfl) (Yc h0 ⟨⟨rfl,rfl⟩,trivial⟩) (zn9 h0 rfl rfl)) rfl
def zbe [H:HS X0 l47]  {s x s':z6}{b:Bool}(h:some (x,false)=some (s',b)):xS prog (.fn 29 [.atom v]) [zK x] [(v,.box (zK s))] (.atom (.bool b)) [.box (zK s')]:=by cases h;exact z5Q (tt:=uQ) (nt:=5) (body:=(Tryz.f29.body).getD .skip) (t:=3) [1] (args:=[zK x]) (caps:=[.atom v]) (xs:=[.box (zK s)]) (vals:=[v]) (r:=.atom (.bool false)) (ys:=[.box (zK x)]) zn func29 rfl κ rfl rfl (by show(2:Nat)<=5;decide) θ rfl rfl rfl rfl (λE hE=>yF .ret [(1,.own (.box (zK x))),(3,.d (.atom (.bool false)))] [] λst0 h0=>hE _ st0 (.inr rfl) (Yc h0 ⟨⟨rfl,rfl⟩,trivial⟩) (zn9 h0 rfl rfl)) rfl
def ZY [H:HS X0 l47]{τ:Type}{K:Nat}{c:τ->A}{y:τ->z6->Option (τ×Bool)}(hy:∀(v:Value) s x s' b,y s x=some (s',b)->xS prog (.fn K [.atom v]) [zK x] [(v,.box (c s))] (.atom (.bool b)) [.box (c s')])
  (hw:∀s x s',y s x=some (s',true)->WkA (.box (c s'))) (m_:z6) (l_:TA) (states:Int) (s_:τ) (hi:WkA (.box (c s_))) (r0:τ) (aa:xD y m_ l_ states s_=some r0) (cv:Value):xS prog (.fn 30 []) [.agg [zK m_,xq l_,.fn K [.atom cv]],I states] [(cv,.box (c s_))] (.tup []) [.box (c r0)]:=by
 refine zcq (nt:=f30.ntmps) (body:=zbd f30) 3 hi func30 rfl κ rfl rfl (by show(2:Nat)<=3;decide) θ κ λE hG hE=>?_;unfold xD at aa;refine yA 11 [] [(1,.d (I states)),(2,.own (.box (.agg [zK m_,xq l_,.fn K [.atom cv]]))),(3,.own (.opq (ghQ (WkA (.box (c s_))) cv (.box (c s_)))))] [] ?_;refine zdl (c':=(sub [1,0] (zbd f30))) (l:=0) κ κ ?_;refine yL 110010 [] (λq=>yl y m_ l_ states q.1 q.2) (λq=>[(1,.d (I states)),(2,.d (.sptr (.agg [zK m_,xq l_,.fn K [.atom cv]]))),(3,.own (.opq (ghQ (WkA (.box (c q.2))) cv (.box (c q.2))))),(4,.d (I q.1))]) (1,s_) aa [Hh (.n 0 [2])] λ⟨i_,bf⟩ m1 aw ae hl1 J1 au=>?_;refine zmA (g:=3) rfl λhs1=>?_;unfold yl at ae;obtain c0|c0:=zt ae
 ·refine yJ 11001001 [J1] [1,2,3,4] (λz:τ=>(some (LR.next (w64 (i_+1),z)):Option (LR (Int×τ) τ))=some aw) (λz=>[(1,.d (I states)),(2,.d (.sptr (.agg [zK m_,xq l_,.fn K [.atom cv]]))),(3,.own (.opq (ghQ (WkA (.box (c z))) cv (.box (c z))))),(4,.d (I i_))]) [(1,.d (I states)),(2,.d (.sptr (.agg [zK m_,xq l_,.fn K [.atom cv]]))),(3,.own (.opq (ghQ (WkA (.box (c bf))) cv (.box (c bf))))),(4,.d (I i_))] [c0,Hh (.cut 0)] ?_ λJ2 ax=>?_
  ·rintro z hz;obtain rfl:=zZ hz;exact yB au _ hl1 []
  obtain⟨r_,h0,t_,ht,ae⟩:=zV c0.2;refine yAt (sub [1,0,0,1,0,0,1,2,0,1,0] (zbd f30)) (frs [1,0,0,1,0,0,1,2,0,1,0] [J1,J2] (zbd f30) []) [(1,.d (I states)),(2,.d (.sptr (.agg [zK m_,xq l_,.fn K [.atom cv]]))),(3,.own (.opq (ghQ (WkA (.box (c bf))) cv (.box (c bf))))),(4,.d (I i_)),(14,.d (.fn 80 [.sptr (zK r_.1),.sptr (I r_.2)]))] [zC2 4 h0] λst0 hs0=>?_;obtain rfl:r_=(m_,i_):=(zZ h0).symm;refine zae (g:=.tmp 14) (ps:=[15]) (assign:=(sub [1,0,0,1,0,0,1,2,0,1,0,0] (zbd f30))) (body:=(sub [1,0,0,1,0,0,1,2,0,1,0,1] (zbd f30))) (K:=80) (caps:=[.sptr (zK m_),.sptr (I i_)]) κ [1,2,3,4,14] (λs=>[(1,.d (I states)),(2,.d (.sptr (.agg [zK m_,xq l_,.fn K [.atom cv]]))),(3,.own (.opq (ghQ (WkA (.box (c s))) cv (.box (c s))))),(4,.d (I i_)),(14,.d (.fn 80 [.sptr (zK m_),.sptr (I i_)]))]) (λs=>[(1,.d (I states)),(2,.d (.sptr (.agg [zK m_,xq l_,.fn K [.atom cv]]))),(3,.own (.opq (ghQ True cv (.box (c s))))),(4,.d (I i_)),(14,.d (.fn 80 [.sptr (zK m_),.sptr (I i_)]))]) (λ_=>Code.goto 0) (λ(x:z6) (_:Bool) (_:Value)=>[zK x]) (λs x=>yb y m_ l_ s x) bf t_ _ hs0 inferInstance κ θ (λ_=>rfl) (λ_=>rfl) κ (λ_ _ _=>rfl) (zcA (z2B (H:=zd 0) m_ i_) (λs=>WkA (.box (c s))) ?_ ?_ ht) ?_ ?_
  ·exact hs1
  ·intro s x s' hs hst;refine(λh=>⟨h,.d 1 _ (.d 2 _ (.own 3 (znn h) (.d 4 _ (.d 14 _ .nil))))⟩) ?_;unfold yb at hst;obtain⟨b,hb,hst⟩:=zl hst;obtain c1|c1:=zt hst
   ·obtain⟨q,hq,hst⟩:=zl c1.2;obtain c2|c2:=zt hst
    ·cases c2.2;exact hw s x q.1 (by rw[hq,<-c2.1])
    cases c2.2
   cases c1.2;exact hs
  ·rintro sr bl x_ vr dc ah;replace ah:yb y m_ l_ bl x_=some dc:=ah;unfold yb at ah;obtain⟨rg,hg,ah⟩:=zl ah;refine zmA (g:=3) rfl λhs2=>?_;refine yF .normal [(1,.d (I states)),(2,.d (.sptr (.agg [zK m_,xq l_,.fn K [.atom cv]]))),(3,.own (.opq (ghQ (WkA (.box (c bl))) cv (.box (c bl))))),(4,.d (I i_)),(5,.own (.box (zK x_))),(14,.d (.fn 80 [.sptr (zK m_),.sptr (I i_)]))] [] λst0 h0=>⟨rfl,z4e h0 ?_⟩;obtain c1|c1:=zt ah
   ·obtain⟨ry,hry,ah⟩:=zl c1.2;have hcall:=hy cv bl x_ ry.1 ry.2 hry;have hZ:∀q:Prop,([A.fn K [.atom cv]]=[A.fn K [.atom cv]]/\Jr [zK x_] [zK x_]/\T.own (.opq (ghQ (WkA (.box (c bl))) cv (.box (c bl))))=T.own (.opq (ghQ (WkA (.box (c bl))) cv (.box (c bl))))):=λ_=>⟨rfl,inferInstance,rfl⟩;obtain c2|c2:=zt ah
    ·obtain rfl:=zZ c2.2;exact yF (H:=zx ((xGh (P:=prog) uQ 23 3 (p:=WkA (.box (c bl))) (p':=WkA (.box (c ry.1))) (λ_=>hw bl x_ ry.1 (by rw[hry,<-c2.1])) rfl hcall).or (((xLs zn 16 (.agg [zK m_,xq l_,.fn K [.atom cv]]) (.agg [zK m_,xq l_,.dop zmC]) inferInstance)).or X0))) .normal [(1,.d (I states)),(2,.d (.sptr (.agg [zK m_,xq l_,.fn K [.atom cv]]))),(3,.own (.opq (ghQ (WkA (.box (c ry.1))) cv (.box (c ry.1))))),(4,.d (I i_)),(14,.d (.fn 80 [.sptr (zK m_),.sptr (I i_)]))] (Hn (rfl:T.d (.agg [zK m_,xq l_,.fn K [.atom cv]])=T.d (.agg [zK m_,xq l_,.fn K [.atom cv]]))::Hk [] (z0r (hat 0)) (zf2 0 hg (loC ((wv zK xq eAn)) (wx.mk m_ l_ ())<|loC zK x_<|loN))::(rpN 4 (Hb c1) [Hn (hZ True),c1,c1,Hq (congrArg Bool.not c2.1)])) λst0 h0=>⟨rfl,_,h0,LeL.refl _⟩
    obtain rfl:=zZ c2.2;refine yAt (H:=zx ((xGh (P:=prog) uQ 23 3 (p:=WkA (.box (c bl))) (p':=True) (λ_=>trivial) rfl hcall).or (((xLs zn 16 (.agg [zK m_,xq l_,.fn K [.atom cv]]) (.agg [zK m_,xq l_,.dop zmC]) inferInstance)).or X0))) (.goto 0) [.blk 3] [(1,.d (I states)),(2,.d (.sptr (.agg [zK m_,xq l_,.fn K [.atom cv]]))),(3,.own (.opq (ghQ True cv (.box (c ry.1))))),(4,.d (I i_)),(14,.d (.fn 80 [.sptr (zK m_),.sptr (I i_)]))] (Hn (rfl:T.d (.agg [zK m_,xq l_,.fn K [.atom cv]])=T.d (.agg [zK m_,xq l_,.fn K [.atom cv]]))::Hk [] (z0r (hat 0)) (zf2 0 hg (loC ((wv zK xq eAn)) (wx.mk m_ l_ ())<|loC zK x_<|loN))::(rpN 4 (Hb c1) [Hn (hZ True),c1,c1,Hq (congrArg Bool.not c2.1)])) λst0 h0=>AWP.goto (z19 _ ⟨rfl,_,h0,LeL.refl _⟩)
   obtain rfl:=zZ c1.2;exact yF (H:=zx (((xLs zn 16 (.agg [zK m_,xq l_,.fn K [.atom cv]]) (.agg [zK m_,xq l_,.dop zmC]) inferInstance)).or X0)) .normal [(1,.d (I states)),(2,.d (.sptr (.agg [zK m_,xq l_,.fn K [.atom cv]]))),(3,.own (.opq (ghQ (WkA (.box (c bl))) cv (.box (c bl))))),(4,.d (I i_)),(14,.d (.fn 80 [.sptr (zK m_),.sptr (I i_)]))] (Hn (rfl:T.d (.agg [zK m_,xq l_,.fn K [.atom cv]])=T.d (.agg [zK m_,xq l_,.fn K [.atom cv]]))::Hk [] (z0r (hat 0)) (zf2 0 hg (loC ((wv zK xq eAn)) (wx.mk m_ l_ ())<|loC zK x_<|loN))::(rpN 6 (Hb c1) [qF])) λst0 h0=>⟨rfl,_,h0,LeL.refl _⟩
  rcases t_ with bl|bl
  ·exact YQ κ (ax _ [(1,.d (I states)),(2,.d (.sptr (.agg [zK m_,xq l_,.fn K [.atom cv]]))),(3,.own (.opq (ghQ (WkA (.box (c bl))) cv (.box (c bl))))),(4,.d (I i_))] bl ae (show Own.canon [1,2,3,4] _=ofL _ by kernel_rfl) inferInstance)
  obtain rfl:=zZ ae;obtain rfl:=hl1;refine AWP.goto (z19 _ ⟨rfl,hE _ _ (.inl rfl) ⟨_,rfl⟩⟩)
 obtain rfl:=zZ c0.2;obtain rfl:=hl1;exact yF .normal [(3,.own (.opq (ghQ (WkA (.box (c bf))) cv (.box (c bf)))))] [c0] λst0 h0=>hE _ st0 (.inl rfl) ⟨_,zh0 h0 rfl rfl⟩
def l48:=z0Q 11 zK xq sZ (eT2 sZ sZ) ZD::l47
def z88 [H:HS X0 l47]:OkH l48:=yS3 false func11 λm_ l_ states r0 aa E hE=>by
 obtain⟨r_,h0,aa⟩:=zl aa;let Z0:List HO:=[zC3 5 h0];obtain c0|c0:=zt aa
 ·cases c0.2;exact yE hE (Z0++[c0])
 refine yC 1111 [] [1,2,3,9] (Z0++[c0,Hh (.cut 1)]) ?_;refine z7P κ 9 λlz=>?_;obtain⟨ai,h1,aa⟩:=zl c0.2;cases aa;exact yE (H:=zx ((z2o (P:=prog) uQ [9] (ZY (H:=zd 0) (K:=33) (c:=sZ) (λv s x s' b h=>zhs (H:=zd 0) h) (λ_ _ _ _=>z23 rfl) _ _ _ _ (z23 rfl) _ h1 lz) 24).or ((xMk prog uQ).or X0))) hE [Hn (Uc (f:=.fn 30 []) (xs:=[.agg [zK m_,xq l_,.fn 33 [.atom lz]],I states]) (ls:=[(lz,.box (sZ 0))]) (r:=.tup []) (ys:=[.box (sZ ai)]) [.agg [zK m_,xq l_,.fn 33 [.atom lz]],I states] (show Jr [.agg [zK m_,xq l_,.fn 33 [.atom lz]],I states] [.agg [zK m_,xq l_,.fn 33 [.atom lz]],I states] from inferInstance))]
def l49:=jV 60 zK sZ sZ WP::l48
def z3N [H:HS X0 l48]:OkH l49:=yS2 true func60 λm_ ZO r0 aa E hE=>by
 obtain⟨r_,h0,aa⟩:=zl aa;let Z0:List HO:=[zC1 23 h0];obtain c0|c0:=zt aa
 ·cases c0.2;exact yE hE (Z0++[c0])
 let Z1:List HO:=(Z0++[c0,Ha (lnM y6 m_.i)]);obtain c1|c1:=zt c0.2
 ·cases c1.2;exact yE hE (Z1++(rpN 7 (Hb c1) [qT]))
 let Z2:List HO:=(Z1++(rpN 4 (Hb c1) [Ha (lnM y6 m_.i),c1,c1,c1]));obtain c2|c2:=zt c1.2
 ·cases c2.2;exact yE hE (Z2++[c2])
 cases c2.2;exact yE hE (Z2++[c2])
def l50:=jV 159 zK sZ (zpY 167 z4i (eSp sZ)) V6::l49
def z1N [H:HS X0 l49]:OkH l50:=yS2 true func159 λm_ from_ r0 aa E hE=>by cases aa;exact yE hE []
abbrev Q9 (x0:z6)(YY:σ->Qv)(cj:zk)(yr:σ×Bool)(al:List z7)(iv:Int)(cw:List Bool)(mj:List zk):List (Nat×T):=[(0,.own (.opq (YY yr.1).q)),(1,.d (.sptr (zK x0))),(4,.own (eOs 1 true eB cw)),(5,.own (eDq 3 ZP mj)),(6,.own (.box (ZP cj))),(36,.d (eSl 2 false F9_ al)),(37,.d (I (al.length:Int))),(38,.d (I iv))]
abbrev Q7 (x0:z6)(YY:σ->Qv)(cj:zk)(yr:σ×Bool)(al:List z7)(dg:List Bool)(ew:List zk)(iv:Int):List (Nat×T):=[(0,.own (.opq (YY yr.1).q)),(1,.d (.sptr (zK x0))),(4,.own (eOs 1 true eB dg)),(5,.own (eDq 3 ZP ew)),(6,.own (.box (ZP cj))),(36,.d (eSl 2 false F9_ al)),(37,.d (I (al.length:Int))),(38,.d (I iv))]
abbrev Q8 (x0:z6)(YY:σ->Qv)(de:σ)(ia:List Bool)(dn:List zk):List (Nat×T):=[(0,.own (.opq (YY de).q)),(1,.d (.sptr (zK x0))),(4,.own (eOs 1 true eB ia)),(5,.own (eDq 3 ZP dn))]
def KK [H:HS X0 l50](x0:z6)(x1:Int):z8Y prog (.fn 167 [.sptr (.agg [I x0.j,I x0.m,eSl 1 false y6 x0.i]),.sptr (I x1)]) (λ(x:zk) (_:Bool) (_:Value)=>[ZP x]) (@jT x0 x1):=by
 refine z3c (tt:=uQ) (nt:=f167.ntmps) (body:=zbd f167) zn func167 rfl κ rfl rfl (by show(3:Nat)<=68;decide) ?_;intro σ yv YY yy hy sg r0 aa E hE;obtain⟨g0,aa⟩:=gdE aa;obtain⟨l5,h0,t1,ht1,aa⟩:=zV aa;refine yLx 11110 [] (λs=>vZ x0 yy s.1 s.2.1 s.2.2) (λx=>Q8 x0 YY x.1 x.2.1 x.2.2) (sg,((List.replicate (x0.i.length:Int).toNat false).set x1.toNat true),([(zk.mk x1 (-1) (-1))]:List zk)) ht1 [(0,.own (.opq (YY sg).q)),(1,.d (.sptr (zK x0))),(4,.own (eOs 1 true eB ((List.replicate (x0.i.length:Int).toNat false).set x1.toNat true))),(5,.own (eOs 3 true ZP ([(zk.mk x1 (-1) (-1))])))] inferInstance [Ha (lnM y6 x0.i),Hn (rL g0),Ha (rM 1 eB (x0.i.length:Int) false),Hn (iL eB h0),Hs (iM eB h0),Hs (iM eB h0),Hl (sM eB (List.replicate (x0.i.length:Int).toNat false) x1 true)] λ⟨de,ia,dn⟩ m1 aw ae hl1 J1 au=>?_;let Z0:List HO:=[Hn (rfl:eDq 3 ZP dn=A.opq (z7W 3 (dn.map ZP)).q),Ha (lnM ZP dn)];obtain c0|c0:=zt ae
 ·refine yC (H:=zx ((xQl zn 20 236 3 (dn.map ZP) κ).or X0)) 11110010 [J1] [0,1,4,5] (Z0++[c0,Hh (.cut 0)]) ?_;obtain⟨cj,h1,ae⟩:=zl c0.2;refine z7O κ (x:=(sub [1,1,1,0,0,1,0,0] (zbd f167))) (y:=(sub [1,1,1,0,0,1,0,1] (zbd f167))) 5 (λst1=>Own.canon [0,1,4,5,6] st1=ofL [(0,.own (.opq (YY de).q)),(1,.d (.sptr (zK x0))),(4,.own (eOs 1 true eB ia)),(5,.own (eDq 3 ZP dn)),(6,.own (.box (ZP cj)))]) (λbm=>yF (H:=zx ((xQd zn 24 3 5 bm (0:Int) (dn.map ZP) (ZP cj)).or ((xQi zn 23 3 5 bm (dn.map ZP)).or X0))) .normal [(0,.own (.opq (YY de).q)),(1,.d (.sptr (zK x0))),(4,.own (eOs 1 true eB ia)),(5,.own (eDq 3 ZP dn)),(6,.own (.box (ZP cj)))] [Hn (⟨rfl,rfl,rfl,rfl,i0 h1,(iL ZP h1).2⟩:T.als 5 [] 0 0=T.als 5 [] 0 0/\some bm=some bm/\T.own (eDq 3 ZP dn)=T.own (eDq 3 ZP dn)/\some 3=some 3/\(0:Int)<=0/\(0:Int).toNat<(dn.map ZP).length),Hn (⟨rfl,rfl,rfl,iM ZP h1,rfl,KJ.isD cj⟩:T.d (.atom (JE 3 bm (0:Int)))=T.d (.atom (JE 3 bm (0:Int)))/\some bm=some bm/\T.own (eDq 3 ZP dn)=T.own (eDq 3 ZP dn)/\(dn.map ZP)[(0:Int).toNat]?=some (ZP cj)/\true=true/\(ZP cj).isD=true)] λst0 h0=>⟨rfl,h0⟩) λst1 h1=>z4e h1 ?_;obtain⟨g1,ae⟩:=gdE ae;obtain⟨yr,h2,ae⟩:=zl ae;let Z1:List HO:=[Hn (rfl:eDq 3 ZP dn=A.opq (z7W 3 (dn.map ZP)).q),Hn (⟨g1.1,cuB ZP g1⟩:(0:Int)<=1/\(1:Int).toNat<=(dn.map ZP).length),Hn (drM ZP dn (1:Int).toNat),Hn (z2I (yv:=yv) (Y:=YY) (enc:=(λ(x:zk) (_:Bool) (_:Value)=>[ZP x])) (s:=de) (x:=cj) (s':=yr.1) (b:=yr.2) (v:=.nilFunc) [ZP cj] (show Jr [ZP cj] [ZP cj] from inferInstance))];obtain c1|c1:=zt ae
  ·cases c1.2;cases hl1;cases aa;exact yF (H:=zx ((Qx (P:=prog) uQ hy 29 (s:=de) (x:=cj) (s':=yr.1) (b:=yr.2) .nilFunc h2).or ((xQs zn 26 3 (dn.map ZP) ((dn.drop (1:Int).toNat).map ZP)).or X0))) .ret [(0,.own (.opq (YY yr.1).q))] (Z1++[c1]) λst0 h0=>hE _ st0 (.inr rfl) h0
  obtain⟨al,h3,t2,ht2,ae⟩:=zV c1.2;refine yL (H:=zx ((Qx (P:=prog) uQ hy 29 (s:=de) (x:=cj) (s':=yr.1) (b:=yr.2) .nilFunc h2).or ((xQs zn 26 3 (dn.map ZP) ((dn.drop (1:Int).toNat).map ZP)).or X0))) 1111001011110 [J1] (λs=>wG cj yr al s.1 s.2.1 s.2.2) (λx=>Q7 x0 YY cj yr al x.1 x.2.1 x.2.2) (ia,(dn.drop (1:Int).toNat),0) ht2  (Z1++[c1,Hi y6 h3,Ha (lnM F9_ al)]) λ⟨dg,ew,iv⟩ m2 dc ah hl2 J2 ax=>?_;obtain c2|c2:=zt ah
  ·refine yKs 1111001011110011 [J1,J2] [0,1,4,5,6,36,37,38] (λz:List Bool×List zk=>xc iv z.1 z.2=some dc) (λz=>Q9 x0 YY cj yr al iv z.1 z.2) [c2,Hh (.cut 0)] ?_ λJ3 bk=>?_
   ·rintro⟨cw,mj⟩ ah;cases ah;exact yB ax _ hl2 []
   obtain⟨ak,h4,ah⟩:=zl c2.2;let Z2:List HO:=[Hi F9_ h4];obtain c3|c3:=zt ah
   ·obtain⟨mi,h5,ah⟩:=zl c3.2;let Z3:List HO:=(Z2++(rpN 4 (Hb c3) [Hn (iL eB h5),c3,Hs (iM eB h5),c3,c3]));obtain c4|c4:=zt ah
    ·obtain⟨oc,h6,ah⟩:=zl c4.2;obtain⟨g2,ah⟩:=gdE ah;exact yB (H:=zx ((xQa zn 66 3 (ew.map ZP) ((ew++[(zk.mk ak.o cj.G iv)]).map ZP)).or X0)) bk ((dg.set ak.o.toNat true),(ew++[(zk.mk ak.o cj.G iv)])) ah (Z3++[c4,Hn (iL eB h6),Hs (iM eB h6),Hs (iM eB h6),Hl (sM eB dg ak.o true),Hn (⟨rfl,dM ZP [(zk.mk ak.o cj.G iv)],rfl⟩:3=3/\A.areD ([(zk.mk ak.o cj.G iv)].map ZP)=true/\true=true),Hn (⟨rfl,aL ZP ZP g2,dM ZP ew⟩:eDq 3 ZP ew=A.opq (z7W 3 (ew.map ZP)).q/\(ew.map ZP).length+([(zk.mk ak.o cj.G iv)].map ZP).length<=lim/\A.areD (ew.map ZP)=true),Hn (aM ZP ew [(zk.mk ak.o cj.G iv)])])
    exact yB bk (dg,ew) c4.2 (Z3++[c4])
   exact yB bk (dg,ew) c3.2 (Z2++(rpN 7 (Hb c3) [qF]))
  cases c2.2;cases hl2;cases ae;exact yB au _ hl1 [c2]
 cases c0.2;cases hl1;cases aa;exact yF (H:=zx ((xQl zn 20 236 3 (dn.map ZP) κ).or X0)) .normal [(0,.own (.opq (YY de).q))] (Z0++[c0]) λst0 h0=>hE _ st0 (.inl rfl) h0
def l51:=Y6 73 F5_ F6_ y9::l50
def Q2 [H:HS X0 l50]:OkH l51:=yS1 true func73 λs_ r0 aa E hE=>by
 refine z8P rfl 0 (sz:=1) (t:=false) (es:=s_.map sZ) κ λbn hv0 hn=>?_;rcases hn with⟨hn0,he0⟩|hn0
 ·obtain⟨_,aa⟩:=gdE aa;rw[show s_=[] from List.map_eq_nil_iff.1 he0]at aa;cases aa;exact yEl (H:=zx ((zjX zn 4 57 κ hn0).or ((xMv prog 3 0 bn hv0).or X0))) hE [Hn (rfl:some bn=some bn),Hn (⟨rfl,rfl⟩:T.d (.atom bn)=T.d (.atom bn)/\T.d (.atom (.slice none 0 0))=T.d (.atom (.slice none 0 0))),qT]
 obtain⟨g0,aa⟩:=gdE aa;cases aa;exact yE (H:=zx ((zjX zn 4 57 κ hn0).or ((xMv prog 3 0 bn hv0).or X0))) hE [Hn (rfl:some bn=some bn),Hn (⟨rfl,rfl⟩:T.d (.atom bn)=T.d (.atom bn)/\T.d (.atom (.slice none 0 0))=T.d (.atom (.slice none 0 0))),qF,Hn (dM sZ s_),Hn (aL sZ sZ g0),Hl (aM0 sZ s_)]
def l52:=Y6 72 F5_ F3_ zO::l51
def Qz [H:HS X0 l51]:OkH l52:=yS1 true func72 λs_ r0 aa E hE=>by obtain⟨g0,aa⟩:=gdE aa;cases aa;exact yE hE [Ha (lnM sZ s_),Ha (lnM sZ s_),Hn (slB g0),Hn (slC g0),Hn (zib sZ g0),Ha (znz 1 sZ s_ 0 (s_.length:Int).toNat)]
def l53:=jV 143 zK sZ (eT2 Ju (eSl 1 true eB)) VW::l52
def z51 [H:HS X0 l52]:OkH l53:=yS2 false func143 λm_ from_ r0 aa E hE=>by
 obtain⟨g0,aa⟩:=gdE aa;obtain⟨g1,aa⟩:=gdE aa;refine yK (H:=zx ((xMs zn 12 57).or X0)) 111 [] [6,7] (λz:TA×List Bool=>V5 z.1 z.2=some r0) (λz=>[(6,.own (.box (eOs 1 true F3_ z.1))),(7,.own (.box (eOs 1 true eB z.2)))]) [1,2,6,7] [Ha (lnM y6 m_.i),Hn (rL g0),Ha (rM 1 F3_ (m_.i.length:Int) ([]:TB)),Ha (lnM y6 m_.i),Hn (rL g1),Ha (rM 1 eB (m_.i.length:Int) false),Hh (.cut 0)] ?_ λJ1 au=>?_
 ·rintro⟨l_,is⟩ aa;cases aa;exact yE hE [Hm (shM F3_ F3_ l_),Hm (shM eB eB is)]
 obtain⟨r_,h0,t2,ht2,aa⟩:=zV aa;refine yAt (sub [1,1,2,1,0] (zbd f143)) (frs [1,1,2,1,0] [J1] (zbd f143) []) [(6,.own (.box (eOs 1 true F3_ (List.replicate (m_.i.length:Int).toNat ([]:TB))))),(7,.own (.box (eOs 1 true eB (List.replicate (m_.i.length:Int).toNat false)))),(19,.d (.fn 167 [.sptr (.agg [I r_.1.j,I r_.1.m,eSl 1 false y6 r_.1.i]),.sptr (I r_.2)]))] [zC2 2 h0] λst0 h0=>?_;refine z1m (g:=.tmp 19) (ps:=[20]) (assign:=(sub [1,1,2,1,0,0] (zbd f143))) (body:=(sub [1,1,2,1,0,1] (zbd f143))) (K:=167) (caps:=[.sptr (.agg [I r_.1.j,I r_.1.m,eSl 1 false y6 r_.1.i]),.sptr (I r_.2)]) κ [6,7,19] (λs=>[(6,.own (.box (eOs 1 true F3_ s.1))),(7,.own (.box (eOs 1 true eB s.2))),(19,.d (.fn 167 [.sptr (.agg [I r_.1.j,I r_.1.m,eSl 1 false y6 r_.1.i]),.sptr (I r_.2)]))]) (λz=>nomatch z) (λz=>nomatch z) ((λ(x:zk) (_:Bool) (_:Value)=>[ZP x])) (F:=@jT r_.1 r_.2) (λs x=>wy s.1 s.2 x) ((List.replicate (m_.i.length:Int).toNat ([]:TB)),(List.replicate (m_.i.length:Int).toNat false)) t2 _ h0 inferInstance κ θ (λ_=>rfl) (by rintro⟨⟩) κ (λ_ _ _=>rfl) (KK (H:=zd 2) r_.1 r_.2) ht2 ?_ ?_
 ·rintro qu ⟨fq,gp⟩ iw vr aw ae;replace ae:wy fq gp iw=some aw:=ae;refine yF .normal [(6,.own (.box (eOs 1 true F3_ fq))),(7,.own (.box (eOs 1 true eB gp))),(8,.own (.box (ZP iw))),(19,.d (.fn 167 [.sptr (.agg [I r_.1.j,I r_.1.m,eSl 1 false y6 r_.1.i]),.sptr (I r_.2)]))] [] λst0 h0=>⟨rfl,z4e h0 ?_⟩;obtain⟨pq,h1,ae⟩:=zl ae;let Z0:List HO:=[Hn (iL eB h1),Hs (iM eB h1),Hs (iM eB h1),Hl (sM eB gp iw.G true)];obtain c0|c0:=zt ae
  ·obtain⟨cq,h2,ai,h3,ae⟩:=zV c0.2;obtain⟨g2,ae⟩:=gdE ae;obtain⟨am,h4,iu,h5,ae⟩:=zV ae;cases ae;exact yF .normal ([(6,.own (.box (eOs 1 true F3_ (fq.set iw.G.toNat am)))),(7,.own (.box (eOs 1 true eB (gp.set iw.G.toNat true)))),(19,.d (.fn 167 [.sptr (.agg [I r_.1.j,I r_.1.m,eSl 1 false y6 r_.1.i]),.sptr (I r_.2)]))]) (Z0++[c0,Hn (iL F3_ h2),Hs (iM F3_ h2),Hk [] (z0r (hat 1)) (zf1 1 h3 (loC F3_ cq<|loN)),Hq (dM sZ [iw.R]),Hn (dM sZ [iw.R]),Hn (aL sZ sZ g2),Hl (aM sZ ai [iw.R]),zg 0,Hm (shM sZ sZ (ai++[iw.R])),Hs (zf1 0 h4 (loC F5_ (ai++[iw.R])<|loN)),Hm (shM sZ sZ (ai++[iw.R])),Hn (iL F3_ h5),Hs (iM F3_ h5),Hs (iM F3_ h5),Hl (sM F3_ fq iw.G am)]) λst0 h0=>⟨rfl,_,h0,LeL.refl _⟩
  cases c0.2;exact yF .normal ([(6,.own (.box (eOs 1 true F3_ fq))),(7,.own (.box (eOs 1 true eB (gp.set iw.G.toNat true)))),(19,.d (.fn 167 [.sptr (.agg [I r_.1.j,I r_.1.m,eSl 1 false y6 r_.1.i]),.sptr (I r_.2)]))]) (Z0++[c0]) λst0 h0=>⟨rfl,_,h0,LeL.refl _⟩
 rcases t2 with⟨fq,gp⟩|z
 ·dsimp only at aa;exact YQ κ (au _ [(6,.own (.box (eOs 1 true F3_ fq))),(7,.own (.box (eOs 1 true eB gp)))] (fq,gp) aa (show Own.canon [6,7] _=ofL _ by kernel_rfl) inferInstance)
 cases z
def l54:=Y6 116 zK (eT3 Ju (eSl 1 true eB) sZ) WO::l53
def z3J [H:HS X0 l53]:OkH l54:=yS1 false func116 λm_ r0 aa E hE=>by
 obtain⟨r_,h0,aa⟩:=zl aa;let Z0:List HO:=[zC1 46 h0];obtain c0|c0:=zt aa
 ·cases c0.2;exact yE hE (Z0++[c0,Hm (shM F5_ F5_ []),Hm (shM eB eB [])])
 obtain⟨ai,h1,aa⟩:=zl c0.2;cases aa;exact yE hE (Z0++[c0,zC2 0 h1])
def l55:=Y6 47 xq zb7 yp::l54
def VY [H:HS X0 l54]:OkH l55:=yS1 true func47 λs_ r0 aa E hE=>by
 refine z8P rfl 0 (sz:=1) (t:=false) (es:=s_.map F5_) κ λbn hv0 hn=>?_;rcases hn with⟨hn0,he0⟩|hn0
 ·obtain⟨_,aa⟩:=gdE aa;rw[show s_=[] from List.map_eq_nil_iff.1 he0]at aa;cases aa;exact yEl (H:=zx ((zjX zn 4 37 κ hn0).or ((xMv prog 3 0 bn hv0).or X0))) hE [Hn (rfl:some bn=some bn),Hn (⟨rfl,rfl⟩:T.d (.atom bn)=T.d (.atom bn)/\T.d (.atom (.slice none 0 0))=T.d (.atom (.slice none 0 0))),qT]
 obtain⟨g0,aa⟩:=gdE aa;cases aa;exact yE (H:=zx ((zjX zn 4 37 κ hn0).or ((xMv prog 3 0 bn hv0).or X0))) hE [Hn (rfl:some bn=some bn),Hn (⟨rfl,rfl⟩:T.d (.atom bn)=T.d (.atom bn)/\T.d (.atom (.slice none 0 0))=T.d (.atom (.slice none 0 0))),qF,Hn (dM F5_ s_),Hn (aL F5_ F5_ g0),Hl (aM0 F5_ s_)]
def l56:=jV 70 F5_ F5_ eB jI::l55
def z1O [H:HS X0 l55]:OkH l56:=yS2 true func70 λa_ b_ r0 aa E hE=>by obtain⟨r_,h0,aa⟩:=zl aa;cases aa;exact yE hE [zC2 17 h0]
def l57:=jV 69 zb7 (zk4 70) zb7 xA [true,false]::l56
def zT:XH prog:=((zmQ zn 64).or X0)
def YX [H:HS zT l56]:OkH l57:=yS2 true func69 λs_ eq r0 aa E hE=>by
 refine z3u (y:=eOs 1 false F5_ s_) rfl 0 κ κ λbn hv0=>?_;let Z0:List HO:=[Ha (lnM F5_ s_)];obtain c0|c0:=zt aa
 ·cases c0.2;exact yE hE (Z0++[c0])
 refine yN 111 [] [0] (λz:Unit=>vX s_=some r0) (λz=>[]) [0,1] (Z0++[c0,Hh (.cut 0)]) ?_ λJ1 au=>?_
 ·rintro⟨⟩ aa;cases aa;exact yE hE []
 refine yMb 111210 [J1] [0,1,5] (λx=>[(5,.d (I x))]) c0.2  [] λt2 aa k_ m2 aw ae hl1 J2 ax=>?_;let Z1:List HO:=[Ha (lnM F5_ s_)];obtain c1|c1:=zt ae
 ·refine yNs 11121001 [J1,J2] [0,1,5] (λz:Unit=>w7 k_=some aw) (λz=>[]) (Z1++[c1,Hh (.cut 0)]) ?_ λJ3 bk=>?_
  ·rintro⟨⟩ ae;cases ae;exact yB ax _ hl1 []
  obtain⟨d9,h0,mz,h1,r_,h2,ae⟩:=ZK c1.2;let Z2:List HO:=[Hn (iL F5_ h0),Hs (iM F5_ h0),Hn (iL F5_ h1),Hs (iM F5_ h1),zC2 0 h2];obtain c2|c2:=zt ae
  ·obtain⟨g0,ae⟩:=gdE c2.2;refine yK (H:=zx ((xAs prog 6 (Q6 1 bn k_)).or ((xVw zn 31 0 bn).or zT))) 1112100120101 [J1,J2,J3] [0,5] (λz:TA×Int=>ye z.1 z.2=some aw) (λz=>[(0,.own (eOs 1 false F5_ z.1)),(5,.d (I z.2))]) [0,1,5,6] (Z2++[c2,Hn (⟨.inl rfl,rfl⟩:(T.als 0 [] 0 0=T.als 0 [] 0 0\/T.als 0 [] 0 0=T.d (.atom bn))/\some bn=some bn),Hn (⟨g0.1,cuB F5_ g0⟩:(0:Int)<=k_/\k_.toNat<=(s_.map F5_).length),Hn (rfl:T.d (.atom (Q6 1 bn k_))=T.d (.atom (Q6 1 bn k_))),Hh (.cut 1)]) ?_ λJ4 cx=>?_
   ·rintro⟨bf,aq⟩ ae;obtain⟨g1,ae⟩:=gdE ae;obtain⟨g2,ae⟩:=gdE ae;obtain⟨g3,ae⟩:=gdE ae;cases ae;cases hl1;cases aa;exact yE (H:=zx ((xVc zn 61 1 0 bn aq).or ((xVw zn 61 0 bn).or zT))) hE [Hn (⟨.inl rfl,rfl⟩:(T.als 0 [] 0 0=T.als 0 [] 0 0\/T.als 0 [] 0 0=T.d (.atom bn))/\some bn=some bn),Hn (⟨g1.1,cuB F5_ g1⟩:(0:Int)<=aq/\aq.toNat<=(bf.map F5_).length),Hn (⟨rfl,rfl⟩:T.d (.atom (Q6 1 bn aq))=T.d (.atom (Q6 1 bn aq))/\some bn=some bn),Hn (⟨g2.1,cuB F5_ g2,dM F5_ bf⟩:(0:Int)<=aq/\aq.toNat<=(bf.map F5_).length/\A.areD (bf.map F5_)=true),Hx (.l ((bf.take aq.toNat++List.replicate (bf.length-aq.toNat) []).map F5_)) (vcM F5_ bf aq.toNat ([]:TB)),Hn g3.1,Hn (cuB F5_ g3),Hl (cuM F5_ (bf.take aq.toNat++List.replicate (bf.length-aq.toNat) []) aq)]
   refine yMb 1112100120101210 [J1,J2,J3,J4] [0,1,5,6,7] (λx=>[(0,.own (eOs 1 false F5_ x.1)),(5,.d (I x.2.1)),(7,.d (I x.2.2))]) ae  [] λt5 ae ⟨bl,jw,k2⟩ m5 dc ah hl2 J5 dh=>?_;let Z3:List HO:=[Hn (⟨rfl,rfl⟩:T.d (.atom (Q6 1 bn k_))=T.d (.atom (Q6 1 bn k_))/\some bn=some bn),Hx (.a (.atom (.int .i64 ((bl.length-k_.toNat:Nat):Int)))) (vlM F5_ bl k_.toNat)];obtain c3|c3:=zt ah
   ·refine yNs (H:=zx ((xVl zn 34 37 1 0 bn k_ κ).or zT)) 111210012010121001 [J1,J2,J3,J4,J5] [0,1,5,6,7] (λz:TA×Int=>yc k2 z.1 z.2=some dc) (λz=>[(0,.own (eOs 1 false F5_ z.1)),(5,.d (I z.2))]) (Z3++[c3,Hh (.cut 0)]) ?_ λJ6 fz=>?_
    ·rintro⟨ml,px⟩ ah;cases ah;exact yB dh _ hl2 []
    obtain⟨g4,ah⟩:=gdE c3.2;obtain⟨ol,h3,ah⟩:=zl ah;obtain⟨g5,ah⟩:=gdE ah;obtain⟨om,h4,ai,h5,ah⟩:=zV ah;let Z4:List HO:=[Hn (⟨rfl,rfl⟩:T.d (.atom (Q6 1 bn k_))=T.d (.atom (Q6 1 bn k_))/\some bn=some bn),Hn (⟨g4.1,g4.2,(iL F5_ h3).2⟩:(0:Int)<=k_/\(0:Int)<=k2/\(k_+k2).toNat<(bl.map F5_).length),Hs (iM F5_ h3),Hn (⟨rfl,rfl⟩:T.d (.atom (Q6 1 bn k_))=T.d (.atom (Q6 1 bn k_))/\some bn=some bn),Hn (⟨g5.1,g5.2,(iL F5_ h4).2⟩:(0:Int)<=k_/\(0:Int)<=w64 (k2-1)/\(k_+(w64 (k2-1))).toNat<(bl.map F5_).length),Hs (iM F5_ h4),zC2 0 h5];obtain c4|c4:=zt ah
    ·obtain⟨g6,ah⟩:=gdE c4.2;obtain⟨oq,h6,sa,h7,ah⟩:=zV ah;exact yB (H:=zx ((xVi zn 54 1 0 bn k_).or ((xVi zn 46 1 0 bn k_).or ((xVi zn 41 1 0 bn k_).or zT)))) fz ((bl.set jw.toNat oq),w64 (jw+1)) ah (Z4++[c4,Hn (⟨rfl,rfl⟩:T.d (.atom (Q6 1 bn k_))=T.d (.atom (Q6 1 bn k_))/\some bn=some bn),Hn (⟨g6.1,g6.2,(iL F5_ h6).2⟩:(0:Int)<=k_/\(0:Int)<=k2/\(k_+k2).toNat<(bl.map F5_).length),Hs (iM F5_ h6),Hn (iL F5_ h7),Hs (iM F5_ h7),Hs (iM F5_ h7),Hl (sM F5_ bl jw oq)])
    exact yB (H:=zx ((xVi zn 46 1 0 bn k_).or ((xVi zn 41 1 0 bn k_).or zT))) fz (bl,jw) c4.2 (Z4++[c4])
   cases c3.2;cases hl2;exact yB (H:=zx ((xVl zn 34 37 1 0 bn k_ κ).or zT)) cx (bl,jw) ae (Z3++[c3])
  exact yB bk () c2.2 (Z2++[c2])
 cases c1.2;cases hl1;exact yB au () aa (Z1++[c1])
def xN:y4:=spR (α:=TA) (ρ:=TA) 68 (λx=>[zb7 x]) (λr=>(eOs 1 true F5_) r) (λx=>wq x) [true] (zpV)
def WG:∀x r,(λx=>wq x) x=some r->(z3F.add xN).run 68 ((z3F.add xN).norm 68 ((λx=>[zb7 x]) x))=some ((λr=>(eOs 1 true F5_) r) r):=λx r h=>zoL h rfl
def WI:(z3F.add xN).gives 68=[true]:=zj8
def vz [H:HS X0 l57]:xN.Ok prog:=by refine zbt ?_;rintro s_ r0 aa;refine zY true func68 λE hE=>?_;cases aa;exact yE (H:=zx ((xCl zn 8).or X0)) hE [Ha (lnM F5_ s_),Ha (lnM F5_ s_),Hn (mS _:(0:Int)<=(s_.length:Int)),Hn (mS _:(0:Int)<=(s_.length:Int)),Hn (clB F5_ s_),Ha (clE 1 F5_ s_)]
def l58:=Y6 46 xq (eT2 Ju sZ) xh::l57
def z3K [H:HS X0 l57]:OkH l58:=yS1 false func46 λl_ r0 aa E hE=>by
 obtain⟨r_,h0,aa⟩:=zl aa;refine yC 111 [] [4] [zC1 2 h0,Hh (.cut 0)] ?_;obtain⟨sorted,h1,aa⟩:=zl aa;refine z7O κ (x:=(sub [1,1,0] (zbd Tryz.f46))) (y:=(sub [1,1,1] (zbd Tryz.f46))) 4 (λst1=>Own.canon [4] st1=ofL [(4,.own (eOs 1 false F5_ sorted))]) (λix=>yF (H:=zx ((z2o (P:=prog) uQ [4] (zbv zny (f:=F5_) (t:=false) (v:=ix) (λ_=>rfl) (λ_=>rfl) (λx y c h=>(zk2 19 h :)) h1) 10).or X0)) .normal [(4,.own (eOs 1 false F5_ sorted))] [Hn (Uc (f:=.fn 66 []) (xs:=[.atom ix,.fn 67 []]) (ls:=[(ix,eOs 1 false F5_ r_)]) (r:=.tup []) (ys:=[eOs 1 false F5_ sorted]) [.atom ix,.fn 67 []] (show Jr [.atom ix,.fn 67 []] [.atom ix,.fn 67 []] from inferInstance))] λst0 h0=>⟨rfl,h0⟩) λst1 h1=>z4e h1 ?_;obtain⟨ai,h2,am,h3,aa⟩:=zV aa;let Z0:List HO:=[zC2 0 h2,Hh (.g [true]),Hn WI,Hx (.a ((eOs 1 true F5_) am)) (WG ai _ h3),Ha (lnM F5_ am)];obtain c0|c0:=zt aa
 ·cases c0.2;exact yEx (H:=zx ((z4V zn (vz (H:=zd 0)) 13).or X0)) hE (Z0++(rpN 4 (Hb c0) [qT,Hm (shM F5_ F5_ [])])) (.tup [eSl 1 true F3_ [],I 3]) (show LeV (.tup [eSl 1 true F3_ [],I 3]) (.tup [eSl 1 true F3_ ([]:TA),I 3]) from inferInstance)
 obtain⟨az,h4,aa⟩:=zl c0.2;let Z1:List HO:=(Z0++[Hb c0,Hb c0,zg 17,Hm (shM F5_ F5_ am),Hs (zf1 17 h4 (loC z4T am<|loN)),Hb c0,Hb c0]);obtain c1|c1:=zt aa
 ·cases c1.2;exact yEx (H:=zx ((z4V zn (vz (H:=zd 0)) 13).or X0)) hE (Z1++[c1,Hm (shM F5_ F5_ [])]) (.tup [eSl 1 true F3_ [],I 3]) (show LeV (.tup [eSl 1 true F3_ [],I 3]) (.tup [eSl 1 true F3_ ([]:TA),I 3]) from inferInstance)
 refine yC (H:=zx ((z4V zn (vz (H:=zd 0)) 13).or X0)) 111111 [] [4] (Z1++[Hb c1,Hh (.cut 0)]) ?_;refine z3u (y:=eOs 1 true F5_ am) κ 4 κ κ λix hv4=>?_;refine yKs 111111 [] [4] (zI XR r0) (λz=>[(4,.own (eOs 1 true (eFl 1 sZ) z))]) [Hh (.cut 0)] ?_ λJ1 au=>?_
 ·rintro out aa;obtain⟨hfl0,aa⟩:=gdE aa;cases aa;exact yEx hE [Hm (shM (eFl 1 sZ) (eFl 1 sZ) out)] (.tup [eSl 1 true (eFl 1 sZ) out,I 0]) (haveI:=flA (s:=1) (t:=1) (b:=true) (f:=sZ) hfl0;show LeV (.tup [eSl 1 true (eFl 1 sZ) out,I 0]) (.tup [eSl 1 true F3_ (out.map (·.1)),I 0]) from inferInstance)
 obtain⟨t2,ht2,aa⟩:=zl c1.2;refine yLx (H:=zx ((xVl zn 23 37 1 4 ix (0:Int) κ).or ((xMw prog 22 4 1 ix).or X0))) 111111210 [J1] (λs=>wH am s.1 s.2) (λx=>[(4,.own (eOs 1 true (eFl 1 sZ) x.1)),(22,.d (.atom (Q6 1 ix (0:Int)))),(23,.d (I ((am.length-(0:Int).toNat:Nat):Int))),(24,.d (I x.2))]) ((am.map λq=>(q,false)),0) ht2 [(4,.own (eOs 1 true F5_ am)),(22,.d (.atom (Q6 1 ix (0:Int)))),(23,.d (I ((am.length-(0:Int).toNat:Nat):Int))),(24,.d (I 0))] inferInstance [Hn (rfl:some ix=some ix),Hn (⟨rfl,rfl⟩:T.d (.atom (Q6 1 ix (0:Int)))=T.d (.atom (Q6 1 ix (0:Int)))/\some ix=some ix),Hx (.a (.atom (.int .i64 ((am.length-(0:Int).toNat:Nat):Int)))) (vlM F5_ am (0:Int).toNat)] λ⟨ay,fe⟩ m2 aw ae hl1 J2 ax=>?_;obtain c2|c2:=zt ae
 ·obtain⟨g0,ae⟩:=gdE c2.2;obtain⟨fx,h5,cp,h6,gh,h7,lc,h8,ae⟩:=z7L ae;cases ae;exact yB (H:=zx ((xVi zn 27 1 4 ix (0:Int)).or X0)) ax _ hl1 [Hb c2,Hn (⟨rfl,rfl⟩:T.d (.atom (Q6 1 ix (0:Int)))=T.d (.atom (Q6 1 ix (0:Int)))/\some ix=some ix),Hn (⟨g0.1,g0.2,(iL (eFl 1 sZ) h5).2⟩:(0:Int)<=0/\(0:Int)<=fe/\(0+fe).toNat<(ay.map (eFl 1 sZ)).length),Hs (iM (eFl 1 sZ) h5),Hk [] (z0r (hat 6)) (zf1 6 h6 (loC (eSl 1 fx.2 sZ) fx.1<|loN)),zg 5,Hm (shM sZ sZ cp),Hs (zf1 5 h7 (loC F5_ cp<|loN)),Hm (shM sZ sZ cp),Hn (iL (eFl 1 sZ) h8),Hs (iM (eFl 1 sZ) h8),Hs (iM (eFl 1 sZ) h8),Hl (sM (eFl 1 sZ) ay fe (gh,true))]
 cases c2.2;cases hl1;exact yB au ay aa [Hb c2]
def l59:=jV 117 xq sZ (eT2 Ju sZ) ZZ::l58
def z6k [H:HS X0 l58]:OkH l59:=yS2 false func117 λl_ inputs r0 aa E hE=>by
 obtain⟨r_,h0,aa⟩:=zl aa;let Z0:List HO:=[zC2 25 h0];obtain c0|c0:=zt aa
 ·cases c0.2;exact yE hE (Z0++[c0,Hm (shM F5_ F5_ [])])
 obtain⟨ai,h1,aa⟩:=zl c0.2;cases aa;exact yE hE (Z0++[c0,zC1 0 h1])
def l60:=Y6 87 zK (eT2 Ju sZ) jD::l59
def z2C [H:HS X0 l59]:OkH l60:=yS1 false func87 λm_ r0 aa E hE=>by
 obtain⟨r_,h0,aa⟩:=zl aa;let Z0:List HO:=[zC1 43 h0];obtain c0|c0:=zt aa
 ·cases c0.2;exact yE hE (Z0++[c0,Hm (shM F5_ F5_ [])])
 obtain c1|c1:=zt c0.2
 ·cases c1.2;exact yE hE (Z0++[c0,c1,Hm (shM F5_ F5_ [])])
 obtain⟨ai,h1,aa⟩:=zl c1.2;let Z1:List HO:=(Z0++[c0,c1,zC1 5 h1]);obtain c2|c2:=zt aa
 ·cases c2.2;exact yE hE (Z1++[c2,Hm (shM F5_ F5_ [])])
 obtain⟨am,h2,aa⟩:=zl c2.2;cases aa;exact yE hE (Z1++[c2,Hk [] (z0r (hat 0)) (zf2 0 h2 (loC Ju ai.1<|loC sZ m_.j<|loN))])
def l61:=z0Q 121 sZ sZ sZ (eT2 Ju sZ) Vu::l60
def z8V:XH prog:=((XM zn (.inl 83) [82]).or X0)
def z82 [H:HS z8V l60]:OkH l61:=yS3 false func121 λinputs from_ to r0 aa E hE=>by
 obtain c0|c0:=zt aa
 ·cases c0.2;exact yE hE [c0,Hm (shM F5_ F5_ [])]
 obtain c1|c1:=zt c0.2
 ·cases c1.2;exact yE hE [c0,c1,c1,c1,qT,Hm (shM F5_ F5_ [])]
 let Z0:List HO:=[c0,c1,c1,c1];obtain c2|c2:=zt c1.2
 ·cases c2.2;exact yE hE (Z0++[c2,Hm (shM F5_ F5_ [])])
 obtain c3|c3:=zt c2.2
 ·cases c3.2;exact yE hE (Z0++[c2,c3,Hm (shM F5_ F5_ [])])
 obtain⟨t1,ht1,aa⟩:=zl c3.2;refine yMx 1111111110 [] [0,1,2,8,9,10,11] (λx=>[(8,.own (eOs 1 false F5_ x.1)),(9,.own (eOs 1 false F5_ x.2.1)),(10,.d (I x.2.2.1)),(11,.d (I x.2.2.2))]) ht1 [(8,.own (eOs 1 true F5_ [])),(9,.own (eOs 1 true F3_ ([[]]))),(10,.d (I 0)),(11,.d (I 0))] (Z0++[c2,c3,Hh (.v 5 [9]),Hm (shM F2_ F3_ ([[]]:TA))]) λ⟨out,av,n_,k_⟩ m1 aw ae hl1 J1 au=>?_;refine yN 11111111100 [J1] [0,1,2,8,9,10,11,45,46,49,50,51,52,58] (λz:TA×TA×Int×Int×Bool×Bool=>QD k_ z.1 z.2.1 z.2.2.1 z.2.2.2.1 z.2.2.2.2.1 z.2.2.2.2.2=some aw) (λz=>[(8,.own (eOs 1 false F5_ z.1)),(9,.own (eOs 1 false F5_ z.2.1)),(10,.d (I z.2.2.1)),(45,.d (I z.2.2.2.1)),(46,.d (B z.2.2.2.2.1)),(49,.d (I k_)),(50,.d (I to)),(51,.d (B (decide (k_<to)))),(52,.d (B (decide (k_<to)))),(58,.d (B z.2.2.2.2.2))]) [0,1,2,8,9,10,11] [Hh (.cut 0)] ?_ λJ2 ax=>?_
 ·rintro⟨aj,mp,cb,jv,rb,o7⟩ ae;cases ae;exact yB au _ hl1 []
 refine yNs 1111111110020 [J1,J2] [0,1,2,8,9,10,11] (λz:TA×Int=>YC inputs to av k_ z.1 z.2=some aw) (λz=>[(8,.own (eOs 1 false F5_ z.1)),(10,.d (I z.2))]) [Hh (.cut 0)] ?_ λJ3 bk=>?_
 ·rintro⟨ay,bz⟩ ae;refine yN 11111111100201 [J1,J2] [0,1,2,8,9,10,11,45,46,49,50,51,52,58] (zI (YB inputs to av k_ ay bz) aw) (λz=>[(45,.d (I bz)),(46,.d (B (decide (bz > 65536)))),(49,.d (I k_)),(50,.d (I to)),(51,.d (B (decide (k_<to)))),(52,.d (B (decide (k_<to)))),(58,.d (B z))]) [0,1,2,8,9,10,11] [Hh (.cut 0)] ?_ λJ4 cx=>?_
  ·rintro gt ae;obtain c4|c4:=zt ae
   ·obtain⟨r_,h0,ae⟩:=zl c4.2;cases ae;cases hl1;cases aa;exact yE hE [c4,zg 2,Hm (shM F5_ F5_ ay),Hs (zf1 2 h0 (loC xq ay<|loN)),Hm (shM F5_ F5_ ay)]
   refine yN 11111111100201111 [J1,J2] [0,1,2,8,10,11,12,45,46,49,50,51,52,58] (zI (QC k_ ay bz gt) aw) (λz=>[(12,.own (eOs 1 false F5_ z))]) [0,1,2,8,9,10,11,12,45,46,49,50,51,52,58] [c4,Hh (.cut 1)] ?_ λJ5 dh=>?_
   ·rintro next ae
    exact yB ax (ay,next,bz,bz,decide (bz>65536),gt) ae []
   obtain⟨t6,kz,ae⟩:=zl c4.2;refine yMx 11111111100201111210 [J1,J2,J5] [0,1,2,8,9,10,11,12,45,46,49,50,51,52,58,67,68,69] (λx=>[(12,.own (eOs 1 false F5_ x.1)),(69,.d (I x.2))]) kz [(12,.own (eOs 1 true F5_ [])),(69,.d (I 0))] [Ha (lnM F5_ av)] λ⟨cr,kq⟩ m6 dc ah hl2 J6 fz=>?_;obtain c5|c5:=zt ah
   ·refine yNs 11111111100201111210011 [J1,J2,J5,J6] [0,1,2,8,9,10,11,12,45,46,49,50,51,52,58,67,68,69] (zI (QB kq) dc) (λz=>[(12,.own (eOs 1 false F5_ z))]) [c5,Hh (.cut 0)] ?_ λJ7 j5=>?_
    ·rintro fm ah;cases ah;exact yB fz _ hl2 []
    obtain⟨bt,h1,t8,ht8,ah⟩:=zV c5.2;refine yM 1111111110020111121001120110 [J1,J2,J5,J6,J7] [0,1,2,8,9,10,11,12,14,45,46,49,50,51,52,58,67,68,69,73,74] (λx=>[(12,.own (eOs 1 false F5_ x.1)),(74,.d (I x.2))]) ht8  [Hn (iL F5_ h1),Hs (iM F5_ h1)] λ⟨cm,kr⟩ m8 oa a8 hl3 J8 mb=>?_;obtain c6|c6:=zt a8
    ·obtain⟨ai,h2,a8⟩:=zl c6.2;obtain⟨g0,a8⟩:=gdE a8;obtain⟨g1,a8⟩:=gdE a8;cases a8;exact yB mb _ hl3 [c6,zC1 8 h2,Hq (dM sZ [kr]),Hn (dM sZ [kr]),Hn (aN sZ sZ g0 ς),Hl (aM sZ ai [kr]),Hm (shM sZ sZ (ai++[kr])),Hq (dM F5_ [(ai++[kr])]),Hn (dM F5_ [(ai++[kr])]),Hn (aL F5_ F5_ g1),Hl (aM F5_ cm [(ai++[kr])])]
    cases c6.2;cases hl3;exact yB j5 cm ah [c6]
   cases c5.2;cases hl2;exact yB dh cr ae [c5]
  let Z1:List HO:=[Ha (lnM F5_ ay)];obtain c7|c7:=zt ae
  ·cases c7.2;cases hl1;cases aa;exact yE hE (Z1++(Hb c7::Hb c7::Hb c7::(rpN 7 qT [Hm (shM F5_ F5_ [])])))
  obtain c8|c8:=zt c7.2
  ·cases c8.2;cases hl1;cases aa;exact yE hE (Z1++(Hb c7::Hb c7::Hb c7::(rpN 6 (Hb c8) [qT,Hm (shM F5_ F5_ [])])))
  let Z2:List HO:=(Z1++(Hb c7::Hb c7::Hb c7::(rpN 4 (Hb c8) [])));obtain c9|c9:=zt c8.2
  ·let Z3:List HO:=(Z2++[c9,c9,Ha (lnM F5_ av),c9,c9,c9,c8,c9,c8]);obtain c10|c10:=zt c9.2
   ·cases c10.2;cases hl1;cases aa;exact yE hE (Z3++[c10,Hm (shM F5_ F5_ [])])
   exact yB cx (decide ((w64 ((av.length:Int)*inputs))>4096)) c10.2 (Z3++[c10])
  exact yB cx false c9.2 (Z2++(rpN 5 (Hb c9) [c8,c9,c8,qF]))
 obtain c11|c11:=zt ae
 ·obtain⟨g2,ae⟩:=gdE c11.2;exact yB bk ((out++av),w64 (n_+(w64 (k_*(av.length:Int))))) ae [c11,Hq (dM F5_ av),Hn (dM F5_ av),Hn (aL F5_ F5_ g2),Hl (aM F5_ out av),Ha (lnM F5_ av)]
 exact yB bk (out,n_) c11.2 [c11]
def l62:=jV 90 sZ sZ (eT2 Ju sZ) Vv::l61
def z6j [H:HS X0 l61]:OkH l62:=yS2 false func90 λinputs k_ r0 aa E hE=>by obtain⟨r_,h0,aa⟩:=zl aa;cases aa;exact yE hE [zC3 0 h0]
def l63:=jV 45 sZ zqk sZ XJ::l62
def z6i [H:HS X0 l62]:OkH l63:=yS2 true func45 λinputs l_ r0 aa E hE=>by
 refine yK 11 [] [] (λz:Unit=>VZ=some r0) (λz=>[]) [0,1] [Hh (.cut 1)] ?_ λJ1 au=>?_
 ·rintro⟨⟩ aa;cases aa;exact yE hE []
 refine yMb 11210 [J1] [0,8,9,10] (λx=>[(10,.d (I x))]) aa  [Ha (lnM xq l_)] λt2 aa fk m2 aw ae hl1 J2 ax=>?_;obtain c0|c0:=zt ae
 ·obtain⟨cq,h0,r_,h1,ae⟩:=zV c0.2;let Z0:List HO:=[c0,Hi xq h0,zC2 21 h1];obtain c1|c1:=zt ae
  ·cases c1.2;cases hl1;cases aa;exact yE hE (Z0++[c1])
  cases c1.2;exact yB ax _ hl1 (Z0++[c1])
 cases c0.2;cases hl1;exact yB au () aa [c0]
def l64:=Y6 160 F5_ z1j KV::l63
def z81 [H:HS X0 l63]:OkH l64:=yS1 true func160 λw_ r0 aa E hE=>by
 obtain⟨g0,aa⟩:=gdE aa;refine yK 111 [] [3] (zI z1x r0) (λz=>[(3,.own (eOs 1 true (eI .u8) z))]) [0,3] [Ha (lnM sZ w_),Hn (rL g0),Ha (rM 1 (eI .u8) (w_.length:Int) (0:Int)),Hh (.cut 0)] ?_ λJ1 au=>?_
 ·rintro b_ aa;cases aa;exact yE (H:=zx ((zqo prog zii).or X0)) hE [Hx (.a (z1j (u8s b_))) (stM b_)]
 refine yMb 111210 [J1] [3,9,10,11] (λx=>[(3,.own (eOs 1 true (eI .u8) x.1)),(11,.d (I x.2))]) aa  [Ha (lnM sZ w_)] λt2 aa ⟨j7,gn⟩ m2 aw ae hl1 J2 ax=>?_;obtain c0|c0:=zt ae
 ·obtain⟨ge,h0,gf,h1,ae⟩:=zV c0.2;cases ae;exact yB ax _ hl1 [c0,Hi sZ h0,Hn (iL (eI .u8) h1),Hs (iM (eI .u8) h1),Hs (iM (eI .u8) h1),Hl (sM (eI .u8) j7 gn (IntKind.u8.wrap (ge)))]
 cases c0.2;cases hl1;exact yB au j7 aa [c0]
def l65:=z0Q 144 xq xq sZ (eT2 Ju sZ) YD::l64
def z3L [H:HS X0 l64]:OkH l65:=yS3 false func144 λa_ b_ inputs r0 aa E hE=>by
 obtain⟨r_,h0,aa⟩:=zl aa;let Z0:List HO:=[zg 1,Hm (shM xq xq ([a_,b_])),Hs (zf2 1 h0 (loC sZ inputs<|loC (eSl 1 true xq) [a_,b_]<|loN))];obtain c0|c0:=zt aa
 ·cases c0.2;exact yE hE (Z0++[c0,Hm (shM F5_ F5_ [])])
 refine yK (H:=zx ((zkh prog 26).or X0)) 111111 [] [11] (zI kV r0) (λz=>[(11,.own (eOs 1 false F5_ z))]) [0,1,9,10,11] (Z0++[c0,Hh (.cut 3)]) ?_ λJ1 au=>?_
 ·rintro out aa;obtain⟨ai,h1,aa⟩:=zl aa;cases aa;exact yE hE [zg 6,Hm (shM F5_ F5_ out),Hs (zf1 6 h1 (loC xq out<|loN)),Hm (shM F5_ F5_ out)]
 obtain⟨t2,ht2,aa⟩:=zl c0.2;refine yMx 111111210 [J1] [1,9,10,11,27,28,29] (λx=>[(9,.own (.opq (z0j (YO z1j eB x.1)))),(10,.d (I x.2.1)),(11,.own (eOs 1 false F5_ x.2.2.1)),(29,.d (I x.2.2.2))]) ht2 [(9,.own (.opq (z0j (YO z1j eB ([]:List ((List UInt8)×Bool)))))),(10,.d (I 0)),(11,.own (eOs 1 true F5_ [])),(29,.d (I 0))] [Ha (lnM F5_ a_)] λ⟨ia,n_,aj,dz⟩ m2 aw ae hl1 J2 ax=>?_;obtain c1|c1:=zt ae
 ·refine yNs 111111210011 [J1,J2] [1,9,10,11,27,28,29] (λz:(List ((List UInt8)×Bool))×Int×TA=>kU dz z.1 z.2.1 z.2.2=some aw) (λz=>[(9,.own (.opq (z0j (YO z1j eB z.1)))),(10,.d (I z.2.1)),(11,.own (eOs 1 false F5_ z.2.2))]) [c1,Hh (.cut 0)] ?_ λJ3 bk=>?_
  ·rintro⟨dg,cb,ay⟩ ae;cases ae;exact yB ax _ hl1 []
  obtain⟨ie,h2,t4,ht4,ae⟩:=zV c1.2;refine yM 11111121001120110 [J1,J2,J3] [1,9,10,11,13,27,28,29,33,34,35] (λx=>[(9,.own (.opq (z0j (YO z1j eB x.1)))),(10,.d (I x.2.1)),(11,.own (eOs 1 false F5_ x.2.2.1)),(35,.d (I x.2.2.2))]) ht4  [Hi F5_ h2,Ha (lnM F5_ b_)] λ⟨cw,bz,cu,gk⟩ m4 dc ah hl2 J4 cx=>?_;obtain c2|c2:=zt ah
  ·obtain⟨gf,h3,am,h4,ah⟩:=zV c2.2;obtain⟨g0,ah⟩:=gdE ah;let Z1:List HO:=[c2,Hi F5_ h3,zC1 12 h4,Hn (apM sZ g0),Hl (aM sZ am gf),Ha (lnM sZ (am++gf))];obtain c3|c3:=zt ah
   ·cases c3.2;cases hl2;cases ae;cases hl1;cases aa;exact yE (H:=zx ((xAp zn 42).or X0)) hE (Z1++[c3,Hm (shM F5_ F5_ [])])
   refine yN (H:=zx ((xAp zn 42).or X0)) 1111112100112011001100111 [J1,J2,J3,J4] [1,9,10,11,13,27,28,29,33,34,35] (λz:(List ((List UInt8)×Bool))×Int×TA=>uV gk z.1 z.2.1 z.2.2=some dc) (λz=>[(9,.own (.opq (z0j (YO z1j eB z.1)))),(10,.d (I z.2.1)),(11,.own (eOs 1 false F5_ z.2.2))]) [1,9,10,11,13,16,27,28,29,33,34,35] (Z1++[c3,Hh (.cut 0)]) ?_ λJ5 dh=>?_
   ·rintro⟨nj,pi,im⟩ ah;let Z2:List HO:=[Ha (lnM F5_ im)];obtain c4|c4:=zt ah
    ·cases c4.2;cases hl2;cases ae;cases hl1;cases aa;exact yE hE (Z2++[c4,c4,c4,qT,Hm (shM F5_ F5_ [])])
    obtain c5|c5:=zt c4.2
    ·cases c5.2;cases hl2;cases ae;cases hl1;cases aa;exact yE hE (Z2++[c4,c4,c4,c5,Hm (shM F5_ F5_ [])])
    cases c5.2;exact yB cx _ hl2 (Z2++[c4,c4,c4,c5])
   obtain⟨az,h5,val,h6,ah⟩:=zV c3.2;replace h6:=zZ h6;let Z3:List HO:=[zC1 0 h5,Hn (⟨rfl,rfl,z7G (λ_=>rfl) cw⟩:A.opq (z0j (YO z1j eB cw))=A.opq (z0j (YO z1j eB cw))/\z5J (z1j az)=true/\∀p∈YO z1j eB cw,z5J p.1=true),Hx (.a (eB val)) ((zpW (f:=z1j) (g:=eB) (z0:=false) (z:=.atom (.bool false)) rfl az cw).trans (congrArg eB h6))];obtain c6|c6:=zt ah
   ·obtain⟨g1,ah⟩:=gdE c6.2;exact yB (H:=zx ((zpe zce 52 (YO z1j eB cw) (YO z1j eB (z35 cw az true))).or ((zb9 zce 50 (YO z1j eB cw)).or X0))) dh ((z35 cw az true),w64 (bz+(((am++gf).length:Nat):Int)),(cu++[(am++gf)])) ah (Z3++[c6,Hn (⟨rfl,rfl,rfl,rfl,z7G (λ_=>rfl) cw⟩:T.own (.opq (z0j (YO z1j eB cw)))=T.own (.opq (z0j (YO z1j eB cw)))/\0=0/\z5J (z1j az)=true/\(eB true).isD=true/\∀p∈YO z1j eB cw,z5J p.1=true),Hn (zbU (f:=z1j) (g:=eB) az true cw),Hq (dM F5_ [(am++gf)]),Hn (dM F5_ [(am++gf)]),Hn (aL F5_ F5_ g1),Hl (aM F5_ cu [(am++gf)]),Ha (lnM sZ (am++gf))])
   exact yB (H:=zx ((zb9 zce 50 (YO z1j eB cw)).or X0)) dh (cw,bz,cu) c6.2 (Z3++[c6])
  cases c2.2;cases hl2;exact yB bk (cw,bz,cu) ae [c2]
 cases c1.2;cases hl1;exact yB au aj aa [c1]
def l66:=jV 118 zK sZ (eT2 Ju sZ) ZJ::l65
def z11 [H:HS X0 l65]:OkH l66:=yS2 false func118 λm_ k_ r0 aa E hE=>by
 obtain⟨r_,h0,aa⟩:=zl aa;let Z0:List HO:=[zC1 5 h0];obtain c0|c0:=zt aa
 ·cases c0.2;exact yE hE (Z0++[c0,Hm (shM F5_ F5_ [])])
 obtain c1|c1:=zt c0.2
 ·cases c1.2;exact yE hE (Z0++[c0,c1,Hm (shM F5_ F5_ [])])
 obtain⟨ai,h1,aa⟩:=zl c1.2;let Z1:List HO:=(Z0++[c0,c1,zC2 3 h1]);obtain c2|c2:=zt aa
 ·cases c2.2;exact yE hE (Z1++[c2,Hm (shM F5_ F5_ [])])
 obtain⟨am,h2,aa⟩:=zl c2.2;cases aa;exact yE hE (Z1++[c2,Hk [] (z0r (hat 0)) (zf3 0 h2 (loC Ju r_.1<|loC Ju ai.1<|loC sZ m_.j<|loN))])
def l67:=Y6 88 zK (eT2 Ju sZ) vu::l66
def JY [H:HS X0 l66]:OkH l67:=yS1 false func88 λm_ r0 aa E hE=>by obtain⟨r_,h0,aa⟩:=zl aa;cases aa;exact yE hE [zC2 0 h0]
def l68:=Y6 145 sZ (z0T 161 (eSp sZ)) YN::l67
def z43 [H:HS X0 l67]:OkH l68:=yS1 true func145 λn_ r0 aa E hE=>by cases aa;exact yE hE []
abbrev K7 (x0:Int)(YY:σ->Qv)(x6:Int)(kp:σ):List (Nat×T):=[(0,.own (.opq (YY kp).q)),(1,.d (.sptr (I x0))),(5,.d (I x0)),(6,.d (I x6))]
abbrev K5 (x0:Int)(YY:σ->Qv)(x6:Int)(gx:σ)(b_:Int):List (Nat×T):=[(0,.own (.opq (YY gx).q)),(1,.d (.sptr (I x0))),(3,.d (I x6)),(4,.d (I b_)),(5,.d (I x0)),(6,.d (I x6))]
abbrev K6 (x0:Int)(YY:σ->Qv)(de:σ)(x6:Int):List (Nat×T):=[(0,.own (.opq (YY de).q)),(1,.d (.sptr (I x0))),(5,.d (I x0)),(6,.d (I x6))]
def UO [H:HS X0 l68](x0:Int):z8Y prog (.fn 161 [.sptr (I x0)]) (λ(x:Int×Int) (_:Bool) (_:Value)=>[sZ x.1,sZ x.2]) (@vD x0):=by
 refine z3c (tt:=uQ) (nt:=f161.ntmps) (body:=zbd f161) zn func161 rfl κ rfl rfl (by show(2:Nat)<=22;decide) ?_;intro σ yv YY yy hy sg r0 aa E hE;obtain⟨t1,ht1,aa⟩:=zl aa;refine yL 110 [] (λs=>Ye x0 yy s.1 s.2) (λx=>K6 x0 YY x.1 x.2) (sg,0) ht1  [] λ⟨de,x6⟩ m1 aw ae hl1 J1 au=>?_;obtain c0|c0:=zt ae
 ·refine yKs 110011 [J1] [0,1,5,6] (zI (Yf x6) aw) (λz=>K7 x0 YY x6 z) [c0,Hh (.cut 0)] ?_ λJ2 ax=>?_
  ·rintro kp ae;cases ae;exact yB au _ hl1 []
  obtain⟨t3,ht3,ae⟩:=zl c0.2;refine yL 11001120110 [J1,J2] (λs=>qW x0 yy x6 s.1 s.2) (λx=>K5 x0 YY x6 x.1 x.2) (de,w64 (x6+1)) ht3  [] λ⟨gx,b_⟩ m3 dc ah hl2 J3 bk=>?_;obtain c1|c1:=zt ah
  ·obtain⟨yr,h0,ah⟩:=zl c1.2;let Z0:List HO:=[c1,Hn (z2I (yv:=yv) (Y:=YY) (enc:=(λ(x:Int×Int) (_:Bool) (_:Value)=>[sZ x.1,sZ x.2])) (s:=gx) (x:=(x6,b_)) (s':=yr.1) (b:=yr.2) (v:=.nilFunc) [sZ x6,sZ b_] (show Jr [sZ x6,sZ b_] [sZ x6,sZ b_] from inferInstance))];obtain c2|c2:=zt ah
   ·cases c2.2;cases hl2;cases ae;cases hl1;cases aa;exact yF (H:=zx ((Qx (P:=prog) uQ hy 19 (s:=gx) (x:=(x6,b_)) (s':=yr.1) (b:=yr.2) .nilFunc h0).or X0)) .ret [(0,.own (.opq (YY yr.1).q))] (Z0++[c2]) λst0 h0=>hE _ st0 (.inr rfl) h0
   cases c2.2;exact yB (H:=zx ((Qx (P:=prog) uQ hy 19 (s:=gx) (x:=(x6,b_)) (s':=yr.1) (b:=yr.2) .nilFunc h0).or X0)) bk _ hl2 (Z0++[c2])
  cases c1.2;cases hl2;exact yB ax gx ae [c1]
 cases c0.2;cases hl1;cases aa;exact yF .normal [(0,.own (.opq (YY de).q))] [c0] λst0 h0=>hE _ st0 (.inl rfl) h0
def l69:=jV 120 sZ sZ eB Je::l68
def z44 [H:HS X0 l68]:OkH l69:=yS2 true func120 λa_ b_ r0 aa E hE=>by cases aa;exact yE hE []
def l70:=jV 168 sZ z4i eB Ym::l69
def z1Q [H:HS X0 l69]:OkH l70:=yS2 true func168 λs_ x1 r0 aa E hE=>by
 obtain c0|c0:=zt aa
 ·cases c0.2;exact yE hE (rpN 6 (Hb c0) [])
 cases c0.2;exact yE hE (rpN 4 (Hb c0) [Ha (lnM y6 x1.i),c0,c0])
def vL:y4:=spF (α:=TB×z6) (ρ:=Int) 152 (λx=>[F5_ x.1,(z0T 168 z4i) x.2]) (λr=>sZ r) (λx=>xk x.1 x.2) [] (by rintro⟨a0,a1⟩ ⟨b0,b1⟩ h;have e0:=uJ.inj (f:=F5_) _ _ (List.cons.inj h).1;replace h:=(List.cons.inj h).2;have e1:=uJ.inj (f:=(z0T 168 z4i)) _ _ (List.cons.inj h).1;subst e0 e1;rfl)
def Yz [H:HS X0 l70]:vL.Ok prog:=by
 refine QF ?_;rintro⟨s_,f_⟩ r0 aa;refine zY true func152 λE hE=>?_;refine yK 11 [] [] (λz:Unit=>vM=some r0) (λz=>[]) [0,1] [Hh (.cut 1)] ?_ λJ1 au=>?_
 ·rintro⟨⟩ aa;cases aa;exact yE hE []
 refine yMb 11210 [J1] [0,1,7,8] (λx=>[(8,.d (I x))]) aa  [Ha (lnM sZ s_)] λt2 aa x8 m2 aw ae hl1 J2 ax=>?_;obtain c0|c0:=zt ae
 ·obtain⟨d9,h0,r_,h1,ae⟩:=zV c0.2;let Z0:List HO:=[c0,Hi sZ h0,zC2 0 h1];obtain c1|c1:=zt ae
  ·cases c1.2;cases hl1;cases aa;exact yE hE (Z0++[c1])
  cases c1.2;exact yB ax _ hl1 (Z0++[c1])
 cases c0.2;cases hl1;exact yB au () aa [c0]
def wW:y4:=spF (α:=TB×z6) (ρ:=Bool) 137 (λx=>[F5_ x.1,(z0T 168 z4i) x.2]) (λr=>eB r) (λx=>xU x.1 x.2) [] (by rintro⟨a0,a1⟩ ⟨b0,b1⟩ h;have e0:=uJ.inj (f:=F5_) _ _ (List.cons.inj h).1;replace h:=(List.cons.inj h).2;have e1:=uJ.inj (f:=(z0T 168 z4i)) _ _ (List.cons.inj h).1;subst e0 e1;rfl)
def ve [H:HS X0 l70]:wW.Ok prog:=by refine QF ?_;rintro⟨s_,f_⟩ r0 aa;refine zY true func137 λE hE=>?_;obtain⟨r_,h0,aa⟩:=zl aa;cases aa;exact yE (H:=zx ((z4V zn (Yz (H:=zd 0)) 7).or X0)) hE [Hc (Ctr.add_has z3F vL) (x:=(s_,f_)) h0 (loC F5_ s_<|loC (z0T 168 z4i) f_<|loN)]
def l71:=jV 162 zK F5_ sZ WQ::l70
def z3O [H:HS X0 l70]:OkH l71:=yS2 true func162 λm_ l_ r0 aa E hE=>by
 obtain⟨r_,h0,aa⟩:=zl aa;let Z0:List HO:=[zC1 63 h0];obtain c0|c0:=zt aa
 ·cases c0.2;exact yE hE (Z0++[c0])
 obtain⟨ai,h1,aa⟩:=zl c0.2;let Z1:List HO:=(Z0++[c0,Hc (Ctr.add_has z3F wW) (x:=(l_,m_)) h1 (loC F5_ l_<|loC (z0T 168 z4i) m_<|loN)]);obtain c1|c1:=zt aa
 ·cases c1.2;exact yE (H:=zx ((z4V zn (ve (H:=zd 0)) 13).or X0)) hE (Z1++[c1])
 cases c1.2;exact yE (H:=zx ((z4V zn (ve (H:=zd 0)) 13).or X0)) hE (Z1++[c1])
def l72:=Y6 169 zK (z0T 172 z4i) QE::l71
def z3P [H:HS X0 l71]:OkH l72:=yS1 true func169 λm_ r0 aa E hE=>by cases aa;exact yE hE []
abbrev K4 (x0:z6)(YY:σ->Qv)(x8:Int)(kp:σ):List (Nat×T):=[(0,.own (.opq (YY kp).q)),(1,.d (.sptr (zK x0))),(7,.d (I (x0.i.length:Int))),(8,.d (I x8))]
abbrev K2 (x0:z6)(YY:σ->Qv)(x8:Int)(gx:σ)(t_:Int):List (Nat×T):=[(0,.own (.opq (YY gx).q)),(1,.d (.sptr (zK x0))),(3,.d (I x8)),(4,.d (I t_)),(7,.d (I (x0.i.length:Int))),(8,.d (I x8))]
abbrev K3 (x0:z6)(YY:σ->Qv)(de:σ)(x8:Int):List (Nat×T):=[(0,.own (.opq (YY de).q)),(1,.d (.sptr (zK x0))),(7,.d (I (x0.i.length:Int))),(8,.d (I x8))]
def z1R [H:HS X0 l72](x0:z6):z8Y prog (.fn 172 [.sptr (.agg [I x0.j,I x0.m,eSl 1 false y6 x0.i])]) (λ(x:Int×Int) (_:Bool) (_:Value)=>[sZ x.1,sZ x.2]) (@uB x0):=by
 refine z3c (tt:=uQ) (nt:=f172.ntmps) (body:=zbd f172) zn func172 rfl κ rfl rfl (by show(2:Nat)<=26;decide) ?_;intro σ yv YY yy hy sg r0 aa E hE;obtain⟨t1,ht1,aa⟩:=zl aa;refine yL 110 [] (λs=>Y4 x0 yy s.1 s.2) (λx=>K3 x0 YY x.1 x.2) (sg,0) ht1  [Ha (lnM y6 x0.i)] λ⟨de,x8⟩ m1 aw ae hl1 J1 au=>?_;obtain c0|c0:=zt ae
 ·refine yKs 110011 [J1] [0,1,7,8] (zI (Y5 x8) aw) (λz=>K4 x0 YY x8 z) [c0,Hh (.cut 0)] ?_ λJ2 ax=>?_
  ·rintro kp ae;cases ae;exact yB au _ hl1 []
  obtain⟨t3,ht3,ae⟩:=zl c0.2;refine yL 11001120110 [J1,J2] (λs=>qO x0 yy x8 s.1 s.2) (λx=>K2 x0 YY x8 x.1 x.2) (de,w64 (x8+1)) ht3  [] λ⟨gx,t_⟩ m3 dc ah hl2 J3 bk=>?_;let Z0:List HO:=[Ha (lnM y6 x0.i)];obtain c1|c1:=zt ah
  ·obtain⟨yr,h0,ah⟩:=zl c1.2;let Z1:List HO:=(Z0++[c1,Hn (z2I (yv:=yv) (Y:=YY) (enc:=(λ(x:Int×Int) (_:Bool) (_:Value)=>[sZ x.1,sZ x.2])) (s:=gx) (x:=(x8,t_)) (s':=yr.1) (b:=yr.2) (v:=.nilFunc) [sZ x8,sZ t_] (show Jr [sZ x8,sZ t_] [sZ x8,sZ t_] from inferInstance))]);obtain c2|c2:=zt ah
   ·cases c2.2;cases hl2;cases ae;cases hl1;cases aa;exact yF (H:=zx ((Qx (P:=prog) uQ hy 23 (s:=gx) (x:=(x8,t_)) (s':=yr.1) (b:=yr.2) .nilFunc h0).or X0)) .ret [(0,.own (.opq (YY yr.1).q))] (Z1++[c2]) λst0 h0=>hE _ st0 (.inr rfl) h0
   cases c2.2;exact yB (H:=zx ((Qx (P:=prog) uQ hy 23 (s:=gx) (x:=(x8,t_)) (s':=yr.1) (b:=yr.2) .nilFunc h0).or X0)) bk _ hl2 (Z1++[c2])
  cases c1.2;cases hl2;exact yB ax gx ae (Z0++[c1])
 cases c0.2;cases hl1;cases aa;exact yF .normal [(0,.own (.opq (YY de).q))] [c0] λst0 h0=>hE _ st0 (.inl rfl) h0
def xM:y4:=spR (α:=TB×Int) (ρ:=TB) 174 (λx:TB×Int=>[F3_ x.1,sZ x.2]) (λr:TB=>F6_ r) (λx:TB×Int=>xz x.1 x.2) [] (zqI)
def WF:∀x r,(λx:TB×Int=>xz x.1 x.2) x=some r->(z3F.add xM).run 174 ((z3F.add xM).norm 174 ((λx:TB×Int=>[F3_ x.1,sZ x.2]) x))=some ((λr:TB=>F6_ r) r):=λx r h=>zoL (F:=λx:TB×Int=>xz x.1 x.2) (x:=x) h rfl
def WH:(z3F.add xM).gives 174=[]:=zj8
def V7 [H:HS X0 l72]:xM.Ok prog:=by
 refine zbt ?_;rintro⟨l,n⟩ r0 aa;cases l with
 |cons a l=>cases aa
 |nil=>
  have h1:0<n/\n<=1000000:=by
   have h2:(decide (0<n)&&decide (n<=1000000))=true:=by
    cases h:(decide (0<n)&&decide (n<=1000000)) with
    |true=>rfl
    |false=>have h3:(bif (true&&(decide (0<n)&&decide (n<=1000000))) then some [] else none)=some r0:=aa;rw[h]at h3;cases h3
   simpa using h2
  have h3:(bif (true&&(decide (0<n)&&decide (n<=1000000))) then some ([]:TB) else none)=some r0:=aa;rw[decide_eq_true h1.1,decide_eq_true h1.2]at h3;cases h3;exact zcL n h1.1 h1.2
def l73:=Y6 173 xq F6_ vh::l72
def VX [H:HS X0 l72]:OkH l73:=yS1 true func173 λslices r0 aa E hE=>by
 refine yNs 111 [] [0,3] (zI (vP slices) r0) (λz=>[(3,.d (I z))]) [Hh (.cut 2)] ?_ λJ1 au=>?_
 ·rintro size aa;obtain⟨r_,h0,aa⟩:=zl aa;refine yK (H:=zx ((z4V zn (V7 (H:=zd 0)) 24).or X0)) 11111 [] [6] (zI vO r0) (λz=>[(6,.own (eOs 1 false sZ z))]) [0,6] [Hh (.g []),Hn WH,Hx (.a (F6_ r_)) (WF ([],size) _ h0),Hh (.cut 0)] ?_ λJ2 ax=>?_
  ·rintro md aa;cases aa;exact yE hE []
  refine yMb 11111210 [J2] [6,25,26,27] (λx=>[(6,.own (eOs 1 false sZ x.1)),(27,.d (I x.2))]) aa  [Ha (lnM F5_ slices)] λt3 aa ⟨gy,o8⟩ m3 aw ae hl1 J3 bk=>?_;obtain c0|c0:=zt ae
  ·obtain⟨lb,h1,ae⟩:=zl c0.2;obtain⟨g0,ae⟩:=gdE ae;cases ae;exact yB bk _ hl1 [c0,Hi F5_ h1,Hn (dM sZ lb),Hn (aL sZ sZ g0),Hl (aM sZ gy lb)]
  cases c0.2;cases hl1;exact yB ax gy aa [c0]
 refine yMb 111210 [J1] [0,3,9,10,11] (λx=>[(3,.d (I x.1)),(11,.d (I x.2))]) aa  [Ha (lnM F5_ slices)] λt4 aa ⟨lq,gn⟩ m4 aw ae hl1 J4 cx=>?_;obtain c1|c1:=zt ae
 ·obtain⟨ld,h2,ae⟩:=zl c1.2;let Z0:List HO:=[c1,Hi F5_ h2,Ha (lnM sZ ld)];obtain c2|c2:=zt ae
  ·cases c2.2
  cases c2.2;exact yB cx _ hl1 (Z0++[c2])
 cases c1.2;cases hl1;exact yB au lq aa [c1]
abbrev UN (n_:Int)(f_:ArN 64 (ArN 64 TB))(out:TB):List (Nat×T):=[(0,.own (.box (xL 64 (xL 64 (eNl 1 sZ)) f_))),(4,.d (I n_)),(11,.own (eOs 1 false sZ out))]
abbrev UM (m_:z6)(t_:Int)(n_:Int)(f_:ArN 64 (ArN 64 TB))(al:List z7)(ig:Int):List (Nat×T):=[(0,.own (.box (xL 64 (xL 64 (eNl 1 sZ)) f_))),(3,.d (I t_)),(4,.d (I n_)),(6,.own (.box (zK m_))),(11,.own (eOs 1 true sZ [])),(19,.d (eSl 2 false F9_ al)),(20,.d (I (al.length:Int))),(21,.d (I ig))]
abbrev UL (m_:z6)(t_:Int)(n_:Int)(f_:ArN 64 (ArN 64 TB))(al:List z7)(ig:Int):List (Nat×T):=[(0,.own (.box (xL 64 (xL 64 (eNl 1 sZ)) f_))),(3,.d (I t_)),(4,.d (I n_)),(6,.own (.box (zK m_))),(11,.own (eOs 1 true sZ [])),(19,.d (eSl 2 false F9_ al)),(20,.d (I (al.length:Int))),(21,.d (I ig))]
def XN [H:HS X0 l73](ct:Value):∀(m_:z6) (s_:Int) (t_:Int) (n_:Int) (f_:ArN 64 (ArN 64 TB)) (r0:TB×ArN 64 (ArN 64 TB)),vK m_ s_ t_ n_ f_=some r0->xS prog (.fn 170 []) [.atom ct,.agg [I m_.j,I m_.m,eSl 1 false y6 m_.i],I s_,I t_,I n_] ([ct].zip [.box (xL 64 (xL 64 (eNl 1 sZ)) f_)]) (eNl 1 sZ r0.1) [.box (xL 64 (xL 64 (eNl 1 sZ)) r0.2)]:=by
 intro m_ s_ t_ n_ f_ r0 aa;refine zcp (tt:=uQ) (nt:=f170.ntmps) (body:=zbd f170) [0] zn func170 rfl κ rfl rfl (by show(5:Nat)<=85;decide) θ rfl rfl rfl rfl (λE hG hE=>?_) rfl;unfold vK at aa;refine yA (H:=zx ((xRe prog 10 (.atom (.slice none 0 0)) (eNl 1 sZ ([]:TB)) (zgV 1)).or ((XM zn (.inl 76) [66]).or X0))) 11 [] [(0,.own (.box (xL 64 (xL 64 (eNl 1 sZ)) f_))),(2,.d (I s_)),(3,.d (I t_)),(4,.d (I n_)),(6,.own (.box (zK m_)))] [Hn (rfl:T.d (.atom (.slice none 0 0))=T.d (.atom (.slice none 0 0)))] ?_;refine zgq (c':=(sub [1,0] (zbd f170))) κ hG ?_;refine yJ (H:=zx ((XM zn (.inl 76) [66]).or X0)) 11011 [] [0,4,11] (λz:TB=>vG n_ f_ z=some r0) (λz=>UN n_ f_ z) [(0,.own (.box (xL 64 (xL 64 (eNl 1 sZ)) f_))),(2,.d (I s_)),(3,.d (I t_)),(4,.d (I n_)),(6,.own (.box (zK m_))),(11,.own (eOs 1 true sZ []))] [Hh (.cut 2)] ?_ λJ1 au=>?_
 ·rintro out aa;unfold vG at aa;obtain c0|c0:=zt aa
  ·obtain rfl:=zZ c0.2;exact yF (H:=zx ((xRe prog 10 (.atom (.slice none 0 0)) (eNl 1 sZ ([]:TB)) (zgV 1)).or ((XM zn (.inl 76) [66]).or X0))) .ret [(0,.own (.box (xL 64 (xL 64 (eNl 1 sZ)) f_))),(10,.d (eNl 1 sZ ([]:TB)))] [Ha (lnM sZ out),c0,Hn (rfl:T.d (.atom (.slice none 0 0))=T.d (.atom (.slice none 0 0)))] λst0 h0=>hE _ st0 (.inr rfl) (Yc h0 ⟨⟨rfl,rfl⟩,trivial⟩) (zn9 h0 rfl rfl)
  obtain⟨r_,h0,aa⟩:=zl c0.2;obtain⟨g0,aa⟩:=gdE aa;obtain rfl:=zZ aa;exact yF (H:=zx ((xRe prog 10 (eSl 1 true sZ r_) (eNl 1 sZ r_) (λS v q=>(LeA.slNl 1 true sZ g0).repV q)).or ((XM zn (.inl 76) [66]).or X0))) .ret [(0,.own (.box (xL 64 (xL 64 (eNl 1 sZ)) f_))),(10,.d (eNl 1 sZ r_))] [Ha (lnM sZ out),c0,zg 21,Hm (shM sZ sZ out),Hs (zf1 21 h0 (loC F5_ out<|loN)),Hm (shM sZ sZ out),Hn (rfl:T.d (eSl 1 true sZ r_)=T.d (eSl 1 true sZ r_))] λst0 h0=>hE _ st0 (.inr rfl) (Yc h0 ⟨⟨rfl,rfl⟩,trivial⟩) (zn9 h0 rfl rfl)
 obtain⟨al,h1,t2,ht2,aa⟩:=zV aa;refine yL (H:=zx ((XM zn (.inl 76) [66]).or X0)) 11011210 [J1] (λs=>wj m_ t_ n_ f_ al s) (λx=>UL m_ t_ n_ f_ al x) 0 ht2  [Hi y6 h1,Ha (lnM F9_ al)] λig m2 aw ae hl1 J2 ax=>?_;try unfold wj at ae;obtain c1|c1:=zt ae
 ·refine yJ (H:=zx ((XM zn (.inl 76) [66]).or X0)) 11011210011 [J1,J2] [0,3,4,6,11,19,20,21] (λz:Unit=>xG ig=some aw) (λz=>UM m_ t_ n_ f_ al ig) [(0,.own (.box (xL 64 (xL 64 (eNl 1 sZ)) f_))),(3,.d (I t_)),(4,.d (I n_)),(6,.own (.box (zK m_))),(11,.own (eOs 1 true sZ [])),(19,.d (eSl 2 false F9_ al)),(20,.d (I (al.length:Int))),(21,.d (I ig))] [c1,Hh (.cut 0)] ?_ λJ3 bk=>?_
  ·rintro⟨⟩ ae;unfold xG at ae;obtain rfl:=zZ ae;exact yB (H:=zx ((XM zn (.inl 76) [66]).or X0)) ax _ hl1 []
  obtain⟨ak,h2,dp,h3,ar,h4,ae⟩:=ZK c1.2;let Z0:List HO:=[Hi F9_ h2,Hi y6 h3,Hi F9_ h4];obtain c2|c2:=zt ae
  ·obtain rfl:=zZ c2.2;obtain rfl:=hl1;exact yBx (H:=zx ((XM zn (.inl 76) [66]).or X0)) au [ig] aa [(0,.own (.box (xL 64 (xL 64 (eNl 1 sZ)) f_))),(4,.d (I n_)),(11,.own (eOs 1 true sZ ([ig])))] inferInstance (Z0++[c2])
  obtain c3|c3:=zt c2.2
  ·let Z1:List HO:=(Z0++(Hb c2::(rpN 4 (Hb c3) [])));obtain c4|c4:=zt c3.2
   ·obtain⟨cell,h5,ca,h6,ae⟩:=zV c4.2;let Z2:List HO:=(Z1++(rpN 7 (Hb c4) (Hn (⟨Jm κ f_ (i0 h5),(iL (xL 64 (eNl 1 sZ)) h5).2⟩:YR uQ 238 ((f_.l).map (xL 64 (eNl 1 sZ))) ak.o=true/\ak.o.toNat<((f_.l).map (xL 64 (eNl 1 sZ))).length)::Hb c4::Hh (.f)::Hs (iM (xL 64 (eNl 1 sZ)) h5)::Hn (⟨Jm κ cell (i0 h6),(iL (eNl 1 sZ) h6).2⟩:YR uQ 223 ((cell.l).map (eNl 1 sZ)) ar.o=true/\ar.o.toNat<((cell.l).map (eNl 1 sZ)).length)::Hb c4::Hh (.f)::Hs (iM (xL 64 (eNl 1 sZ)) h5)::Hh (.f)::Hs (iM (eNl 1 sZ) h6)::Hn (rfl:T.d (eNl 1 sZ ca)=T.d (eNl 1 sZ ca))::Hb c4::Ha (lnM sZ ca)::(rpN 4 (Hb c4) []))));obtain c5|c5:=zt ae
    ·obtain⟨jf,h7,jp,h8,ai,h9,ae⟩:=ZK c5.2;obtain rfl:=zZ ae;obtain rfl:=hl1;exact yB (H:=zx ((xLs zn 75 (eNl 1 sZ jp) (eSl 1 false sZ jp) inferInstance).or ((xBl zn 66).or ((xLs zn 59 (eNl 1 sZ ca) (eSl 1 false sZ ca) inferInstance).or ((XM zn (.inl 76) [66]).or X0))))) au ai aa (Z2++[c5,Hn (⟨Jm κ f_ (i0 h7),(iL (xL 64 (eNl 1 sZ)) h7).2⟩:YR uQ 238 ((f_.l).map (xL 64 (eNl 1 sZ))) ak.o=true/\ak.o.toNat<((f_.l).map (xL 64 (eNl 1 sZ))).length),Hh (.op 9),Hh (.f),Hs (iM (xL 64 (eNl 1 sZ)) h7),Hn (⟨Jm κ jf (i0 h8),(iL (eNl 1 sZ) h8).2⟩:YR uQ 223 ((jf.l).map (eNl 1 sZ)) ar.o=true/\ar.o.toNat<((jf.l).map (eNl 1 sZ)).length),Hh (.op 0),Hh (.f),Hs (iM (xL 64 (eNl 1 sZ)) h7),Hh (.f),Hs (iM (eNl 1 sZ) h8),Hn (rfl:T.d (eNl 1 sZ jp)=T.d (eNl 1 sZ jp)),Hm (shM sZ sZ ([ig])),zg 0,Hm (shM F5_ F5_ ([[ig],jp])),Hs (zf1 0 h9 (loC z4T [[ig],jp]<|loN)),Hm (shM F5_ F5_ ([[ig],jp]))])
    exact yB (H:=zx ((xLs zn 59 (eNl 1 sZ ca) (eSl 1 false sZ ca) inferInstance).or ((XM zn (.inl 76) [66]).or X0))) bk () c5.2 (Z2++[c5])
   exact yB (H:=zx ((XM zn (.inl 76) [66]).or X0)) bk () c4.2 (Z1++(rpN 14 (Hb c4) [qF]))
  exact yB (H:=zx ((XM zn (.inl 76) [66]).or X0)) bk () c3.2 (Z0++(Hb c2::(rpN 4 (Hb c3) (rpN 15 qF []))))
 obtain rfl:=zZ c1.2;obtain rfl:=hl1;exact yBx (H:=zx ((XM zn (.inl 76) [66]).or X0)) au ([]:TB) aa [(0,.own (.box (xL 64 (xL 64 (eNl 1 sZ)) f_))),(4,.d (I n_)),(11,.own (eOs 1 true sZ []))] inferInstance [c1]
def KO [H:HS X0 l73](ct:Value):∀(s_:Int) (t_:Int) (w_:TB) (f_:ArN 64 (ArN 64 TB)) (r0:ArN 64 (ArN 64 TB)),uu s_ t_ w_ f_=some r0->xS prog (.fn 171 []) [.atom ct,I s_,I t_,eNl 1 sZ w_] ([ct].zip [.box (xL 64 (xL 64 (eNl 1 sZ)) f_)]) (.tup []) [.box (xL 64 (xL 64 (eNl 1 sZ)) r0)]:=by intro s_ t_ w_ f_ r0 aa;refine z5R (tt:=uQ) (nt:=f171.ntmps) (body:=zbd f171) [0] zn func171 rfl κ rfl rfl (by show(4:Nat)<=22;decide) θ rfl rfl (λE hE=>?_) rfl;unfold uu at aa;refine zjF 0 (v:=ct) ⟨_,rfl⟩ κ λb0 hb0=>?_;subst hb0;obtain⟨cell,h0,ca,h1,arr,h2,aa⟩:=ZK aa;replace h2:=zZ h2;obtain⟨arr1,h3,aa⟩:=zl aa;replace h3:=zZ h3;obtain⟨jf,h4,jp,h5,arr2,h6,aa⟩:=ZK aa;replace h6:=zZ h6;obtain⟨pr,h7,aa⟩:=zl aa;replace h7:=zZ h7;obtain rfl:=zZ aa;exact yF (H:=zx ((xIr zn 21 0 t_.toNat b0).or ((xRi zn 20 64 64 b0).or ((xNr prog 19 b0).or ((xMv prog 11 0 (z5D b0) rfl).or X0))))) .normal [(0,.own (.box (xL 64 (xL 64 (eNl 1 sZ)) pr)))] [Hn (rfl:some (z5D b0)=some (z5D b0)),Hn (⟨Jm κ f_ (i0 h0),(iL (xL 64 (eNl 1 sZ)) h0).2⟩:YR uQ 238 ((f_.l).map (xL 64 (eNl 1 sZ))) s_=true/\s_.toNat<((f_.l).map (xL 64 (eNl 1 sZ))).length),Hh (.op 10),Hh (.f),Hs (iM (xL 64 (eNl 1 sZ)) h0),Hn (⟨Jm κ cell (i0 h1),(iL (eNl 1 sZ) h1).2⟩:YR uQ 223 ((cell.l).map (eNl 1 sZ)) t_=true/\t_.toNat<((cell.l).map (eNl 1 sZ)).length),Hh (.op 0),Hh (.f),Hs (iM (xL 64 (eNl 1 sZ)) h0),Hh (.f),Hs (iM (eNl 1 sZ) h1),Hh (.f),Hs (iM (xL 64 (eNl 1 sZ)) h0),Hh (.f),Hs (iM (eNl 1 sZ) h1),Hx (.l ((arr.l).map (eNl 1 sZ))) ((ArN.setL (eNl 1 sZ) cell t_ w_).trans (congrArg (λq=>(ArN.l q).map (eNl 1 sZ)) h2)),Hx (.l ((arr1.l).map (xL 64 (eNl 1 sZ)))) ((ArN.setL (xL 64 (eNl 1 sZ)) f_ s_ arr).trans (congrArg (λq=>(ArN.l q).map (xL 64 (eNl 1 sZ))) h3)),Hn (rfl:T.d (.atom (z5D b0))=T.d (.atom (z5D b0))),Hn (⟨rfl,i0 h4,zhl (x:=arr1) h4⟩:T.d (.atom (z5D b0))=T.d (.atom (z5D b0))/\0<=t_/\t_.toNat<64),Hn (⟨⟨congrArg (λk=>T.d (.atom (.pointer (some ⟨b0,k,none⟩)))) (zjH (f:=(xL 64 (eNl 1 sZ))) arr1 h4).symm,(iL (xL 64 (eNl 1 sZ)) h4).2⟩,rfl⟩:(T.d (.atom (.pointer (some ⟨b0,t_.toNat*64,none⟩)))=T.d (.atom (.pointer (some ⟨b0,A.sizes (((arr1.l).map (xL 64 (eNl 1 sZ))).take t_.toNat),none⟩)))/\t_.toNat<((arr1.l).map (xL 64 (eNl 1 sZ))).length)/\some (z5D b0)=some (z5D b0)),Hh (.op 2),Hh (.f),Hs (iM (xL 64 (eNl 1 sZ)) h4),Hn (⟨Jm κ jf (i0 h5),(iL (eNl 1 sZ) h5).2⟩:YR uQ 223 ((jf.l).map (eNl 1 sZ)) s_=true/\s_.toNat<((jf.l).map (eNl 1 sZ)).length),Hh (.op 0),Hh (.f),Hs (iM (xL 64 (eNl 1 sZ)) h4),Hh (.f),Hs (iM (eNl 1 sZ) h5),Hh (.f),Hs (iM (xL 64 (eNl 1 sZ)) h4),Hh (.f),Hs (iM (eNl 1 sZ) h5),Hx (.l ((arr2.l).map (eNl 1 sZ))) ((ArN.setL (eNl 1 sZ) jf s_ w_).trans (congrArg (λq=>(ArN.l q).map (eNl 1 sZ)) h6)),Hx (.l ((pr.l).map (xL 64 (eNl 1 sZ)))) ((ArN.setL (xL 64 (eNl 1 sZ)) arr1 t_ arr2).trans (congrArg (λq=>(ArN.l q).map (xL 64 (eNl 1 sZ))) h7))] λst0 h0=>hE _ st0 (.inl rfl) (Yc h0 ⟨⟨rfl,rfl⟩,trivial⟩)
def l74:=Y6 163 zK (eBx (xL 64 (xL 64 (eNl 1 sZ)))) ut::l73
abbrev Qo (f_:ArN 64 (ArN 64 TB)):List (Nat×T):=[(3,.own (.box (.box (xL 64 (xL 64 (eNl 1 sZ)) f_))))]
abbrev Qn (m_:z6)(n_:Int)(py:ArN 64 (ArN 64 TB)):List (Nat×T):=[(1,.own (.box (zK m_))),(3,.own (.box (.box (xL 64 (xL 64 (eNl 1 sZ)) py)))),(4,.own (.box (I n_)))]
abbrev Qj (m_:z6)(n_:Int)(now:List zS)(nk:ArN 64 (ArN 64 TB))(o9:Int):List (Nat×T):=[(1,.own (.box (zK m_))),(3,.own (.box (.box (xL 64 (xL 64 (eNl 1 sZ)) nk)))),(4,.own (.box (I n_))),(48,.d (eSl 4 false (zM sZ sZ (eNl 1 sZ) eB) now)),(49,.d (I (now.length:Int))),(50,.d (I o9))]
abbrev Qm (m_:z6)(n_:Int)(pz:ArN 64 (ArN 64 TB))(now:List zS):List (Nat×T):=[(1,.own (.box (zK m_))),(3,.own (.box (.box (xL 64 (xL 64 (eNl 1 sZ)) pz)))),(4,.own (.box (I n_))),(5,.own (.box (eOs 4 false (zM sZ sZ (eNl 1 sZ) eB) now)))]
abbrev wV (m_:z6)(n_:Int)(ai:z6)(jj:ArN 64 (ArN 64 TB))(ir:List zS):List (Nat×T):=[(1,.own (.box (zK m_))),(3,.own (.box (.box (xL 64 (xL 64 (eNl 1 sZ)) jj)))),(4,.own (.box (I n_))),(5,.own (.box (eOs 4 false (zM sZ sZ (eNl 1 sZ) eB) ir))),(22,.d (.fn 172 [.sptr (.agg [I ai.j,I ai.m,eSl 1 false y6 ai.i])]))]
abbrev Qk (m_:z6)(ng:ArN 64 (ArN 64 TB))(n_:Int):List (Nat×T):=[(1,.own (.box (zK m_))),(3,.own (.box (.box (xL 64 (xL 64 (eNl 1 sZ)) ng)))),(4,.own (.box (I n_)))]
def KN [H:HS X0 l73]:OkH l74:=by
 refine zO1 λm_ r0 aa=>?_;try unfold ut at aa;refine zaa (tt:=uQ) (rs:=[(true,2,none)]) (n:=⟨f163.ntmps,[]⟩) (body:=zbd f163) zn func163 rfl κ rfl rfl (by show(1:Nat)<=65;decide) λE hE=>?_
 refine yJ 111 [] [3] (λz:ArN 64 (ArN 64 TB)=>uh z=some r0) (λz=>Qo z) [(1,.own (.box (zK m_))),(3,.own (.box (.box (xL 64 (xL 64 (eNl 1 sZ)) (ArN.rep 64 (ArN.rep 64 ([]:TB)))))))] [Hh (.cut 2)] ?_ λJ1 au=>?_
 ·rintro f_ aa;unfold uh at aa;obtain rfl:=zZ aa;let ZE:List HO:=[];exact zdm X0 zn H.ok z9z hE 4000 (hs:=hoH ZE) (x:=(.box (xL 64 (xL 64 (eNl 1 sZ)) f_))) (hoB ZE) κ (LeV.refl _)
 obtain⟨t2,ht2,aa⟩:=zl aa;refine yL 111210 [J1] (λs=>ue m_ s.1 s.2) (λx=>Qk m_ x.1 x.2) ((ArN.rep 64 (ArN.rep 64 ([]:TB))),1) ht2  [] λ⟨ng,n_⟩ m2 aw ae hl1 J2 ax=>?_;try unfold ue at ae
 let Z0:List HO:=[Ha (lnM y6 m_.i)];obtain c0|c0:=zt ae
 ·refine yJ 11121001 [J1,J2] [1,3,4] (λz:ArN 64 (ArN 64 TB)=>ug n_ z=some aw) (λz=>Qn m_ n_ z) [(1,.own (.box (zK m_))),(3,.own (.box (.box (xL 64 (xL 64 (eNl 1 sZ)) ng)))),(4,.own (.box (I n_)))] (Z0++[c0,Hh (.cut 0)]) ?_ λJ3 bk=>?_
  ·rintro py ae;unfold ug at ae;obtain rfl:=zZ ae;exact yB ax _ hl1 []
  refine yJ 11121001201 [J1,J2,J3] [1,3,4,5] (λz:ArN 64 (ArN 64 TB)×List zS=>uf n_ z.1 z.2=some aw) (λz=>Qm m_ n_ z.1 z.2) [(1,.own (.box (zK m_))),(3,.own (.box (.box (xL 64 (xL 64 (eNl 1 sZ)) ng)))),(4,.own (.box (I n_))),(5,.own (.box (eOs 4 true (zM sZ sZ F5_ eB) [])))] [Hh (.cut 1)] ?_ λJ4 cx=>?_
  ·rintro⟨pz,now⟩ ae;unfold uf at ae;obtain⟨t5,ht5,ae⟩:=zl ae;refine yL 11121001201110 [J1,J2,J3] (λs=>wM now s.1 s.2) (λx=>Qj m_ n_ now x.1 x.2) (pz,0) ht5  [Hh (.v 0 [5]),Hm (shM (zM sZ sZ (eNl 1 sZ) eB) (zM sZ sZ (eNl 1 sZ) eB) now),Hh (.v 1 [5]),Ha (lnM (zM sZ sZ (eNl 1 sZ) eB) now)] λ⟨nk,o9⟩ m5 dc ah hl2 J5 dh=>?_;try unfold wM at ah;obtain c1|c1:=zt ah
   ·obtain⟨gl,h0,r_,h1,ah⟩:=zV c1.2;obtain rfl:=zZ ah;exact yB (H:=zx ((zba (P:=prog) uQ 3 0 (fa:=.fn 171 []) (z:=.box (xL 64 (xL 64 (eNl 1 sZ)) nk)) (z':=.box (xL 64 (xL 64 (eNl 1 sZ)) r_)) (r:=.tup []) (xl:=[]) (xr:=[sZ gl.S,sZ gl.T,(eNl 1 sZ) gl.Word]) rfl rfl (λv=>KO (H:=zd 0) v _ _ _ _ _ h1) 61).or X0)) dh _ hl2 [c1,Hi (zM sZ sZ (eNl 1 sZ) eB) h0,Hn (⟨rfl,leP (show Jr [] [] from inferInstance),leP (show Jr [sZ gl.S,sZ gl.T,(eNl 1 sZ) gl.Word] [sZ gl.S,sZ gl.T,(eNl 1 sZ) gl.Word] from inferInstance),rfl,rfl⟩:([.fn 171 []]:List A)=[.fn 171 []]/\LeP [] []/\LeP [sZ gl.S,sZ gl.T,(eNl 1 sZ) gl.Word] [sZ gl.S,sZ gl.T,(eNl 1 sZ) gl.Word]/\T.als 3 [.deref] 0 0=T.als 3 [.deref] 0 0/\T.own (.box (.box (xL 64 (xL 64 (eNl 1 sZ)) nk)))=T.own (.box (.box (xL 64 (xL 64 (eNl 1 sZ)) nk))))]
   obtain rfl:=zZ c1.2;obtain rfl:=hl2;exact yB bk nk ae [c1]
  obtain⟨ai,h2,t6,kz,ae⟩:=zV c0.2;refine yAt (sub [1,1,2,1,0,0,1,2,0,1,2,1,0] (zbd f163)) (frs [1,1,2,1,0,0,1,2,0,1,2,1,0] [J1,J2,J3,J4] (zbd f163) []) [(1,.own (.box (zK m_))),(3,.own (.box (.box (xL 64 (xL 64 (eNl 1 sZ)) ng)))),(4,.own (.box (I n_))),(5,.own (.box (eOs 4 true (zM sZ sZ (eNl 1 sZ) eB) []))),(22,.d (.fn 172 [.sptr (.agg [I ai.j,I ai.m,eSl 1 false y6 ai.i])]))] [zC1 1 h2] λst0 h0=>?_;refine z1m (g:=.tmp 22) (ps:=[23,24]) (assign:=(sub [1,1,2,1,0,0,1,2,0,1,2,1,0,0] (zbd f163))) (body:=(sub [1,1,2,1,0,0,1,2,0,1,2,1,0,1] (zbd f163))) (K:=172) (caps:=[.sptr (.agg [I ai.j,I ai.m,eSl 1 false y6 ai.i])]) κ [1,3,4,5,22] (λs=>wV m_ n_ ai s.1 s.2) (λz=>nomatch z) (λz=>nomatch z) ((λ(x:Int×Int) (_:Bool) (_:Value)=>[sZ x.1,sZ x.2])) (F:=@uB ai) (λs x=>xe m_ n_ s.1 s.2 x.1 x.2) (ng,([]:List zS)) t6 _ h0 inferInstance κ θ (λ_=>rfl) (by rintro⟨⟩) κ (λ_ _ _=>rfl) (z1R (H:=zd 1) ai) kz ?_ ?_
  ·rintro su ⟨jj,ir⟩ ⟨j8,fe⟩ vr dc ah;replace ah:xe m_ n_ jj ir j8 fe=some dc:=ah;unfold xe at ah;refine yF .normal [(1,.own (.box (zK m_))),(3,.own (.box (.box (xL 64 (xL 64 (eNl 1 sZ)) jj)))),(4,.own (.box (I n_))),(5,.own (.box (eOs 4 false (zM sZ sZ (eNl 1 sZ) eB) ir))),(6,.d (I j8)),(7,.d (I fe)),(22,.d (.fn 172 [.sptr (.agg [I ai.j,I ai.m,eSl 1 false y6 ai.i])]))] [] λst0 h0=>⟨rfl,z4e h0 ?_⟩;obtain⟨cell,h3,ca,h4,ah⟩:=zV ah;let Z1:List HO:=[Hn (⟨Jm κ jj (i0 h3),(iL (xL 64 (eNl 1 sZ)) h3).2⟩:YR uQ 238 ((jj.l).map (xL 64 (eNl 1 sZ))) j8=true/\j8.toNat<((jj.l).map (xL 64 (eNl 1 sZ))).length),Hh (.op 5),Hh (.f),Hs (iM (xL 64 (eNl 1 sZ)) h3),Hn (⟨Jm κ cell (i0 h4),(iL (eNl 1 sZ) h4).2⟩:YR uQ 223 ((cell.l).map (eNl 1 sZ)) fe=true/\fe.toNat<((cell.l).map (eNl 1 sZ)).length),Hh (.op 0),Hh (.f),Hs (iM (xL 64 (eNl 1 sZ)) h3),Hh (.f),Hs (iM (eNl 1 sZ) h4),Hn (⟨rfl,rfl⟩:T.d (eNl 1 sZ ca)=T.d (eNl 1 sZ ca)/\T.d (.atom (.slice none 0 0))=T.d (.atom (.slice none 0 0)))];obtain c2|c2:=zt ah
   ·obtain rfl:=zZ c2.2;exact yF (H:=zx ((zkg zn 32 57 1 (ca.map sZ) true (!ca.isEmpty) κ (nlB true sZ ca)).or X0)) .normal (wV m_ n_ ai jj ir) (Z1++[c2]) λst0 h0=>⟨rfl,_,h0,LeL.refl _⟩
   obtain⟨am,h5,ah⟩:=zl c2.2;let Z2:List HO:=(Z1++[c2,Hn (⟨rfl,leP (show Jr [] [] from inferInstance),leP (show Jr [zK m_,sZ j8,sZ fe,sZ n_] [zK m_,sZ j8,sZ fe,sZ n_] from inferInstance),rfl,rfl⟩:([.fn 170 []]:List A)=[.fn 170 []]/\LeP [] []/\LeP [zK m_,sZ j8,sZ fe,sZ n_] [zK m_,sZ j8,sZ fe,sZ n_]/\T.als 3 [.deref] 0 0=T.als 3 [.deref] 0 0/\T.own (.box (.box (xL 64 (xL 64 (eNl 1 sZ)) jj)))=T.own (.box (.box (xL 64 (xL 64 (eNl 1 sZ)) jj)))),Hn (⟨rfl,rfl⟩:T.d (eNl 1 sZ am.1)=T.d (eNl 1 sZ am.1)/\T.d (.atom (.slice none 0 0))=T.d (.atom (.slice none 0 0)))]);obtain c3|c3:=zt ah
   ·obtain⟨g0,ah⟩:=gdE c3.2;obtain rfl:=zZ ah;exact yF (H:=zx ((zkg zn 40 57 1 (am.1.map sZ) true (!am.1.isEmpty) κ (nlB true sZ am.1)).or ((zba (P:=prog) uQ 3 0 (fa:=.fn 170 []) (z:=.box (xL 64 (xL 64 (eNl 1 sZ)) jj)) (z':=.box (xL 64 (xL 64 (eNl 1 sZ)) am.2)) (r:=eNl 1 sZ am.1) (xl:=[]) (xr:=[zK m_,sZ j8,sZ fe,sZ n_]) rfl rfl (λv=>XN (H:=zd 0) v _ _ _ _ _ _ h5) 38).or ((zkg zn 32 57 1 (ca.map sZ) true (!ca.isEmpty) κ (nlB true sZ ca)).or X0)))) .normal (wV m_ n_ ai am.2 (ir++[(zS.mk j8 fe am.1 false)])) (Z2++[c3,Hq (dM (zM sZ sZ (eNl 1 sZ) eB) [(zS.mk j8 fe am.1 false)]),Hn (dM (zM sZ sZ (eNl 1 sZ) eB) [(zS.mk j8 fe am.1 false)]),Hn (aL (zM sZ sZ (eNl 1 sZ) eB) (zM sZ sZ (eNl 1 sZ) eB) g0),Hl (aM (zM sZ sZ (eNl 1 sZ) eB) ir [(zS.mk j8 fe am.1 false)])]) λst0 h0=>⟨rfl,_,h0,LeL.refl _⟩
   obtain rfl:=zZ c3.2;exact yF (H:=zx ((zkg zn 40 57 1 (am.1.map sZ) true (!am.1.isEmpty) κ (nlB true sZ am.1)).or ((zba (P:=prog) uQ 3 0 (fa:=.fn 170 []) (z:=.box (xL 64 (xL 64 (eNl 1 sZ)) jj)) (z':=.box (xL 64 (xL 64 (eNl 1 sZ)) am.2)) (r:=eNl 1 sZ am.1) (xl:=[]) (xr:=[zK m_,sZ j8,sZ fe,sZ n_]) rfl rfl (λv=>XN (H:=zd 0) v _ _ _ _ _ _ h5) 38).or ((zkg zn 32 57 1 (ca.map sZ) true (!ca.isEmpty) κ (nlB true sZ ca)).or X0)))) .normal (wV m_ n_ ai am.2 ir) (Z2++[c3]) λst0 h0=>⟨rfl,_,h0,LeL.refl _⟩
  rcases t6 with⟨jj,ir⟩|z
  ·dsimp only at ae;exact YQ κ (cx _ [(1,.own (.box (zK m_))),(3,.own (.box (.box (xL 64 (xL 64 (eNl 1 sZ)) jj)))),(4,.own (.box (I n_))),(5,.own (.box (eOs 4 false (zM sZ sZ (eNl 1 sZ) eB) ir)))] (jj,ir) ae (show Own.canon [1,3,4,5] _=ofL _ by kernel_rfl) inferInstance)
  cases z
 obtain rfl:=zZ c0.2;obtain rfl:=hl1;exact yB au ng aa (Z0++[c0])
def l75:=z0Q 146 zK sZ sZ (eT3 F3_ eB sZ) uW::l74
def z0U [H:HS X0 l74]:OkH l75:=yS3 false func146 λm_ s_ t_ r0 aa E hE=>by
 let u0:=(xL 64 (eNl 1 sZ));obtain⟨r_,h0,aa⟩:=zl aa;let Z0:List HO:=[zg 3,Hm (shM sZ sZ ([s_,t_])),Hs (zf2 3 h0 (loC zK m_<|loC F3_ [s_,t_]<|loN))];obtain c0|c0:=zt aa
 ·cases c0.2;exact yE hE (Z0++[c0,Hm (shM sZ sZ [])])
 obtain⟨ai,h1,cell,h2,ca,h3,am,h4,az,h5,aa⟩:=zb0 c0.2;cases aa;exact yE (H:=zx ((xLs zn 26 (eNl 1 sZ ca) (eSl 1 false sZ ca) inferInstance).or X0)) hE (Z0++[c0,zC1 0 h1,Hn (⟨Jm κ ai (i0 h2),(iL u0 h2).2⟩:YR uQ 238 ((ai.l).map u0) s_=true/\s_.toNat<((ai.l).map u0).length),Hh (.op 4),Hh (.f),Hs (iM u0 h2),Hn (⟨Jm κ cell (i0 h3),(iL (eNl 1 sZ) h3).2⟩:YR uQ 223 ((cell.l).map (eNl 1 sZ)) t_=true/\t_.toNat<((cell.l).map (eNl 1 sZ)).length),Hh (.op 0),Hh (.f),Hs (iM u0 h2),Hh (.f),Hs (iM (eNl 1 sZ) h3),Hn (rfl:T.d (eNl 1 sZ ca)=T.d (eNl 1 sZ ca)),zC1 23 h4,zg 22,Hm (shM sZ sZ am),Hs (zf1 22 h5 (loC F5_ am<|loN)),Hm (shM sZ sZ am),Ha (lnM sZ az)])
def l76:=jV 119 zK (zk4 120) (eT2 Ju sZ) V1::l75
abbrev z0M (m_:z6)(x5:Int)(out:TA):List (Nat×T):=[(2,.own (.box (zK m_))),(4,.own (.box (eOs 1 true F5_ []))),(5,.own (.box (I x5))),(6,.own (.box (eOs 1 false F3_ out)))]
abbrev vw (m_:z6)(ai:Int)(fg:Int)(aj:TA):List (Nat×T):=[(2,.own (.box (zK m_))),(3,.own (.box (.fn 120 []))),(4,.own (.box (eOs 1 true F5_ []))),(5,.own (.box (I fg))),(6,.own (.box (eOs 1 false F3_ aj))),(15,.d (.fn 161 [.sptr (I ai)]))]
def z42 [H:HS X0 l75]:OkH l76:=yS2 false func119 λm_ is r0 aa E hE=>by
 refine yJ 111 [] [2,4,5,6] (λz:Int×TA=>ZB m_ z.1 z.2=some r0) (λz=>z0M m_ z.1 z.2) [(2,.own (.box (zK m_))),(3,.own (.box (.fn 120 []))),(4,.own (.box (eOs 1 true F5_ []))),(5,.own (.box (I 0))),(6,.own (.box (eOs 1 true F5_ [])))] [Hh (.cut 2)] ?_ λJ1 au=>?_
 ·rintro⟨x5,out⟩ aa;unfold ZB at aa;obtain⟨r_,h0,aa⟩:=zl aa;obtain rfl:=zZ aa;exact yE hE [zg 16,Hm (shM F3_ F3_ out),Hs (zf2 16 h0 (loC (eSl 1 false F3_) out<|loC sZ m_.j<|loN)),Hm (shM F3_ F3_ out)]
 obtain⟨ai,h1,t2,ht2,aa⟩:=zV aa;refine yAt (sub [1,1,2,1,0] (zbd f119)) (frs [1,1,2,1,0] [J1] (zbd f119) []) [(2,.own (.box (zK m_))),(3,.own (.box (.fn 120 []))),(4,.own (.box (eOs 1 true F5_ []))),(5,.own (.box (I 0))),(6,.own (.box (eOs 1 true F3_ []))),(15,.d (.fn 161 [.sptr (I ai)]))] [Ha (lnM y6 m_.i),zC1 7 h1] λst0 h0=>?_;refine z1m (g:=.tmp 15) (ps:=[16,17]) (assign:=(sub [1,1,2,1,0,0] (zbd f119))) (body:=(sub [1,1,2,1,0,1] (zbd f119))) (K:=161) (caps:=[.sptr (I ai)]) κ [2,3,4,5,6,15] (λs=>vw m_ ai s.1 s.2) (λs=>vw m_ ai s.1 s.2) (λs=>Code.ret) ((λ(x:Int×Int) (_:Bool) (_:Value)=>[sZ x.1,sZ x.2])) (F:=@vD ai) (λs x=>vS m_ s.1 s.2 x.1 x.2) (0,([]:TA)) t2 _ h0 inferInstance κ θ (λ_=>rfl) (λ_=>rfl) κ (λ_ _ _=>rfl) (UO (H:=zd 7) ai) ht2 ?_ ?_
 ·rintro qu ⟨fg,aj⟩ ⟨ep,ba⟩ vr aw ae;replace ae:vS m_ fg aj ep ba=some aw:=ae;unfold vS at ae;refine yF .normal [(2,.own (.box (zK m_))),(3,.own (.box (.fn 120 []))),(4,.own (.box (eOs 1 true F5_ []))),(5,.own (.box (I fg))),(6,.own (.box (eOs 1 false F3_ aj))),(7,.d (I ep)),(8,.d (I ba)),(15,.d (.fn 161 [.sptr (I ai)]))] [] λst0 h0=>⟨rfl,z4e h0 ?_⟩;obtain⟨am,h2,ae⟩:=zl ae;let Z0:List HO:=[zC2 6 h2];obtain c0|c0:=zt ae
  ·obtain rfl:=zZ c0.2;exact yF .normal (vw m_ ai fg aj) (Z0++[c0]) λst0 h0=>⟨rfl,_,h0,LeL.refl _⟩
  obtain⟨az,h3,ae⟩:=zl c0.2;let Z1:List HO:=(Z0++[c0,zC3 0 h3]);obtain c1|c1:=zt ae
  ·obtain rfl:=zZ c1.2;exact yF .ret (vw m_ ai az.2.2 aj) (Z1++[c1]) λst0 h0=>⟨rfl,_,h0,LeL.refl _⟩
  obtain⟨g0,ae⟩:=gdE c1.2;obtain rfl:=zZ ae;exact yF .normal (vw m_ ai fg (aj++[az.1])) (Z1++[c1,Hq (dM F3_ [az.1]),Hn (dM F3_ [az.1]),Hn (aL F3_ F3_ g0),Hl (aM F3_ aj [az.1])]) λst0 h0=>⟨rfl,_,h0,LeL.refl _⟩
 rcases t2 with⟨fg,aj⟩|z
 ·dsimp only at aa;exact YQ κ (au _ [(2,.own (.box (zK m_))),(4,.own (.box (eOs 1 true F5_ []))),(5,.own (.box (I fg))),(6,.own (.box (eOs 1 false F3_ aj)))] (fg,aj) aa (show Own.canon [2,4,5,6] _=ofL _ by kernel_rfl) inferInstance)
 obtain⟨fg,aj⟩:=z;dsimp only at aa;show AWP _ _ (Code.ret) _ _;obtain rfl:=zZ aa;exact yE hE [Hm (shM F5_ F5_ [])]
def l77:=Y6 89 zK (eT2 Ju sZ) JP::l76
def z6u [H:HS X0 l76]:OkH l77:=yS1 false func89 λm_ r0 aa E hE=>by
 obtain⟨r_,h0,aa⟩:=zl aa;let Z0:List HO:=[zC1 51 h0];obtain c0|c0:=zt aa
 ·cases c0.2;exact yE hE (Z0++[c0,Hm (shM F5_ F5_ [])])
 obtain⟨ai,h1,aa⟩:=zl c0.2;cases aa;exact yE hE (Z0++[c0,zC2 0 h1])
def l78:=jV 91 sZ sZ (eT2 Ju sZ) Ua::l77
def z59 [H:HS X0 l77]:OkH l78:=yS2 false func91 λinputs k_ r0 aa E hE=>by obtain⟨r_,h0,aa⟩:=zl aa;cases aa;exact yE hE [zC3 16 h0]
def l79:=Y6 92 xq xq XV::l78
def z5b [H:HS X0 l78]:OkH l79:=yS1 false func92 λl_ r0 aa E hE=>by
 let Z0:List HO:=[Ha (lnM F5_ l_)];obtain c0|c0:=zt aa
 ·cases c0.2;exact yEl hE (Z0++[c0,Hm (shM F2_ F3_ ([[]]))])
 cases c0.2;exact yE hE (Z0++[Hb c0])
def l80:=z0Q 122 sZ sZ (eSp sZ) eB UA::l79
def z5j [H:HS X0 l79]:OkH l80:=yS3 true func122 λa_ b_ x2 r0 aa E hE=>by
 obtain c0|c0:=zt aa
 ·cases c0.2;exact yE hE (rpN 4 (Hb c0) [])
 cases c0.2;exact yE hE (rpN 4 (Hb c0) [])
def XX:y4:=spF (α:=z6×Int) (ρ:=TA×Int) 119 (λx=>[zK x.1,(z0T 122 (eSp sZ)) x.2]) (λr=>.tup [Ju r.1,sZ r.2]) (λx=>uA x.1 x.2) [] (by rintro⟨a0,a1⟩ ⟨b0,b1⟩ h;have e0:=uJ.inj (f:=zK) _ _ (List.cons.inj h).1;replace h:=(List.cons.inj h).2;have e1:=uJ.inj (f:=(z0T 122 (eSp sZ))) _ _ (List.cons.inj h).1;subst e0 e1;rfl)
abbrev Qu (m_:z6)(x5:Int)(out:TA):List (Nat×T):=[(2,.own (.box (zK m_))),(4,.own (.box (eOs 1 true F5_ []))),(5,.own (.box (I x5))),(6,.own (.box (eOs 1 false F3_ out)))]
abbrev xR (m_:z6)(is:Int)(ai:Int)(fg:Int)(aj:TA):List (Nat×T):=[(2,.own (.box (zK m_))),(3,.own (.box (.fn 122 [.sptr (I is)]))),(4,.own (.box (eOs 1 true F5_ []))),(5,.own (.box (I fg))),(6,.own (.box (eOs 1 false F3_ aj))),(15,.d (.fn 161 [.sptr (I ai)]))]
def KU [H:HS X0 l80]:XX.Ok prog:=by
 refine QF ?_;rintro⟨m_,is⟩ r0 aa;try unfold uA at aa;refine zY false func119 λE hE=>?_;refine yJ 111 [] [2,4,5,6] (λz:Int×TA=>uq m_ z.1 z.2=some r0) (λz=>Qu m_ z.1 z.2) [(2,.own (.box (zK m_))),(3,.own (.box (.fn 122 [.sptr (I is)]))),(4,.own (.box (eOs 1 true F5_ []))),(5,.own (.box (I 0))),(6,.own (.box (eOs 1 true F5_ [])))] [Hh (.cut 2)] ?_ λJ1 au=>?_
 ·rintro⟨x5,out⟩ aa;unfold uq at aa;obtain⟨r_,h0,aa⟩:=zl aa;obtain rfl:=zZ aa;exact yE hE [zg 21,Hm (shM F3_ F3_ out),Hs (zf2 21 h0 (loC (eSl 1 false F3_) out<|loC sZ m_.j<|loN)),Hm (shM F3_ F3_ out)]
 obtain⟨ai,h1,t2,ht2,aa⟩:=zV aa;refine yAt (sub [1,1,2,1,0] (zbd f119)) (frs [1,1,2,1,0] [J1] (zbd f119) []) [(2,.own (.box (zK m_))),(3,.own (.box (.fn 122 [.sptr (I is)]))),(4,.own (.box (eOs 1 true F5_ []))),(5,.own (.box (I 0))),(6,.own (.box (eOs 1 true F3_ []))),(15,.d (.fn 161 [.sptr (I ai)]))] [Ha (lnM y6 m_.i),zC1 12 h1] λst0 h0=>?_;refine z1m (g:=.tmp 15) (ps:=[16,17]) (assign:=(sub [1,1,2,1,0,0] (zbd f119))) (body:=(sub [1,1,2,1,0,1] (zbd f119))) (K:=161) (caps:=[.sptr (I ai)]) κ [2,3,4,5,6,15] (λs=>xR m_ is ai s.1 s.2) (λs=>xR m_ is ai s.1 s.2) (λs=>Code.ret) ((λ(x:Int×Int) (_:Bool) (_:Value)=>[sZ x.1,sZ x.2])) (F:=@vD ai) (λs x=>yx m_ is s.1 s.2 x.1 x.2) (0,([]:TA)) t2 _ h0 inferInstance κ θ (λ_=>rfl) (λ_=>rfl) κ (λ_ _ _=>rfl) (UO (H:=zd 12) ai) ht2 ?_ ?_
 ·rintro qu ⟨fg,aj⟩ ⟨ep,ba⟩ vr aw ae;replace ae:yx m_ is fg aj ep ba=some aw:=ae;unfold yx at ae;refine yF .normal [(2,.own (.box (zK m_))),(3,.own (.box (.fn 122 [.sptr (I is)]))),(4,.own (.box (eOs 1 true F5_ []))),(5,.own (.box (I fg))),(6,.own (.box (eOs 1 false F3_ aj))),(7,.d (I ep)),(8,.d (I ba)),(15,.d (.fn 161 [.sptr (I ai)]))] [] λst0 h0=>⟨rfl,z4e h0 ?_⟩;obtain⟨am,h2,ae⟩:=zl ae;let Z0:List HO:=[zC3 0 h2];obtain c0|c0:=zt ae
  ·obtain rfl:=zZ c0.2;exact yF .normal (xR m_ is ai fg aj) (Z0++[c0]) λst0 h0=>⟨rfl,_,h0,LeL.refl _⟩
  obtain⟨az,h3,ae⟩:=zl c0.2;let Z1:List HO:=(Z0++[c0,zC3 5 h3]);obtain c1|c1:=zt ae
  ·obtain rfl:=zZ c1.2;exact yF .ret (xR m_ is ai az.2.2 aj) (Z1++[c1]) λst0 h0=>⟨rfl,_,h0,LeL.refl _⟩
  obtain⟨g0,ae⟩:=gdE c1.2;obtain rfl:=zZ ae;exact yF .normal (xR m_ is ai fg (aj++[az.1])) (Z1++[c1,Hq (dM F3_ [az.1]),Hn (dM F3_ [az.1]),Hn (aL F3_ F3_ g0),Hl (aM F3_ aj [az.1])]) λst0 h0=>⟨rfl,_,h0,LeL.refl _⟩
 rcases t2 with⟨fg,aj⟩|z
 ·dsimp only at aa;exact YQ κ (au _ [(2,.own (.box (zK m_))),(4,.own (.box (eOs 1 true F5_ []))),(5,.own (.box (I fg))),(6,.own (.box (eOs 1 false F3_ aj)))] (fg,aj) aa (show Own.canon [2,4,5,6] _=ofL _ by kernel_rfl) inferInstance)
 obtain⟨fg,aj⟩:=z;dsimp only at aa;show AWP _ _ (Code.ret) _ _;obtain rfl:=zZ aa;exact yE hE [Hm (shM F5_ F5_ [])]
def l81:=jV 93 zK sZ (eT2 Ju sZ) z0q::l80
def z86 [H:HS X0 l80]:OkH l81:=yS2 false func93 λm_ s_ r0 aa E hE=>by
 obtain⟨r_,h0,aa⟩:=zl aa;let Z0:List HO:=[zC1 55 h0];obtain c0|c0:=zt aa
 ·cases c0.2;exact yE hE (Z0++[c0,Hm (shM F5_ F5_ [])])
 obtain c1|c1:=zt c0.2
 ·cases c1.2;exact yE hE (Z0++(Hb c0::(rpN 6 (Hb c1) [qT,Hm (shM F5_ F5_ [])])))
 let Z1:List HO:=(Z0++(Hb c0::(rpN 4 (Hb c1) [Ha (lnM y6 m_.i),c1,c1])));obtain c2|c2:=zt c1.2
 ·cases c2.2;exact yE hE (Z1++[c2,Hm (shM F5_ F5_ [])])
 obtain⟨ai,h1,aa⟩:=zl c2.2;cases aa;exact yE (H:=zx ((z4V zn (KU (H:=zd 0)) 23).or X0)) hE (Z1++[c2,Hc (Ctr.add_has z3F XX) (x:=(m_,s_)) h1 (loC zK m_<|loC (z0T 122 (eSp sZ)) s_<|loN)])
def l82:=jV 61 zK sZ (eT2 (ePo z4S) sZ) Yl::l81
def z1P [H:HS X0 l81]:OkH l82:=yS2 false func61 λm_ ZO r0 aa E hE=>by
 refine yC 111 [] [1,2,6] [Hh (.cut 2)] ?_;refine z3u (y:=.box (.agg [.agg [I m_.j,I m_.m,eSl 1 false y6 m_.i],eOs 1 true F5_ [],eOs 1 true F5_ [],eOs 1 true F5_ [],eOs 1 true xq [],eOs 1 true F5_ [],eOs 1 true F5_ []])) κ 6 κ κ λly hv6=>?_;obtain⟨r_,h0,ai,h1,am,h2,az,h3,cp,h4,aa⟩:=zb0 aa;refine yN 111111111 [] [2,6] (λz:Unit=>Y1 m_ r_ ai am az cp=some r0) (λz=>[]) [2,6,7] [zC1 21 h0,Hn (⟨rfl,θ⟩:true=true/\0<5),zC1 14 h1,Hn (⟨rfl,θ⟩:true=true/\1<5),zC1 4 h2,Hn (⟨rfl,θ⟩:true=true/\2<5),Ha (lnM y6 m_.i),zC2 19 h3,Hn (⟨rfl,θ⟩:true=true/\3<5),Ha (lnM y6 m_.i),zC2 3 h4,Hn (⟨rfl,θ⟩:true=true/\4<5),Hh (.cut 0)] ?_ λJ1 au=>?_
 ·rintro⟨⟩ aa;obtain⟨gh,h5,aa⟩:=zl aa;refine yK 11111111111 [] [6] (zI (Vw m_ r_ ai az cp gh) r0) (λz=>[(6,.own (.box (.agg [zK m_,eSl 1 true F3_ r_.1,eSl 1 true F3_ ai.1,eSl 1 false F5_ gh,eOs 1 false xq z,eSl 1 true F3_ az.1,eSl 1 true F3_ cp.1])))]) [2,6] [Hk [] (z0r (hat 2)) (zf1 2 h5 (loC Ju am.1 <| loN)),Hh (.cut 0)] ?_ λJ2 ax=>?_
  ·rintro ku aa;cases aa;exact yEx hE [Hm (shM xq xq ku)] (.tup [.sptr (.agg [.agg [I m_.j,I m_.m,eSl 1 false y6 m_.i],eSl 1 true F3_ r_.1,eSl 1 true F3_ ai.1,eSl 1 false F5_ gh,eSl 1 false xq ku,eSl 1 true F3_ az.1,eSl 1 true F3_ cp.1]),I 0]) (show LeV (.tup [.sptr (.agg [.agg [I m_.j,I m_.m,eSl 1 false y6 m_.i],eSl 1 true F3_ r_.1,eSl 1 true F3_ ai.1,eSl 1 false F5_ gh,eSl 1 false xq ku,eSl 1 true F3_ az.1,eSl 1 true F3_ cp.1]),I 0]) (.tup [.dop (poQ (some (.agg [.agg [I m_.j,I m_.m,eSl 1 false y6 m_.i],eSl 1 false F5_ r_.1,eSl 1 false F5_ ai.1,eSl 1 false F5_ gh,eSl 1 false xq ku,eSl 1 false F5_ az.1,eSl 1 false F5_ cp.1]))),I 0]) from inferInstance)
  obtain⟨t3,ht3,aa⟩:=zl aa;refine yMx 11111111111210 [J2] [2,6,91,92] (λx=>[(6,.own (.box (.agg [zK m_,eSl 1 true F3_ r_.1,eSl 1 true F3_ ai.1,eSl 1 false F5_ gh,eOs 1 false xq x.1,eSl 1 true F3_ az.1,eSl 1 true F3_ cp.1]))),(92,.d (I x.2))]) ht3 [(6,.own (.box (.agg [zK m_,eSl 1 true F3_ r_.1,eSl 1 true F3_ ai.1,eSl 1 false F5_ gh,eOs 1 true xq [],eSl 1 true F3_ az.1,eSl 1 true F3_ cp.1]))),(92,.d (I 0))] [Ha (lnM y6 m_.i)] λ⟨jg,nl⟩ m3 aw ae hl1 J3 bk=>?_;obtain c0|c0:=zt ae
  ·obtain⟨iz,h6,ae⟩:=zl c0.2;let Z0:List HO:=[Hb c0,zC2 0 h6];obtain c1|c1:=zt ae
   ·cases c1.2;cases hl1;cases aa;exact yEx hE (Z0++[c1]) (.tup [.atom (.pointer none),I iz.2]) (show LeV (.tup [.atom (.pointer none),I iz.2]) (.tup [.dop (poQ none),I iz.2]) from inferInstance)
   obtain⟨jk,h7,ae⟩:=zl c1.2;obtain⟨g0,ae⟩:=gdE ae;cases ae;exact yB (H:=zx ((xNc prog 113 6 ly).or ((xMv prog 104 6 ly hv6).or X0))) bk _ hl1 (Z0++[Hb c1,Hn (rfl:some ly=some ly),Hk [] (z0r (hat 2)) (zf1 2 h7 (loC Ju iz.1<|loN)),Hq (dM xq [jk]),Hn (dM xq [jk]),Hn (aL xq xq g0),Hl (aM xq jg [jk]),Hn (⟨rfl,rfl⟩:T.d (.atom ly)=T.d (.atom ly)/\some ly=some ly)])
  cases c0.2;cases hl1;exact yB ax jg aa [Hb c0]
 obtain c2|c2:=zt aa
 ·cases c2.2;exact yEx hE [Hh (.u 70),qT,c2] (.tup [.atom (.pointer none),I r_.2]) (show LeV (.tup [.atom (.pointer none),I r_.2]) (.tup [.dop (poQ none),I r_.2]) from inferInstance)
 let Z1:List HO:=[Hh (.u 70),qT,Hb c2,qT];obtain c3|c3:=zt c2.2
 ·cases c3.2;exact yEx hE (Z1++[c3]) (.tup [.atom (.pointer none),I ai.2]) (show LeV (.tup [.atom (.pointer none),I ai.2]) (.tup [.dop (poQ none),I ai.2]) from inferInstance)
 obtain c4|c4:=zt c3.2
 ·cases c4.2;exact yEx hE (Z1++[c3,qT,c4]) (.tup [.atom (.pointer none),I am.2]) (show LeV (.tup [.atom (.pointer none),I am.2]) (.tup [.dop (poQ none),I am.2]) from inferInstance)
 obtain c5|c5:=zt c4.2
 ·cases c5.2;exact yEx hE (Z1++[c3,qT,c4,qT,c5]) (.tup [.atom (.pointer none),I az.2]) (show LeV (.tup [.atom (.pointer none),I az.2]) (.tup [.dop (poQ none),I az.2]) from inferInstance)
 let Z2:List HO:=(Z1++[Hb c3,qT,Hb c4,qT,Hb c5,qT]);obtain c6|c6:=zt c5.2
 ·cases c6.2;exact yEx hE (Z2++[c6]) (.tup [.atom (.pointer none),I cp.2]) (show LeV (.tup [.atom (.pointer none),I cp.2]) (.tup [.dop (poQ none),I cp.2]) from inferInstance)
 exact yB au () c6.2 (Z2++[Hb c6,qF])
def xI [H:HS X0 l82](ct:Value):∀(parts:TA) (b_:zb) (r0:zb×Bool),xu parts b_=some r0->z8X prog 191 [.atom ct,eSl 1 false F5_ parts] ([ct].zip [.box (.agg [eOs 16 false F1_ b_.z,I b_.x,I b_.y])]) r0.2 (.iface 137 (.agg #[])) (.tup []) [.box (.agg [eOs 16 false F1_ r0.1.z,I r0.1.x,I r0.1.y])]:=by
 intro parts b_ r0 aa;refine z5P (tt:=uQ) (nt:=f191.ntmps) (body:=zbd f191) [0] zn func191 rfl κ rfl rfl (by show(2:Nat)<=105;decide) θ rfl rfl rfl (λE hE hD=>?_);refine yK 111 [] [0] (λz:List (zw Int)×Int=>Y3 b_ z.1 z.2=some r0) (λz=>[(0,.own (.box (.agg [eOs 16 false F1_ z.1,I z.2,I b_.y])))]) [0,1,4,5] [Hh (.cut 2)] ?_ λJ1 au=>?_
 ·rintro⟨cn,bu⟩ aa;obtain c0|c0:=zt aa
  ·refine yC 111110 [] [0] [c0,Hh (.stp 0)] ?_;cases c0.2;exact yP (H:=zx ((zmP prog 104 137 underlying137).or X0)) 2 [] λst0=>hD rfl st0
  cases c0.2;exact yF .normal [(0,.own (.box (.agg [eOs 16 false F1_ cn,I bu,I b_.y])))] [c0] λst0 h0=>hE rfl _ st0 (.inl rfl) (Yc h0 ⟨⟨rfl,rfl⟩,trivial⟩)
 refine yMb 111210 [J1] [0,4,5,11,12,13] (λx=>[(0,.own (.box (.agg [eOs 16 false F1_ x.1,I x.2.1,I b_.y]))),(4,.d (.atom (.int .i32 x.2.2.1))),(5,.d (B x.2.2.2.1)),(13,.d (I x.2.2.2.2))]) aa  [Ha (lnM F5_ parts)] λt2 aa ⟨cg,bq,at_,m0,em⟩ m2 aw ae hl1 J2 ax=>?_;obtain c1|c1:=zt ae
 ·refine yNs 111210011 [J1,J2] [0,4,5,11,12,13] (λz:List (zw Int)×Int×Int×Bool=>Y2 em z.1 z.2.1 z.2.2.1 z.2.2.2=some aw) (λz=>[(0,.own (.box (.agg [eOs 16 false F1_ z.1,I z.2.1,I b_.y]))),(4,.d (.atom (.int .i32 z.2.2.1))),(5,.d (B z.2.2.2))]) [c1,Hh (.cut 0)] ?_ λJ3 bk=>?_
  ·rintro⟨cd,bo,pa,mq⟩ ae;cases ae;exact yB ax _ hl1 []
  obtain⟨eb,h0,t4,ht4,ae⟩:=zV c1.2;refine yM 11121001120110 [J1,J2,J3] [0,4,5,11,12,13,17,18,19] (λx=>[(0,.own (.box (.agg [eOs 16 false F1_ x.1,I x.2.1,I b_.y]))),(4,.d (.atom (.int .i32 x.2.2.1))),(5,.d (B x.2.2.2.1)),(19,.d (I x.2.2.2.2))]) ht4  [Hi F5_ h0,Ha (lnM sZ eb)] λ⟨ap,bc,ff,jl,gc⟩ m4 dc ah hl2 J4 cx=>?_;obtain c2|c2:=zt ah
  ·obtain⟨da,h1,me,h2,cell,h3,ah⟩:=ZK c2.2;refine yN 111210011201100110011 [J1,J2,J3,J4] [0,5,10,11,12,13,17,18,19] (λz:List (zw Int)×Int×Bool×Int=>vJ gc z.1 z.2.1 z.2.2.1 z.2.2.2=some dc) (λz=>[(0,.own (.box (.agg [eOs 16 false F1_ z.1,I z.2.1,I b_.y]))),(5,.d (B z.2.2.1)),(10,.d (.atom (.int .i32 z.2.2.2)))]) [0,4,5,9,10,11,12,13,17,18,19] [c2,Hi sZ h1,Hn (iL F1_ h2),Hs (iM F1_ h2),Hn (⟨arJ κ (i0 h3),(iL (eI .i32) h3).2⟩:YR uQ 147 ((zw.toL me).map (eI .i32)) da=true/\da.toNat<((zw.toL me).map (eI .i32)).length),Hh (.op 0),Hh (.f),Hx (.a (eOs 16 false F1_ ap)) (rfl:some (eOs 16 false F1_ ap:A)=some (eOs 16 false F1_ ap)),Hs (iM F1_ h2),Hh (.f),Hs (iM (eI .i32) h3),Hh (.cut 0)] ?_ λJ5 dh=>?_
   ·rintro⟨ce,bp,mr,next⟩ ah;cases ah;exact yB cx _ hl2 []
   obtain c3|c3:=zt ah
   ·refine yN 1112100112011001100112101 [J1,J2,J3,J4,J5] [0,4,9,10,11,12,13,17,18,19] (zI (yk ap ff gc da) dc) (λz=>[(0,.own (.box (.agg [eOs 16 false F1_ ap,I z,I b_.y])))]) [0,4,5,9,10,11,12,13,17,18,19] [c3,Ha (lnM F1_ ap),Hh (.cut 0)] ?_ λJ6 fz=>?_
    ·rintro dr ah;obtain⟨jx,h4,ca,h5,arr,h6,ah⟩:=ZK ah;replace h6:=zZ h6;obtain⟨g0,ah⟩:=gdE ah;exact yB dh (((ap.set ff.toNat arr)++([(zw.mk 0 0 0 0 0 0 0 0 0 0 0 0 0 0 0 0)]:List (zw Int))),dr,true,IntKind.i32.wrap ((ap.length:Int))) ah [Hn (iL F1_ h4),Hs (iM F1_ h4),Hn (⟨arJ κ (i0 h5),(iL (eI .i32) h5).2⟩:YR uQ 147 ((zw.toL jx).map (eI .i32)) da=true/\da.toNat<((zw.toL jx).map (eI .i32)).length),Hh (.op 0),Hh (.f),Hx (.a (eOs 16 false F1_ ap)) (rfl:some (eOs 16 false F1_ ap:A)=some (eOs 16 false F1_ ap)),Hs (iM F1_ h4),Hh (.f),Hs (iM (eI .i32) h5),Hh (.f),Hx (.a (eOs 16 false F1_ ap)) (rfl:some (eOs 16 false F1_ ap:A)=some (eOs 16 false F1_ ap)),Hs (iM F1_ h4),Hh (.f),Hs (iM (eI .i32) h5),Hx (.l ((zw.toL arr).map (eI .i32))) ((zw.setL (eI .i32) jx da (IntKind.i32.wrap ((ap.length:Int)))).trans (congrArg (λq=>(zw.toL q).map (eI .i32)) h6)),Hl (sM F1_ ap ff arr),Hx (.l [eOs 16 false F1_ (ap.set ff.toNat arr),I dr,I b_.y]) (rfl:([eOs 16 false F1_ (ap.set ff.toNat arr),I dr,I b_.y]:List A)=[eOs 16 false F1_ (ap.set ff.toNat arr),I dr,I b_.y]),Hq (dM F1_ ([(zw.mk 0 0 0 0 0 0 0 0 0 0 0 0 0 0 0 0)]:List (zw Int))),Hn (dM F1_ ([(zw.mk 0 0 0 0 0 0 0 0 0 0 0 0 0 0 0 0)]:List (zw Int))),Hn (aL F1_ F1_ g0),Hl (aM F1_ (ap.set ff.toNat arr) ([(zw.mk 0 0 0 0 0 0 0 0 0 0 0 0 0 0 0 0)]:List (zw Int)))]
    obtain c4|c4:=zt c3.2
    ·obtain c5|c5:=zt c4.2
     ·let Z0:List HO:=(Hb c4::Hb c4::Hb c4::(rpN 5 (Hb c5) [Ha (lnM F1_ ap),c5,c4,c5,c4]));obtain c6|c6:=zt c5.2
      ·exact yB fz (w64 (bc+1)) c6.2 (Z0++(rpN 9 (Hb c6) [c4,c6,c4,qT]))
      obtain⟨dt,h7,ah⟩:=zl c6.2;let Z1:List HO:=(Z0++(rpN 6 (Hb c6) [Hn (iL F1_ h7),c6,Hs (iM F1_ h7),c6,c6,c4,c6,c4]));obtain c7|c7:=zt ah
      ·exact yB fz (w64 (bc+1)) c7.2 (Z1++[c7])
      exact yB fz bc c7.2 (Z1++[c7])
     obtain⟨du,h8,ah⟩:=zl c5.2;let Z2:List HO:=(Hb c4::Hb c4::Hb c4::(rpN 6 (Hb c5) (Hb c4::Hb c5::Hb c4::(rpN 6 qF [Hn (iL F1_ h8),qF,Hs (iM F1_ h8),qF,qF,c4,qF,c4]))));obtain c8|c8:=zt ah
     ·exact yB fz (w64 (bc+1)) c8.2 (Z2++[c8])
     exact yB fz bc c8.2 (Z2++[c8])
    exact yB fz bc c4.2 (rpN 7 (Hb c4) [qF])
   exact yB dh (ap,bc,jl,cell) c3.2 [c3]
  cases c2.2;cases hl2;exact yB bk (ap,bc,ff,jl) ae [c2]
 cases c1.2;cases hl1;exact yB au (cg,bq) aa [c1]
def JU [H:HS X0 l82](ct:Value):∀(x0:Jo) (x_:zC) (b_:zb) (r0:zb×Bool),vg x0 x_ b_=some r0->z8X prog 190 [.agg [],.sptr (.agg [.agg [I x_.m_.j,I x_.m_.m,eSl 1 false y6 x_.m_.i],eSl 1 false F5_ x_.q_,eSl 1 false F5_ x_.p_,eSl 1 false F5_ x_.all_,eSl 1 false xq x_.each_,eSl 1 false F5_ x_.L,eSl 1 false F5_ x_.U]),.atom ct] ([ct].zip [.box (.agg [eOs 16 false F1_ b_.z,I b_.x,I b_.y])]) r0.2 (.iface 137 (.agg #[])) (.tup []) [.box (.agg [eOs 16 false F1_ r0.1.z,I r0.1.x,I r0.1.y])]:=by
 intro x0 x_ b_ r0 aa;refine z5P (tt:=uQ) (nt:=f190.ntmps) (body:=zbd f190) [2] zn func190 rfl κ rfl rfl (by show(3:Nat)<=48;decide) θ rfl rfl rfl (λE hE hD=>?_);refine yMb 1110 [] [1,2,15,16,17] (λx=>[(2,.own (.box (.agg [eOs 16 false F1_ x.1,I x.2.1,I x.2.2.1]))),(17,.d (I x.2.2.2))]) aa  [Ha (lnM F5_ x_.p_)] λt1 aa ⟨cn,bu,ee,ba⟩ m1 aw ae hl1 J1 au=>?_;obtain c0|c0:=zt ae
 ·refine yNs 1110011 [J1] [1,2,15,16,17] (λz:List (zw Int)×Int×Int=>YI ba z.1 z.2.1 z.2.2=some aw) (λz=>[(2,.own (.box (.agg [eOs 16 false F1_ z.1,I z.2.1,I z.2.2])))]) [c0,Hh (.cut 0)] ?_ λJ2 ax=>?_
  ·rintro⟨cg,bq,d0⟩ ae;cases ae;exact yB au _ hl1 []
  obtain⟨bg,h0,t3,ht3,ae⟩:=zV c0.2;refine yM 111001120110 [J1,J2] [1,2,7,15,16,17,24,25,26] (λx=>[(2,.own (.box (.agg [eOs 16 false F1_ x.1,I x.2.1,I x.2.2.1]))),(26,.d (I x.2.2.2))]) ht3  [Hi F5_ h0,Ha (lnM F5_ x_.L)] λ⟨cd,bo,dm,fy⟩ m3 dc ah hl2 J3 bk=>?_;obtain c1|c1:=zt ah
  ·refine yNs 111001120110011 [J1,J2,J3] [1,2,7,15,16,17,24,25,26] (λz:List (zw Int)×Int×Int=>YH fy z.1 z.2.1 z.2.2=some dc) (λz=>[(2,.own (.box (.agg [eOs 16 false F1_ z.1,I z.2.1,I z.2.2])))]) [c1,Hh (.cut 0)] ?_ λJ4 cx=>?_
   ·rintro⟨ap,bc,d8⟩ ah;cases ah;exact yB bk _ hl2 []
   obtain⟨a7,h1,t5,ht5,ah⟩:=zV c1.2;refine yM 11100112011001120110 [J1,J2,J3,J4] [1,2,7,9,15,16,17,24,25,26,33,34,35] (λx=>[(2,.own (.box (.agg [eOs 16 false F1_ x.1,I x.2.1,I x.2.2.1]))),(35,.d (I x.2.2.2))]) ht5  [Hi F5_ h1,Ha (lnM F5_ x_.all_)] λ⟨ce,bp,dj,gk⟩ m5 oa a8 hl3 J5 dh=>?_;obtain c2|c2:=zt a8
   ·obtain⟨ez,h2,a8⟩:=zl c2.2;refine yC 11100112011001120110011001 [J1,J2,J3,J4,J5] [1,2,7,9,11,15,16,17,24,25,26,33,34,35] [c2,Hi F5_ h2,Hh (.stp 0)] ?_;obtain⟨r_,h3,a8⟩:=zl a8;obtain c3|c3:=zt a8
    ·cases c3.2;cases hl3;cases ah;cases hl2;cases ae;cases hl1;cases aa;exact yD 5 [2] ((xI (H:=zd 0) ct _ _ _ h3).2 c3.1) [.atom ct,z4T [bg,a7,ez]] inferInstance [Hm (shM F5_ F5_ ([bg,a7,ez]))] λst0=>hD rfl st0
    cases c3.2;exact yB (H:=zx ((z2o (P:=prog) uQ [2] ((xI (H:=zd 0) ct _ _ _ h3).1 c3.1) 44).or X0)) dh _ hl3 [Hm (shM F5_ F5_ ([bg,a7,ez])),Hn (Uc (f:=.fn 191 []) (xs:=[.atom ct,xq [bg,a7,ez]]) (ls:=[(ct,.box (.agg [eOs 16 false F1_ ce,I bp,I dj]))]) (r:=.tup []) (ys:=[.box (.agg [eOs 16 false F1_ r_.1.z,I r_.1.x,I r_.1.y])]) [.atom ct,z4T [bg,a7,ez]] (show Jr [.atom ct,z4T [bg,a7,ez]] [.atom ct,xq [bg,a7,ez]] from inferInstance))]
   cases c2.2;cases hl3;exact yB cx (ce,bp,dj) ah [c2]
  cases c1.2;cases hl2;exact yB ax (cd,bo,dm) ae [c1]
 cases c0.2;cases hl1;cases aa;exact yF .normal [(2,.own (.box (.agg [eOs 16 false F1_ cn,I bu,I ee])))] [c0] λst0 h0=>hE rfl _ st0 (.inl rfl) (Yc h0 ⟨⟨rfl,rfl⟩,trivial⟩)
def l83:=z0Q 200 xq F5_ (zk4 67) (eT2 sZ eB) yT::l82
def qM [H:HS X0 l82]:OkH l83:=yS3 false func200 λx_ target cmp r0 aa E hE=>by
 refine yN 1111 [] [0,1,2,8,9] (zI (yu x_ target) r0) (λz=>[(9,.d (I z))]) [0,1,2,8,9,10] [Ha (lnM F5_ x_),Hh (.cut 1)] ?_ λJ1 au=>?_
 ·rintro i_ aa;obtain c0|c0:=zt aa
  ·obtain⟨mc,h0,r_,h1,aa⟩:=zV c0.2;cases aa;exact yE hE (rpN 4 (Hb c0) [Hi F5_ h0,c0,c0,c0,zC2 44 h1,c0,c0])
  cases c0.2;exact yE hE (rpN 9 (Hb c0) [])
 refine yMb 111120 [J1] [0,1,2,8,9,10] (λx=>[(9,.d (I x.1)),(10,.d (I x.2))]) aa  [] λt2 aa ⟨fw,j_⟩ m2 aw ae hl1 J2 ax=>?_;obtain c1|c1:=zt ae
 ·obtain⟨lp,h2,ai,h3,ae⟩:=zV c1.2;let Z0:List HO:=[c1,Hi F5_ h2,zC2 44 h3];obtain c2|c2:=zt ae
  ·cases c2.2;exact yB (H:=zx ((zpf prog).or X0)) ax _ hl1 (Z0++[c2])
  cases c2.2;exact yB (H:=zx ((zpf prog).or X0)) ax _ hl1 (Z0++[c2])
 cases c1.2;cases hl1;exact yB au fw aa [c1]
def l84:=jV 197 xq F5_ eB z26::l83
def zat [H:HS X0 l83]:OkH l84:=yS2 true func197 λl_ w_ r0 aa E hE=>by obtain⟨r_,h0,aa⟩:=zl aa;cases aa;exact yE hE [zC3 0 h0]
def l85:=jV 196 F5_ zni eB kS::l84
def z2r [H:HS X0 l84]:OkH l85:=yS2 true func196 λw_ x1 r0 aa E hE=>by obtain⟨r_,h0,aa⟩:=zl aa;cases aa;exact yE hE [zC2 0 h0]
def l86:=jV 199 xq (z0T 196 zni) sZ vA::l85
def XO [H:HS X0 l85]:OkH l86:=yS2 true func199 λs_ f_ r0 aa E hE=>by
 refine yK 11 [] [] (λz:Unit=>uL=some r0) (λz=>[]) [0,1] [Hh (.cut 1)] ?_ λJ1 au=>?_
 ·rintro⟨⟩ aa;cases aa;exact yE hE []
 refine yMb 11210 [J1] [0,1,7,8] (λx=>[(8,.d (I x))]) aa  [Ha (lnM F5_ s_)] λt2 aa x8 m2 aw ae hl1 J2 ax=>?_;obtain c0|c0:=zt ae
 ·obtain⟨d9,h0,r_,h1,ae⟩:=zV c0.2;let Z0:List HO:=[c0,Hi F5_ h0,zC2 0 h1];obtain c1|c1:=zt ae
  ·cases c1.2;cases hl1;cases aa;exact yE hE (Z0++[c1])
  cases c1.2;exact yB ax _ hl1 (Z0++[c1])
 cases c0.2;cases hl1;exact yB au () aa [c0]
def l87:=jV 195 zb7 (z0T 196 zni) zb7 xO [true,false]::l86
def uP:XH prog:=((zmQ zn 41).or X0)
def Xh [H:HS uP l86]:OkH l87:=yS2 true func195 λs_ kc r0 aa E hE=>by
 refine z3u (y:=eOs 1 false F5_ s_) rfl 0 κ κ λbn hv0=>?_;obtain⟨r_,h0,aa⟩:=zl aa;let Z0:List HO:=[zg 0,Hm (shM F5_ F5_ s_),Hs (zf2 0 h0 (loC xq s_<|loC (z0T 196 zni) kc<|loN))];obtain c0|c0:=zt aa
 ·cases c0.2;exact yE hE (Z0++[c0])
 refine yK 1111 [] [0,5] (λz:TA×Int=>yY z.1 z.2=some r0) (λz=>[(0,.own (eOs 1 false F5_ z.1)),(5,.d (I z.2))]) [0,1,5] (Z0++[c0,Hh (.cut 0)]) ?_ λJ1 au=>?_
 ·rintro⟨bf,i_⟩ aa;obtain⟨g0,aa⟩:=gdE aa;obtain⟨g1,aa⟩:=gdE aa;obtain⟨g2,aa⟩:=gdE aa;cases aa;exact yE (H:=zx ((xVc zn 38 1 0 bn i_).or ((xVw zn 38 0 bn).or uP))) hE [Hn (⟨.inl rfl,rfl⟩:(T.als 0 [] 0 0=T.als 0 [] 0 0\/T.als 0 [] 0 0=T.d (.atom bn))/\some bn=some bn),Hn (⟨g0.1,cuB F5_ g0⟩:(0:Int)<=i_/\i_.toNat<=(bf.map F5_).length),Hn (⟨rfl,rfl⟩:T.d (.atom (Q6 1 bn i_))=T.d (.atom (Q6 1 bn i_))/\some bn=some bn),Hn (⟨g1.1,cuB F5_ g1,dM F5_ bf⟩:(0:Int)<=i_/\i_.toNat<=(bf.map F5_).length/\A.areD (bf.map F5_)=true),Hx (.l ((bf.take i_.toNat++List.replicate (bf.length-i_.toNat) []).map F5_)) (vcM F5_ bf i_.toNat ([]:TB)),Hn g2.1,Hn (cuB F5_ g2),Hl (cuM F5_ (bf.take i_.toNat++List.replicate (bf.length-i_.toNat) []) i_)]
 refine yMb 1111210 [J1] [0,1,5,6] (λx=>[(0,.own (eOs 1 false F5_ x.1)),(5,.d (I x.2.1)),(6,.d (I x.2.2))]) c0.2  [] λt2 aa ⟨bl,fw,j_⟩ m2 aw ae hl1 J2 ax=>?_;let Z1:List HO:=[Ha (lnM F5_ bl)];obtain c1|c1:=zt ae
 ·refine yNs 111121001 [J1,J2] [0,1,5,6] (λz:TA×Int=>yi j_ z.1 z.2=some aw) (λz=>[(0,.own (eOs 1 false F5_ z.1)),(5,.d (I z.2))]) (Z1++[c1,Hh (.cut 0)]) ?_ λJ3 bk=>?_
  ·rintro⟨ml,p0⟩ ae;cases ae;exact yB ax _ hl1 []
  obtain⟨d9,h1,ai,h2,ae⟩:=zV c1.2;let Z2:List HO:=[Hn (iL F5_ h1),Hs (iM F5_ h1),zC2 1 h2];obtain c2|c2:=zt ae
  ·obtain⟨mz,h3,ae⟩:=zl c2.2;exact yB bk ((bl.set fw.toNat d9),w64 (fw+1)) ae (Z2++[c2,Hn (iL F5_ h3),Hs (iM F5_ h3),Hs (iM F5_ h3),Hl (sM F5_ bl fw d9)])
  exact yB bk (bl,fw) c2.2 (Z2++[c2])
 cases c1.2;cases hl1;exact yB au (bl,fw) aa (Z1++[c1])
def l88:=z0Q 193 xq xq sZ (eT2 Ju sZ) Y0::l87
def z58 [H:HS X0 l87]:OkH l88:=yS3 false func193 λa_ b_ inputs r0 aa E hE=>by
 obtain⟨r_,h0,aa⟩:=zl aa;let Z0:List HO:=[zg 24,Hm (shM xq xq ([a_,b_])),Hs (zf2 24 h0 (loC sZ inputs<|loC (eSl 1 true xq) [a_,b_]<|loN))];obtain c0|c0:=zt aa
 ·cases c0.2;exact yE hE (Z0++[c0,Hm (shM F5_ F5_ [])])
 obtain⟨ai,h1,am,h2,az,h3,aa⟩:=ZK c0.2;cases aa;exact yE hE (Z0++[c0,zC1 32 h1,zC2 0 h2,zg 29,Hm (shM F5_ F5_ am),Hs (zf1 29 h3 (loC xq am<|loN)),Hm (shM F5_ F5_ am)])
def l89:=jV 201 zK sZ sZ Yq::l88
def z1T [H:HS X0 l88]:OkH l89:=yS2 true func201 λm_ s_ r0 aa E hE=>by
 obtain⟨r_,h0,aa⟩:=zl aa;let Z0:List HO:=[zC1 81 h0];obtain c0|c0:=zt aa
 ·cases c0.2;exact yE hE (Z0++[c0])
 obtain c1|c1:=zt c0.2
 ·cases c1.2;exact yE hE (Z0++(Hb c0::(rpN 6 (Hb c1) [qT])))
 let Z1:List HO:=(Z0++(Hb c0::(rpN 4 (Hb c1) [Ha (lnM y6 m_.i),c1,c1])));obtain c2|c2:=zt c1.2
 ·cases c2.2;exact yE hE (Z1++[c2])
 cases c2.2;exact yE hE (Z1++[c2])
def l90:=z0Q 202 zK sZ F5_ (λr:TB×Int=>.opq (zb3 [some (F2_ r.1),some (sZ r.2)])) WY::l89
def z3Y [H:HS X0 l89]:OkH l90:=by
 refine zO3 λm_ s_ w_ r0 aa=>?_;refine zaa (tt:=uQ) (rs:=[(true,6,none),(false,7,none)]) (n:=⟨f202.ntmps,[]⟩) (body:=zbd f202) zn func202 rfl κ rfl rfl (by show(3:Nat)<=43;decide) λE hE=>?_;obtain⟨g0,aa⟩:=gdE aa;refine yK 111 [] [1,8] (λz:Int×TB=>Wh z.1 z.2=some r0) (λz=>[(1,.d (I z.1)),(8,.own (eOs 1 true sZ z.2))]) [1,2,3,8] [Ha (lnM sZ w_),Hn (rL g0),Ha (rM 1 sZ (w_.length:Int) (0:Int)),Hh (.cut 0)] ?_ λJ1 au=>?_
 ·rintro⟨bf,out⟩ aa;cases aa;let ZE:List HO:=[];exact zdm X0 zn H.ok z9z hE 4000 (hs:=hoH ZE) (x:=(.opq (zb3 [some (eOs 1 true sZ out),some (I bf)]))) (hoB ZE) κ (LeV.refl _)
 refine yMb 111210 [J1] [1,3,8,15,16,17] (λx=>[(1,.d (I x.1)),(8,.own (eOs 1 true sZ x.2.1)),(17,.d (I x.2.2))]) aa  [Ha (lnM sZ w_)] λt2 aa ⟨bl,aj,ba⟩ m2 aw ae hl1 J2 ax=>?_;obtain c0|c0:=zt ae
 ·obtain⟨ge,h0,r_,h1,ae⟩:=zV c0.2;refine yN 1112100110011 [J1,J2] [3,8,9,11,15,16,17] (λz:Int×Int=>vR aj ba z.1 z.2=some aw) (λz=>[(11,.own (.box (.agg [I z.1,I z.2])))]) [1,3,8,9,10,11,15,16,17] [c0,Hi sZ h0,zC0 87 h1,Hh (.cut 0)] ?_ λJ3 bk=>?_
  ·rintro⟨gj,nb⟩ ae;obtain⟨fx,h2,ae⟩:=zl ae;cases ae;exact yB ax _ hl1 [Hn (iL sZ h2),Hs (iM sZ h2),Hs (iM sZ h2),Hl (sM sZ aj ba nb)]
  obtain c1|c1:=zt ae
  ·obtain⟨al,h3,ak,h4,ae⟩:=zV c1.2;exact yB bk (ak.o,ak.r) ae [c1,Hi y6 h3,Hi F9_ h4]
  exact yB bk (r_.o,r_.r) c1.2 [c1]
 cases c0.2;cases hl1;exact yB au (bl,aj) aa [c0]
def l91:=z0Q 198 zK sZ F5_ (eT2 sZ sZ) jP::l90
def z1W [H:HS X0 l90]:OkH l91:=yS3 false func198 λm_ s_ w_ r0 aa E hE=>by
 obtain⟨r_,h0,aa⟩:=zl aa;let Z0:List HO:=[zC2 1 h0];obtain c0|c0:=zt aa
 ·cases c0.2;exact yE hE (Z0++[c0])
 obtain⟨ai,h1,aa⟩:=zl c0.2;let Z1:List HO:=(Z0++[c0,zC2 58 h1]);obtain c1|c1:=zt aa
 ·cases c1.2;exact yE hE (Z1++[c1])
 obtain⟨am,h2,aa⟩:=zl c1.2;cases aa;exact yE (H:=zx ((zki prog 31 [none,some (I am.2)]).or ((zki prog 30 [some (eOs 1 true sZ am.1),some (I am.2)]).or X0))) hE (Z1++[c1,zC3 0 h2,Hn (⟨rfl,rfl⟩:T.own (.opq (zb3 [some (eOs 1 true sZ am.1),some (I am.2)]))=T.own (.opq (zb3 [some (eOs 1 true sZ am.1),some (I am.2)]))/\1=1),Hn (⟨rfl,rfl⟩:T.own (.opq (zb3 [none,some (I am.2)]))=T.own (.opq (zb3 [none,some (I am.2)]))/\1=1)])
def l92:=z0Q 194 znh F5_ F5_ xq xj::l91
def Kk [H:HS X0 l91]:OkH l92:=yS3 true func194 λx_ u_ v_ r0 aa E hE=>by obtain⟨r_,h0,ai,h1,pj,h2,aa⟩:=ZK aa;cases aa;exact yE hE [zC3 0 h0,zC3 0 h1,Hi xq h2]
def Qy [H:HS X0 l92](ct:Value):∀(x0:UZ) (x_:zC) (b_:zb) (r0:zb×Bool),wI x0 x_ b_=some r0->z8X prog 192 [.agg [],.sptr (.agg [.agg [I x_.m_.j,I x_.m_.m,eSl 1 false y6 x_.m_.i],eSl 1 false F5_ x_.q_,eSl 1 false F5_ x_.p_,eSl 1 false F5_ x_.all_,eSl 1 false xq x_.each_,eSl 1 false F5_ x_.L,eSl 1 false F5_ x_.U]),.atom ct] ([ct].zip [.box (.agg [eOs 16 false F1_ b_.z,I b_.x,I b_.y])]) r0.2 (.iface 137 (.agg #[])) (.tup []) [.box (.agg [eOs 16 false F1_ r0.1.z,I r0.1.x,I r0.1.y])]:=by
 intro x0 x_ b_ r0 aa;refine z5P (tt:=uQ) (nt:=f192.ntmps) (body:=zbd f192) [2] zn func192 rfl κ rfl rfl (by show(3:Nat)<=106;decide) θ rfl rfl rfl (λE hE hD=>?_);refine yNs 11 [] [1,2] (λz:List (zw Int)×Int×Int=>uG x_ b_ z.1 z.2.1 z.2.2=some r0) (λz=>[(2,.own (.box (.agg [eOs 16 false F1_ z.1,I z.2.1,I z.2.2])))]) [Hh (.cut 1)] ?_ λJ1 au=>?_
 ·rintro⟨cn,bu,ee⟩ aa;obtain⟨r_,h0,t2,ht2,aa⟩:=zV aa;refine yM 111110 [] [1,2,73,74,75] (λx=>[(2,.own (.box (.agg [eOs 16 false F1_ x.1,I x.2.1,I x.2.2.1]))),(75,.d (I x.2.2.2))]) ht2  [zC3 4 h0,Ha (lnM F3_ r_.1)] λ⟨cg,bq,d0,ip⟩ m2 aw ae hl1 J2 ax=>?_;obtain c0|c0:=zt ae
  ·refine yNs 111110011 [J2] [1,2,73,74,75] (λz:List (zw Int)×Int×Int=>ZW ip z.1 z.2.1 z.2.2=some aw) (λz=>[(2,.own (.box (.agg [eOs 16 false F1_ z.1,I z.2.1,I z.2.2])))]) [c0,Hh (.cut 0)] ?_ λJ3 bk=>?_
   ·rintro⟨cd,bo,dm⟩ ae;cases ae;exact yB ax _ hl1 []
   obtain⟨u_,h1,t4,ht4,ae⟩:=zV c0.2;refine yM (H:=zx ((xLs zn 78 (eSl 1 true sZ u_) (eSl 1 false sZ u_) inferInstance).or X0)) 11111001120110 [J2,J3] [1,2,15,73,74,75,82,83,84] (λx=>[(2,.own (.box (.agg [eOs 16 false F1_ x.1,I x.2.1,I x.2.2.1]))),(84,.d (I x.2.2.2))]) ht4  [Hi F3_ h1,Hn (rfl:T.d (eSl 1 true sZ u_)=T.d (eSl 1 true sZ u_)),Ha (lnM F5_ x_.U)] λ⟨ap,bc,d8,ji⟩ m4 dc ah hl2 J4 cx=>?_;obtain c1|c1:=zt ah
   ·refine yNs 11111001120110011 [J2,J3,J4] [1,2,15,73,74,75,82,83,84] (λz:List (zw Int)×Int×Int=>ZV ji z.1 z.2.1 z.2.2=some dc) (λz=>[(2,.own (.box (.agg [eOs 16 false F1_ z.1,I z.2.1,I z.2.2])))]) [c1,Hh (.cut 0)] ?_ λJ5 dh=>?_
    ·rintro⟨ce,bp,dj⟩ ah;cases ah;exact yB cx _ hl2 []
    obtain⟨dw,h2,ai,h3,t6,kz,ah⟩:=ZK c1.2;refine yM 1111100112011001120110 [J2,J3,J4,J5] [1,2,15,17,73,74,75,82,83,84,91,92,93] (λx=>[(2,.own (.box (.agg [eOs 16 false F1_ x.1,I x.2.1,I x.2.2.1]))),(93,.d (I x.2.2.2))]) kz  [Hi F5_ h2,zC3 0 h3,Ha (lnM F5_ ai)] λ⟨i6,dr,jy,og⟩ m6 oa a8 hl3 J6 fz=>?_;obtain c2|c2:=zt a8
    ·obtain⟨dx,h4,a8⟩:=zl c2.2;refine yC 1111100112011001120110011001 [J2,J3,J4,J5,J6] [1,2,15,17,19,73,74,75,82,83,84,91,92,93] [c2,Hi F5_ h4,Hh (.stp 0)] ?_;obtain⟨am,h5,a8⟩:=zl a8;obtain c3|c3:=zt a8
     ·cases c3.2;cases hl3;cases ah;cases hl2;cases ae;cases hl1;cases aa;exact yD 5 [2] ((xI (H:=zd 10) ct _ _ _ h5).2 c3.1) [.atom ct,z4T [u_,dw,dx]] inferInstance [Hm (shM F5_ F5_ ([u_,dw,dx]))] λst0=>hD rfl st0
     cases c3.2;exact yB (H:=zx ((z2o (P:=prog) uQ [2] ((xI (H:=zd 10) ct _ _ _ h5).1 c3.1) 102).or X0)) fz _ hl3 [Hm (shM F5_ F5_ ([u_,dw,dx])),Hn (Uc (f:=.fn 191 []) (xs:=[.atom ct,xq [u_,dw,dx]]) (ls:=[(ct,.box (.agg [eOs 16 false F1_ i6,I dr,I jy]))]) (r:=.tup []) (ys:=[.box (.agg [eOs 16 false F1_ am.1.z,I am.1.x,I am.1.y])]) [.atom ct,z4T [u_,dw,dx]] (show Jr [.atom ct,z4T [u_,dw,dx]] [.atom ct,xq [u_,dw,dx]] from inferInstance))]
    cases c2.2;cases hl3;exact yB dh (i6,dr,jy) ah [c2]
   cases c1.2;cases hl2;exact yB bk (ap,bc,d8) ae [c1]
  cases c0.2;cases hl1;cases aa;exact yF .normal [(2,.own (.box (.agg [eOs 16 false F1_ cg,I bq,I d0])))] [c0] λst0 h0=>hE rfl _ st0 (.inl rfl) (Yc h0 ⟨⟨rfl,rfl⟩,trivial⟩)
 refine yMb 11210 [J1] [1,2,23,24,25] (λx=>[(2,.own (.box (.agg [eOs 16 false F1_ x.1,I x.2.1,I x.2.2.1]))),(25,.d (I x.2.2.2))]) aa  [Ha (lnM F5_ x_.q_)] λt7 aa ⟨ja,ik,j4,iq⟩ m7 aw ae hl1 J7 j5=>?_;obtain c4|c4:=zt ae
 ·refine yNs 11210011 [J1,J7] [1,2,23,24,25] (λz:List (zw Int)×Int×Int=>ZU iq z.1 z.2.1 z.2.2=some aw) (λz=>[(2,.own (.box (.agg [eOs 16 false F1_ z.1,I z.2.1,I z.2.2])))]) [c4,Hh (.cut 0)] ?_ λJ8 mb=>?_
  ·rintro⟨lf,kw,l6⟩ ae;cases ae;exact yB j5 _ hl1 []
  obtain⟨gg,h6,t9,ht9,ae⟩:=zV c4.2;refine yM 1121001120110 [J1,J7,J8] [1,2,7,23,24,25,32,33,34] (λx=>[(2,.own (.box (.agg [eOs 16 false F1_ x.1,I x.2.1,I x.2.2.1]))),(34,.d (I x.2.2.2))]) ht9  [Hi F5_ h6,Ha (lnM F5_ x_.L)] λ⟨i8,ij,jz,ke⟩ m9 dc ah hl2 J9 qo=>?_;obtain c5|c5:=zt ah
  ·refine yNs 1121001120110011 [J1,J7,J8,J9] [1,2,7,23,24,25,32,33,34] (λz:List (zw Int)×Int×Int=>kX ke z.1 z.2.1 z.2.2=some dc) (λz=>[(2,.own (.box (.agg [eOs 16 false F1_ z.1,I z.2.1,I z.2.2])))]) [c5,Hh (.cut 0)] ?_ λJ10 hJ10=>?_
   ·rintro⟨lh,kx,l7⟩ ah;cases ah;exact yB qo _ hl2 []
   obtain⟨a7,h7,sf,ht11,ah⟩:=zV c5.2;refine yM 112100112011001120110 [J1,J7,J8,J9,J10] [1,2,7,9,23,24,25,32,33,34,41,42,43] (λx=>[(2,.own (.box (.agg [eOs 16 false F1_ x.1,I x.2.1,I x.2.2.1]))),(43,.d (I x.2.2.2))]) ht11  [Hi F5_ h7,Ha (lnM F5_ x_.all_)] λ⟨ii,gz,i7,mh⟩ sv oa a8 hl3 sj pw=>?_;obtain c6|c6:=zt a8
   ·obtain⟨ez,h8,a8⟩:=zl c6.2;refine yC 112100112011001120110011001 [J1,J7,J8,J9,J10,sj] [1,2,7,9,11,23,24,25,32,33,34,41,42,43] [c6,Hi F5_ h8,Hh (.stp 0)] ?_;obtain⟨az,h9,a8⟩:=zl a8;obtain c7|c7:=zt a8
    ·cases c7.2;cases hl3;cases ah;cases hl2;cases ae;cases hl1;cases aa;exact yD 5 [2] ((xI (H:=zd 10) ct _ _ _ h9).2 c7.1) [.atom ct,z4T [gg,a7,ez]] inferInstance [Hm (shM F5_ F5_ ([gg,a7,ez]))] λst0=>hD rfl st0
    cases c7.2;exact yB (H:=zx ((z2o (P:=prog) uQ [2] ((xI (H:=zd 10) ct _ _ _ h9).1 c7.1) 52).or X0)) pw _ hl3 [Hm (shM F5_ F5_ ([gg,a7,ez])),Hn (Uc (f:=.fn 191 []) (xs:=[.atom ct,xq [gg,a7,ez]]) (ls:=[(ct,.box (.agg [eOs 16 false F1_ ii,I gz,I i7]))]) (r:=.tup []) (ys:=[.box (.agg [eOs 16 false F1_ az.1.z,I az.1.x,I az.1.y])]) [.atom ct,z4T [gg,a7,ez]] (show Jr [.atom ct,z4T [gg,a7,ez]] [.atom ct,xq [gg,a7,ez]] from inferInstance))]
   cases c6.2;cases hl3;exact yB hJ10 (ii,gz,i7) ah [c6]
  cases c5.2;cases hl2;exact yB mb (i8,ij,jz) ae [c5]
 cases c4.2;cases hl1;exact yB au (ja,ik,j4) aa [c4]
def Q0 [H:HS X0 l92](ct:Value):∀(x0:VQ) (x_:zC) (b_:zb) (r0:zb×Bool),wh x0 x_ b_=some r0->z8X prog 203 [.agg [],.sptr (.agg [.agg [I x_.m_.j,I x_.m_.m,eSl 1 false y6 x_.m_.i],eSl 1 false F5_ x_.q_,eSl 1 false F5_ x_.p_,eSl 1 false F5_ x_.all_,eSl 1 false xq x_.each_,eSl 1 false F5_ x_.L,eSl 1 false F5_ x_.U]),.atom ct] ([ct].zip [.box (.agg [eOs 16 false F1_ b_.z,I b_.x,I b_.y])]) r0.2 (.iface 137 (.agg #[])) (.tup []) [.box (.agg [eOs 16 false F1_ r0.1.z,I r0.1.x,I r0.1.y])]:=by
 intro x0 x_ b_ r0 aa;refine z5P (tt:=uQ) (nt:=f203.ntmps) (body:=zbd f203) [2] zn func203 rfl κ rfl rfl (by show(3:Nat)<=48;decide) θ rfl rfl rfl (λE hE hD=>?_);refine yMb 1110 [] [1,2,15,16,17] (λx=>[(2,.own (.box (.agg [eOs 16 false F1_ x.1,I x.2.1,I x.2.2.1]))),(17,.d (I x.2.2.2))]) aa  [Ha (lnM F5_ x_.p_)] λt1 aa ⟨cn,bu,ee,ba⟩ m1 aw ae hl1 J1 au=>?_;obtain c0|c0:=zt ae
 ·refine yNs 1110011 [J1] [1,2,15,16,17] (λz:List (zw Int)×Int×Int=>Zb ba z.1 z.2.1 z.2.2=some aw) (λz=>[(2,.own (.box (.agg [eOs 16 false F1_ z.1,I z.2.1,I z.2.2])))]) [c0,Hh (.cut 0)] ?_ λJ2 ax=>?_
  ·rintro⟨cg,bq,d0⟩ ae;cases ae;exact yB au _ hl1 []
  obtain⟨bg,h0,t3,ht3,ae⟩:=zV c0.2;refine yM 111001120110 [J1,J2] [1,2,7,15,16,17,24,25,26] (λx=>[(2,.own (.box (.agg [eOs 16 false F1_ x.1,I x.2.1,I x.2.2.1]))),(26,.d (I x.2.2.2))]) ht3  [Hi F5_ h0,Ha (lnM F5_ x_.L)] λ⟨cd,bo,dm,fy⟩ m3 dc ah hl2 J3 bk=>?_;obtain c1|c1:=zt ah
  ·refine yNs 111001120110011 [J1,J2,J3] [1,2,7,15,16,17,24,25,26] (λz:List (zw Int)×Int×Int=>Za fy z.1 z.2.1 z.2.2=some dc) (λz=>[(2,.own (.box (.agg [eOs 16 false F1_ z.1,I z.2.1,I z.2.2])))]) [c1,Hh (.cut 0)] ?_ λJ4 cx=>?_
   ·rintro⟨ap,bc,d8⟩ ah;cases ah;exact yB bk _ hl2 []
   obtain⟨a7,h1,r_,h2,t5,ht5,ah⟩:=ZK c1.2;refine yM 11100112011001120110 [J1,J2,J3,J4] [1,2,7,9,15,16,17,24,25,26,33,34,35] (λx=>[(2,.own (.box (.agg [eOs 16 false F1_ x.1,I x.2.1,I x.2.2.1]))),(35,.d (I x.2.2.2))]) ht5  [Hi F5_ h1,zC3 0 h2,Ha (lnM F5_ r_)] λ⟨ce,bp,dj,gk⟩ m5 oa a8 hl3 J5 dh=>?_;obtain c2|c2:=zt a8
   ·obtain⟨dx,h3,a8⟩:=zl c2.2;refine yC 11100112011001120110011001 [J1,J2,J3,J4,J5] [1,2,7,9,11,15,16,17,24,25,26,33,34,35] [c2,Hi F5_ h3,Hh (.stp 0)] ?_;obtain⟨ai,h4,a8⟩:=zl a8;obtain c3|c3:=zt a8
    ·cases c3.2;cases hl3;cases ah;cases hl2;cases ae;cases hl1;cases aa;exact yD 5 [2] ((xI (H:=zd 10) ct _ _ _ h4).2 c3.1) [.atom ct,z4T [bg,a7,dx]] inferInstance [Hm (shM F5_ F5_ ([bg,a7,dx]))] λst0=>hD rfl st0
    cases c3.2;exact yB (H:=zx ((z2o (P:=prog) uQ [2] ((xI (H:=zd 10) ct _ _ _ h4).1 c3.1) 44).or X0)) dh _ hl3 [Hm (shM F5_ F5_ ([bg,a7,dx])),Hn (Uc (f:=.fn 191 []) (xs:=[.atom ct,xq [bg,a7,dx]]) (ls:=[(ct,.box (.agg [eOs 16 false F1_ ce,I bp,I dj]))]) (r:=.tup []) (ys:=[.box (.agg [eOs 16 false F1_ ai.1.z,I ai.1.x,I ai.1.y])]) [.atom ct,z4T [bg,a7,dx]] (show Jr [.atom ct,z4T [bg,a7,dx]] [.atom ct,xq [bg,a7,dx]] from inferInstance))]
   cases c2.2;cases hl3;exact yB cx (ce,bp,dj) ah [c2]
  cases c1.2;cases hl2;exact yB ax (cd,bo,dm) ae [c1]
 cases c0.2;cases hl1;cases aa;exact yF .normal [(2,.own (.box (.agg [eOs 16 false F1_ cn,I bu,I ee])))] [c0] λst0 h0=>hE rfl _ st0 (.inl rfl) (Yc h0 ⟨⟨rfl,rfl⟩,trivial⟩)
def l93:=z0Q 62 znh (eIf 81) sZ (eT2 (ePo KI) eB) qN::l92
def z2s [H:HS X0 l92]:OkH l93:=by
 have hE:∀b:zb,(A.agg [eOs 16 false F1_ b.z,eI .i64 b.x,eI .i64 b.y]).live=true/\(A.agg [eOs 16 false F1_ b.z,eI .i64 b.x,eI .i64 b.y]).shut=yz znk sZ sZ b:=λb=>⟨z0O.live (f:=yz zqm sZ sZ) b,z0O.sh (f:=yz zqm sZ sZ) b⟩;refine QF ?_;rintro⟨x,s,most⟩ r0 aa;obtain⟨r,hr,aa⟩:=zl aa;obtain rfl:=zZ aa;have key:∀(T kf:Nat),(∀w,(method 370 T (.agg #[]) "gauntlet/suites.fill").run prog w=.ok (kf,.agg #[]) w)->(∀args w,(callFunc kf args).run prog w=.ok (.enter kf args) w) ->
   (∀bv,z8X prog kf [.agg [],znh x,.atom bv] [(bv,.box (.agg [.osl 16 false [.agg (List.replicate 16 (.atom (.int .i32 0)))],.atom (.int .i64 0),.atom (.int .i64 most)]))] r.2 (.iface 137 (.agg #[])) (.tup []) [.box (.agg [eOs 16 false F1_ r.1.z,eI .i64 r.1.x,eI .i64 r.1.y])]) ->
   uR prog 62 [znh x,.atom (.iface T (.agg #[])),.atom (.int .i64 most)] (.tup [ePo KI (bif r.2 then none else some r.1),eB (!r.2)]):=by
  intro T kf h1 h2 h3;have q:=z8F h1 h2 rfl (hE r.1).1 (hE r.1).2 h3;refine q.le ?_;cases r.2
  ·exact(show LeV (.tup [.sptr (yz znk sZ sZ r.1),.atom (.bool true)]) (.tup [.dop (poQ (some (yz znk sZ sZ r.1))),.atom (.bool true)]) from inferInstance)
  exact(show LeV (.tup [.atom (.pointer none),.atom (.bool false)]) (.tup [.dop (poQ none),.atom (.bool false)]) from inferInstance)
 match s,hr with
 |0,hr=>exact key 81 190 Tryz.meth81 (λ_ _=>by kernel_rfl) λbv=>JU (H:=zd 10) bv ⟨⟩ x _ r hr
 |1,hr=>exact key 82 192 Tryz.meth82 (λ_ _=>by kernel_rfl) λbv=>Qy (H:=zd 0) bv ⟨⟩ x _ r hr
 |2,hr=>exact key 83 203 Tryz.meth83 (λ_ _=>by kernel_rfl) λbv=>Q0 (H:=zd 0) bv ⟨⟩ x _ r hr
 |n+3,hr=>cases hr
def xx:y4:=spR (α:=TA) (ρ:=TA) 68 (λx=>[(eOs 1 false F3_) x]) (λr=>znj r) (λx=>wc x) [true] (zpV)
def Wr:∀x r,(λx=>wc x) x=some r->(z3F.add xx).run 68 ((z3F.add xx).norm 68 ((λx=>[(eOs 1 false F3_) x]) x))=some ((λr=>znj r) r):=λx r h=>zoL h rfl
def Ws:(z3F.add xx).gives 68=[true]:=zj8
def WC [H:HS X0 l93]:xx.Ok prog:=by refine zbt ?_;rintro s_ r0 aa;refine zY true func68 λE hE=>?_;cases aa;exact yE (H:=zx ((xCl zn 8).or X0)) hE [Ha (lnM F3_ s_),Ha (lnM F3_ s_),Hn (mS _:(0:Int)<=(s_.length:Int)),Hn (mS _:(0:Int)<=(s_.length:Int)),Hn (clB F3_ s_),Ha (clE 1 F3_ s_)]
end Go.Own
end
