/- -/
import Derived.Test.YtedigoohmnbjfaaGreatPartE
noncomputable section
set_option linter.unusedVariables false
set_option linter.defProp false
set_option linter.unusedSimpArgs false
namespace Go.Own
open Go.Proofs.Tryz
open Go.Proofs
set_option maxRecDepth 100000
set_option maxHeartbeats 8000000
def X0:XH prog:=xB zl
def z83:prog.follows .mixedOrders=true:=by kernel_rfl
def zkz {l:List yg}{s:yg}(h:((l.map yg.k).contains s.k)=false):∀t∈l,t.k≠s.k:=λt ht e=>by rw[List.contains_eq_mem,<-e,decide_eq_true (List.mem_map_of_mem ht)]at h;cases h
class HS (X:outParam (XH prog)) (l:outParam (List yg)) where
 c:Ctr
 ok:Zr prog c
 has:∀t∈l,c.Has t
noncomputable abbrev zbd (f:Func):Code:=f.body.getD .skip
def znJ:ResultVar->Nat×TD
 | .tmp t=>(t,none)
 | .cell t c=>(t,some c)
noncomputable abbrev rsO (f:Func):=f.results.toList.map znJ
theorem zjW (f:Func):f.results=((rsO f).map z5o).toArray:=by
 have:z5o ∘ znJ=id:=funext λr=>by cases r <;> rfl
 simp[mw,this]
def OkH:List yg->Prop
 | s::_=>s.Ok prog
 | []=>True
def eT2 {α β:Type}(f:α->A)(g:β->A)(r:α×β):A:=.tup [f r.1,g r.2]
def eT3 {α β γ:Type}(f:α->A)(g:β->A)(h:γ->A)(r:α×β×γ):A:=.tup [f r.1,g r.2.1,h r.2.2]
def zic {ρ:Type}(k:Nat)(er:ρ->A)(F:Option ρ)(g:List Bool:=[]):yg:=spF (α:=Unit) k (λ_=>[]) er (λ_=>F) g λ_ _ _=>rfl
section
variable {α β γ δ ε ρ:Type}
noncomputable abbrev Inj (f:α->A):Prop:=∀x y,f x=f y->x=y
def YZ (k:Nat)(e1:α->A)(er:ρ->A)(F:α->Option ρ)(g:List Bool:=[])(i1:Inj e1:=by exact uT.inj):yg:=spF k (λx=>[e1 x]) er F g λx y h=>i1 _ _ (List.cons.inj h).1
def Zs (k:Nat)(e1:α->A)(e2:β->A)(er:ρ->A)(F:α->β->Option ρ)(g:List Bool:=[])(i1:Inj e1:=by exact uT.inj)(i2:Inj e2:=by exact uT.inj):yg:=spF (α:=α×β) k (λx=>[e1 x.1,e2 x.2]) er (λx=>F x.1 x.2) g λx y h=>by simp at h;exact Prod.ext (i1 _ _ h.1) (i2 _ _ h.2)
def z2A (k:Nat)(e1:α->A)(e2:β->A)(e3:γ->A)(er:ρ->A)(F:α->β->γ->Option ρ)(g:List Bool:=[])(i1:Inj e1:=by exact uT.inj)(i2:Inj e2:=by exact uT.inj)(i3:Inj e3:=by exact uT.inj):yg:=spF (α:=α×β×γ) k (λx=>[e1 x.1,e2 x.2.1,e3 x.2.2]) er (λx=>F x.1 x.2.1 x.2.2) g λx y h=>by simp at h;exact Prod.ext (i1 _ _ h.1) (Prod.ext (i2 _ _ h.2.1) (i3 _ _ h.2.2))
def zib (k:Nat)(e1:α->A)(e2:β->A)(e3:γ->A)(e4:δ->A)(er:ρ->A)(F:α->β->γ->δ->Option ρ)(g:List Bool:=[])(i1:Inj e1:=by exact uT.inj)(i2:Inj e2:=by exact uT.inj)(i3:Inj e3:=by exact uT.inj)(i4:Inj e4:=by exact uT.inj):yg:=spF (α:=α×β×γ×δ) k (λx=>[e1 x.1,e2 x.2.1,e3 x.2.2.1,e4 x.2.2.2]) er (λx=>F x.1 x.2.1 x.2.2.1 x.2.2.2) g λx y h=>by simp at h;exact Prod.ext (i1 _ _ h.1) (Prod.ext (i2 _ _ h.2.1) (Prod.ext (i3 _ _ h.2.2.1) (i4 _ _ h.2.2.2)))
variable {X:XH prog}{l:List yg}[H:HS X l]{k:Nat}{e1:α->A}{e2:β->A}{e3:γ->A}{e4:δ->A}{er:ρ->A}{g:List Bool}{i1:Inj e1}{i2:Inj e2}{i3:Inj e3}{i4:Inj e4}{a:α}{b:β}{c:γ}{d:δ}{r:ρ}{vs:List A}{F0:Option ρ}{F1:α->Option ρ}{F2:α->β->Option ρ}{F3:α->β->γ->Option ρ}{F4:α->β->γ->δ->Option ρ}
noncomputable abbrev zx (Y:XH prog):HS Y l:=⟨H.c,H.ok,H.has⟩
noncomputable abbrev zd {Y m}(n:Nat)(h:l.drop n=m:=by rfl):HS Y m:=⟨H.c,H.ok,λt q=>H.has t (rH (h ▸ q))⟩
noncomputable abbrev za {Y:XH prog}(s:yg)(hs:s.Ok prog)(h:((l.map yg.k).contains s.k)=false:=by kernel_rfl):HS Y (s::l):=⟨H.c.add s,Ctr.add_ok H.ok hs,λt q=>(pm.1 q).elim (λe=>e ▸ Ctr.add_has _ _) λq=>(H.has t q).add (zkz h t q)⟩
def hat (i:Nat){s:yg}(h:l[i]?=some s:=by rfl):H.c.Has s:=H.has s (pD h)
def Hk (g:List Bool){k:Nat}{vs:List A}{r:A}(zg:H.c.gives k=g)(h:H.c.run k (H.c.norm k vs)=some r):HO:=([.g g,.a r],[ob zg,ob h])
def zg (i:Nat){s:yg}(h:l[i]?=some s:=by rfl):HO:=Hg (hat i h).gives
noncomputable abbrev zR [H:HS X l](k:Nat)(vs:List A)(r:A):Prop:=H.c.run k (H.c.norm k vs)=some r
def zf0 (i:Nat)(hr:F0=some r)(za:vs.map A.loose=[])(h:l[i]?=some (zic k er F0 g):=by rfl):zR k vs (er r):=zig (x:=()) (hat i h) hr za
def zf1 (i:Nat)(hr:F1 a=some r)(za:vs.map A.loose=[e1 a])(h:l[i]?=some (YZ k e1 er F1 g i1):=by rfl):zR k vs (er r):=zig (hat i h) hr za
def zf2 (i:Nat)(hr:F2 a b=some r)(za:vs.map A.loose=[e1 a,e2 b])(h:l[i]?=some (Zs k e1 e2 er F2 g i1 i2):=by rfl):zR k vs (er r):=zig (x:=(a,b)) (hat i h) hr za
def zf3 (i:Nat)(hr:F3 a b c=some r)(za:vs.map A.loose=[e1 a,e2 b,e3 c])(h:l[i]?=some (z2A k e1 e2 e3 er F3 g i1 i2 i3):=by rfl):zR k vs (er r):=zig (x:=(a,b,c)) (hat i h) hr za
def zf4 (i:Nat)(hr:F4 a b c d=some r)(za:vs.map A.loose=[e1 a,e2 b,e3 c,e4 d])(h:l[i]?=some (zib k e1 e2 e3 e4 er F4 g i1 i2 i3 i4):=by rfl):zR k vs (er r):=zig (x:=(a,b,c,d)) (hat i h) hr za
def zC0 (i:Nat)(hr:F0=some r)(h:l[i]?=some (zic k er F0 g):=by rfl):HO:=Hk g (Kl (hat i h)) (zf0 i hr loN h)
def zC1 (i:Nat)(hr:F1 a=some r)(h:l[i]?=some (YZ k e1 er F1 g i1):=by rfl)(za:[e1 a].map A.loose=[e1 a]:=by exact loC _ _ loN):HO:=Hk g (Kl (hat i h)) (zf1 i hr za h)
def zC2 (i:Nat)(hr:F2 a b=some r)(h:l[i]?=some (Zs k e1 e2 er F2 g i1 i2):=by rfl)(za:[e1 a,e2 b].map A.loose=[e1 a,e2 b]:=by exact loC _ _ (loC _ _ loN)):HO:=Hk g (Kl (hat i h)) (zf2 i hr za h)
def zC3 (i:Nat)(hr:F3 a b c=some r)(h:l[i]?=some (z2A k e1 e2 e3 er F3 g i1 i2 i3):=by rfl)(za:[e1 a,e2 b,e3 c].map A.loose=[e1 a,e2 b,e3 c]:=by exact loC _ _ (loC _ _ (loC _ _ loN))):HO:=Hk g (Kl (hat i h)) (zf3 i hr za h)
def zC4 (i:Nat)(hr:F4 a b c d=some r)(h:l[i]?=some (zib k e1 e2 e3 e4 er F4 g i1 i2 i3 i4):=by rfl)(za:[e1 a,e2 b,e3 c,e4 d].map A.loose=[e1 a,e2 b,e3 c,e4 d]:=by exact loC _ _ (loC _ _ (loC _ _ (loC _ _ loN)))):HO:=Hk g (Kl (hat i h)) (zf4 i hr za h)
include H in
def zk2 (i:Nat)(hr:F2 a b=some r)(h:l[i]?=some (Zs k e1 e2 er F2 g i1 i2):=by rfl):uR prog k [e1 a,e2 b] (er r):=zhz H.ok (hat i h) (x:=(a,b)) hr
variable {fn:Func}{pn:List (Nat×Value)}{n:Fr}{Q:Exit->St->Prop}{c:Code}{fs:List Fm}{st:St}{σ τ:Type}{J:St->Prop}
noncomputable abbrev hEt (keep:Bool)(rs:List (Nat×TD))(r:A)(E:St->Prop):Prop:=∀st x R U,zie wZ keep rs st=some (x,R,U)->LeV x r->E st
noncomputable abbrev zN (fn:Func)(pn:List (Nat×Value)):Fr:=⟨fn.ntmps,pn⟩
noncomputable abbrev zW (fn:Func)(pn:List (Nat×Value))(Q:Exit->St->Prop)(c:Code)(fs:List Fm)(s:St):Prop:=AWP prog (zN fn pn) c s (Qf prog (zN fn pn) fs Q)
def zOk (f:Func)(n:Nat):Bool:=f.body.isSome && !(f.name == "runtime.NumGoroutine")&&Nat.ble n f.ntmps
noncomputable abbrev zB (keep:Bool)(fn:Func)(r:A)(vs:List A):Prop:=∀E,hEt keep (rsO fn) r E->zW fn [] (zft E) (zbd fn) [] (ofL (z9f 0 vs))
def ySp {k:Nat}{r:A}{ls:List A}(keep:Bool)(hf:prog.funcs[k]?=some fn)(h:zB keep fn r ls){m:Nat}(hz:zOk fn m=true)(hm:ls.length=m):uR prog k ls r:=by subst hm;simp only[zOk,pE,nE]at hz;obtain⟨b,hb⟩:=nJ.1 hz.1.1;exact zeP (tt:=wZ) (keep:=keep) (rs:=rsO fn) (n:=⟨fn.ntmps,[]⟩) (body:=zbd fn) zl hf hz.1.2 (by simp[zbd,hb]) rfl (zjW fn) (Nat.le_of_ble_eq_true hz.2) h
def zY {k:Nat}{r:A}{ls:List A}(keep:Bool)(hf:prog.funcs[k]?=some fn)(h:zB keep fn r ls)(hz:zOk fn ls.length=true:=by kernel_rfl):uR prog k ls r:=ySp keep hf h hz rfl
def zO1 (h:∀a r,F1 a=some r->uR prog k [e1 a] (er r)):(YZ k e1 er F1 g i1).Ok prog:=WU λx r q=>h x r q
def zO2 (h:∀a b r,F2 a b=some r->uR prog k [e1 a,e2 b] (er r)):(Zs k e1 e2 er F2 g i1 i2).Ok prog:=WU λx r q=>h x.1 x.2 r q
def zO3 (h:∀a b c r,F3 a b c=some r->uR prog k [e1 a,e2 b,e3 c] (er r)):(z2A k e1 e2 e3 er F3 g i1 i2 i3).Ok prog:=WU λx r q=>h x.1 x.2.1 x.2.2 r q
def zO4 (h:∀a b c d r,F4 a b c d=some r->uR prog k [e1 a,e2 b,e3 c,e4 d] (er r)):(zib k e1 e2 e3 e4 er F4 g i1 i2 i3 i4).Ok prog:=WU λx r q=>h x.1 x.2.1 x.2.2.1 x.2.2.2 r q
def yS0 (keep:Bool)(hf:prog.funcs[k]?=some fn)(h:∀r,F0=some r->zB keep fn (er r) [])(hz:zOk fn 0=true:=by kernel_rfl):(zic k er F0 g).Ok prog:=WU λ_ r q=>ySp keep hf (h r q) hz rfl
def yS1 (keep:Bool)(hf:prog.funcs[k]?=some fn)(h:∀a r,F1 a=some r->zB keep fn (er r) [e1 a])(hz:zOk fn 1=true:=by kernel_rfl):(YZ k e1 er F1 g i1).Ok prog:=zO1 λa r q=>ySp keep hf (h a r q) hz rfl
def yS2 (keep:Bool)(hf:prog.funcs[k]?=some fn)(h:∀a b r,F2 a b=some r->zB keep fn (er r) [e1 a,e2 b])(hz:zOk fn 2=true:=by kernel_rfl):(Zs k e1 e2 er F2 g i1 i2).Ok prog:=zO2 λa b r q=>ySp keep hf (h a b r q) hz rfl
def yS3 (keep:Bool)(hf:prog.funcs[k]?=some fn)(h:∀a b c r,F3 a b c=some r->zB keep fn (er r) [e1 a,e2 b,e3 c])(hz:zOk fn 3=true:=by kernel_rfl):(z2A k e1 e2 e3 er F3 g i1 i2 i3).Ok prog:=zO3 λa b c r q=>ySp keep hf (h a b c r q) hz rfl
def yS4 (keep:Bool)(hf:prog.funcs[k]?=some fn)(h:∀a b c d r,F4 a b c d=some r->zB keep fn (er r) [e1 a,e2 b,e3 c,e4 d])(hz:zOk fn 4=true:=by kernel_rfl):(zib k e1 e2 e3 e4 er F4 g i1 i2 i3 i4).Ok prog:=zO4 λa b c d r q=>ySp keep hf (h a b c d r q) hz rfl
section
variable {E:St->Prop}{r:A}{keep:Bool}{rs:List (Nat×TD)}(hE:hEt keep rs r E)(L:List HO)
noncomputable abbrev zrE [H:HS X l](n:Fr)(keep:Bool)(rs:List (Nat×TD))(c:Code)(fs:List Fm)(st:St)(L:List HO):=zm6 X wZ H.c n keep rs 4000 c fs st (hoH L)
include hE in
theorem yEx (x:A)(hle:LeV x r)(e:zrE n keep rs c fs st L=some (x,hoO L):=by kernel_rfl):AWP prog n c st (Qf prog n fs (zft E)):=zl5 X zl H.ok z83 hE 4000 (hoB L) (by rw[<-z8n];exact e) hle
include hE in
theorem yE (e:zrE n keep rs c fs st L=some (r,hoO L):=by kernel_rfl):AWP prog n c st (Qf prog n fs (zft E)):=yEx hE L r (LeV.refl _) e
def vE (r:Option (A×List Prop)):A:=match r with|some (x,_)=>x|none=>.dead 0
include hE in
theorem yEl (e:zrE n keep rs c fs st L=some (vE (zrE n keep rs c fs st L),hoO L):=by kernel_rfl)(e2:(vE (zrE n keep rs c fs st L)).loose=r:=by kernel_rfl):AWP prog n c st (Qf prog n fs (zft E)):=yEx hE L _ ⟨λ_ _ _ _ q=>e2 ▸ q.loose⟩ e
end
noncomputable abbrev zzq [H:HS X l](n:Fr)(ks:TC)(c:Code)(fs:List Fm)(st:St)(L:List HO):=zm5 X wZ H.c n ks 4000 c fs st (hoH L)
def yW {ks:TC}{s:z8J}{s0:St}(L:List HO)(e:zzq n ks c fs st L=some (s,s0,hoO L))(h:∀st0,canon ks st0=s0->s.sem prog n Q st0):AWP prog n c st (Qf prog n fs Q) :=
 zhW X zl H.ok z83 ks 4000 (hoB L) (by rw[<-z8n];exact e) h
noncomputable abbrev hJt (ks:TC)(J:St->Prop)(Inv:τ->Prop)(S:τ->List (Nat×T)):Prop:=∀st' l' z,Inv z->Own.canon ks st'=ofL l'->LeL l' (S z)->J st'
variable {live:TC}{S:τ->List (Nat×T)}{Inv:τ->Prop}
def yBx (hJ:hJt live J Inv S)(z:τ)(hz:Inv z)(l:List (Nat×T))(hl:LeL l (S z))(L:List HO)(e:zzq n live c fs st L=some (.back J,ofL l,hoO L):=by kernel_rfl):AWP prog n c st (Qf prog n fs Q):=yW L e λst0 h0=>hJ st0 _ z hz h0 hl
def yB (hJ:hJt live J Inv S)(z:τ)(hz:Inv z)(L:List HO)(e:zzq n live c fs st L=some (.back J,ofL (S z),hoO L):=by kernel_rfl):AWP prog n c st (Qf prog n fs Q):=yBx hJ z hz _ (LeL.refl _) L e
def yF (ex:Exit)(l:List (Nat×T))(L:List HO)(h:∀st0,Own.canon (z0P l) st0=ofL l->Q ex st0)(e:zzq n (z0P l) c fs st L=some (.fin ex,ofL l,hoO L):=by kernel_rfl):AWP prog n c st (Qf prog n fs Q):=yW L e h
def yAt (c':Code)(fs':List Fm)(l:List (Nat×T))(L:List HO)(h:∀st0,Own.canon (z0P l) st0=ofL l->AWP prog n c' st0 (Qf prog n fs' Q))(e:zzq n (z0P l) c fs st L=some (.at c' fs',ofL l,hoO L):=by kernel_rfl):AWP prog n c st (Qf prog n fs Q):=yW L e h
def yD (i:Nat)(L:TC){k:Nat}{xs0:List A}{ls:List (Value×A)}{pv:Value}(hd:KE prog k xs0 ls pv)(xs:List A)(hx:Qm xs xs0)(Lh:List HO)(hQ:∀st',Q (.panic (k8 pv)) st')(e:zmJ X wZ H.c n c i L st (hoH Lh)=some ([.fn k []],xs,ls,hoO Lh):=by kernel_rfl):AWP prog n c st (Qf prog n fs Q):=yD6 X zl H.ok i L hd xs hx Lh e hQ
def yP (i:Nat){T:Nat}{v:Value}(Lh:List HO)(hQ:∀st',Q (.panic (k8 (.iface T v))) st')(e:zmd X wZ H.c n c i st (hoH Lh)=some (.atom (.iface T v),hoO Lh):=by kernel_rfl):AWP prog n c st (Qf prog n fs Q):=yP6 X zl H.ok i Lh e hQ
def dgL (n:Nat):TC:=Nat.rec (motive:=λ_=>Nat->TC->TC) (λ_ l=>l) (λ_ ih m l=>if m<10 then l else ih (m / 10) (m % 10::l)) 40 n []
noncomputable instance (n:Nat):OfNat TC n:=⟨dgL n⟩
noncomputable abbrev zzt (p:TC)(d:Nat)(fn:Func):Code:=sub (p++[d]) (zbd fn)
noncomputable abbrev zzp (p:TC)(fn:Func):Code:=sub p (zbd fn)
noncomputable abbrev zzm (p:TC)(Js:List (St->Prop))(fn:Func):=frs p Js (zbd fn) []
noncomputable abbrev zzr [H:HS X l](fn:Func)(pn:List (Nat×Value))(ks:TC)(c:Code)(fs:List Fm)(st:St)(L:List HO):=zzq (zN fn pn) ks c fs st L
noncomputable abbrev zzs [H:HS X l](fn:Func)(pn:List (Nat×Value))(ks:TC)(c:Code)(fs:List Fm)(st:St)(L:List HO):St:=stO (zzr fn pn ks c fs st L)
noncomputable abbrev zzu (p:TC)(Js:List (St->Prop))(fn:Func)(s:St)(L:List HO):Option (z8J×St×List Prop):=some (.at (zzp p fn) (zzm p Js fn),s,hoO L)
noncomputable abbrev zzv (fn:Func)(pn:List (Nat×Value))(Q:Exit->St->Prop)(p:TC)(Js:List (St->Prop))(Inv:σ->Prop)(S:σ->St):Prop:=∀z,Inv z->zW fn pn Q (zzt p 1 fn) (zzm p Js fn) (S z)
noncomputable abbrev zzw (fn:Func)(pn:List (Nat×Value))(Q:Exit->St->Prop)(p:TC)(Js:List (St->Prop))(live:TC)(Inv:σ->Prop)(S:σ->List (Nat×T))(s:St):Prop:=∀J:St->Prop,hJt live J Inv S->zW fn pn Q (zzt p 2 fn) (.pre J::zzm p Js fn) s
noncomputable abbrev rdT (fn:Func)(pn:List (Nat×Value))(Q:Exit->St->Prop)(p:TC)(Js:List (St->Prop))(ks:TC)(f:σ->Option (LR σ τ))(t:τ)(S:σ->List (Nat×T)):Prop:=∀x m lr,f x=some lr->zol f m t lr->∀J:St->Prop,hJt ks J (λx'=>QX f m x'=some t) S->zW fn pn Q (zzt p 0 fn) (.pre J::zzm p Js fn) (ofL (S x))
variable (path:TC)(Js:List (St->Prop))
theorem yC (ks:TC)(L:List HO)(h:zW fn pn Q (zzp path fn) (zzm path Js fn) (zzs fn pn ks c fs st L))(e:zzr fn pn ks c fs st L=zzu path Js fn (zzs fn pn ks c fs st L) L:=by kernel_rfl):zW fn pn Q c fs st:=yW L e λst0 h0=>AWP.canon ks (by rw[h0];exact h)
theorem yA (l:List (Nat×T))(L:List HO)(h:zW fn pn Q (zzp path fn) (zzm path Js fn) (ofL l))(e:zzr fn pn (z0P l) c fs st L=zzu path Js fn (ofL l) L:=by kernel_rfl):zW fn pn Q c fs st:=yW L e λst0 h0=>z35 h0 h
section
variable {f:σ->Option (LR σ τ)}{t:τ}
theorem yLx (f:σ->Option (LR σ τ))(S:σ->List (Nat×T))(x0:σ){t:τ}(ht:loop f x0=some t)(l:List (Nat×T))(hl:LeL l (S x0))(L:List HO)(round:rdT fn pn Q path Js (z0P l) f t S)(e:zzr fn pn (z0P l) c fs st L=zzu path Js fn (ofL l) L:=by kernel_rfl)(e2:zzp path fn=.loop (zzt path 0 fn):=by kernel_rfl)(hk:∀x,z0P (S x)=z0P l:=by exact λ_=>rfl):zW fn pn Q c fs st:=by refine yW L e λst0 h0=>?_;refine zeW (X:=σ×Nat) e2 (z0P l) (λx=>QX f x.2 x.1=some t) (λx=>x.2) (λx=>S x.1) (x0,VL) _ h0 hl ht ?_;rintro⟨x,k⟩ hx J hJ;obtain⟨m,lr,rfl,hf,hr⟩:=zml hx;exact round x m lr hf hr J λst' l' x' h1 h2 h3=>hJ st' l' (x',m) h1 (gF m) h2 h3
theorem yL (f:σ->Option (LR σ τ))(S:σ->List (Nat×T))(x0:σ){t:τ}(ht:loop f x0=some t)(L:List HO)(round:rdT fn pn Q path Js (z0P (S x0)) f t S)(e:zzr fn pn (z0P (S x0)) c fs st L=zzu path Js fn (ofL (S x0)) L:=by kernel_rfl)(e2:zzp path fn=.loop (zzt path 0 fn):=by kernel_rfl)(hk:∀x,z0P (S x)=z0P (S x0):=by exact λ_=>rfl):zW fn pn Q c fs st:=yLx path Js f S x0 ht _ (LeL.refl _) L round e e2 hk
variable (ks:TC)(dl:σ->List (Nat×T)){x0:σ}
theorem yM (ht:loop f x0=some t)(L:List HO)(round:rdT fn pn Q path Js ks f t λx=>clS ks (zzs fn pn ks c fs st L) (dl x))(e:zzr fn pn ks c fs st L=zzu path Js fn (ofL (clS ks (zzs fn pn ks c fs st L) (dl x0))) L:=by kernel_rfl)(e2:zzp path fn=.loop (zzt path 0 fn):=by kernel_rfl):zW fn pn Q c fs st:=by
 have hk:∀x,z0P (clS ks (zzs fn pn ks c fs st L) (dl x))=ks:=λx=>z8f _ _ _;refine yLx path Js f (λx=>clS ks (zzs fn pn ks c fs st L) (dl x)) x0 ht _ (LeL.refl _) L ?_ (by rw[hk];exact e) e2 λx=>by rw[hk,hk]
 rw[hk];exact round
theorem yMb {ρ':Type}{k:τ->Option ρ'}{r:ρ'}(hb:Option.bind (loop f x0) k=some r)(L:List HO)(round:∀t,k t=some r->rdT fn pn Q path Js ks f t λx=>clS ks (zzs fn pn ks c fs st L) (dl x))(e:zzr fn pn ks c fs st L=zzu path Js fn (ofL (clS ks (zzs fn pn ks c fs st L) (dl x0))) L:=by kernel_rfl)(e2:zzp path fn=.loop (zzt path 0 fn):=by kernel_rfl):zW fn pn Q c fs st:=by obtain⟨t,ht,h⟩:=zy hb;exact yM path Js ks dl ht L (round t h) e e2
def okT:T->Bool
 | .own _|.d _|.gone=>true
 | .als _ p _ _=>p.isEmpty
 | _=>false
theorem zkf {x:T}(h:okT x=true):LeT x x:=by
 cases x with
 | own x=>exact⟨x,rfl,inferInstance⟩
 | d x=>exact⟨x,rfl,inferInstance⟩
 | gone=>rfl
 | als r p er ec=>cases p with
  | nil=>exact⟨rfl,rfl⟩
  | cons a p=>cases h
 | _=>cases h
theorem zfO {s:St}:∀{d d':List (Nat×T)},z1a d d'->z0P d=z0P d'->∀{ks:TC},(ks.all λk=>okT (s k).t)=true->z1a (clS ks s d) (clS ks s d')
 | _,_,_,_,[],_=>z1a.nil
 | d,d',hd,hk,k::ks,h=>by
  simp only[List.all_cons,pE]at h;refine z1a.cons' ?_ (zfO hd hk h.2);have q:=(hd.ent k).2.2;clear hd;induction d generalizing d' with
  | nil=>cases d' with
   | nil=>exact zkf h.1
   | cons y d'=>cases hk
  | cons x d ih=>cases d' with
   | nil=>cases hk
   | cons y d'=>
    simp only[z0P,gB,List.cons.injEq]at hk;simp only[ofL,hk.1]at q;simp only[List.lookup,hk.1];by_cases e:k=y.1
    ·subst e;simpa using q
    simp only[e,if_false]at q;rw[show(k==y.1)=false by simpa using e];exact ih _ hk.2 q
theorem yMx (ht:loop f x0=some t)(d0:List (Nat×T))(L:List HO)(round:rdT fn pn Q path Js ks f t λx=>clS ks (zzs fn pn ks c fs st L) (dl x))(e:zzr fn pn ks c fs st L=zzu path Js fn (ofL (clS ks (zzs fn pn ks c fs st L) d0)) L:=by kernel_rfl)(e2:zzp path fn=.loop (zzt path 0 fn):=by kernel_rfl)(ho:(ks.all λk=>okT (zzs fn pn ks c fs st L k).t)=true:=by kernel_rfl)(hk:z0P d0=z0P (dl x0):=by rfl)(hd:z1a d0 (dl x0):=by infer_instance):zW fn pn Q c fs st:=by
 have hk:∀d,z0P (clS ks (zzs fn pn ks c fs st L) d)=ks:=λd=>z8f _ _ _;refine yLx path Js f (λx=>clS ks (zzs fn pn ks c fs st L) (dl x)) x0 ht (clS ks (zzs fn pn ks c fs st L) d0) ⟨.inr (zfO hd ‹_› ho)⟩ L ?_ (by rw[hk];exact e) e2 λx=>by rw[hk,hk]
 rw[hk];exact round
end
noncomputable abbrev zI {ρ:Type}(F:σ->Option ρ)(r:ρ)(z:σ):Prop:=F z=some r
variable (live:TC)(Inv:σ->Prop)(S:σ->List (Nat×T))
theorem yK (ks:TC)(L:List HO)(h1:zzv fn pn Q path Js Inv λz=>ofL (S z))(h2:zzw fn pn Q path Js live Inv S (zzs fn pn ks c fs st L))(e:zzr fn pn ks c fs st L=zzu path Js fn (zzs fn pn ks c fs st L) L:=by kernel_rfl)(e2:zzp path fn=.seq (zzt path 2 fn) (zzt path 1 fn):=by kernel_rfl):zW fn pn Q c fs st:=by refine yW L e λst0 h0=>?_;show AWP prog _ (zzp path fn) st0 _;rw[e2];refine AWP.canon ks ?_;rw[h0];refine AWP.nextC live λK hK=>h2 K λst' l' z hz he hl=>hK st' ?_;rw[he];exact zeX hl (h1 z hz)
theorem yJ (l:List (Nat×T))(L:List HO)(h1:zzv fn pn Q path Js Inv λz=>ofL (S z))(h2:zzw fn pn Q path Js live Inv S (ofL l))(e:zzr fn pn (z0P l) c fs st L=zzu path Js fn (ofL l) L:=by kernel_rfl)(e2:zzp path fn=.seq (zzt path 2 fn) (zzt path 1 fn):=by kernel_rfl):zW fn pn Q c fs st:=yW L e λst0 h0=>zeY e2 live (z0P l) _ h0 Inv S h1 h2
theorem yN (ks:TC)(L:List HO)(h1:zzv fn pn Q path Js Inv λz=>ofL (clS live (zzs fn pn ks c fs st L) (S z)))(h2:zzw fn pn Q path Js live Inv (λz=>clS live (zzs fn pn ks c fs st L) (S z)) (zzs fn pn ks c fs st L))(e:zzr fn pn ks c fs st L=zzu path Js fn (zzs fn pn ks c fs st L) L:=by kernel_rfl)(e2:zzp path fn=.seq (zzt path 2 fn) (zzt path 1 fn):=by kernel_rfl):zW fn pn Q c fs st:=yK path Js live Inv _ ks L h1 h2 e e2
theorem yNs (L:List HO)(h1:zzv fn pn Q path Js Inv λz=>ofL (clS live (zzs fn pn live c fs st L) (S z)))(h2:zzw fn pn Q path Js live Inv (λz=>clS live (zzs fn pn live c fs st L) (S z)) (zzs fn pn live c fs st L))(e:zzr fn pn live c fs st L=zzu path Js fn (zzs fn pn live c fs st L) L:=by kernel_rfl)(e2:zzp path fn=.seq (zzt path 2 fn) (zzt path 1 fn):=by kernel_rfl):zW fn pn Q c fs st:=yK path Js live Inv _ live L h1 h2 e e2
theorem yKs (L:List HO)(h1:zzv fn pn Q path Js Inv λz=>ofL (S z))(h2:zzw fn pn Q path Js live Inv S (zzs fn pn live c fs st L))(e:zzr fn pn live c fs st L=zzu path Js fn (zzs fn pn live c fs st L) L:=by kernel_rfl)(e2:zzp path fn=.seq (zzt path 2 fn) (zzt path 1 fn):=by kernel_rfl):zW fn pn Q c fs st:=yK path Js live Inv S live L h1 h2 e e2
end
def Hb {t b:Bool}{p:Prop}(h:t=b/\p):HO:=Hq h.1
noncomputable instance {t b:Bool}{p:Prop}(h:t=b/\p):CoeDep (t=b/\p) h HO:=⟨Hb h⟩
def yf {α β γ:Type}{x:Option α}{f:α->Option β}{g:α->β->Option γ}{r:γ}(h:Option.bind x (λu=>Option.bind (f u) (g u))=some r):∃u,x=some u/\∃v,f u=some v/\g u v=some r:=by obtain⟨u,h,q⟩:=zy h;exact⟨u,h,zy q⟩
def ZZ {α β γ δ:Type}{x:Option α}{f:α->Option β}{g:α->β->Option γ}{k:α->β->γ->Option δ}{r:δ}(h:Option.bind x (λu=>Option.bind (f u) λv=>Option.bind (g u v) (k u v))=some r):∃u,x=some u/\∃v,f u=some v/\∃w,g u v=some w/\k u v w=some r:=by obtain⟨u,h,q⟩:=zy h;exact⟨u,h,yf q⟩
def z7m {α β γ δ ε:Type}{x:Option α}{f:α->Option β}{g:α->β->Option γ}{k:α->β->γ->Option δ}{l:α->β->γ->δ->Option ε}{r:ε}(h:Option.bind x (λu=>Option.bind (f u) λv=>Option.bind (g u v) λw=>Option.bind (k u v w) (l u v w))=some r):∃u,x=some u/\∃v,f u=some v/\∃w,g u v=some w/\∃y,k u v w=some y/\l u v w y=some r:=by obtain⟨u,h,q⟩:=zy h;exact⟨u,h,ZZ q⟩
def zhR {α β γ δ ε ζ:Type}{x:Option α}{f:α->Option β}{g:α->β->Option γ}{k:α->β->γ->Option δ}{l:α->β->γ->δ->Option ε}{m:α->β->γ->δ->ε->Option ζ}{r:ζ}(h:Option.bind x (λu=>Option.bind (f u) λv=>Option.bind (g u v) λw=>Option.bind (k u v w) λy=>Option.bind (l u v w y) (m u v w y))=some r):∃u,x=some u/\∃v,f u=some v/\∃w,g u v=some w/\∃y,k u v w=some y/\∃z,l u v w y=some z/\m u v w y z=some r:=by obtain⟨u,h,q⟩:=zy h;exact⟨u,h,z7m q⟩
def zgU:zlx prog 22 9:=zgC (e:=5) underlying22 underlying5 underlying9
def zaH:zc8 prog 218 9 4 z4t (.atom (.bool false)):=ze0 underlying218 underlying9 ⟨.bool false,λw=>z7t (f:=Tryz.t4) (by kernel_rfl) rfl w,λS=>yX.2 ⟨rfl,rfl⟩⟩ rfl
def z5V:zc8 prog 254 259 3 (z9a [.i64,.i64,.i64,.i64,.i64,.i64,.i64,.i64,.i64,.i64,.i64,.i64,.i64,.i64,.i64,.i64,.i64,.i64,.i64,.i64,.i64,.i64,.i64,.i64,.i64,.i64,.i64,.i64,.i64,.i64,.i64,.i64,.i64]) (.atom (.int .i64 0)):=ze1 underlying254 _ underlying259 (exq Go.Ex.znI) (z7w.eqn rfl) rfl ⟨.int .i64 0,λw=>z7t (f:=Tryz.t3) (by kernel_rfl) rfl w,λS=>yX.2 ⟨rfl,rfl⟩⟩ rfl
def zhB:z8N prog 99 0 3 0:=zbn underlying99 _ rfl rfl rfl
def zjH:zi5 prog 136 1 false:=zdr zl (t:=51) Tryz.so136 rfl rfl (by kernel_rfl) (by decide)
def l0:List yg:=[]
abbrev rY:=eI .i64
def l1:List yg:=Zs 68 F6_ rY rY Ys::l0
def z2V [H:HS X0 l0]:OkH l1:=yS2 true func68 λl_ k_ r0 aa E hE=>by
 obtain c0|c0:=zH aa
 ·obtain⟨bi,h0,aa⟩:=zy c0.2;cases aa;exact yE hE [Ha (lnM (eI .u16) l_),c0,Hi (eI .u16) h0]
 cases c0.2;exact yE hE [Ha (lnM (eI .u16) l_),c0]
def l2:List yg:=YZ 34 zon xQ QF::l1
def z5i [H:HS X0 l1]:OkH l2:=yS1 false func34 λx_ r0 aa E hE=>by
 let u0:=(w64 (1+(w64 (Int.tmod x_.Inputs 3))));let u1:=(w64 (1+(w64 (Int.tmod x_.Outputs 3))));let u2:=(w64 (1+(w64 (Int.tmod x_.States 6))));obtain⟨g0,aa⟩:=gdE aa;obtain⟨g1,aa⟩:=gdE aa;obtain⟨g2,aa⟩:=gdE aa;refine yNs 1111 [] [1,2,3,4] (zI (VJ x_) r0) (λz=>[(4,.own (.box (.agg [I u0,I u1,eOs 1 false YS z])))]) [Hn g0,Hn g1,Hn g2,Hh (.cut 3)] ?_ λJ1 ar=>?_
 ·rintro gj aa;refine yNs 11111 [] [1,2,3,4] (zI (VI x_) r0) (λz=>[(4,.own (.box (.agg [I u0,I u1,eOs 1 false YS z])))]) [Hh (.cut 0)] ?_ λJ2 au=>?_
  ·rintro bq aa;refine yN 111111 [] [2,4] (zI (VH x_) r0) (λz=>[(4,.own (.box (.agg [I u0,I u1,eOs 1 false YS z])))]) [1,2,3,4] [Hh (.cut 0)] ?_ λJ3 bg=>?_
   ·rintro cm aa;cases aa;exact yE hE [Hm (shM YS wv cm)]
   refine yMb 111111210 [J3] [1,2,3,4,13] (λx=>[(4,.own (.box (.agg [I u0,I u1,eOs 1 false YS x.1]))),(13,.d (I x.2))]) aa  [] λt4 aa ⟨gu,s_⟩ m4 av ae hl1 J4 db=>?_;obtain c0|c0:=zH ae
   ·refine yNs 11111121001 [J3,J4] [1,2,3,4,13] (zI (VG s_) av) (λz=>[(4,.own (.box (.agg [I u0,I u1,eOs 1 false YS z])))]) [c0,Hh (.cut 0)] ?_ λJ5 dc=>?_
    ·rintro gl ae;cases ae;exact yB db _ hl1 []
    refine yMb 111111210012010 [J3,J4,J5] [1,2,3,4,13,14] (λx=>[(4,.own (.box (.agg [I u0,I u1,eOs 1 false YS x.1]))),(14,.d (I x.2))]) c0.2  [] λt6 ae ⟨ik,i_⟩ m6 dj ah hl2 J6 ep=>?_;obtain c1|c1:=zH ah
    ·refine yNs 11111121001201001 [J3,J4,J5,J6] [1,2,3,4,13,14] (zI (Xb i_) dj) (λz=>[(4,.own (.box (.agg [I u0,I u1,eOs 1 false YS z])))]) [c1,Hh (.cut 0)] ?_ λJ7 gw=>?_
     ·rintro mg ah;cases ah;exact yB ep _ hl2 []
     obtain⟨pj,h0,om,h1,ah⟩:=yf c1.2;let Z0:List HO:=[Hn (iL YS h0),Hs (iM YS h0),Hs (iM YS h0),Hn (iL uS h1),Hs (iM YS h0),Hs (iM uS h1),Hs (iM YS h0),Hs (iM uS h1)];obtain c2|c2:=zH ah
     ·obtain⟨k0,h2,r_,h3,ah⟩:=yf c2.2;obtain⟨g3,ah⟩:=gdE ah;obtain⟨kr,h4,ah⟩:=zy ah;exact yB gw (ik.set s_.toNat (k0.set i_.toNat (z8.mk (Int.tmod r_ u2) kr.Out))) ah (Z0++[c2,Hn (iL YS h2),Hs (iM YS h2),zC2 0 h3,Hn g3,Hs (iM YS h2),Hn (iL uS h4),Hs (iM YS h2),Hs (iM uS h4),Hs (iM YS h2),Hs (iM uS h4),Hs (iM YS h2),Hs (iM uS h4),Hl (sM uS k0 i_ (z8.mk (Int.tmod r_ u2) kr.Out)),Hl (sM YS ik s_ (k0.set i_.toNat (z8.mk (Int.tmod r_ u2) kr.Out)))])
     exact yB gw ik c2.2 (Z0++[c2])
    cases c1.2;cases hl2;exact yB dc ik ae [c1]
   cases c0.2;cases hl1;exact yB bg gu aa [c0]
  refine yMb 11111210 [J2] [1,2,3,4,9] (λx=>[(4,.own (.box (.agg [I u0,I u1,eOs 1 false YS x.1]))),(9,.d (I x.2))]) aa  [] λt8 aa ⟨cn,bk⟩ m8 av ae hl1 J8 lq=>?_;obtain c3|c3:=zH ae
  ·refine yNs 1111121001 [J2,J8] [1,2,3,4,9] (zI (VF bk) av) (λz=>[(4,.own (.box (.agg [I u0,I u1,eOs 1 false YS z])))]) [c3,Hh (.cut 0)] ?_ λJ9 qe=>?_
   ·rintro mh ae;cases ae;exact yB lq _ hl1 []
   refine yNs 1111121001201 [J2,J8,J9] [1,2,3,4,9,10] (zI (WF x_ cn bk) av) (λz=>[(10,.own (eOs 1 false rY z))]) [Hh (.cut 1)] ?_ λJ10 hJ10=>?_
   ·rintro free ae;obtain⟨nz,h5,ae⟩:=zy ae;refine yN 111112100120111 [J2,J8,J9] [1,2,3,4,9,12] (zI (uG x_ cn bk) av) (λz=>[(12,.d (I z))]) [1,2,3,4,9,10,12] [Hn (iL rY h5),Hs (iM rY h5),Hh (.cut 0)] ?_ λse pw=>?_
    ·rintro k_ ae;obtain⟨g4,ae⟩:=gdE ae;obtain⟨k9,h6,ae⟩:=zy ae;obtain⟨g5,ae⟩:=gdE ae;obtain⟨ku,h7,ae⟩:=zy ae;exact yB qe (cn.set (w64 (Int.tdiv k_ u0)).toNat (k9.set (Int.tmod k_ u0).toNat (z8.mk bk ku.Out))) ae [Hn g4,Hn (iL YS h6),Hs (iM YS h6),Hn g5,Hs (iM YS h6),Hn (iL uS h7),Hs (iM YS h6),Hs (iM uS h7),Hs (iM YS h6),Hs (iM uS h7),Hs (iM YS h6),Hs (iM uS h7),Hl (sM uS k9 (Int.tmod k_ u0) (z8.mk bk ku.Out)),Hl (sM YS cn (w64 (Int.tdiv k_ u0)) (k9.set (Int.tmod k_ u0).toNat (z8.mk bk ku.Out)))]
    let Z1:List HO:=[Ha (lnM (eI .u8) x_.Tree)];obtain c4|c4:=zH ae
    ·obtain⟨px,h8,ae⟩:=zy c4.2;obtain⟨g6,ae⟩:=gdE ae;obtain⟨ol,h9,ae⟩:=zy ae;exact yB pw ol ae (Z1++[c4,Hi (eI .u8) h8,Ha (lnM rY free),Hn g6,Hn (iL rY h9),Hs (iM rY h9)])
    exact yB pw nz c4.2 (Z1++[c4])
   obtain⟨t12,ht12,ae⟩:=zy c3.2;refine yMx 1111121001201210 [J2,J8,J9,J10] [1,2,3,4,9,10,11] (λx=>[(10,.own (eOs 1 false rY x.1)),(11,.d (I x.2))]) ht12 [(10,.own (eOs 1 true rY [])),(11,.d (I 0))] [] λ⟨ke,de⟩ sn dj ah hl2 sm si=>?_;obtain c5|c5:=zH ah
   ·refine yNs 111112100120121001 [J2,J8,J9,J10,sm] [1,2,3,4,9,10,11] (zI (Yd de) dj) (λz=>[(10,.own (eOs 1 false rY z))]) [c5,Hh (.cut 0)] ?_ λJ13 hJ13=>?_
    ·rintro n7 ah;cases ah;exact yB si _ hl2 []
    obtain⟨g7,ah⟩:=gdE c5.2;obtain⟨oy,h10,ah⟩:=zy ah;obtain⟨g8,ah⟩:=gdE ah;obtain⟨n8,h11,ah⟩:=zy ah;let Z2:List HO:=[Hn g7,Hn (iL YS h10),Hs (iM YS h10),Hn g8,Hs (iM YS h10),Hn (iL uS h11),Hs (iM YS h10),Hs (iM uS h11),Hs (iM YS h10),Hs (iM uS h11)];obtain c6|c6:=zH ah
    ·obtain⟨g9,ah⟩:=gdE c6.2;exact yB hJ13 (ke++[de]) ah (Z2++[c6,Hq (dM rY [de]),Hn (dM rY [de]),Hn (aL rY rY g9),Hl (aM rY ke [de])])
    exact yB hJ13 ke c6.2 (Z2++[c6])
   cases c5.2;cases hl2;exact yB hJ10 ke ae [c5]
  cases c3.2;cases hl1;exact yB au cn aa [c3]
 obtain⟨sa,ht14,aa⟩:=zy aa;refine yMx 1111210 [J1] [1,2,3,4,5] (λx=>[(4,.own (.box (.agg [I u0,I u1,eOs 1 false YS x.1]))),(5,.d (I x.2))]) ht14 [(4,.own (.box (.agg [I u0,I u1,eOs 1 true YS []]))),(5,.d (I 0))] [] λ⟨fe,da⟩ sp av ae hl1 r7 sj=>?_;obtain c7|c7:=zH ae
 ·refine yNs 111121001 [J1,r7] [1,2,3,4,5] (zI (WE da) av) (λz=>[(4,.own (.box (.agg [I u0,I u1,eOs 1 false YS z])))]) [c7,Hh (.cut 0)] ?_ λJ15 hJ15=>?_
  ·rintro lw ae;cases ae;exact yB sj _ hl1 []
  refine yNs 111121001201 [J1,r7,J15] [1,2,3,4,5,6] (zI (WD fe da) av) (λz=>[(6,.own (eOs 2 false uS z))]) [Hh (.cut 1)] ?_ λJ16 hJ16=>?_
  ·rintro row ae;obtain⟨g10,ae⟩:=gdE ae;exact yB hJ15 (fe++[row]) ae [Hq (oC YS row []),Hn (aL YS YS g10),Hl (aM YS fe [row])]
  obtain⟨t17,ht17,ae⟩:=zy c7.2;refine yMx 111121001201210 [J1,r7,J15,J16] [1,2,3,4,5,6,7] (λx=>[(6,.own (eOs 2 false uS x.1)),(7,.d (I x.2))]) ht17 [(6,.own (eOs 2 true uS [])),(7,.d (I 0))] [] λ⟨bu,fk⟩ m17 dj ah hl2 sq sk=>?_;obtain c8|c8:=zH ah
  ·obtain⟨ai,h12,ah⟩:=zy c8.2;obtain⟨g11,ah⟩:=gdE ah;obtain⟨g12,ah⟩:=gdE ah;obtain⟨g13,ah⟩:=gdE ah;cases ah;exact yB sk _ hl2 [c8,zC2 0 h12,Hn g11,Hn g12,Hq (dM uS ([(z8.mk (-1) (Int.tmod (w64 (Int.tdiv ai u2)) u1))]:List z8)),Hn (dM uS ([(z8.mk (-1) (Int.tmod (w64 (Int.tdiv ai u2)) u1))]:List z8)),Hn (aL uS uS g13),Hl (aM uS bu ([(z8.mk (-1) (Int.tmod (w64 (Int.tdiv ai u2)) u1))]:List z8))]
  cases c8.2;cases hl2;exact yB hJ16 bu ae [c8]
 cases c7.2;cases hl1;exact yB ar fe aa [c7]
def l3:List yg:=zib 85 xQ (eSl 1 false (eSl 1 false eB)) rY rY rY Vu::l2
def z3Z [H:HS X0 l2]:OkH l3:=yS4 true func85 λm_ bl s_ t_ r0 aa E hE=>by
 refine yK 11 [] [] (λz:Unit=>Ji=some r0) (λz=>[]) [1,2,3,4] [Hh (.cut 1)] ?_ λJ1 ar=>?_
 ·rintro⟨⟩ aa;cases aa;exact yE hE []
 refine yMb 11210 [J1] [1,2,3,4,9] (λx=>[(9,.d (I x))]) aa  [] λt2 aa i_ m2 av ae hl1 J2 au=>?_;obtain c0|c0:=zH ae
 ·refine yN 1121001 [J1,J2] [1,2,3,4,9,41,42,43,47,48,58] (λz:Int×Bool×Bool×Bool×Bool×Bool=>jI i_ z.1 z.2.1 z.2.2.1 z.2.2.2.1 z.2.2.2.2.1 z.2.2.2.2.2=some av) (λz=>[(41,.d (I z.1)),(42,.d (B z.2.1)),(43,.d (B z.2.2.1)),(47,.d (B z.2.2.2.1)),(48,.d (B z.2.2.2.2.1)),(58,.d (B z.2.2.2.2.2))]) [1,2,3,4,9] [c0,Hh (.cut 0)] ?_ λJ3 bg=>?_
  ·rintro⟨rc,re,my,rf,rg,oz⟩ ae;cases ae;exact yB au _ hl1 []
  obtain⟨ap,h0,al,h1,du,h2,bp,h3,ae⟩:=z7m c0.2;let Z0:List HO:=[Hi wv h0,Hi uS h1,Hi wv h2,Hi uS h3];obtain c1|c1:=zH ae
  ·cases c1.2;cases hl1;cases aa;exact yE hE (Z0++(rpN 8 (Hb c1) [qT]))
  let Z1:List HO:=(Z0++(rpN 4 (Hb c1) []));obtain c2|c2:=zH c1.2
  ·let Z2:List HO:=(Z1++[c2,c2,c2,c1,c2,c1]);obtain c3|c3:=zH c2.2
   ·obtain⟨jp,h4,gm,h5,ae⟩:=yf c3.2;let Z3:List HO:=(Z2++(rpN 4 (Hb c3) (Hi (eSl 1 false eB) h4::(rpN 4 (Hb c3) [Hi eB h5,c3,c1,c3,c1]))));obtain c4|c4:=zH ae
    ·cases c4.2;cases hl1;cases aa;exact yE hE (Z3++[c4])
    exact yB bg (al.To,decide (al.To>=0),decide (al.To>=0),decide (bp.To>=0),decide (bp.To>=0),gm) c4.2 (Z3++[c4])
   exact yB bg (al.To,decide (al.To>=0),decide (al.To>=0),decide (bp.To>=0),decide (bp.To>=0),false) c3.2 (Z2++(rpN 9 (Hb c3) [c1,c3,c1,qF]))
  exact yB bg (al.To,decide (al.To>=0),decide (al.To>=0),false,false,false) c2.2 (Z1++(Hb c2::Hb c2::Hb c2::Hb c1::Hb c2::Hb c1::(rpN 9 qF [c1,qF,c1,qF])))
 cases c0.2;cases hl1;exact yB ar () aa [c0]
def l4:List yg:=Zs 52 xQ rY (eOs 1 false (eOs 1 true eB)) Wg::l3
def z2R [H:HS X0 l3]:OkH l4:=yS2 true func52 λm_ k_ r0 aa E hE=>by
 refine yNs 1111 [] [1,2,5,6] (zI (XK m_ k_) r0) (λz=>[(6,.own (eOs 1 false (eOs 1 true eB) z))]) [Ha (lnM wv m_.Rows),Hh (.cut 1)] ?_ λJ1 ar=>?_
 ·rintro bl aa;refine yK 11111 [] [6] (zI XJ r0) (λz=>[(6,.own (eOs 1 false (eOs 1 true eB) z))]) [1,2,5,6] [Hh (.cut 0)] ?_ λJ2 au=>?_
  ·rintro nl aa;cases aa;exact yE hE []
  refine yMb 11111210 [J2] [1,2,5,6,8] (λx=>[(6,.own (eOs 1 false (eOs 1 true eB) x.1)),(8,.d (I x.2))]) aa  [] λt3 aa ⟨dg,round⟩ m3 av ae hl1 J3 bg=>?_;obtain c0|c0:=zH ae
  ·refine yNs 1111121001 [J2,J3] [1,2,5,6,8] (zI (XI round) av) (λz=>[(6,.own (eOs 1 false (eOs 1 true eB) z))]) [c0,Hh (.cut 0)] ?_ λJ4 db=>?_
   ·rintro mi ae;cases ae;exact yB bg _ hl1 []
   refine yN 1111121001201 [J2,J3,J4] [1,2,5,8,9] (zI (XG round) av) (λz=>[(9,.own (eOs 1 false (eOs 1 true eB) z))]) [1,2,5,6,8,9] [Hh (.cut 1)] ?_ λJ5 dc=>?_
   ·rintro next ae
    exact yB db next ae []
   obtain⟨t6,kb,ae⟩:=zy c0.2;refine yMx 1111121001201210 [J2,J3,J4,J5] [1,2,5,6,8,9,10] (λx=>[(9,.own (eOs 1 false (eOs 1 true eB) x.1)),(10,.d (I x.2))]) kb [(9,.own (eOs 1 true (eOs 1 true eB) [])),(10,.d (I 0))] [Hh (.n 3 [6]),Hm (shM (eOs 1 true eB) (eSl 1 true eB) dg)] λ⟨cr,s_⟩ m6 dj ah hl2 J6 ep=>?_;obtain c1|c1:=zH ah
   ·refine yNs 111112100120121001 [J2,J3,J4,J5,J6] [1,2,5,6,8,9,10] (zI (XF s_) dj) (λz=>[(9,.own (eOs 1 false (eOs 1 true eB) z))]) [c1,Hh (.cut 0)] ?_ λJ7 gw=>?_
    ·rintro ff ah;cases ah;exact yB ep _ hl2 []
    obtain⟨g0,ah⟩:=gdE c1.2;obtain⟨g1,ah⟩:=gdE ah;refine yMb 11111210012012100120110 [J2,J3,J4,J5,J6,J7] [1,2,5,6,8,9,10,11] (λx=>[(9,.own (eOs 1 false (eOs 1 true eB) x.1)),(11,.d (I x.2))]) ah  [Hn (rL g0),Ha (rM 1 eB ((m_.Rows.length:Nat):Int) false),Hq (oC (eOs 1 true eB) (List.replicate ((m_.Rows.length:Nat):Int).toNat false) []),Hn (aL (eOs 1 true eB) (eOs 1 true eB) g1),Hl (aM (eOs 1 true eB) cr [(List.replicate ((m_.Rows.length:Nat):Int).toNat false)])] λt8 ah ⟨cb,t_⟩ m8 nb aw hl3 J8 lq=>?_;obtain c2|c2:=zH aw
    ·obtain⟨jq,h0,jp,h1,gm,h2,aw⟩:=ZZ c2.2;let Z0:List HO:=[c2,Hn (iL (eOs 1 true eB) h0),Hs (iM (eOs 1 true eB) h0),Hi (eSl 1 true eB) h1,Hi eB h2];obtain c3|c3:=zH aw
     ·obtain⟨qm,h3,aw⟩:=zy c3.2;cases aw;exact yB lq _ hl3 (Z0++(rpN 7 (Hb c3) [Hs (iM (eOs 1 true eB) h0),Hn (iL eB h3),Hs (iM (eOs 1 true eB) h0),Hs (iM eB h3),Hs (iM (eOs 1 true eB) h0),Hs (iM eB h3),Hl (sM eB jq t_ true),Hl (sM (eOs 1 true eB) cb s_ (jq.set t_.toNat true))]))
     obtain⟨r_,h4,py,h5,aw⟩:=yf c3.2;cases aw;exact yB lq _ hl3 (Z0++(rpN 5 (Hb c3) [Hk [] (Kl (hat 0)) (zf4 0 h4 (loC xQ m_ <| loC (eSl 1 false (eSl 1 true eB)) dg <| loC rY s_ <| loC rY t_ <| loN)),c3,c3,Hs (iM (eOs 1 true eB) h0),Hn (iL eB h5),Hs (iM (eOs 1 true eB) h0),Hs (iM eB h5),Hs (iM (eOs 1 true eB) h0),Hs (iM eB h5),Hl (sM eB jq t_ (r_==1)),Hl (sM (eOs 1 true eB) cb s_ (jq.set t_.toNat (r_==1)))]))
    cases c2.2;cases hl3;exact yB gw cb ah [c2]
   cases c1.2;cases hl2;exact yB dc cr ae [c1]
  cases c0.2;cases hl1;exact yB au dg aa [c0]
 obtain⟨t9,ht9,aa⟩:=zy aa;refine yMx 1111210 [J1] [1,2,5,6,7] (λx=>[(6,.own (eOs 1 false (eOs 1 true eB) x.1)),(7,.d (I x.2))]) ht9 [(6,.own (eOs 1 true (eOs 1 true eB) [])),(7,.d (I 0))] [] λ⟨jz,bk⟩ m9 av ae hl1 J9 qe=>?_;obtain c4|c4:=zH ae
 ·obtain⟨g2,ae⟩:=gdE c4.2;obtain⟨g3,ae⟩:=gdE ae;cases ae;exact yB qe _ hl1 [c4,Hn (rL g2),Ha (rM 1 eB ((m_.Rows.length:Nat):Int) false),Hq (oC (eOs 1 true eB) (List.replicate ((m_.Rows.length:Nat):Int).toNat false) []),Hn (aL (eOs 1 true eB) (eOs 1 true eB) g3),Hl (aM (eOs 1 true eB) jz [(List.replicate ((m_.Rows.length:Nat):Int).toNat false)])]
 cases c4.2;cases hl1;exact yB ar jz aa [c4]
def l5:List yg:=YZ 157 (eSl 1 false (eSl 1 false eB)) F7_ Ze::l4
def KN [H:HS X0 l4]:OkH l5:=yS1 true func157 λbl r0 aa E hE=>by
 refine yK 1111 [] [3] (zI Wf r0) (λz=>[(3,.own (eOs 1 false rY z))]) [0,3,4] [Hh (.cut 3)] ?_ λJ1 ar=>?_
 ·rintro out aa;cases aa;exact yE hE []
 obtain⟨t2,ht2,aa⟩:=zy aa;refine yMx 1111210 [J1] [0,3,4,5] (λx=>[(3,.own (eOs 1 false rY x.1)),(4,.d (I x.2.1)),(5,.d (I x.2.2))]) ht2 [(3,.own (eOs 1 true rY [])),(4,.d (I 0)),(5,.d (I 0))] [] λ⟨aj,n_,s_⟩ m2 av ae hl1 J2 au=>?_;let Z0:List HO:=[Ha (lnM (eSl 1 false eB) bl)];obtain c0|c0:=zH ae
 ·refine yNs 111121001 [J1,J2] [0,3,4,5] (λz:TB×Int=>Zd s_ z.1 z.2=some av) (λz=>[(3,.own (eOs 1 false rY z.1)),(4,.d (I z.2))]) (Z0++[c0,Hh (.cut 0)]) ?_ λJ3 bg=>?_
  ·rintro⟨ax,ca⟩ ae;cases ae;exact yB au _ hl1 []
  refine yNs 111121001201 [J1,J2,J3] [0,3,4,5,6] (zI (Zc aj n_ s_) av) (λz=>[(6,.d (I z))]) [Hh (.cut 1)] ?_ λJ4 db=>?_
  ·rintro b_ ae;refine yNs 1111210012011 [J1,J2,J3] [0,3,4,5,6] (λz:Int×Int=>vh aj s_ z.1 z.2=some av) (λz=>[(4,.d (I z.1)),(6,.d (I z.2))]) [Hh (.cut 0)] ?_ λJ5 dc=>?_
   ·rintro⟨cd,kw⟩ ae;obtain⟨g0,ae⟩:=gdE ae;exact yB bg ((aj++[kw]),cd) ae [Hq (dM rY [kw]),Hn (dM rY [kw]),Hn (aL rY rY g0),Hl (aM rY aj [kw])]
   obtain c1|c1:=zH ae
   ·exact yB dc (w64 (n_+1),n_) c1.2 [c1]
   exact yB dc (n_,b_) c1.2 [c1]
  refine yMb 111121001201210 [J1,J2,J3,J4] [0,3,4,5,6,7] (λx=>[(6,.d (I x.1)),(7,.d (I x.2))]) c0.2  [] λt6 ae ⟨oq,t_⟩ m6 dj ah hl2 J6 ep=>?_;obtain c2|c2:=zH ah
  ·refine yNs 11112100120121001 [J1,J2,J3,J4,J6] [0,3,4,5,6,7] (zI (uN t_) dj) (λz=>[(6,.d (I z))]) [c2,Hh (.cut 0)] ?_ λJ7 gw=>?_
   ·rintro pz ah;cases ah;exact yB ep _ hl2 []
   obtain⟨jp,h0,gm,h1,ah⟩:=yf c2.2;let Z1:List HO:=[Hi (eSl 1 false eB) h0,Hi eB h1];obtain c3|c3:=zH ah
   ·obtain⟨dn,h2,ah⟩:=zy c3.2;exact yB gw dn ah (Z1++[c3,Hn (iL rY h2),Hs (iM rY h2)])
   exact yB gw oq c3.2 (Z1++[c3])
  cases c2.2;cases hl2;exact yB db oq ae [c2]
 cases c0.2;cases hl1;exact yB ar aj aa (Z0++[c0])
def l6:List yg:=Zs 129 xQ rY F7_ Q3::l5
def z2Q [H:HS X0 l5]:OkH l6:=yS2 true func129 λm_ k_ r0 aa E hE=>by obtain⟨r_,h0,ai,h1,aa⟩:=yf aa;cases aa;exact yE hE [zC2 1 h0,zg 0,Hm (shM (eOs 1 true eB) (eSl 1 true eB) r_),Hs (zf1 0 h1 (loC (eSl 1 false (eSl 1 true eB)) r_ <| loN)),Hm (shM (eOs 1 true eB) (eSl 1 true eB) r_)]
def l7:List yg:=YZ 97 xQ F7_ Zf::l6
def z1k [H:HS X0 l6]:OkH l7:=yS1 true func97 λm_ r0 aa E hE=>by obtain⟨r_,h0,aa⟩:=zy aa;cases aa;exact yE hE [Ha (lnM wv m_.Rows),zC2 0 h0]
def l8:List yg:=z2A 101 xQ rY rY uS Qv::l7
def z5f [H:HS X0 l7]:OkH l8:=yS3 false func101 λm_ s_ i_ r0 aa E hE=>by
 obtain c0|c0:=zH aa
 ·cases c0.2;exact yE hE [c0]
 obtain⟨ap,h0,al,h1,aa⟩:=yf c0.2;cases aa;exact yE hE [c0,Hi wv h0,Hi uS h1]
def l9:List yg:=z2A 84 xQ rY F8_ rY Vz::l8
def K5:∀(x y:z6×Int×TB),(λx=>[xQ x.1,rY x.2.1,F8_ x.2.2]) x=(λx=>[xQ x.1,rY x.2.1,F8_ x.2.2]) y->x=y:=zp1
def jR (mz:z6->Int->TB->Option Int):yg:=spF (α:=z6×Int×TB) (ρ:=Int) 84 (λx=>[xQ x.1,rY x.2.1,F8_ x.2.2]) (λr=>rY r) (λx=>mz x.1 x.2.1 x.2.2) [] (by intro x y h;exact(congrArg (λ(p:z6×Int×TB)=>p) (show x=y from K5 x y h)))
def z1m (mz:z6->Int->TB->Option Int)[H:HS X0 (jR mz::l8)]:(jR (Zh mz)).Ok prog:=by
 refine WU ?_;rintro⟨m_,s_,w_⟩ r0 aa;refine zY true func84 λE hE=>?_;obtain c0|c0:=zH aa
 ·cases c0.2;exact yE hE [Ha (lnM rY w_),c0]
 obtain⟨fc,h0,r_,h1,aa⟩:=yf c0.2;obtain⟨g0,aa⟩:=gdE aa;obtain⟨ai,h2,aa⟩:=zy aa;cases aa;exact yE (H:=zx ((zot zl zhB).or X0)) hE [Ha (lnM rY w_),c0,Hi rY h0,zC3 1 h1,Hn (slA g0),Hn (zjJ rY g0),Ha (slE 1 false rY w_ (1:Int).toNat),Hc (hat 0 (s:=jR mz)) (x:=(m_,r_.To,(w_.drop (1:Int).toNat))) h2 (loC xQ m_ <| loC rY r_.To <| loC F8_ (w_.drop (1:Int).toNat) <| loN)]
def z42 [H:HS X0 l8]:OkH l9:=by
 have H:∀n,(jR (Zg n)).Ok prog:=by
  intro n;induction n with
  | zero=>exact WU λ_ _ h=>nomatch (show none=some _ from h)
  | succ n ih=>exact z1m _ (H:=za _ ih)
 exact zO3 λa b c r h=>z9P (x:=(a,b,c)) (H _) h
def l10:List yg:=Zs 152 F8_ rY F7_ WX::l9
def z5d [H:HS X0 l9]:OkH l10:=yS2 true func152 λw_ inputs r0 aa E hE=>by
 obtain⟨g0,aa⟩:=gdE aa;refine yK 111 [] [5] (zI X4 r0) (λz=>[(5,.own (eOs 1 false rY z))]) [1,5] [Hn (dM rY w_),Hn (aL rY rY g0),Hl (aM0 rY w_),Hh (.cut 0)] ?_ λJ1 ar=>?_
 ·rintro out aa;obtain⟨g1,aa⟩:=gdE aa;cases aa;exact yE hE [Hq (dM rY ([0]:TB)),Hn (dM rY ([0]:TB)),Hn (aL rY rY g1),Hl (aM rY out ([0]:TB))]
 refine yMb 111210 [J1] [1,5,6] (λx=>[(5,.own (eOs 1 false rY x.1)),(6,.d (I x.2))]) aa  [Ha (lnM rY w_)] λt2 aa ⟨aj,k_⟩ m2 av ae hl1 J2 au=>?_;obtain c0|c0:=zH ae
 ·obtain⟨dn,h0,ae⟩:=zy c0.2;let Z0:List HO:=[c0,Hn (iL rY h0),Hs (iM rY h0)];obtain c1|c1:=zH ae
  ·obtain⟨jr,h1,o7,h2,ae⟩:=yf c1.2;cases ae;cases hl1;cases aa;exact yE hE (Z0++[c1,Hn (iL rY h1),Hs (iM rY h1),Hn (iL rY h2),Hs (iM rY h2),Hs (iM rY h2),Hl (sM rY aj k_ (w64 (jr+1)))])
  obtain⟨o8,h3,ae⟩:=zy c1.2;cases ae;exact yB au _ hl1 (Z0++[c1,Hn (iL rY h3),Hs (iM rY h3),Hs (iM rY h3),Hl (sM rY aj k_ 0)])
 cases c0.2;cases hl1;exact yB ar aj aa [c0]
def l11:List yg:=Zs 122 xQ rY (eT2 z6u (eSl 1 true eB)) Vx::l10
def z4T:XH prog:=((xL zl (.inr 48) [8]).or X0)
def z40 [H:HS z4T l10]:OkH l11:=yS2 false func122 λm_ from_ r0 aa E hE=>by
 obtain⟨g0,aa⟩:=gdE aa;obtain⟨g1,aa⟩:=gdE aa;refine yK 1111 [] [6,7] (λz:TA×List Bool=>Ww z.1 z.2=some r0) (λz=>[(6,.own (eOs 1 true F8_ z.1)),(7,.own (eOs 1 true eB z.2))]) [1,2,6,7] [Ha (lnM wv m_.Rows),Hn (rL g0),Ha (rM 1 F5_ ((m_.Rows.length:Nat):Int) ([]:TB)),Hh (.v 0 [6]),Hm (shM F5_ F4_ (List.replicate ((m_.Rows.length:Nat):Int).toNat ([]:TB))),Ha (lnM wv m_.Rows),Hn (rL g1),Ha (rM 1 eB ((m_.Rows.length:Nat):Int) false),Hh (.cut 0)] ?_ λJ1 ar=>?_
 ·rintro⟨l_,is⟩ aa;cases aa;exact yE hE [Hm (shM F8_ F8_ l_),Hm (shM eB eB is)]
 obtain⟨t2,ht2,aa⟩:=zy aa;refine yMx 1111210 [J1] [1,2,6,7,8] (λx=>[(6,.own (eOs 1 true F8_ x.1)),(7,.own (eOs 1 true eB x.2.1)),(8,.own (eOs 1 false rY x.2.2))]) ht2 [(6,.own (eOs 1 true F4_ (List.replicate ((m_.Rows.length:Nat):Int).toNat ([]:TB)))),(7,.own (eOs 1 true eB (List.replicate ((m_.Rows.length:Nat):Int).toNat false))),(8,.own (eOs 1 true rY []))] [] λ⟨dr,ii,w_⟩ m2 av ae hl1 J2 au=>?_;let Z0:List HO:=[Ha (lnM rY w_),Ha (lnM wv m_.Rows)];obtain c0|c0:=zH ae
 ·refine yNs 111121001 [J1,J2] [1,2,6,7,8] (λz:TA×List Bool=>uE m_ w_ z.1 z.2=some av) (λz=>[(6,.own (eOs 1 true F8_ z.1)),(7,.own (eOs 1 true eB z.2))]) (Z0++[c0,Hh (.n 1 [8]),Hm (shM rY rY w_),Hh (.cut 0)]) ?_ λJ3 bg=>?_
  ·rintro⟨j6,p0⟩ ae;obtain⟨r_,h0,ae⟩:=zy ae;cases ae;exact yB au _ hl1 [zC2 0 h0]
  obtain⟨ai,h1,ae⟩:=zy c0.2;let Z1:List HO:=[zC3 1 h1];obtain c1|c1:=zH ae
  ·obtain⟨pq,h2,ae⟩:=zy c1.2;let Z2:List HO:=(Z1++[c1,c1,c1,Hn (iL eB h2),c1,Hs (iM eB h2),c1,c1]);obtain c2|c2:=zH ae
   ·obtain⟨r8,h3,bi,h4,ae⟩:=yf c2.2;exact yB bg ((dr.set ai.toNat w_),(ii.set ai.toNat true)) ae (Z2++[c2,Hn (iL eB h3),Hs (iM eB h3),Hs (iM eB h3),Hl (sM eB ii ai true),Hn (iL F8_ h4),Hs (iM F8_ h4),Hs (iM F8_ h4),Hl (sM F8_ dr ai w_)])
   exact yB bg (dr,ii) c2.2 (Z2++[c2])
  exact yB bg (dr,ii) c1.2 (Z1++(rpN 6 (Hb c1) [qF]))
 cases c0.2;cases hl1;exact yB ar (dr,ii) aa (Z0++[c0])
def l12:List yg:=YZ 81 xQ (eT2 z6u (eSl 1 true eB)) Wh::l11
def z2S [H:HS X0 l11]:OkH l12:=yS1 false func81 λm_ r0 aa E hE=>by obtain⟨r_,h0,aa⟩:=zy aa;cases aa;exact yE hE [zC2 0 h0]
def l13:List yg:=Zs 143 F8_ F8_ rY Qu::l12
def z5e [H:HS X0 l12]:OkH l13:=yS2 true func143 λa_ b_ r0 aa E hE=>by
 let Z0:List HO:=[Ha (lnM rY a_),Ha (lnM rY b_)];obtain c0|c0:=zH aa
 ·let Z1:List HO:=(Z0++[c0,Ha (lnM rY a_),Ha (lnM rY b_)]);obtain c1|c1:=zH c0.2
  ·cases c1.2;exact yE hE (Z1++[c1])
  cases c1.2;exact yE hE (Z1++[c1])
 refine yK 111 [] [] (λz:Unit=>Kf=some r0) (λz=>[]) [0,1] (Z0++[c0,Hh (.cut 0)]) ?_ λJ1 ar=>?_
 ·rintro⟨⟩ aa;cases aa;exact yE hE []
 refine yMb 111210 [J1] [0,1,5] (λx=>[(5,.d (I x))]) c0.2  [] λt2 aa i_ m2 av ae hl1 J2 au=>?_;obtain c2|c2:=zH ae
 ·obtain⟨dv,h0,dx,h1,ae⟩:=yf c2.2;let Z2:List HO:=[Ha (lnM rY a_),c2,Hi rY h0,Hi rY h1];obtain c3|c3:=zH ae
  ·obtain⟨i6,h2,l6,h3,ae⟩:=yf c3.2;let Z3:List HO:=(Z2++[c3,Hi rY h2,Hi rY h3]);obtain c4|c4:=zH ae
   ·cases c4.2;cases hl1;cases aa;exact yE hE (Z3++[c4])
   cases c4.2;cases hl1;cases aa;exact yE hE (Z3++[c4])
  cases c3.2;exact yB au _ hl1 (Z2++[c3])
 cases c2.2;cases hl1;exact yB ar () aa [Ha (lnM rY a_),c2]
def l14:List yg:=YZ 109 xQ F7_ Vy::l13
abbrev z0i (out:TB):List (Nat×T):=[(5,.own (eOs 1 false rY out))]
abbrev z0h (r_:TA×List Bool)(s_:Int)(ax:TB):List (Nat×T):=[(3,.d (eSl 1 true F8_ r_.1)),(4,.d (eSl 1 true eB r_.2)),(5,.own (eOs 1 false rY ax)),(6,.d (I s_))]
abbrev z0g (r_:TA×List Bool)(aj:TB)(s_:Int)(k_:Int):List (Nat×T):=[(3,.d (eSl 1 true F8_ r_.1)),(4,.d (eSl 1 true eB r_.2)),(5,.own (eOs 1 false rY aj)),(6,.d (I s_)),(7,.d (I k_))]
abbrev z0e (r_:TA×List Bool)(aj:TB)(s_:Int)(de:Int):List (Nat×T):=[(3,.d (eSl 1 true F8_ r_.1)),(4,.d (eSl 1 true eB r_.2)),(5,.own (eOs 1 false rY aj)),(6,.d (I s_)),(7,.d (I de))]
abbrev z0f (r_:TA×List Bool)(aj:TB)(s_:Int):List (Nat×T):=[(3,.d (eSl 1 true F8_ r_.1)),(4,.d (eSl 1 true eB r_.2)),(5,.own (eOs 1 false rY aj)),(6,.d (I s_))]
def z4U:XH prog:=((xL zl (.inl 49) []).or ((xL zl (.inl 47) [5]).or X0))
def z41 [H:HS z4U l13]:OkH l14:=yS1 true func109 λm_ r0 aa E hE=>by
 obtain⟨r_,h0,aa⟩:=zy aa;refine yJ 1111 [] [5] (λz:TB=>Wy z=some r0) (λz=>z0i z) [(3,.d (eSl 1 true F8_ r_.1)),(4,.d (eSl 1 true eB r_.2)),(5,.own (eOs 1 true rY []))] [zC1 1 h0,Hh (.cut 1)] ?_ λJ1 ar=>?_
 ·rintro out aa;unfold Wy at aa;obtain rfl:=xR aa;exact yE hE []
 obtain⟨t2,ht2,aa⟩:=zy aa;refine yLx 1111210 [J1] (λs=>jK r_ s.1 s.2) (λx=>z0f r_ x.1 x.2) (([]:TB),0) ht2 [(3,.d (eSl 1 true F8_ r_.1)),(4,.d (eSl 1 true eB r_.2)),(5,.own (eOs 1 true rY [])),(6,.d (I 0))] inferInstance [] λ⟨aj,s_⟩ m2 av ae hl1 J2 au=>?_;try unfold jK at ae
 let Z0:List HO:=[Ha (lnM F8_ r_.1)];obtain c0|c0:=zH ae
 ·refine yJ 111121001 [J1,J2] [3,4,5,6] (λz:TB=>uF s_ z=some av) (λz=>z0h r_ s_ z) [(3,.d (eSl 1 true F8_ r_.1)),(4,.d (eSl 1 true eB r_.2)),(5,.own (eOs 1 false rY aj)),(6,.d (I s_))] (Z0++[c0,Hh (.cut 0)]) ?_ λJ3 bg=>?_
  ·rintro ax ae;unfold uF at ae;obtain rfl:=xR ae;exact yB au _ hl1 []
  obtain⟨u_,h1,ae⟩:=zy c0.2;obtain c1|c1:=zH ae
  ·exact yB bg aj c1.2 [Hi eB h1,c1]
  refine yJ 1111210012011 [J1,J2,J3] [3,4,5,6,7] (λz:Int=>Y7 aj s_ z=some av) (λz=>z0g r_ aj s_ z) [(3,.d (eSl 1 true F8_ r_.1)),(4,.d (eSl 1 true eB r_.2)),(5,.own (eOs 1 false rY aj)),(6,.d (I s_)),(7,.d (I 0))] [Hi eB h1,c1,Hh (.cut 1)] ?_ λJ4 db=>?_
  ·rintro k_ ae;unfold Y7 at ae;obtain⟨g0,ae⟩:=gdE ae;obtain⟨g1,ae⟩:=gdE ae;obtain⟨g2,ae⟩:=gdE ae;obtain⟨g3,ae⟩:=gdE ae;obtain⟨g4,ae⟩:=gdE ae;exact yB bg ((((aj.drop 0).take (k_.toNat - 0))++[s_])++(aj.drop k_.toNat)) ae [Hm (shM rY rY aj),Hn (slB g0),Hn (zgF rY g0),Ha (slM 1 false rY aj 0 k_.toNat),Hn (dM rY ((aj.drop 0).take (k_.toNat - 0))),Hn (aL rY rY g1),Hl (aM0 rY ((aj.drop 0).take (k_.toNat - 0))),Hq (dM rY [s_]),Hn (dM rY [s_]),Hn (aL rY rY g2),Hl (aM rY ((aj.drop 0).take (k_.toNat - 0)) [s_]),Hn (slA g3),Hn (zjJ rY g3),Ha (slE 1 false rY aj k_.toNat),Hn (dM rY (aj.drop k_.toNat)),Hn (aL rY rY g4),Hl (aM rY (((aj.drop 0).take (k_.toNat - 0))++[s_]) (aj.drop k_.toNat))]
  obtain⟨t5,ht5,ae⟩:=zy c1.2;refine yL 111121001201120 [J1,J2,J3,J4] (λs=>jJ r_ aj s_ s) (λx=>z0e r_ aj s_ x) 0 ht5  [] λde m5 dj ah hl2 J5 dc=>?_;try unfold jJ at ah;obtain c2|c2:=zH ah
  ·obtain⟨dn,h2,qp,h3,qq,h4,ai,h5,ah⟩:=z7m c2.2;let Z1:List HO:=(Ha (lnM rY aj)::(rpN 4 (Hb c2) (Hn (iL rY h2)::Hb c2::Hs (iM rY h2)::Hb c2::Hi F8_ h3::(rpN 4 (Hb c2) [Hi F8_ h4,c2,c2,zC2 0 h5,c2,c2]))));obtain c3|c3:=zH ah
   ·obtain rfl:=xR c3.2;exact yB dc _ hl2 (Z1++[c3])
   obtain rfl:=xR c3.2;obtain rfl:=hl2;exact yB db de ae (Z1++[c3])
  obtain rfl:=xR c2.2;obtain rfl:=hl2;exact yB db de ae (Ha (lnM rY aj)::(rpN 14 (Hb c2) [qF]))
 obtain rfl:=xR c0.2;obtain rfl:=hl1;exact yB ar aj aa (Z0++[c0])
def l15:List yg:=YZ 66 xQ F7_ kF::l14
def z2P [H:HS X0 l14]:OkH l15:=yS1 true func66 λm_ r0 aa E hE=>by
 obtain⟨r_,h0,ai,h1,aa⟩:=yf aa;refine yK 11111 [] [5] (zI XE r0) (λz=>[(5,.own (eOs 1 false rY z))]) [3,4,5] [zC1 7 h0,zC1 0 h1,Hh (.cut 1)] ?_ λJ1 ar=>?_
 ·rintro out aa;cases aa;exact yE hE []
 obtain⟨t2,ht2,aa⟩:=zy aa;refine yMx 11111210 [J1] [3,4,5,6] (λx=>[(5,.own (eOs 1 false rY x.1)),(6,.d (I x.2))]) ht2 [(5,.own (eOs 1 true rY [])),(6,.d (I 0))] [] λ⟨aj,k_⟩ m2 av ae hl1 J2 au=>?_;obtain c0|c0:=zH ae
 ·refine yNs 1111121001 [J1,J2] [3,4,5,6] (zI (qC k_) av) (λz=>[(5,.own (eOs 1 false rY z))]) [Ha (lnM rY ai),c0,Hh (.cut 0)] ?_ λJ3 bg=>?_
  ·rintro ax ae;cases ae;exact yB au _ hl1 []
  refine yNs 1111121001201 [J1,J2,J3] [3,4,5,6,7] (zI (XD ai aj k_) av) (λz=>[(7,.d (I z))]) [Hh (.cut 1)] ?_ λJ4 db=>?_
  ·rintro there ae;obtain c1|c1:=zH ae
   ·obtain⟨dm,h2,ae⟩:=zy c1.2;obtain⟨g0,ae⟩:=gdE ae;exact yB bg (aj++[dm]) ae [c1,Hn (iL rY h2),Hs (iM rY h2),Hq (dM rY [dm]),Hn (dM rY [dm]),Hn (aL rY rY g0),Hl (aM rY aj [dm])]
   exact yB bg aj c1.2 [c1]
  refine yMb 1111121001201210 [J1,J2,J3,J4] [3,4,5,6,7,8] (λx=>[(7,.d (I x.1)),(8,.d (I x.2))]) c0.2  [] λt5 ae ⟨ee,n_⟩ m5 dj ah hl2 J5 dc=>?_;obtain c2|c2:=zH ah
  ·refine yNs 111112100120121001 [J1,J2,J3,J4,J5] [3,4,5,6,7,8] (zI (Za n_) dj) (λz=>[(7,.d (I z))]) [c2,Hh (.cut 0)] ?_ λJ6 ep=>?_
   ·rintro nc ah;cases ah;exact yB dc _ hl2 []
   obtain⟨ip,h3,n9,h4,oa,h5,qr,h6,ah⟩:=z7m c2.2;let Z0:List HO:=[Hn (iL rY h3),Hs (iM rY h3),Hn (iL rY h4),Hs (iM rY h4),Hn (iL rY h5),Hs (iM rY h5),Hn (iL rY h6),Hs (iM rY h6)];obtain c3|c3:=zH ah
   ·exact yB ep 1 c3.2 (Z0++[c3])
   exact yB ep ee c3.2 (Z0++[c3])
  cases c2.2;cases hl2;exact yB db ee ae [c2]
 cases c0.2;cases hl1;exact yB ar aj aa [Ha (lnM rY ai),c0]
def l16:List yg:=Zs 110 xQ rY (eOs 1 true eB) X5::l15
def z1l [H:HS X0 l15]:OkH l16:=yS2 true func110 λm_ from_ r0 aa E hE=>by
 obtain⟨g0,aa⟩:=gdE aa;obtain⟨mj,h0,aa⟩:=zy aa;refine yK 1111 [] [5] (zI YL r0) (λz=>[(5,.own (eOs 1 true eB z))]) [2,5] [Ha (lnM wv m_.Rows),Hn (rL g0),Ha (rM 1 eB ((m_.Rows.length:Nat):Int) false),Hn (iL eB h0),Hs (iM eB h0),Hs (iM eB h0),Hl (sM eB (List.replicate ((m_.Rows.length:Nat):Int).toNat false) from_ true),Hh (.cut 0)] ?_ λJ1 ar=>?_
 ·rintro out aa;cases aa;exact yE hE []
 refine yMb 1111210 [J1] [2,5,6] (λx=>[(5,.own (eOs 1 true eB x.1)),(6,.d (I x.2))]) aa  [] λt2 aa ⟨aj,round⟩ m2 av ae hl1 J2 au=>?_;let Z0:List HO:=[Ha (lnM wv m_.Rows)];obtain c0|c0:=zH ae
 ·refine yNs 111121001 [J1,J2] [2,5,6] (zI (YK round) av) (λz=>[(5,.own (eOs 1 true eB z))]) (Z0++[c0,Hh (.cut 0)]) ?_ λJ3 bg=>?_
  ·rintro ax ae;cases ae;exact yB au _ hl1 []
  refine yMb 1111210012010 [J1,J2,J3] [2,5,6,7] (λx=>[(5,.own (eOs 1 true eB x.1)),(7,.d (I x.2))]) c0.2  [] λt4 ae ⟨bo,s_⟩ m4 dj ah hl2 J4 db=>?_;let Z1:List HO:=[Ha (lnM wv m_.Rows)];obtain c1|c1:=zH ah
  ·refine yNs 111121001201001 [J1,J2,J3,J4] [2,5,6,7] (zI (YJ s_) dj) (λz=>[(5,.own (eOs 1 true eB z))]) (Z1++[c1,Hh (.cut 0)]) ?_ λJ5 dc=>?_
   ·rintro gx ah;cases ah;exact yB db _ hl2 []
   refine yMb 1111210012010012010 [J1,J2,J3,J4,J5] [2,5,6,7,8] (λx=>[(5,.own (eOs 1 true eB x.1)),(8,.d (I x.2))]) c1.2  [] λt6 ah ⟨kg,i_⟩ m6 nb aw hl3 J6 ep=>?_;obtain c2|c2:=zH aw
   ·refine yNs 111121001201001201001 [J1,J2,J3,J4,J5,J6] [2,5,6,7,8] (zI (uz i_) nb) (λz=>[(5,.own (eOs 1 true eB z))]) [c2,Hh (.cut 0)] ?_ λJ7 gw=>?_
    ·rintro o9 aw;cases aw;exact yB ep _ hl3 []
    obtain⟨ap,h1,al,h2,dn,h3,aw⟩:=ZZ c2.2;let Z2:List HO:=[Hi wv h1,Hi uS h2,Hn (iL eB h3),Hs (iM eB h3)];obtain c3|c3:=zH aw
    ·obtain c4|c4:=zH c3.2
     ·obtain⟨jr,h4,aw⟩:=zy c4.2;exact yB gw (kg.set al.To.toNat true) aw (Z2++[c3,c3,c3,c4,Hn (iL eB h4),Hs (iM eB h4),Hs (iM eB h4),Hl (sM eB kg al.To true)])
     exact yB gw kg c4.2 (Z2++[c3,c3,c3,c4])
    exact yB gw kg c3.2 (Z2++[c3,c3,c3,qF])
   cases c2.2;cases hl3;exact yB dc kg ah [c2]
  cases c1.2;cases hl2;exact yB bg bo ae (Z1++[c1])
 cases c0.2;cases hl1;exact yB ar aj aa (Z0++[c0])
def l17:List yg:=YZ 67 xQ F7_ Ke::l16
def z6B [H:HS X0 l16]:OkH l17:=yS1 true func67 λm_ r0 aa E hE=>by
 obtain⟨r_,h0,ai,h1,ak,h2,aa⟩:=ZZ aa;refine yK 111111 [] [6] (zI Q1 r0) (λz=>[(6,.own (eOs 1 false rY z))]) [3,4,5,6] [zC1 9 h0,zC1 1 h1,zC2 0 h2,Hh (.cut 1)] ?_ λJ1 ar=>?_
 ·rintro out aa;cases aa;exact yE hE []
 obtain⟨t2,ht2,aa⟩:=zy aa;refine yMx 111111210 [J1] [3,4,5,6,7] (λx=>[(6,.own (eOs 1 false rY x.1)),(7,.d (I x.2))]) ht2 [(6,.own (eOs 1 true rY [])),(7,.d (I 0))] [] λ⟨aj,s_⟩ m2 av ae hl1 J2 au=>?_;obtain c0|c0:=zH ae
 ·refine yNs 11111121001 [J1,J2] [3,4,5,6,7] (zI (Q0 s_) av) (λz=>[(6,.own (eOs 1 false rY z))]) [Ha (lnM rY r_),c0,Hh (.cut 0)] ?_ λJ3 bg=>?_
  ·rintro ax ae;cases ae;exact yB au _ hl1 []
  refine yNs 11111121001201 [J1,J2,J3] [3,4,5,6,7,8] (zI (UZ aj s_) av) (λz=>[(8,.d (I z))]) [Hh (.cut 1)] ?_ λJ4 db=>?_
  ·rintro k_ ae;obtain⟨g0,ae⟩:=gdE ae;exact yB bg (aj++[k_]) ae [Hq (dM rY [k_]),Hn (dM rY [k_]),Hn (aL rY rY g0),Hl (aM rY aj [k_])]
  refine yMb 11111121001201210 [J1,J2,J3,J4] [3,4,5,6,7,8,9] (λx=>[(8,.d (I x.1)),(9,.d (I x.2))]) c0.2  [] λt5 ae ⟨de,n_⟩ m5 dj ah hl2 J5 dc=>?_;obtain c1|c1:=zH ah
  ·refine yNs 1111112100120121001 [J1,J2,J3,J4,J5] [3,4,5,6,7,8,9] (zI (Yq n_) dj) (λz=>[(8,.d (I z))]) [Ha (lnM rY ai),c1,Hh (.cut 0)] ?_ λJ6 ep=>?_
   ·rintro kj ah;cases ah;exact yB dc _ hl2 []
   obtain⟨dm,h3,ah⟩:=zy c1.2;let Z0:List HO:=[Hn (iL eB h3),Hs (iM eB h3)];obtain c2|c2:=zH ah
   ·obtain⟨ip,h4,n9,h5,oa,h6,ah⟩:=ZZ c2.2;let Z1:List HO:=(Z0++(rpN 4 (Hb c2) [Hn (iL rY h4),c2,Hs (iM rY h4),c2,Hn (iL rY h5),c2,Hs (iM rY h5),c2,c2,c2,Hn (iL rY h6),c2,Hs (iM rY h6),c2,c2]));obtain c3|c3:=zH ah
    ·exact yB ep n_ c3.2 (Z1++[c3])
    exact yB ep de c3.2 (Z1++[c3])
   exact yB ep de c2.2 (Z0++(rpN 13 (Hb c2) [qF]))
  cases c1.2;cases hl2;exact yB db de ae [Ha (lnM rY ai),c1]
 cases c0.2;cases hl1;exact yB ar aj aa [Ha (lnM rY r_),c0]
def l18:List yg:=YZ 33 xQ xQ X3::l17
def z1j [H:HS X0 l17]:OkH l18:=yS1 false func33 λm_ r0 aa E hE=>by
 obtain⟨r_,h0,ai,h1,aa⟩:=yf aa;refine yN 11111 [] [2,5] (zI (YG m_) r0) (λz=>[(5,.own (.box (.agg [I m_.Inputs,I m_.Outputs,eOs 1 false YS z])))]) [1,2,3,4,5] [zC1 2 h0,zC1 0 h1,Hh (.cut 1)] ?_ λJ1 ar=>?_
 ·rintro gy aa;cases aa;exact yE hE [Hm (shM YS wv gy)]
 obtain⟨t2,ht2,aa⟩:=zy aa;refine yMx 11111210 [J1] [1,2,3,4,5,6] (λx=>[(5,.own (.box (.agg [I m_.Inputs,I m_.Outputs,eOs 1 false YS x.1]))),(6,.d (I x.2))]) ht2 [(5,.own (.box (.agg [I m_.Inputs,I m_.Outputs,eOs 1 true YS []]))),(6,.d (I 0))] [] λ⟨bt,k_⟩ m2 av ae hl1 J2 au=>?_;obtain c0|c0:=zH ae
 ·refine yNs 1111121001 [J1,J2] [1,2,3,4,5,6] (zI (YF k_) av) (λz=>[(5,.own (.box (.agg [I m_.Inputs,I m_.Outputs,eOs 1 false YS z])))]) [Ha (lnM rY r_),c0,Hh (.cut 0)] ?_ λJ3 bg=>?_
  ·rintro gp ae;cases ae;exact yB au _ hl1 []
  refine yNs 1111121001201 [J1,J2,J3] [1,2,3,4,5,6,7] (zI (YE bt k_) av) (λz=>[(7,.own (eOs 2 false uS z))]) [Hh (.cut 1)] ?_ λJ4 db=>?_
  ·rintro row ae;obtain⟨g0,ae⟩:=gdE ae;exact yB bg (bt++[row]) ae [Hq (oC YS row []),Hn (aL YS YS g0),Hl (aM YS bt [row])]
  obtain⟨t5,ht5,ae⟩:=zy c0.2;refine yMx 1111121001201210 [J1,J2,J3,J4] [1,2,3,4,5,6,7,8] (λx=>[(7,.own (eOs 2 false uS x.1)),(8,.d (I x.2))]) ht5 [(7,.own (eOs 2 true uS [])),(8,.d (I 0))] [] λ⟨bu,i_⟩ m5 dj ah hl2 J5 dc=>?_;obtain c1|c1:=zH ah
  ·obtain⟨dm,h2,ap,h3,al,h4,ah⟩:=ZZ c1.2;refine yNs 111112100120121001001 [J1,J2,J3,J4,J5] [1,2,3,4,5,6,7,8,9] (zI (uw bu i_ al) dj) (λz=>[(9,.own (.box (.agg [I z,I al.Out])))]) [c1,Hn (iL rY h2),Hs (iM rY h2),Hi wv h3,Hi uS h4,Hh (.cut 0)] ?_ λJ6 ep=>?_
   ·rintro gz ah;obtain⟨g1,ah⟩:=gdE ah;cases ah;exact yB dc _ hl2 [Hq (dM uS [(z8.mk gz al.Out)]),Hn (dM uS [(z8.mk gz al.Out)]),Hn (aL uS uS g1),Hl (aM uS bu [(z8.mk gz al.Out)])]
   obtain c2|c2:=zH ah
   ·obtain⟨ip,h5,ah⟩:=zy c2.2;exact yB ep ip ah [c2,Hn (iL rY h5),Hs (iM rY h5)]
   exact yB ep al.To c2.2 [c2]
  cases c1.2;cases hl2;exact yB db bu ae [c1]
 cases c0.2;cases hl1;exact yB ar bt aa [Ha (lnM rY r_),c0]
def l19:List yg:=YZ 9 zom xQ QE::l18
def z5h [H:HS X0 l18]:OkH l19:=yS1 false func9 λx_ r0 aa E hE=>by obtain⟨g0,aa⟩:=gdE aa;obtain⟨r_,h0,ai,h1,aa⟩:=yf aa;cases aa;exact yE hE [Hn g0,zC1 16 h0,zC1 0 h1]
def l20:List yg:=zic 124 uS ui::l19
def z1n [H:HS X0 l19]:OkH l20:=yS0 false func124 λr0 aa E hE=>by cases aa;exact yE hE []
def l21:List yg:=Zs 88 xQ uS eB X7::l20
def z1o [H:HS X0 l20]:OkH l21:=yS2 true func88 λm_ x_ r0 aa E hE=>by
 obtain⟨r_,h0,aa⟩:=zy aa;let Z0:List HO:=[zC0 0 h0];obtain c0|c0:=zH aa
 ·cases c0.2;exact yE hE (Z0++(rpN 10 (Hb c0) []))
 let Z1:List HO:=(Z0++(rpN 4 (Hb c0) []));obtain c1|c1:=zH c0.2
 ·let Z2:List HO:=(Z1++(rpN 5 (Hb c1) [Ha (lnM wv m_.Rows),c1,c0,c1,c0]));obtain c2|c2:=zH c1.2
  ·let Z3:List HO:=(Z2++[c2,c2,c2,c0,c2,c0]);obtain c3|c3:=zH c2.2
   ·cases c3.2;exact yE hE (Z3++(rpN 5 (Hb c3) [c0,c3,c0]))
   cases c3.2;exact yE hE (Z3++(rpN 5 (Hb c3) [c0,c3,c0]))
  cases c2.2;exact yE hE (Z2++(Hb c2::Hb c2::Hb c2::Hb c0::Hb c2::Hb c0::(rpN 5 qF [c0,qF,c0])))
 cases c1.2;exact yE hE (Z1++(rpN 6 (Hb c1) (Hb c0::Hb c1::Hb c0::qF::qF::qF::Hb c0::qF::Hb c0::(rpN 5 qF [c0,qF,c0]))))
def l22:List yg:=Zs 87 uS z3M eB YM::l21
def JY [H:HS X0 l21]:OkH l22:=yS2 true func87 λx_ x1 r0 aa E hE=>by obtain⟨r_,h0,aa⟩:=zy aa;cases aa;exact yE hE [zC2 0 h0]
def l23:List yg:=Zs 123 wv (Ko 87 z3M) rY xq::l22
def jE [H:HS X0 l22]:OkH l23:=yS2 true func123 λs_ f_ r0 aa E hE=>by
 refine yK 11 [] [] (λz:Unit=>wu=some r0) (λz=>[]) [0,1] [Hh (.cut 1)] ?_ λJ1 ar=>?_
 ·rintro⟨⟩ aa;cases aa;exact yE hE []
 refine yMb 11210 [J1] [0,1,7,8] (λx=>[(8,.d (I x))]) aa  [Ha (lnM uS s_)] λt2 aa x8 m2 av ae hl1 J2 au=>?_;obtain c0|c0:=zH ae
 ·obtain⟨eb,h0,r_,h1,ae⟩:=yf c0.2;let Z0:List HO:=[c0,Hi uS h0,zC2 0 h1];obtain c1|c1:=zH ae
  ·cases c1.2;cases hl1;cases aa;exact yE hE (Z0++[c1])
  cases c1.2;exact yB au _ hl1 (Z0++[c1])
 cases c0.2;cases hl1;exact yB ar () aa [c0]
def l24:List yg:=Zs 86 wv (Ko 87 z3M) eB yd::l23
def uU [H:HS X0 l23]:OkH l24:=yS2 true func86 λs_ f_ r0 aa E hE=>by obtain⟨r_,h0,aa⟩:=zy aa;cases aa;exact yE hE [zC2 0 h0]
def l25:List yg:=YZ 53 xQ rY xw::l24
def z0L [H:HS X0 l24]:OkH l25:=yS1 true func53 λm_ r0 aa E hE=>by
 obtain c0|c0:=zH aa
 ·cases c0.2;exact yE hE (rpN 4 (Hb c0) (rpN 6 qT []))
 let Z0:List HO:=(rpN 4 (Hb c0) []);obtain c1|c1:=zH c0.2
 ·cases c1.2;exact yE hE (Z0++(rpN 5 (Hb c1) [qT]))
 let Z1:List HO:=(Z0++[c1,c1,c1,Ha (lnM wv m_.Rows),c1,c1]);obtain c2|c2:=zH c1.2
 ·cases c2.2;exact yE hE (Z1++[c2])
 obtain c3|c3:=zH c2.2
 ·cases c3.2;exact yE hE (Z1++(Hb c2::(rpN 4 (Hb c3) (rpN 6 qT []))))
 let Z2:List HO:=(Z1++(Hb c2::(rpN 4 (Hb c3) [])));obtain c4|c4:=zH c3.2
 ·cases c4.2;exact yE hE (Z2++(rpN 5 (Hb c4) [qT]))
 let Z3:List HO:=(Z2++[c4,c4,c4,Ha (lnM wv m_.Rows),c4,c4]);obtain c5|c5:=zH c4.2
 ·cases c5.2;exact yE hE (Z3++[c5])
 refine yK 1111 [] [] (λz:Unit=>V2=some r0) (λz=>[]) [1] (Z3++[c5,Hh (.cut 0)]) ?_ λJ1 ar=>?_
 ·rintro⟨⟩ aa;cases aa;exact yE hE []
 refine yMb 1111210 [J1] [1,34,35,36] (λx=>[(36,.d (I x))]) c5.2  [Ha (lnM wv m_.Rows),Hh (.n 1 [1])] λt2 aa kl m2 av ae hl1 J2 au=>?_;obtain c6|c6:=zH ae
 ·obtain⟨ap,h0,ae⟩:=zy c6.2;let Z4:List HO:=[c6,Hi wv h0,Ha (lnM uS ap)];obtain c7|c7:=zH ae
  ·cases c7.2;cases hl1;cases aa;exact yE hE (Z4++(rpN 4 (Hb c7) [qT]))
  obtain⟨r_,h1,ae⟩:=zy c7.2;let Z5:List HO:=(Z4++[c7,c7,c7,zC2 0 h1,c7]);obtain c8|c8:=zH ae
  ·cases c8.2;cases hl1;cases aa;exact yE hE (Z5++[c8])
  cases c8.2;exact yB au _ hl1 (Z5++[c8])
 cases c6.2;cases hl1;exact yB ar () aa [c6]
def l26:List yg:=YZ 98 xQ (zp5 (zmG rY (Ko 130 z3M)) (zmG rY (Ko 132 z3M)) (zmG rY (Ko 133 z3M))) XL::l25
def KO [H:HS X0 l25]:OkH l26:=yS1 false func98 λm_ r0 aa E hE=>by cases aa;exact yE hE []
def l27:List yg:=YZ 172 xQ (Ko 192 z3M) WB::l26
def z0K [H:HS X0 l26]:OkH l27:=yS1 true func172 λm_ r0 aa E hE=>by cases aa;exact yE hE []
variable {σ:Type}
abbrev UG (x0:z6)(YY:σ->JP)(gi:Int)(js:σ):List (Nat×T):=[(0,.own (.opq (YY js).q)),(8,.d (eSl 1 false wv x0.Rows)),(9,.d (I ((x0.Rows.length:Nat):Int))),(10,.d (I gi))]
abbrev UE (x0:z6)(YY:σ->JP)(gi:Int)(ap:List z8)(gg:σ)(ba:Int):List (Nat×T):=[(0,.own (.opq (YY gg).q)),(3,.d (I gi)),(8,.d (eSl 1 false wv x0.Rows)),(9,.d (I ((x0.Rows.length:Nat):Int))),(10,.d (I gi)),(15,.d (eSl 2 false uS ap)),(16,.d (I ((ap.length:Nat):Int))),(17,.d (I ba))]
abbrev UF (x0:z6)(YY:σ->JP)(dw:σ)(gi:Int):List (Nat×T):=[(0,.own (.opq (YY dw).q)),(8,.d (eSl 1 false wv x0.Rows)),(9,.d (I ((x0.Rows.length:Nat):Int))),(10,.d (I gi))]
def JX [H:HS X0 l27](x0:z6):z4W prog (.fn 192 [.sptr (.agg [I x0.Inputs,I x0.Outputs,eSl 1 false wv x0.Rows])]) (λ(x:jD Int×z8) (_:Bool) (_:Value)=>[F0_ x.1,uS x.2]) (@jT x0):=by
 refine z05 (tt:=wZ) (nt:=f192.ntmps) (body:=zbd f192) zl func192 rfl (by kernel_rfl) rfl rfl (by show(2:Nat)<=31;decide) ?_;intro σ yv YY yy hy sg r0 aa E hE;obtain⟨t1,ht1,aa⟩:=zy aa;refine yL 110 [] (λs=>uj x0 yy s.1 s.2) (λx=>UF x0 YY x.1 x.2) (sg,0) ht1  [Ha (lnM wv x0.Rows)] λ⟨dw,gi⟩ m1 av ae hl1 J1 ar=>?_;obtain c0|c0:=zH ae
 ·refine yKs 110011 [J1] [0,8,9,10] (zI (jZ gi) av) (λz=>UG x0 YY gi z) [c0,Hh (.cut 0)] ?_ λJ2 au=>?_
  ·rintro js ae;cases ae;exact yB ar _ hl1 []
  obtain⟨ap,h0,t3,ht3,ae⟩:=yf c0.2;refine yL 11001120110 [J1,J2] (λs=>wQ yy gi ap s.1 s.2) (λx=>UE x0 YY gi ap x.1 x.2) (dw,0) ht3  [Hi wv h0,Ha (lnM uS ap)] λ⟨gg,ba⟩ m3 dj ah hl2 J3 bg=>?_;obtain c1|c1:=zH ah
  ·obtain⟨al,h1,yr,h2,ah⟩:=yf c1.2;let Z0:List HO:=[c1,Hi uS h1,Hn (KU (yv:=yv) (Y:=YY) (enc:=(λ(x:jD Int×z8) (_:Bool) (_:Value)=>[F0_ x.1,uS x.2])) (s:=gg) (x:=((jD.mk gi ba),al)) (s':=yr.1) (b:=yr.2) (v:=.nilFunc) [F0_ (jD.mk gi ba),uS al] (show Qm [F0_ (jD.mk gi ba),uS al] [F0_ (jD.mk gi ba),uS al] from inferInstance))];obtain c2|c2:=zH ah
   ·cases c2.2;cases hl2;cases ae;cases hl1;cases aa;exact yF (H:=zx ((WI (P:=prog) wZ hy 27 (s:=gg) (x:=((jD.mk gi ba),al)) (s':=yr.1) (b:=yr.2) .nilFunc h2).or X0)) .ret [(0,.own (.opq (YY yr.1).q))] (Z0++[c2]) λst0 h0=>hE _ st0 (.inr rfl) h0
   cases c2.2;exact yB (H:=zx ((WI (P:=prog) wZ hy 27 (s:=gg) (x:=((jD.mk gi ba),al)) (s':=yr.1) (b:=yr.2) .nilFunc h2).or X0)) bg _ hl2 (Z0++[c2])
  cases c1.2;cases hl2;exact yB au gg ae [c1]
 cases c0.2;cases hl1;cases aa;exact yF .normal [(0,.own (.opq (YY dw).q))] [c0] λst0 h0=>hE _ st0 (.inl rfl) h0
def l28:List yg:=YZ 173 (eSl 2 false F0_) (eSl 2 true F0_) uf::l27
def Ws [H:HS X0 l27]:OkH l28:=yS1 true func173 λs_ r0 aa E hE=>by obtain⟨g0,aa⟩:=gdE aa;cases aa;exact yE hE [Ha (lnM F0_ s_),Ha (lnM F0_ s_),Hn (slB g0),Hn (slC g0),Hn (zgE F0_ g0),Ha (zlP 2 F0_ s_ 0 ((s_.length:Nat):Int).toNat)]
def l29:List yg:=YZ 158 xQ (eSl 2 true F0_) Zj::l28
def QN [H:HS X0 l28]:OkH l29:=yS1 true func158 λm_ r0 aa E hE=>by
 refine yK 111 [] [3] (zI qI r0) (λz=>[(3,.own (.box (eOs 2 false F0_ z)))]) [1,3] [Hh (.cut 2)] ?_ λJ1 ar=>?_
 ·rintro out aa;obtain⟨r_,h0,aa⟩:=zy aa;cases aa;exact yE hE [zg 0,Hm (shM F0_ F0_ out),Hs (zf1 0 h0 (loC (eSl 2 false F0_) out <| loN)),Hm (shM F0_ F0_ out)]
 obtain⟨ai,h1,t2,ht2,aa⟩:=yf aa;refine yAt (sub [1,1,2,1,0] (zbd f158)) (frs [1,1,2,1,0] [J1] (zbd f158) []) [(3,.own (.box (eOs 2 true F0_ []))),(7,.d (.fn 192 [.sptr (.agg [I ai.Inputs,I ai.Outputs,eSl 1 false wv ai.Rows])]))] [zC1 1 h1] λst0 h0=>?_;refine JL (g:=.tmp 7) (ps:=[8,9]) (assign:=(sub [1,1,2,1,0,0] (zbd f158))) (body:=(sub [1,1,2,1,0,1] (zbd f158))) (K:=192) (caps:=[.sptr (.agg [I ai.Inputs,I ai.Outputs,eSl 1 false wv ai.Rows])]) (by kernel_rfl) [3,7] (λs=>[(3,.own (.box (eOs 2 false F0_ s))),(7,.d (.fn 192 [.sptr (.agg [I ai.Inputs,I ai.Outputs,eSl 1 false wv ai.Rows])]))]) (λz=>nomatch z) (λz=>nomatch z) ((λ(x:jD Int×z8) (_:Bool) (_:Value)=>[F0_ x.1,uS x.2])) (F:=@jT ai) (λs x=>yH s x.1 x.2) ([]:List (jD Int)) t2 _ h0 inferInstance (by kernel_rfl) (by decide) (λ_=>rfl) (by rintro⟨⟩) (by kernel_rfl) (λ_ _ _=>rfl) (JX (H:=zd 1) ai) ht2 ?_ ?_
 ·rintro qg aj ⟨x8,x9⟩ vr av ae;replace ae:yH aj x8 x9=some av:=ae;refine yF .normal [(3,.own (.box (eOs 2 false F0_ aj))),(4,.own (.box (F0_ x8))),(5,.own (.box (uS x9))),(7,.d (.fn 192 [.sptr (.agg [I ai.Inputs,I ai.Outputs,eSl 1 false wv ai.Rows])]))] [] λst0 h0=>⟨rfl,z35 h0 ?_⟩;obtain⟨ak,h2,ae⟩:=zy ae;let Z0:List HO:=[zC0 8 h2];obtain c0|c0:=zH ae
  ·obtain⟨g0,ae⟩:=gdE c0.2;cases ae;exact yF .normal ([(3,.own (.box (eOs 2 false F0_ (aj++[x8])))),(7,.d (.fn 192 [.sptr (.agg [I ai.Inputs,I ai.Outputs,eSl 1 false wv ai.Rows])]))]) (Z0++[c0,Hq (dM F0_ [x8]),Hn (dM F0_ [x8]),Hn (aL F0_ F0_ g0),Hl (aM F0_ aj [x8])]) λst0 h0=>⟨rfl,_,h0,LeL.refl _⟩
  cases c0.2;exact yF .normal ([(3,.own (.box (eOs 2 false F0_ aj))),(7,.d (.fn 192 [.sptr (.agg [I ai.Inputs,I ai.Outputs,eSl 1 false wv ai.Rows])]))]) (Z0++[c0]) λst0 h0=>⟨rfl,_,h0,LeL.refl _⟩
 rcases t2 with aj|z
 ·dsimp only at aa;exact Yw (by kernel_rfl) (ar _ [(3,.own (.box (eOs 2 false F0_ aj)))] aj aa (show Own.canon [3] _=ofL _ by kernel_rfl) inferInstance)
 cases z
def l30:List yg:=YZ 131 xQ (eT2 eB rY) qS::l29
def Ju [H:HS X0 l29]:OkH l30:=yS1 false func131 λm_ r0 aa E hE=>by
 obtain⟨r_,h0,aa⟩:=zy aa;let Z0:List HO:=[zC1 4 h0];obtain c0|c0:=zH aa
 ·cases c0.2;exact yE hE (Z0++[c0])
 obtain⟨ai,h1,aa⟩:=zy c0.2;cases aa;exact yE hE (Z0++[c0,zC1 0 h1,Ha (lnM F0_ ai)])
def l31:List yg:=YZ 130 z3M eB ZR::l30
def Jt [H:HS X0 l30]:OkH l31:=yS1 true func130 λx0 r0 aa E hE=>by obtain⟨r_,h0,aa⟩:=zy aa;cases aa;exact yE hE [zC1 0 h0]
def Uk [H:HS X0 l31](bz:Value)(md:Value)(me:Value):∀(fu:Nat) (s_:Int) (y0:List Bool) (y1:z6) (r0:List Bool×z6),ye fu s_ y0 y1=some r0->uC prog (.fn 144 [.atom bz,.atom md,.atom me]) [I s_] ([bz,md,me].zip [.box (eOs 1 true eB y0),.box (.agg [I y1.Inputs,I y1.Outputs,eSl 1 false wv y1.Rows]),.box (.fn 144 [.atom bz,.atom md,.atom me])]) (.tup []) [.box (eOs 1 true eB r0.1),.box (.agg [I r0.2.Inputs,I r0.2.Outputs,eSl 1 false wv r0.2.Rows]),.box (.fn 144 [.atom bz,.atom md,.atom me])]:=by
 intro fu;induction fu with
 | zero=>intro s_ y0 y1 r0 aa;exact nomatch (show none=some r0 from aa)
 | succ fu ih=>
  intro s_ y0 y1 r0 aa;replace aa:wT (ye fu) s_ y0 y1=some r0:=aa;generalize ye fu=mz at ih aa;refine z0Z (tt:=wZ) (nt:=f144.ntmps) (body:=zbd f144) [1,2,3] zl func144 rfl (by kernel_rfl) rfl rfl (by show(4:Nat)<=33;decide) (by decide) rfl rfl (λE hE=>?_) rfl;obtain c0|c0:=zH aa
  ·cases c0.2;exact yF .ret [(1,.own (.box (eOs 1 true eB y0))),(2,.own (.box (.agg [I y1.Inputs,I y1.Outputs,eSl 1 false wv y1.Rows]))),(3,.own (.box (.fn 144 [.atom bz,.atom md,.atom me])))] (rpN 5 (Hb c0) [qT]) λst0 h0=>hE _ st0 (.inr rfl) (ZS h0 ⟨⟨rfl,rfl⟩,⟨⟨rfl,rfl⟩,⟨⟨rfl,rfl⟩,trivial⟩⟩⟩)
  obtain⟨sb,h0,aa⟩:=zy c0.2;let Z0:List HO:=[c0,c0,c0,Hn (iL eB h0),c0,Hs (iM eB h0),c0];obtain c1|c1:=zH aa
  ·cases c1.2;exact yF .ret [(1,.own (.box (eOs 1 true eB y0))),(2,.own (.box (.agg [I y1.Inputs,I y1.Outputs,eSl 1 false wv y1.Rows]))),(3,.own (.box (.fn 144 [.atom bz,.atom md,.atom me])))] (Z0++[c1]) λst0 h0=>hE _ st0 (.inr rfl) (ZS h0 ⟨⟨rfl,rfl⟩,⟨⟨rfl,rfl⟩,⟨⟨rfl,rfl⟩,trivial⟩⟩⟩)
  obtain⟨sf,h1,ap,h2,t1,ht1,aa⟩:=ZZ c1.2;refine yM 11110 [] [1,2,3,22,23,24] (λx=>[(1,.own (.box (eOs 1 true eB x.1))),(2,.own (.box (.agg [I x.2.1,I x.2.2.1,eSl 1 false wv x.2.2.2.1]))),(24,.d (I x.2.2.2.2))]) ht1  (Z0++[c1,Hn (iL eB h1),Hs (iM eB h1),Hs (iM eB h1),Hl (sM eB y0 s_ true),Hi wv h2,Ha (lnM uS ap)]) λ⟨x1,jt,jd,la,ga⟩ m1 av ae hl1 J1 ar=>?_;obtain c2|c2:=zH ae
  ·obtain⟨al,h3,r_,h4,ae⟩:=yf c2.2;cases ae;exact yB (H:=zx ((jV (P:=prog) wZ [1,2,3] (ih _ _ _ _ h4) 31).or X0)) ar _ hl1 [c2,Hi uS h3,Hn (ZH (f:=.fn 144 [.atom bz,.atom md,.atom me]) (xs:=[rY al.To]) (ls:=[(bz,.box (eOs 1 true eB x1)),(md,.box (.agg [I jt,I jd,eSl 1 false wv la])),(me,.box (.fn 144 [.atom bz,.atom md,.atom me]))]) (r:=.tup []) (ys:=[.box (eOs 1 true eB r_.1),.box (.agg [I r_.2.Inputs,I r_.2.Outputs,eSl 1 false wv r_.2.Rows]),.box (.fn 144 [.atom bz,.atom md,.atom me])]) [rY al.To] (show Qm [rY al.To] [rY al.To] from inferInstance))]
  cases c2.2;cases hl1;cases aa;exact yF .normal [(1,.own (.box (eOs 1 true eB x1))),(2,.own (.box (.agg [I jt,I jd,eSl 1 false wv la]))),(3,.own (.box (.fn 144 [.atom bz,.atom md,.atom me])))] [c2] λst0 h0=>hE _ st0 (.inl rfl) (ZS h0 ⟨⟨rfl,rfl⟩,⟨⟨rfl,rfl⟩,⟨⟨rfl,rfl⟩,trivial⟩⟩⟩)
def l32:List yg:=Zs 164 (eSl 1 false eB) eB rY uJ::l31
def WJ [H:HS X0 l31]:OkH l32:=yS2 true func164 λs_ v_ r0 aa E hE=>by
 refine yK 11 [] [] (λz:Unit=>jH=some r0) (λz=>[]) [0,1] [Hh (.cut 1)] ?_ λJ1 ar=>?_
 ·rintro⟨⟩ aa;cases aa;exact yE hE []
 refine yMb 11210 [J1] [0,1,7,8] (λx=>[(8,.d (I x))]) aa  [Ha (lnM eB s_)] λt2 aa x8 m2 av ae hl1 J2 au=>?_;obtain c0|c0:=zH ae
 ·obtain⟨eb,h0,ae⟩:=zy c0.2;obtain c1|c1:=zH ae
  ·cases c1.2;cases hl1;cases aa;exact yE hE [c0,Hi eB h0,c1]
  cases c1.2;exact yB au _ hl1 [c0,Hi eB h0,c1]
 cases c0.2;cases hl1;exact yB ar () aa [c0]
def l33:List yg:=Zs 145 (eSl 1 false eB) eB eB xT::l32
def Xn [H:HS X0 l32]:OkH l33:=yS2 true func145 λs_ v_ r0 aa E hE=>by obtain⟨r_,h0,aa⟩:=zy aa;cases aa;exact yE hE [zC2 0 h0]
def l34:List yg:=YZ 113 xQ (eT2 eB rY) vj::l33
def QO [H:HS X0 l33]:OkH l34:=yS1 false func113 λm_ r0 aa E hE=>by
 obtain⟨r_,h0,aa⟩:=zy aa;let Z0:List HO:=[zC1 8 h0];obtain c0|c0:=zH aa
 ·cases c0.2;exact yE hE (Z0++[c0])
 obtain⟨g0,aa⟩:=gdE c0.2;refine yC 11111 [] [1,5,6] (Z0++[c0,Ha (lnM wv m_.Rows),Hn (rL g0),Ha (rM 1 eB ((m_.Rows.length:Nat):Int) false),Hh (.cut 1)]) ?_;refine z8G (by kernel_rfl) 5 λkc=>?_;refine z8G (by kernel_rfl) 1 λqj=>?_;refine z8G (by kernel_rfl) 6 λmf=>?_;obtain⟨ai,h1,ak,h2,aa⟩:=yf aa;cases aa;exact yE (H:=zx ((jV (P:=prog) wZ [5,1,6] (Uk (H:=zd 2) kc qj mf VL _ _ _ _ h1) 18).or ((xMk prog wZ).or X0))) hE [Hn (ZH (f:=.fn 144 [.atom kc,.atom qj,.atom mf]) (xs:=[rY 0]) (ls:=[(kc,.box (eOs 1 true eB (List.replicate ((m_.Rows.length:Nat):Int).toNat false))),(qj,.box (.agg [I m_.Inputs,I m_.Outputs,eSl 1 false wv m_.Rows])),(mf,.box (.fn 144 [.atom kc,.atom qj,.atom mf]))]) (r:=.tup []) (ys:=[.box (eOs 1 true eB ai.1),.box (.agg [I ai.2.Inputs,I ai.2.Outputs,eSl 1 false wv ai.2.Rows]),.box (.fn 144 [.atom kc,.atom qj,.atom mf])]) [rY 0] (show Qm [rY 0] [rY 0] from inferInstance)),zg 0,Hm (shM eB eB ai.1),Hs (zf2 0 h2 (loC (eSl 1 true eB) ai.1 <| loC eB false <| loN))]
def l35:List yg:=YZ 132 z3M eB ZQ::l34
def Jr [H:HS X0 l34]:OkH l35:=yS1 true func132 λx0 r0 aa E hE=>by obtain⟨r_,h0,aa⟩:=zy aa;cases aa;exact yE hE [zC1 0 h0]
def l36:List yg:=YZ 159 xQ (Ko 174 z3M) Wv::l35
def z0I [H:HS X0 l35]:OkH l36:=yS1 true func159 λm_ r0 aa E hE=>by cases aa;exact yE hE []
def l37:List yg:=z2A 193 xQ F8_ rY F9_ kE::l36
def z2O [H:HS X0 l36]:OkH l37:=yS3 false func193 λm_ p_ s_ r0 aa E hE=>by
 refine yN 111 [] [6,7] (zI XB r0) (λz=>[(7,.own (.box (F9_ z)))]) [1,2,3,6,7] [Hh (.cut 2)] ?_ λJ1 ar=>?_
 ·rintro out aa;cases aa;exact yE hE []
 obtain⟨ap,h0,t2,ht2,aa⟩:=yf aa;refine yM 111210 [J1] [1,6,7,14,15,16] (λx=>[(7,.own (.box (F9_ x.1))),(16,.d (I x.2))]) ht2  [Hi wv h0,Ha (lnM uS ap)] λ⟨aj,ft⟩ m2 av ae hl1 J2 au=>?_;obtain c0|c0:=zH ae
 ·refine yNs 111210011 [J1,J2] [1,6,7,14,15,16] (zI (kW ft) av) (λz=>[(7,.own (.box (F9_ z)))]) [c0,Hh (.cut 0)] ?_ λJ3 bg=>?_
  ·rintro ax ae;cases ae;exact yB au _ hl1 []
  obtain⟨al,h1,cell,h2,arr,h3,ae⟩:=ZZ c0.2;replace h3:=xR h3;let Z0:List HO:=[Hi uS h1,Hn (⟨arJ (by kernel_rfl) (i0 h2),(iL F0_ h2).2⟩:kI wZ 256 ((zC.toL aj).map F0_) ft=true/\ft.toNat<((zC.toL aj).map F0_).length),Hh (.op 9),Hh (.f),Hs (iM F0_ h2),Hh (.f),Hs (iM F0_ h2),Hx (.l ((zC.toL arr).map F0_)) ((zC.setL F0_ aj ft (jD.mk al.Out (-1))).trans (congrArg (λq=>(zC.toL q).map F0_) h3))];obtain c1|c1:=zH ae
  ·obtain⟨bj,h4,co,h5,arr1,h6,ae⟩:=ZZ c1.2;replace h6:=xR h6;exact yB bg arr1 ae (Z0++[c1,Hi rY h4,Hn (⟨arJ (by kernel_rfl) (i0 h5),(iL F0_ h5).2⟩:kI wZ 256 ((zC.toL arr).map F0_) ft=true/\ft.toNat<((zC.toL arr).map F0_).length),Hh (.op 2),Hh (.f),Hs (iM F0_ h5),Hn (⟨rfl,by decide⟩:true=true/\1<2),Hh (.op 0),Hh (.f),Hs (iM F0_ h5),Hh (.f),Hx (.a (I co.e1)) (rfl:some (I co.e1:A)=some (I co.e1)),Hh (.f),Hs (iM F0_ h5),Hh (.f),Hx (.a (I co.e1)) (rfl:some (I co.e1:A)=some (I co.e1)),Hx (.l [I co.e0,I bj]) (rfl:[I co.e0,I bj]=[I co.e0,I bj]),Hx (.l ((zC.toL arr1).map F0_)) ((zC.setL F0_ arr ft (jD.mk co.e0 bj)).trans (congrArg (λq=>(zC.toL q).map F0_) h6))])
  exact yB bg arr c1.2 (Z0++[c1])
 cases c0.2;cases hl1;exact yB ar aj aa [c0]
def l38:List yg:=Zs 175 xQ F8_ F5_ kZ::l37
def KK [H:HS X0 l37]:OkH l38:=yS2 true func175 λm_ p_ r0 aa E hE=>by
 let u0:=(z9a [.i64,.i64,.i64,.i64,.i64,.i64,.i64,.i64,.i64,.i64,.i64,.i64,.i64,.i64,.i64,.i64,.i64,.i64,.i64,.i64,.i64,.i64,.i64,.i64,.i64,.i64,.i64,.i64,.i64,.i64,.i64,.i64,.i64]);obtain⟨g0,aa⟩:=gdE aa;refine yK (H:=zx ((ziu prog 12).or X0)) 1111 [] [6] (zI kY r0) (λz=>[(6,.own (eOs 1 true rY z))]) [1,2,5,6] [Ha (lnM rY p_),Hn (rL g0),Ha (rM 1 rY ((p_.length:Nat):Int) (0:Int)),Hh (.cut 0)] ?_ λJ1 ar=>?_
 ·rintro out aa;cases aa;exact yE hE []
 refine yMb 1111210 [J1] [1,2,5,6,16,17,18] (λx=>[(5,.own (.opq (QV (Yu z0A rY x.1)))),(6,.own (eOs 1 true rY x.2.1)),(18,.d (I x.2.2))]) aa  [Ha (lnM rY p_)] λt2 aa ⟨names,aj,gh⟩ m2 av ae hl1 J2 au=>?_;obtain c0|c0:=zH ae
 ·obtain⟨bj,h0,r_,h1,ae⟩:=yf c0.2;refine yNs 11112100110011 [J1,J2] [1,2,5,6,7,9,16,17,18] (zI (ve aj gh bj r_) av) (λz=>[(5,.own (.opq (QV (Yu z0A rY z))))]) [c0,Hi rY h0,zC3 0 h1,Hh (.cut 0)] ?_ λJ3 bg=>?_
  ·rintro jf ae;obtain⟨val,h2,ae⟩:=zy ae;replace h2:=xR h2;obtain⟨dn,h3,ae⟩:=zy ae;cases ae;exact yB (H:=zx ((z9v z5V 45 (Yu z0A rY jf)).or X0)) au _ hl1 [Hn (⟨rfl,rfl,z6j (λ_=>rfl) jf⟩:A.opq (QV (Yu z0A rY jf))=A.opq (QV (Yu z0A rY jf))/\u0 (z0A (zO.mk bj r_))=true/\∀p∈Yu z0A rY jf,u0 p.1=true),Hx (.a (rY val)) ((zo0 (f:=z0A) (g:=rY) (z0:=0) (z:=.atom (.int .i64 0)) rfl (zO.mk bj r_) jf).trans (congrArg rY h2)),Hn (iL rY h3),Hs (iM rY h3),Hs (iM rY h3),Hl (sM rY aj gh val)]
  obtain⟨rh,h4,ae⟩:=zy ae;replace h4:=xR h4;let Z0:List HO:=[Hn (⟨rfl,rfl,z6j (λ_=>rfl) names⟩:A.opq (QV (Yu z0A rY names))=A.opq (QV (Yu z0A rY names))/\u0 (z0A (zO.mk bj r_))=true/\∀p∈Yu z0A rY names,u0 p.1=true),Hx (.a (.tup [I rh,B ((Vb names (zO.mk bj r_)).isSome)])) ((zp4 (f:=z0A) (g:=rY) (z0:=0) (z:=.atom (.int .i64 0)) rfl (zO.mk bj r_) names).trans (congrArg (λx=>A.tup [rY x,.atom (.bool (Vb names (zO.mk bj r_)).isSome)]) h4))];obtain c1|c1:=zH ae
  ·exact yB (H:=zx ((zn6 z5V 37 (Yu z0A rY names) (Yu z0A rY (z1Y names (zO.mk bj r_) ((names.length:Nat):Int)))).or ((zlH z5V 40 (Yu z0A rY names)).or ((z9v z5V 32 (Yu z0A rY names)).or X0)))) bg (z1Y names (zO.mk bj r_) ((names.length:Nat):Int)) c1.2 (Z0++[c1,Hn (rfl:A.opq (QV (Yu z0A rY names))=A.opq (QV (Yu z0A rY names))),Hx (aLn names.length) (zhG z0A rY names),Hn (⟨rfl,rfl,rfl,rfl,z6j (λ_=>rfl) names⟩:T.own (.opq (QV (Yu z0A rY names)))=T.own (.opq (QV (Yu z0A rY names)))/\0=0/\u0 (z0A (zO.mk bj r_))=true/\(rY ((names.length:Nat):Int)).isD=true/\∀p∈Yu z0A rY names,u0 p.1=true),Hn (zak (f:=z0A) (g:=rY) (zO.mk bj r_) ((names.length:Nat):Int) names)])
  exact yB (H:=zx ((z9v z5V 32 (Yu z0A rY names)).or X0)) bg names c1.2 (Z0++[c1])
 cases c0.2;cases hl1;exact yB ar aj aa [c0]
def l39:List yg:=Zs 56 F8_ F8_ eB vF::l38
def Ui [H:HS X0 l38]:OkH l39:=yS2 true func56 λs1 s2 r0 aa E hE=>by
 let Z0:List HO:=[Ha (lnM rY s1),Ha (lnM rY s2)];obtain c0|c0:=zH aa
 ·cases c0.2;exact yE hE (Z0++[c0])
 refine yK 111 [] [] (λz:Unit=>ue=some r0) (λz=>[]) [0,1] (Z0++[c0,Hh (.cut 0)]) ?_ λJ1 ar=>?_
 ·rintro⟨⟩ aa;cases aa;exact yE hE []
 refine yMb 111210 [J1] [0,1,12,13] (λx=>[(13,.d (I x))]) c0.2  [Ha (lnM rY s1)] λt2 aa fq m2 av ae hl1 J2 au=>?_;obtain c1|c1:=zH ae
 ·obtain⟨pa,h0,nw,h1,ae⟩:=yf c1.2;let Z1:List HO:=[c1,Hi rY h0,Hi rY h1];obtain c2|c2:=zH ae
  ·cases c2.2;cases hl1;cases aa;exact yE hE (Z1++[c2])
  cases c2.2;exact yB au _ hl1 (Z1++[c2])
 cases c1.2;cases hl1;exact yB ar () aa [c1]
abbrev UD (x0:z6)(YY:σ->JP)(dw:σ)(p_:TB):List (Nat×T):=[(0,.own (.opq (YY dw).q)),(1,.d (.sptr (xQ x0))),(3,.own (eOs 1 true rY p_))]
def JV [H:HS X0 l39](x0:z6):z4W prog (.fn 174 [.sptr (.agg [I x0.Inputs,I x0.Outputs,eSl 1 false wv x0.Rows])]) (λ(x:TB) (_:Bool) (_:Value)=>[F8_ x]) (@jS x0):=by
 refine z05 (tt:=wZ) (nt:=f174.ntmps) (body:=zbd f174) zl func174 rfl (by kernel_rfl) rfl rfl (by show(2:Nat)<=19;decide) ?_;intro σ yv YY yy hy sg r0 aa E hE;obtain⟨g0,aa⟩:=gdE aa;obtain⟨t1,ht1,aa⟩:=zy aa;refine yL 110 [] (λs=>ug x0 yy s.1 s.2) (λx=>UD x0 YY x.1 x.2) (sg,(List.replicate ((x0.Rows.length:Nat):Int).toNat (0:Int))) ht1  [Ha (lnM wv x0.Rows),Hn (rL g0),Ha (rM 1 rY ((x0.Rows.length:Nat):Int) (0:Int))] λ⟨dw,p_⟩ m1 av ae hl1 J1 ar=>?_;obtain⟨yr,h0,ae⟩:=zy ae;let Z0:List HO:=[Hm (shM rY rY p_),Hn (KU (yv:=yv) (Y:=YY) (enc:=(λ(x:TB) (_:Bool) (_:Value)=>[F8_ x])) (s:=dw) (x:=p_) (s':=yr.1) (b:=yr.2) (v:=.nilFunc) [F4_ p_] (show Qm [F4_ p_] [F8_ p_] from inferInstance))];obtain c0|c0:=zH ae
 ·obtain⟨r_,h1,ai,h2,ae⟩:=yf c0.2;let Z1:List HO:=(Z0++[c0,Hk [] (Kl (hat 1)) (zf2 1 h1 (loC xQ x0 <| loC F4_ p_ <| loN)),zg 0,Hm (shM rY rY r_),Hs (zf2 0 h2 (loC F4_ p_ <| loC F4_ r_ <| loN))]);obtain c1|c1:=zH ae
  ·cases c1.2;cases hl1;cases aa;exact yF (H:=zx ((WI (P:=prog) wZ hy 11 (s:=dw) (x:=p_) (s':=yr.1) (b:=yr.2) .nilFunc h0).or X0)) .ret [(0,.own (.opq (YY yr.1).q))] (Z1++[c1]) λst0 h0=>hE _ st0 (.inr rfl) h0
  cases c1.2;exact yB (H:=zx ((WI (P:=prog) wZ hy 11 (s:=dw) (x:=p_) (s':=yr.1) (b:=yr.2) .nilFunc h0).or X0)) ar _ hl1 (Z1++[c1])
 cases c0.2;cases hl1;cases aa;exact yF (H:=zx ((WI (P:=prog) wZ hy 11 (s:=dw) (x:=p_) (s':=yr.1) (b:=yr.2) .nilFunc h0).or X0)) .normal [(0,.own (.opq (YY yr.1).q))] (Z0++[c0]) λst0 h0=>hE _ st0 (.inl rfl) h0
def l40:List yg:=YZ 134 xQ (eT3 F8_ rY rY) Z9::l39
def KL [H:HS X0 l39]:OkH l40:=yS1 false func134 λm_ r0 aa E hE=>by
 obtain⟨r_,h0,aa⟩:=zy aa;let Z0:List HO:=[Hh (.v 2 [2]),Hm (shM rY rY []),zC1 14 h0];obtain c0|c0:=zH aa
 ·cases c0.2;exact yEl hE (Z0++[c0,Hm (shM rY rY [])])
 refine yK 1111 [] [2,3] (λz:TB×Int=>Z8 z.1 z.2=some r0) (λz=>[(2,.own (.box (eSl 1 false rY z.1))),(3,.own (.box (I z.2)))]) [1,2,3] (Z0++[Hb c0,Hh (.cut 1)]) ?_ λJ1 ar=>?_
 ·rintro⟨p_,n_⟩ aa;cases aa;exact yE hE []
 obtain⟨ai,h1,t2,ht2,aa⟩:=yf c0.2;refine yAt (sub [1,1,1,2,1,0] (zbd f134)) (frs [1,1,1,2,1,0] [J1] (zbd f134) []) [(2,.own (.box (eSl 1 true rY []))),(3,.own (.box (I (-1)))),(13,.d (.fn 174 [.sptr (.agg [I ai.Inputs,I ai.Outputs,eSl 1 false wv ai.Rows])]))] [zC1 3 h1] λst0 h0=>?_;refine JL (g:=.tmp 13) (ps:=[14]) (assign:=(sub [1,1,1,2,1,0,0] (zbd f134))) (body:=(sub [1,1,1,2,1,0,1] (zbd f134))) (K:=174) (caps:=[.sptr (.agg [I ai.Inputs,I ai.Outputs,eSl 1 false wv ai.Rows])]) (by kernel_rfl) [2,3,13] (λs=>[(2,.own (.box (eSl 1 false rY s.1))),(3,.own (.box (I s.2))),(13,.d (.fn 174 [.sptr (.agg [I ai.Inputs,I ai.Outputs,eSl 1 false wv ai.Rows])]))]) (λz=>nomatch z) (λz=>nomatch z) ((λ(x:TB) (_:Bool) (_:Value)=>[F8_ x])) (F:=@jS ai) (λs x=>vg s.1 s.2 x) (([]:TB),(-1)) t2 _ h0 inferInstance (by kernel_rfl) (by decide) (λ_=>rfl) (by rintro⟨⟩) (by kernel_rfl) (λ_ _ _=>rfl) (JV (H:=zd 0) ai) ht2 ?_ ?_
 ·rintro qg ⟨nv,ca⟩ kq vr av ae;replace ae:vg nv ca kq=some av:=ae;refine yF .normal [(2,.own (.box (eSl 1 false rY nv))),(3,.own (.box (I ca))),(6,.d (eSl 1 false rY kq)),(13,.d (.fn 174 [.sptr (.agg [I ai.Inputs,I ai.Outputs,eSl 1 false wv ai.Rows])]))] [] λst0 h0=>⟨rfl,z35 h0 ?_⟩;cases ae;exact yF .normal ([(2,.own (.box (eSl 1 false rY kq))),(3,.own (.box (I (w64 (ca+1))))),(13,.d (.fn 174 [.sptr (.agg [I ai.Inputs,I ai.Outputs,eSl 1 false wv ai.Rows])]))]) [] λst0 h0=>⟨rfl,_,h0,LeL.refl _⟩
 rcases t2 with⟨nv,ca⟩|z
 ·dsimp only at aa;exact Yw (by kernel_rfl) (ar _ [(2,.own (.box (eSl 1 false rY nv))),(3,.own (.box (I ca)))] (nv,ca) aa (show Own.canon [2,3] _=ofL _ by kernel_rfl) inferInstance)
 cases z
def l41:List yg:=YZ 135 F8_ rY uL::l40
def QM [H:HS X0 l40]:OkH l41:=yS1 true func135 λx_ r0 aa E hE=>by
 obtain c0|c0:=zH aa
 ·cases c0.2
 obtain⟨mq,h0,aa⟩:=zy c0.2;refine yK 1111 [] [3] (zI qz r0) (λz=>[(3,.d (I z))]) [0,3] [Ha (lnM rY x_),c0,Hi rY h0,Hh (.cut 0)] ?_ λJ1 ar=>?_
 ·rintro m_ aa;cases aa;exact yE hE []
 refine yMb 1111210 [J1] [0,3,4] (λx=>[(3,.d (I x.1)),(4,.d (I x.2))]) aa  [] λt2 aa ⟨pb,i_⟩ m2 av ae hl1 J2 au=>?_;obtain c1|c1:=zH ae
 ·obtain⟨l7,h1,ae⟩:=zy c1.2;cases ae;exact yB au _ hl1 [Ha (lnM rY x_),c1,Hi rY h1]
 cases c1.2;cases hl1;exact yB ar pb aa [Ha (lnM rY x_),c1]
def l42:List yg:=YZ 133 z3M eB ZP::l41
def Jq [H:HS X0 l41]:OkH l42:=yS1 true func133 λx0 r0 aa E hE=>by obtain⟨r_,h0,ai,h1,aa⟩:=yf aa;cases aa;exact yE hE [zC1 1 h0,zC1 0 h1,Ha (lnM rY r_.1)]
def l43:List yg:=YZ 58 xQ rY wh::l42
def JW [H:HS X0 l42]:OkH l43:=yS1 true func58 λm_ r0 aa E hE=>by
 obtain⟨r_,h0,aa⟩:=zy aa;let Z0:List HO:=[zC1 17 h0];obtain c0|c0:=zH aa
 ·cases c0.2;exact yE hE (Z0++[c0])
 refine yK 111 [] [] (λz:Unit=>jX=some r0) (λz=>[]) [1] (Z0++[c0,Hh (.cut 0)]) ?_ λJ1 ar=>?_
 ·rintro⟨⟩ aa;cases aa;exact yE hE []
 obtain⟨ai,h1,ak,h2,aa⟩:=yf c0.2;let Z1:List HO:=[zC1 16 h1,Hh (.u 70),qT,zC1 11 h2];obtain c1|c1:=zH aa
 ·cases c1.2;exact yE hE (Z1++[c1])
 obtain⟨am,h3,aa⟩:=zy c1.2;let Z2:List HO:=(Z1++[c1,qT,zC1 7 h3]);obtain c2|c2:=zH aa
 ·cases c2.2;exact yE hE (Z2++[c2])
 obtain⟨az,h4,aa⟩:=zy c2.2;let Z3:List HO:=(Z2++[c2,qT,zC1 0 h4]);obtain c3|c3:=zH aa
 ·cases c3.2;exact yE hE (Z3++[c3])
 exact yB ar () c3.2 (Z3++[c3,qF])
def l44:List yg:=Zs 25 xQ rY rY Yp::l43
def z2L [H:HS X0 l43]:OkH l44:=yS2 true func25 λm_ bound r0 aa E hE=>by
 obtain⟨r_,h0,aa⟩:=zy aa;let Z0:List HO:=[zC1 0 h0];obtain c0|c0:=zH aa
 ·cases c0.2;exact yE hE (Z0++[c0])
 let Z1:List HO:=(Z0++[c0,Ha (lnM wv m_.Rows)]);obtain c1|c1:=zH c0.2
 ·cases c1.2;exact yE hE (Z1++(rpN 7 (Hb c1) [qT]))
 let Z2:List HO:=(Z1++(rpN 4 (Hb c1) [Ha (lnM wv m_.Rows),c1,c1,c1]));obtain c2|c2:=zH c1.2
 ·cases c2.2;exact yE hE (Z2++[c2])
 cases c2.2;exact yE hE (Z2++[c2])
def l45:List yg:=Zs 165 xQ rY (zp6 186 z3M (eSp rY)) Wp::l44
def z0D [H:HS X0 l44]:OkH l45:=yS2 true func165 λm_ from_ r0 aa E hE=>by cases aa;exact yE hE []
abbrev Up (x0:z6)(YY:σ->JP)(cw:zn)(yr:σ×Bool)(ap:List z8)(jl:Int)(eu:List Bool)(nd:List zn):List (Nat×T):=[(0,.own (.opq (YY yr.1).q)),(1,.d (.sptr (xQ x0))),(4,.own (eOs 1 true eB eu)),(5,.own (eDq 3 Zv nd)),(6,.own (.box (Zv cw))),(36,.d (eSl 2 false uS ap)),(37,.d (I ((ap.length:Nat):Int))),(38,.d (I jl))]
abbrev Un (x0:z6)(YY:σ->JP)(cw:zn)(yr:σ×Bool)(ap:List z8)(gn:List Bool)(fx:List zn)(jl:Int):List (Nat×T):=[(0,.own (.opq (YY yr.1).q)),(1,.d (.sptr (xQ x0))),(4,.own (eOs 1 true eB gn)),(5,.own (eDq 3 Zv fx)),(6,.own (.box (Zv cw))),(36,.d (eSl 2 false uS ap)),(37,.d (I ((ap.length:Nat):Int))),(38,.d (I jl))]
abbrev Uo (x0:z6)(YY:σ->JP)(dw:σ)(kh:List Bool)(d8:List zn):List (Nat×T):=[(0,.own (.opq (YY dw).q)),(1,.d (.sptr (xQ x0))),(4,.own (eOs 1 true eB kh)),(5,.own (eDq 3 Zv d8))]
def JR [H:HS X0 l45](x0:z6)(x1:Int):z4W prog (.fn 186 [.sptr (.agg [I x0.Inputs,I x0.Outputs,eSl 1 false wv x0.Rows]),.sptr (I x1)]) (λ(x:zn) (_:Bool) (_:Value)=>[Zv x]) (@jP x0 x1):=by
 refine z05 (tt:=wZ) (nt:=f186.ntmps) (body:=zbd f186) zl func186 rfl (by kernel_rfl) rfl rfl (by show(3:Nat)<=68;decide) ?_;intro σ yv YY yy hy sg r0 aa E hE;obtain⟨g0,aa⟩:=gdE aa;obtain⟨mj,h0,t1,ht1,aa⟩:=yf aa;refine yLx 11110 [] (λs=>vW x0 yy s.1 s.2.1 s.2.2) (λx=>Uo x0 YY x.1 x.2.1 x.2.2) (sg,((List.replicate ((x0.Rows.length:Nat):Int).toNat false).set x1.toNat true),([(zn.mk x1 (-1) (-1))]:List zn)) ht1 [(0,.own (.opq (YY sg).q)),(1,.d (.sptr (xQ x0))),(4,.own (eOs 1 true eB ((List.replicate ((x0.Rows.length:Nat):Int).toNat false).set x1.toNat true))),(5,.own (eOs 3 true Zv ([(zn.mk x1 (-1) (-1))])))] inferInstance [Ha (lnM wv x0.Rows),Hn (rL g0),Ha (rM 1 eB ((x0.Rows.length:Nat):Int) false),Hn (iL eB h0),Hs (iM eB h0),Hs (iM eB h0),Hl (sM eB (List.replicate ((x0.Rows.length:Nat):Int).toNat false) x1 true)] λ⟨dw,kh,d8⟩ m1 av ae hl1 J1 ar=>?_;let Z0:List HO:=[Hn (rfl:eDq 3 Zv d8=A.opq (z1L 3 (d8.map Zv)).q),Ha (lnM Zv d8)];obtain c0|c0:=zH ae
 ·refine yC (H:=zx ((xQl zl 20 244 3 (d8.map Zv) (by kernel_rfl)).or X0)) 11110010 [J1] [0,1,4,5] (Z0++[c0,Hh (.cut 0)]) ?_;obtain⟨cw,h1,ae⟩:=zy c0.2;refine z6p (by kernel_rfl) (x:=(sub [1,1,1,0,0,1,0,0] (zbd f186))) (y:=(sub [1,1,1,0,0,1,0,1] (zbd f186))) 5 (λst1=>Own.canon [0,1,4,5,6] st1=ofL [(0,.own (.opq (YY dw).q)),(1,.d (.sptr (xQ x0))),(4,.own (eOs 1 true eB kh)),(5,.own (eDq 3 Zv d8)),(6,.own (.box (Zv cw)))]) (λkc=>yF (H:=zx ((xQd zl 24 3 5 kc (0:Int) (d8.map Zv) (Zv cw)).or ((xQi zl 23 3 5 kc (d8.map Zv)).or X0))) .normal [(0,.own (.opq (YY dw).q)),(1,.d (.sptr (xQ x0))),(4,.own (eOs 1 true eB kh)),(5,.own (eDq 3 Zv d8)),(6,.own (.box (Zv cw)))] [Hn (⟨rfl,rfl,rfl,rfl,i0 h1,(iL Zv h1).2⟩:T.als 5 [] 0 0=T.als 5 [] 0 0/\some kc=some kc/\T.own (eDq 3 Zv d8)=T.own (eDq 3 Zv d8)/\some 3=some 3/\(0:Int)<=0/\(0:Int).toNat<(d8.map Zv).length),Hn (⟨rfl,rfl,rfl,iM Zv h1,rfl,Jd.isD cw⟩:T.d (.atom (z95 3 kc (0:Int)))=T.d (.atom (z95 3 kc (0:Int)))/\some kc=some kc/\T.own (eDq 3 Zv d8)=T.own (eDq 3 Zv d8)/\(d8.map Zv)[(0:Int).toNat]?=some (Zv cw)/\true=true/\(Zv cw).isD=true)] λst0 h0=>⟨rfl,h0⟩) λst1 h1=>z35 h1 ?_;obtain⟨g1,ae⟩:=gdE ae;obtain⟨yr,h2,ae⟩:=zy ae;let Z1:List HO:=[Hn (rfl:eDq 3 Zv d8=A.opq (z1L 3 (d8.map Zv)).q),Hn (⟨g1.1,cuB Zv g1⟩:(0:Int)<=1/\(1:Int).toNat<=(d8.map Zv).length),Hn (drM Zv d8 (1:Int).toNat),Hn (KU (yv:=yv) (Y:=YY) (enc:=(λ(x:zn) (_:Bool) (_:Value)=>[Zv x])) (s:=dw) (x:=cw) (s':=yr.1) (b:=yr.2) (v:=.nilFunc) [Zv cw] (show Qm [Zv cw] [Zv cw] from inferInstance))];obtain c1|c1:=zH ae
  ·cases c1.2;cases hl1;cases aa;exact yF (H:=zx ((WI (P:=prog) wZ hy 29 (s:=dw) (x:=cw) (s':=yr.1) (b:=yr.2) .nilFunc h2).or ((xQs zl 26 3 (d8.map Zv) ((d8.drop (1:Int).toNat).map Zv)).or X0))) .ret [(0,.own (.opq (YY yr.1).q))] (Z1++[c1]) λst0 h0=>hE _ st0 (.inr rfl) h0
  obtain⟨ap,h3,t2,ht2,ae⟩:=yf c1.2;refine yL (H:=zx ((WI (P:=prog) wZ hy 29 (s:=dw) (x:=cw) (s':=yr.1) (b:=yr.2) .nilFunc h2).or ((xQs zl 26 3 (d8.map Zv) ((d8.drop (1:Int).toNat).map Zv)).or X0))) 1111001011110 [J1] (λs=>wI cw yr ap s.1 s.2.1 s.2.2) (λx=>Un x0 YY cw yr ap x.1 x.2.1 x.2.2) (kh,(d8.drop (1:Int).toNat),0) ht2  (Z1++[c1,Hi wv h3,Ha (lnM uS ap)]) λ⟨gn,fx,jl⟩ m2 dj ah hl2 J2 au=>?_;obtain c2|c2:=zH ah
  ·refine yKs 1111001011110011 [J1,J2] [0,1,4,5,6,36,37,38] (λz:List Bool×List zn=>xc jl z.1 z.2=some dj) (λz=>Up x0 YY cw yr ap jl z.1 z.2) [c2,Hh (.cut 0)] ?_ λJ3 bg=>?_
   ·rintro⟨eu,nd⟩ ah;cases ah;exact yB au _ hl2 []
   obtain⟨al,h4,ah⟩:=zy c2.2;let Z2:List HO:=[Hi uS h4];obtain c3|c3:=zH ah
   ·obtain⟨p7,h5,ah⟩:=zy c3.2;let Z3:List HO:=(Z2++(rpN 4 (Hb c3) [Hn (iL eB h5),c3,Hs (iM eB h5),c3,c3]));obtain c4|c4:=zH ah
    ·obtain⟨ra,h6,ah⟩:=zy c4.2;obtain⟨g2,ah⟩:=gdE ah;exact yB (H:=zx ((xQa zl 66 3 (fx.map Zv) ((fx++[(zn.mk al.To cw.state_ jl)]).map Zv)).or X0)) bg ((gn.set al.To.toNat true),(fx++[(zn.mk al.To cw.state_ jl)])) ah (Z3++[c4,Hn (iL eB h6),Hs (iM eB h6),Hs (iM eB h6),Hl (sM eB gn al.To true),Hn (⟨rfl,dM Zv [(zn.mk al.To cw.state_ jl)],rfl⟩:3=3/\A.areD ([(zn.mk al.To cw.state_ jl)].map Zv)=true/\true=true),Hn (⟨rfl,aL Zv Zv g2,dM Zv fx⟩:eDq 3 Zv fx=A.opq (z1L 3 (fx.map Zv)).q/\(fx.map Zv).length+([(zn.mk al.To cw.state_ jl)].map Zv).length<=lim/\A.areD (fx.map Zv)=true),Hn (aM Zv fx [(zn.mk al.To cw.state_ jl)])])
    exact yB bg (gn,fx) c4.2 (Z3++[c4])
   exact yB bg (gn,fx) c3.2 (Z2++(rpN 7 (Hb c3) [qF]))
  cases c2.2;cases hl2;cases ae;exact yB ar _ hl1 [c2]
 cases c0.2;cases hl1;cases aa;exact yF (H:=zx ((xQl zl 20 244 3 (d8.map Zv) (by kernel_rfl)).or X0)) .normal [(0,.own (.opq (YY dw).q))] (Z0++[c0]) λst0 h0=>hE _ st0 (.inl rfl) h0
def l46:List yg:=YZ 139 F8_ F7_ y8::l45
def Uj [H:HS X0 l45]:OkH l46:=yS1 true func139 λs_ r0 aa E hE=>by
 refine zbO rfl 0 (sz:=1) (t:=false) (es:=s_.map rY) (by kernel_rfl) λcu hv0 hn=>?_;rcases hn with⟨hn0,he0⟩|hn0
 ·obtain⟨_,aa⟩:=gdE aa;rw[show s_=[] from List.map_eq_nil_iff.1 he0]at aa;cases aa;exact yEl (H:=zx ((zlg zl 4 51 (by kernel_rfl) hn0).or ((xMv prog 3 0 cu hv0).or X0))) hE [Hn (rfl:some cu=some cu),Hn (⟨rfl,rfl⟩:T.d (.atom cu)=T.d (.atom cu)/\T.d (.atom (.slice none 0 0))=T.d (.atom (.slice none 0 0))),qT]
 obtain⟨g0,aa⟩:=gdE aa;cases aa;exact yE (H:=zx ((zlg zl 4 51 (by kernel_rfl) hn0).or ((xMv prog 3 0 cu hv0).or X0))) hE [Hn (rfl:some cu=some cu),Hn (⟨rfl,rfl⟩:T.d (.atom cu)=T.d (.atom cu)/\T.d (.atom (.slice none 0 0))=T.d (.atom (.slice none 0 0))),qF,Hn (dM rY s_),Hn (aL rY rY g0),Hl (aM0 rY s_)]
def l47:List yg:=YZ 111 F8_ F4_ zP::l46
def UL [H:HS X0 l46]:OkH l47:=yS1 true func111 λs_ r0 aa E hE=>by obtain⟨g0,aa⟩:=gdE aa;cases aa;exact yE hE [Ha (lnM rY s_),Ha (lnM rY s_),Hn (slB g0),Hn (slC g0),Hn (zgE rY g0),Ha (zlP 1 rY s_ 0 ((s_.length:Nat):Int).toNat)]
def l48:List yg:=Zs 146 xQ rY (eT2 kK (eSl 1 true eB)) Vd::l47
def z3Q [H:HS X0 l47]:OkH l48:=yS2 false func146 λm_ from_ r0 aa E hE=>by
 obtain⟨g0,aa⟩:=gdE aa;obtain⟨g1,aa⟩:=gdE aa;refine yK (H:=zx ((xMs zl 12 51).or X0)) 111 [] [6,7] (λz:TA×List Bool=>Wo z.1 z.2=some r0) (λz=>[(6,.own (.box (eOs 1 true F4_ z.1))),(7,.own (.box (eOs 1 true eB z.2)))]) [1,2,6,7] [Ha (lnM wv m_.Rows),Hn (rL g0),Ha (rM 1 F4_ ((m_.Rows.length:Nat):Int) ([]:TB)),Ha (lnM wv m_.Rows),Hn (rL g1),Ha (rM 1 eB ((m_.Rows.length:Nat):Int) false),Hh (.cut 0)] ?_ λJ1 ar=>?_
 ·rintro⟨l_,is⟩ aa;cases aa;exact yE hE [Hm (shM F4_ F4_ l_),Hm (shM eB eB is)]
 obtain⟨r_,h0,t2,ht2,aa⟩:=yf aa;refine yAt (sub [1,1,2,1,0] (zbd f146)) (frs [1,1,2,1,0] [J1] (zbd f146) []) [(6,.own (.box (eOs 1 true F4_ (List.replicate ((m_.Rows.length:Nat):Int).toNat ([]:TB))))),(7,.own (.box (eOs 1 true eB (List.replicate ((m_.Rows.length:Nat):Int).toNat false)))),(19,.d (.fn 186 [.sptr (.agg [I r_.1.Inputs,I r_.1.Outputs,eSl 1 false wv r_.1.Rows]),.sptr (I r_.2)]))] [zC2 2 h0] λst0 h0=>?_;refine JL (g:=.tmp 19) (ps:=[20]) (assign:=(sub [1,1,2,1,0,0] (zbd f146))) (body:=(sub [1,1,2,1,0,1] (zbd f146))) (K:=186) (caps:=[.sptr (.agg [I r_.1.Inputs,I r_.1.Outputs,eSl 1 false wv r_.1.Rows]),.sptr (I r_.2)]) (by kernel_rfl) [6,7,19] (λs=>[(6,.own (.box (eOs 1 true F4_ s.1))),(7,.own (.box (eOs 1 true eB s.2))),(19,.d (.fn 186 [.sptr (.agg [I r_.1.Inputs,I r_.1.Outputs,eSl 1 false wv r_.1.Rows]),.sptr (I r_.2)]))]) (λz=>nomatch z) (λz=>nomatch z) ((λ(x:zn) (_:Bool) (_:Value)=>[Zv x])) (F:=@jP r_.1 r_.2) (λs x=>wC s.1 s.2 x) ((List.replicate ((m_.Rows.length:Nat):Int).toNat ([]:TB)),(List.replicate ((m_.Rows.length:Nat):Int).toNat false)) t2 _ h0 inferInstance (by kernel_rfl) (by decide) (λ_=>rfl) (by rintro⟨⟩) (by kernel_rfl) (λ_ _ _=>rfl) (JR (H:=zd 2) r_.1 r_.2) ht2 ?_ ?_
 ·rintro qg ⟨dr,ii⟩ jn vr av ae;replace ae:wC dr ii jn=some av:=ae;refine yF .normal [(6,.own (.box (eOs 1 true F4_ dr))),(7,.own (.box (eOs 1 true eB ii))),(8,.own (.box (Zv jn))),(19,.d (.fn 186 [.sptr (.agg [I r_.1.Inputs,I r_.1.Outputs,eSl 1 false wv r_.1.Rows]),.sptr (I r_.2)]))] [] λst0 h0=>⟨rfl,z35 h0 ?_⟩;obtain⟨pq,h1,ae⟩:=zy ae;let Z0:List HO:=[Hn (iL eB h1),Hs (iM eB h1),Hs (iM eB h1),Hl (sM eB ii jn.state_ true)];obtain c0|c0:=zH ae
  ·obtain⟨bi,h2,ai,h3,ae⟩:=yf c0.2;obtain⟨g2,ae⟩:=gdE ae;obtain⟨ak,h4,ew,h5,ae⟩:=yf ae;cases ae;exact yF .normal ([(6,.own (.box (eOs 1 true F4_ (dr.set jn.state_.toNat ak)))),(7,.own (.box (eOs 1 true eB (ii.set jn.state_.toNat true)))),(19,.d (.fn 186 [.sptr (.agg [I r_.1.Inputs,I r_.1.Outputs,eSl 1 false wv r_.1.Rows]),.sptr (I r_.2)]))]) (Z0++[c0,Hn (iL F4_ h2),Hs (iM F4_ h2),Hk [] (Kl (hat 1)) (zf1 1 h3 (loC F4_ bi <| loN)),Hq (dM rY [jn.input_]),Hn (dM rY [jn.input_]),Hn (aL rY rY g2),Hl (aM rY ai [jn.input_]),zg 0,Hm (shM rY rY (ai++[jn.input_])),Hs (zf1 0 h4 (loC F8_ (ai++[jn.input_]) <| loN)),Hm (shM rY rY (ai++[jn.input_])),Hn (iL F4_ h5),Hs (iM F4_ h5),Hs (iM F4_ h5),Hl (sM F4_ dr jn.state_ ak)]) λst0 h0=>⟨rfl,_,h0,LeL.refl _⟩
  cases c0.2;exact yF .normal ([(6,.own (.box (eOs 1 true F4_ dr))),(7,.own (.box (eOs 1 true eB (ii.set jn.state_.toNat true)))),(19,.d (.fn 186 [.sptr (.agg [I r_.1.Inputs,I r_.1.Outputs,eSl 1 false wv r_.1.Rows]),.sptr (I r_.2)]))]) (Z0++[c0]) λst0 h0=>⟨rfl,_,h0,LeL.refl _⟩
 rcases t2 with⟨dr,ii⟩|z
 ·dsimp only at aa;exact Yw (by kernel_rfl) (ar _ [(6,.own (.box (eOs 1 true F4_ dr))),(7,.own (.box (eOs 1 true eB ii)))] (dr,ii) aa (show Own.canon [6,7] _=ofL _ by kernel_rfl) inferInstance)
 cases z
def l49:List yg:=YZ 114 xQ (eT3 kK (eSl 1 true eB) rY) Wa::l48
def z2D [H:HS X0 l48]:OkH l49:=yS1 false func114 λm_ r0 aa E hE=>by
 obtain⟨r_,h0,aa⟩:=zy aa;let Z0:List HO:=[zC1 23 h0];obtain c0|c0:=zH aa
 ·cases c0.2;exact yE hE (Z0++[c0,Hm (shM F8_ F8_ []),Hm (shM eB eB [])])
 obtain⟨ai,h1,aa⟩:=zy c0.2;cases aa;exact yE hE (Z0++[c0,zC2 0 h1])
def l50:List yg:=Zs 127 rY (eSp rY) eB Vc::l49
def z1e [H:HS X0 l49]:OkH l50:=yS2 true func127 λc_ x1 r0 aa E hE=>by
 obtain c0|c0:=zH aa
 ·cases c0.2;exact yE hE (rpN 4 (Hb c0) [])
 cases c0.2;exact yE hE (rpN 4 (Hb c0) [])
def l51:List yg:=Zs 156 F8_ (Ko 127 (eSp rY)) rY vL::l50
def XX [H:HS X0 l50]:OkH l51:=yS2 true func156 λs_ f_ r0 aa E hE=>by
 refine yK 11 [] [] (λz:Unit=>qA=some r0) (λz=>[]) [0,1] [Hh (.cut 1)] ?_ λJ1 ar=>?_
 ·rintro⟨⟩ aa;cases aa;exact yE hE []
 refine yMb 11210 [J1] [0,1,7,8] (λx=>[(8,.d (I x))]) aa  [Ha (lnM rY s_)] λt2 aa x8 m2 av ae hl1 J2 au=>?_;obtain c0|c0:=zH ae
 ·obtain⟨eb,h0,r_,h1,ae⟩:=yf c0.2;let Z0:List HO:=[c0,Hi rY h0,zC2 0 h1];obtain c1|c1:=zH ae
  ·cases c1.2;cases hl1;cases aa;exact yE hE (Z0++[c1])
  cases c1.2;exact yB au _ hl1 (Z0++[c1])
 cases c0.2;cases hl1;exact yB ar () aa [c0]
def l52:List yg:=Zs 126 F8_ (Ko 127 (eSp rY)) eB wP::l51
def Yz [H:HS X0 l51]:OkH l52:=yS2 true func126 λs_ f_ r0 aa E hE=>by obtain⟨r_,h0,aa⟩:=zy aa;cases aa;exact yE hE [zC2 0 h0]
def l53:List yg:=Zs 93 F8_ rY rY jW::l52
def z3P [H:HS X0 l52]:OkH l53:=yS2 true func93 λw_ inputs r0 aa E hE=>by
 obtain c0|c0:=zH aa
 ·cases c0.2;exact yE hE (rpN 4 (Hb c0) [qT])
 let Z0:List HO:=[c0,c0,Ha (lnM rY w_),c0,c0];obtain c1|c1:=zH c0.2
 ·cases c1.2;exact yE hE (Z0++[c1])
 obtain c2|c2:=zH c1.2
 ·cases c2.2;exact yE hE (Z0++(Hb c1::(rpN 4 (Hb c2) [qT])))
 obtain⟨r_,h0,aa⟩:=zy c2.2;let Z1:List HO:=(Z0++[c1,c2,c2,c2,zC2 0 h0,c2]);obtain c3|c3:=zH aa
 ·cases c3.2;exact yE hE (Z1++[c3])
 cases c3.2;exact yE hE (Z1++[c3])
def l54:List yg:=Zs 89 vp rY rY Xt::l53
def z3S [H:HS X0 l53]:OkH l54:=yS2 true func89 λl_ inputs r0 aa E hE=>by
 obtain c0|c0:=zH aa
 ·cases c0.2;exact yE hE (rpN 4 (Hb c0) [qT])
 let Z0:List HO:=[c0,c0,Ha (lnM F8_ l_),c0,c0];obtain c1|c1:=zH c0.2
 ·cases c1.2;exact yE hE (Z0++[c1])
 obtain c2|c2:=zH c1.2
 ·cases c2.2;exact yE hE (Z0++[c1,c2])
 refine yK 1111 [] [] (λz:Unit=>Jf=some r0) (λz=>[]) [0,1] (Z0++[c1,c2,Hh (.cut 0)]) ?_ λJ1 ar=>?_
 ·rintro⟨⟩ aa;cases aa;exact yE hE []
 refine yMb 1111210 [J1] [1,17,18,19] (λx=>[(19,.d (I x))]) c2.2  [Ha (lnM F8_ l_)] λt2 aa dy m2 av ae hl1 J2 au=>?_;obtain c3|c3:=zH ae
 ·obtain⟨bi,h0,r_,h1,ae⟩:=yf c3.2;let Z1:List HO:=[c3,Hi F8_ h0,zC2 0 h1];obtain c4|c4:=zH ae
  ·cases c4.2;cases hl1;cases aa;exact yE hE (Z1++[c4])
  cases c4.2;exact yB au _ hl1 (Z1++[c4])
 cases c3.2;cases hl1;exact yB ar () aa [c3]
def l55:List yg:=YZ 105 vp zi9 yx::l54
def Vf [H:HS X0 l54]:OkH l55:=yS1 true func105 λs_ r0 aa E hE=>by
 refine zbO rfl 0 (sz:=1) (t:=false) (es:=s_.map F8_) (by kernel_rfl) λcu hv0 hn=>?_;rcases hn with⟨hn0,he0⟩|hn0
 ·obtain⟨_,aa⟩:=gdE aa;rw[show s_=[] from List.map_eq_nil_iff.1 he0]at aa;cases aa;exact yEl (H:=zx ((zlg zl 4 32 (by kernel_rfl) hn0).or ((xMv prog 3 0 cu hv0).or X0))) hE [Hn (rfl:some cu=some cu),Hn (⟨rfl,rfl⟩:T.d (.atom cu)=T.d (.atom cu)/\T.d (.atom (.slice none 0 0))=T.d (.atom (.slice none 0 0))),qT]
 obtain⟨g0,aa⟩:=gdE aa;cases aa;exact yE (H:=zx ((zlg zl 4 32 (by kernel_rfl) hn0).or ((xMv prog 3 0 cu hv0).or X0))) hE [Hn (rfl:some cu=some cu),Hn (⟨rfl,rfl⟩:T.d (.atom cu)=T.d (.atom cu)/\T.d (.atom (.slice none 0 0))=T.d (.atom (.slice none 0 0))),qF,Hn (dM F8_ s_),Hn (aL F8_ F8_ g0),Hl (aM0 F8_ s_)]
def l56:List yg:=YZ 171 rY eB Xc::l55
def z1r [H:HS X0 l55]:OkH l56:=yS1 true func171 λx_ r0 aa E hE=>by cases aa;exact yE hE []
def l57:List yg:=Zs 154 rY rY rY qJ::l56
def KQ [H:HS X0 l56]:OkH l57:=yS2 true func154 λx_ y_ r0 aa E hE=>by
 obtain⟨r_,h0,ai,h1,aa⟩:=yf aa;let Z0:List HO:=[zC1 0 h0,zC1 0 h1];obtain c0|c0:=zH aa
 ·obtain c1|c1:=zH c0.2
  ·cases c1.2;exact yE hE (Z0++[c0,c1])
  cases c1.2;exact yE hE (Z0++[c0,c1])
 obtain c2|c2:=zH c0.2
 ·cases c2.2;exact yE hE (Z0++[c0,c2])
 obtain c3|c3:=zH c2.2
 ·cases c3.2;exact yE hE (Z0++[c0,c2,c3])
 obtain c4|c4:=zH c3.2
 ·cases c4.2;exact yE hE (Z0++[c0,c2,c3,c4])
 cases c4.2;exact yE hE (Z0++[c0,c2,c3,c4])
def l58:List yg:=Zs 155 F8_ F8_ rY wS::l57
def WK [H:HS X0 l57]:OkH l58:=yS2 true func155 λs1 s2 r0 aa E hE=>by
 refine yNs 11 [] [0,1] (λz:Unit=>vu s1 s2=some r0) (λz=>[]) [Hh (.cut 1)] ?_ λJ1 ar=>?_
 ·rintro⟨⟩ aa;let Z0:List HO:=[Ha (lnM rY s1),Ha (lnM rY s2)];obtain c0|c0:=zH aa
  ·cases c0.2;exact yE hE (Z0++[c0])
  cases c0.2;exact yE hE (Z0++[c0])
 refine yMb 11210 [J1] [0,1,9,10,11] (λx=>[(11,.d (I x))]) aa  [Ha (lnM rY s1)] λt2 aa ig m2 av ae hl1 J2 au=>?_;obtain c1|c1:=zH ae
 ·obtain⟨pa,h0,ae⟩:=zy c1.2;let Z1:List HO:=[c1,Hi rY h0,Ha (lnM rY s2)];obtain c2|c2:=zH ae
  ·cases c2.2;cases hl1;cases aa;exact yE hE (Z1++[c2])
  obtain⟨nw,h1,r_,h2,ae⟩:=yf c2.2;let Z2:List HO:=(Z1++[c2,Hi rY h1,zC2 0 h2]);obtain c3|c3:=zH ae
  ·cases c3.2;cases hl1;cases aa;exact yE hE (Z2++[c3])
  cases c3.2;exact yB au _ hl1 (Z2++[c3])
 cases c1.2;cases hl1;exact yB ar () aa [c1]
def l59:List yg:=YZ 153 F8_ rY QH::l58
def z5k [H:HS X0 l58]:OkH l59:=yS1 true func153 λvals r0 aa E hE=>by
 refine yN 111 [] [3] (λz:Unit=>VS=some r0) (λz=>[]) [0,3] [Hh (.cut 2)] ?_ λJ1 ar=>?_
 ·rintro⟨⟩ aa;cases aa;exact yE hE []
 refine yMb 111210 [J1] [3,6,7,8] (λx=>[(8,.d (I x))]) aa  [Ha (lnM rY vals)] λt2 aa x8 m2 av ae hl1 J2 au=>?_;obtain c0|c0:=zH ae
 ·obtain⟨pr,h0,ae⟩:=zy c0.2;obtain c1|c1:=zH ae
  ·cases c1.2;cases hl1;cases aa;exact yE hE [c0,Hi rY h0,c1]
  cases c1.2;exact yB au _ hl1 [c0,Hi rY h0,c1]
 cases c0.2;cases hl1;exact yB ar () aa [c0]
def l60:List yg:=Zs 125 F8_ F8_ rY yQ::l59
def z1d [H:HS X0 l59]:OkH l60:=yS2 true func125 λa_ b_ r0 aa E hE=>by obtain⟨r_,h0,ai,h1,ak,h2,aa⟩:=ZZ aa;cases aa;exact yE hE [Ha (lnM rY a_),Ha (lnM rY b_),zC2 2 h0,zC2 1 h1,zg 0,Hm (shM rY rY ([r_,ai])),Hs (zf1 0 h2 (loC F4_ [r_,ai] <| loN))]
def l61:List yg:=Zs 138 F8_ F8_ eB jF::l60
def z0E [H:HS X0 l60]:OkH l61:=yS2 true func138 λa_ b_ r0 aa E hE=>by obtain⟨r_,h0,aa⟩:=zy aa;cases aa;exact yE hE [zC2 0 h0]
def l62:List yg:=Zs 137 zi9 (z8w 138) zi9 xA [true,false]::l61
def y6:XH prog:=((zn9 zl 64).or X0)
def YA [H:HS y6 l61]:OkH l62:=yS2 true func137 λs_ eq r0 aa E hE=>by
 refine z4M (y:=eOs 1 false F8_ s_) rfl 0 (by kernel_rfl) (by kernel_rfl) λcu hv0=>?_;let Z0:List HO:=[Ha (lnM F8_ s_)];obtain c0|c0:=zH aa
 ·cases c0.2;exact yE hE (Z0++[c0])
 refine yN 111 [] [0] (λz:Unit=>vV s_=some r0) (λz=>[]) [0,1] (Z0++[c0,Hh (.cut 0)]) ?_ λJ1 ar=>?_
 ·rintro⟨⟩ aa;cases aa;exact yE hE []
 refine yMb 111210 [J1] [0,1,5] (λx=>[(5,.d (I x))]) c0.2  [] λt2 aa k_ m2 av ae hl1 J2 au=>?_;let Z1:List HO:=[Ha (lnM F8_ s_)];obtain c1|c1:=zH ae
 ·refine yNs 11121001 [J1,J2] [0,1,5] (λz:Unit=>w7 k_=some av) (λz=>[]) (Z1++[c1,Hh (.cut 0)]) ?_ λJ3 bg=>?_
  ·rintro⟨⟩ ae;cases ae;exact yB au _ hl1 []
  obtain⟨eb,h0,nn,h1,r_,h2,ae⟩:=ZZ c1.2;let Z2:List HO:=[Hn (iL F8_ h0),Hs (iM F8_ h0),Hn (iL F8_ h1),Hs (iM F8_ h1),zC2 0 h2];obtain c2|c2:=zH ae
  ·obtain⟨g0,ae⟩:=gdE c2.2;refine yK (H:=zx ((xAs prog 6 (V7 1 cu k_)).or ((xVw zl 31 0 cu).or y6))) 1112100120101 [J1,J2,J3] [0,5] (λz:TA×Int=>yi z.1 z.2=some av) (λz=>[(0,.own (eOs 1 false F8_ z.1)),(5,.d (I z.2))]) [0,1,5,6] (Z2++[c2,Hn (⟨.inl rfl,rfl⟩:(T.als 0 [] 0 0=T.als 0 [] 0 0\/T.als 0 [] 0 0=T.d (.atom cu))/\some cu=some cu),Hn (⟨g0.1,cuB F8_ g0⟩:(0:Int)<=k_/\k_.toNat<=(s_.map F8_).length),Hn (rfl:T.d (.atom (V7 1 cu k_))=T.d (.atom (V7 1 cu k_))),Hh (.cut 1)]) ?_ λJ4 db=>?_
   ·rintro⟨bk,de⟩ ae;obtain⟨g1,ae⟩:=gdE ae;obtain⟨g2,ae⟩:=gdE ae;obtain⟨g3,ae⟩:=gdE ae;cases ae;cases hl1;cases aa;exact yE (H:=zx ((xVc zl 61 1 0 cu de).or ((xVw zl 61 0 cu).or y6))) hE [Hn (⟨.inl rfl,rfl⟩:(T.als 0 [] 0 0=T.als 0 [] 0 0\/T.als 0 [] 0 0=T.d (.atom cu))/\some cu=some cu),Hn (⟨g1.1,cuB F8_ g1⟩:(0:Int)<=de/\de.toNat<=(bk.map F8_).length),Hn (⟨rfl,rfl⟩:T.d (.atom (V7 1 cu de))=T.d (.atom (V7 1 cu de))/\some cu=some cu),Hn (⟨g2.1,cuB F8_ g2,dM F8_ bk⟩:(0:Int)<=de/\de.toNat<=(bk.map F8_).length/\A.areD (bk.map F8_)=true),Hx (.l ((bk.take de.toNat++List.replicate (bk.length - de.toNat) []).map F8_)) (vcM F8_ bk de.toNat ([]:TB)),Hn g3.1,Hn (cuB F8_ g3),Hl (cuM F8_ (bk.take de.toNat++List.replicate (bk.length - de.toNat) []) de)]
   refine yMb 1112100120101210 [J1,J2,J3,J4] [0,1,5,6,7] (λx=>[(0,.own (eOs 1 false F8_ x.1)),(5,.d (I x.2.1)),(7,.d (I x.2.2))]) ae  [] λt5 ae ⟨da,kj,k2⟩ m5 dj ah hl2 J5 dc=>?_;let Z3:List HO:=[Hn (⟨rfl,rfl⟩:T.d (.atom (V7 1 cu k_))=T.d (.atom (V7 1 cu k_))/\some cu=some cu),Hx (.a (.atom (.int .i64 ((da.length - k_.toNat:Nat):Int)))) (vlM F8_ da k_.toNat)];obtain c3|c3:=zH ah
   ·refine yNs (H:=zx ((xVl zl 34 32 1 0 cu k_ (by kernel_rfl)).or y6)) 111210012010121001 [J1,J2,J3,J4,J5] [0,1,5,6,7] (λz:TA×Int=>yh k2 z.1 z.2=some dj) (λz=>[(0,.own (eOs 1 false F8_ z.1)),(5,.d (I z.2))]) (Z3++[c3,Hh (.cut 0)]) ?_ λJ6 ep=>?_
    ·rintro⟨ng,p8⟩ ah;cases ah;exact yB dc _ hl2 []
    obtain⟨g4,ah⟩:=gdE c3.2;obtain⟨ot,h3,ah⟩:=zy ah;obtain⟨g5,ah⟩:=gdE ah;obtain⟨ou,h4,ai,h5,ah⟩:=yf ah;let Z4:List HO:=[Hn (⟨rfl,rfl⟩:T.d (.atom (V7 1 cu k_))=T.d (.atom (V7 1 cu k_))/\some cu=some cu),Hn (⟨g4.1,g4.2,(iL F8_ h3).2⟩:(0:Int)<=k_/\(0:Int)<=k2/\(k_+k2).toNat<(da.map F8_).length),Hs (iM F8_ h3),Hn (⟨rfl,rfl⟩:T.d (.atom (V7 1 cu k_))=T.d (.atom (V7 1 cu k_))/\some cu=some cu),Hn (⟨g5.1,g5.2,(iL F8_ h4).2⟩:(0:Int)<=k_/\(0:Int)<=w64 (k2 - 1)/\(k_+(w64 (k2 - 1))).toNat<(da.map F8_).length),Hs (iM F8_ h4),zC2 0 h5];obtain c4|c4:=zH ah
    ·obtain⟨g6,ah⟩:=gdE c4.2;obtain⟨ov,h6,r9,h7,ah⟩:=yf ah;exact yB (H:=zx ((xVi zl 54 1 0 cu k_).or ((xVi zl 46 1 0 cu k_).or ((xVi zl 41 1 0 cu k_).or y6)))) ep ((da.set kj.toNat ov),w64 (kj+1)) ah (Z4++[c4,Hn (⟨rfl,rfl⟩:T.d (.atom (V7 1 cu k_))=T.d (.atom (V7 1 cu k_))/\some cu=some cu),Hn (⟨g6.1,g6.2,(iL F8_ h6).2⟩:(0:Int)<=k_/\(0:Int)<=k2/\(k_+k2).toNat<(da.map F8_).length),Hs (iM F8_ h6),Hn (iL F8_ h7),Hs (iM F8_ h7),Hs (iM F8_ h7),Hl (sM F8_ da kj ov)])
    exact yB (H:=zx ((xVi zl 46 1 0 cu k_).or ((xVi zl 41 1 0 cu k_).or y6))) ep (da,kj) c4.2 (Z4++[c4])
   cases c3.2;cases hl2;exact yB (H:=zx ((xVl zl 34 32 1 0 cu k_ (by kernel_rfl)).or y6)) db (da,kj) ae (Z3++[c3])
  exact yB bg () c2.2 (Z2++[c2])
 cases c1.2;cases hl1;exact yB ar () aa (Z1++[c1])
def xJ:yg:=spR (α:=TA) (ρ:=TA) 112 (λx=>[zi9 x]) (λr=>(eOs 1 true F8_) r) (λx=>wx x) [true] (zmE)
def W3:∀x r,(λx=>wx x) x=some r->(Jl.add xJ).run 112 ((Jl.add xJ).norm 112 ((λx=>[zi9 x]) x))=some ((λr=>(eOs 1 true F8_) r) r):=λx r h=>zlu h rfl
def W6:(Jl.add xJ).gives 112=[true]:=zes
def vq [H:HS X0 l62]:xJ.Ok prog:=by refine z7H ?_;rintro s_ r0 aa;refine zY true func112 λE hE=>?_;cases aa;exact yE (H:=zx ((xCl zl 8).or X0)) hE [Ha (lnM F8_ s_),Ha (lnM F8_ s_),Hn (nA _:(0:Int)<=((s_.length:Nat):Int)),Hn (nA _:(0:Int)<=((s_.length:Nat):Int)),Hn (clB F8_ s_),Ha (clE 1 F8_ s_)]
def l63:List yg:=YZ 91 vp rY Xr::l62
def z3R [H:HS X0 l62]:OkH l63:=yS1 true func91 λl_ r0 aa E hE=>by
 refine yK 11 [] [2] (zI Je r0) (λz=>[(2,.d (I z))]) [0,2] [Hh (.cut 1)] ?_ λJ1 ar=>?_
 ·rintro n_ aa;cases aa;exact yE hE []
 refine yMb 11210 [J1] [2,5,6,7] (λx=>[(2,.d (I x.1)),(7,.d (I x.2))]) aa  [Ha (lnM F8_ l_)] λt2 aa ⟨ca,x7⟩ m2 av ae hl1 J2 au=>?_;obtain c0|c0:=zH ae
 ·obtain⟨bi,h0,ae⟩:=zy c0.2;cases ae;exact yB au _ hl1 [c0,Hi F8_ h0,Ha (lnM rY bi)]
 cases c0.2;cases hl1;exact yB ar ca aa [c0]
def l64:List yg:=YZ 104 vp (eT2 kK rY) xh::l63
def z2F [H:HS X0 l63]:OkH l64:=yS1 false func104 λl_ r0 aa E hE=>by
 obtain⟨r_,h0,aa⟩:=zy aa;refine yC 111 [] [4] [zC1 8 h0,Hh (.cut 0)] ?_;obtain⟨sorted,h1,aa⟩:=zy aa;refine z6p (by kernel_rfl) (x:=(sub [1,1,0] (zbd f104))) (y:=(sub [1,1,1] (zbd f104))) 4 (λst1=>Own.canon [4] st1=ofL [(4,.own (eOs 1 false F8_ sorted))]) (λjo=>yF (H:=zx ((jV (P:=prog) wZ [4] (z9Q zjH (f:=F8_) (t:=false) (v:=jo) (λ_=>rfl) (λ_=>rfl) (λx y c h=>(zk2 3 h :)) h1) 10).or X0)) .normal [(4,.own (eOs 1 false F8_ sorted))] [Hn (ZH (f:=.fn 136 []) (xs:=[.atom jo,.fn 125 []]) (ls:=[(jo,eOs 1 false F8_ r_)]) (r:=.tup []) (ys:=[eOs 1 false F8_ sorted]) [.atom jo,.fn 125 []] (show Qm [.atom jo,.fn 125 []] [.atom jo,.fn 125 []] from inferInstance))] λst0 h0=>⟨rfl,h0⟩) λst1 h1=>z35 h1 ?_;obtain⟨ai,h2,ak,h3,aa⟩:=yf aa;let Z0:List HO:=[zC2 1 h2,Hh (.g [true]),Hn W6,Hx (.a ((eOs 1 true F8_) ak)) (W3 ai _ h3),Ha (lnM F8_ ak)];obtain c0|c0:=zH aa
 ·cases c0.2;exact yEx (H:=zx ((z0C zl (vq (H:=zd 1)) 13).or X0)) hE (Z0++(rpN 4 (Hb c0) [qT,Hm (shM F8_ F8_ [])])) (.tup [eSl 1 true F4_ [],I 3]) (show LeV (.tup [eSl 1 true F4_ [],I 3]) (.tup [eSl 1 true F4_ ([]:TA),I 3]) from inferInstance)
 obtain⟨am,h4,aa⟩:=zy c0.2;let Z1:List HO:=(Z0++[Hb c0,Hb c0,zg 0,Hm (shM F8_ F8_ ak),Hs (zf1 0 h4 (loC z6u ak <| loN)),Hb c0,Hb c0]);obtain c1|c1:=zH aa
 ·cases c1.2;exact yEx (H:=zx ((z0C zl (vq (H:=zd 1)) 13).or X0)) hE (Z1++[c1,Hm (shM F8_ F8_ [])]) (.tup [eSl 1 true F4_ [],I 3]) (show LeV (.tup [eSl 1 true F4_ [],I 3]) (.tup [eSl 1 true F4_ ([]:TA),I 3]) from inferInstance)
 refine yC (H:=zx ((z0C zl (vq (H:=zd 1)) 13).or X0)) 111111 [] [4] (Z1++[Hb c1,Hh (.cut 0)]) ?_;refine z4M (y:=eOs 1 true F8_ ak) (by kernel_rfl) 4 (by kernel_rfl) (by kernel_rfl) λjo hv4=>?_;refine yKs 111111 [] [4] (zI Xs r0) (λz=>[(4,.own (eOs 1 true (eFl 1 rY) z))]) [Hh (.cut 0)] ?_ λJ1 ar=>?_
 ·rintro out aa;obtain⟨hfl0,aa⟩:=gdE aa;cases aa;exact yEx hE [Hm (shM (eFl 1 rY) (eFl 1 rY) out)] (.tup [eSl 1 true (eFl 1 rY) out,I 0]) (haveI:=flA (s:=1) (t:=1) (b:=true) (f:=rY) hfl0;show LeV (.tup [eSl 1 true (eFl 1 rY) out,I 0]) (.tup [eSl 1 true F4_ (out.map (·.1)),I 0]) from inferInstance)
 obtain⟨t2,ht2,aa⟩:=zy c1.2;refine yLx (H:=zx ((xVl zl 23 32 1 4 jo (0:Int) (by kernel_rfl)).or ((xMw prog 22 4 1 jo).or X0))) 111111210 [J1] (λs=>wJ ak s.1 s.2) (λx=>[(4,.own (eOs 1 true (eFl 1 rY) x.1)),(22,.d (.atom (V7 1 jo (0:Int)))),(23,.d (I ((ak.length - (0:Int).toNat:Nat):Int))),(24,.d (I x.2))]) ((ak.map λq=>(q,false)),0) ht2 [(4,.own (eOs 1 true F8_ ak)),(22,.d (.atom (V7 1 jo (0:Int)))),(23,.d (I ((ak.length - (0:Int).toNat:Nat):Int))),(24,.d (I 0))] inferInstance [Hn (rfl:some jo=some jo),Hn (⟨rfl,rfl⟩:T.d (.atom (V7 1 jo (0:Int)))=T.d (.atom (V7 1 jo (0:Int)))/\some jo=some jo),Hx (.a (.atom (.int .i64 ((ak.length - (0:Int).toNat:Nat):Int)))) (vlM F8_ ak (0:Int).toNat)] λ⟨ax,ga⟩ m2 av ae hl1 J2 au=>?_;obtain c2|c2:=zH ae
 ·obtain⟨g0,ae⟩:=gdE c2.2;obtain⟨dn,h5,az,h6,bn,h7,jr,h8,ae⟩:=z7m ae;cases ae;exact yB (H:=zx ((xVi zl 27 1 4 jo (0:Int)).or X0)) au _ hl1 [Hb c2,Hn (⟨rfl,rfl⟩:T.d (.atom (V7 1 jo (0:Int)))=T.d (.atom (V7 1 jo (0:Int)))/\some jo=some jo),Hn (⟨g0.1,g0.2,(iL (eFl 1 rY) h5).2⟩:(0:Int)<=0/\(0:Int)<=ga/\(0+ga).toNat<(ax.map (eFl 1 rY)).length),Hs (iM (eFl 1 rY) h5),Hk [] (Kl (hat 17)) (zf1 17 h6 (loC (eSl 1 dn.2 rY) dn.1 <| loN)),zg 16,Hm (shM rY rY az),Hs (zf1 16 h7 (loC F8_ az <| loN)),Hm (shM rY rY az),Hn (iL (eFl 1 rY) h8),Hs (iM (eFl 1 rY) h8),Hs (iM (eFl 1 rY) h8),Hl (sM (eFl 1 rY) ax ga (bn,true))]
 cases c2.2;cases hl1;exact yB ar ax aa [Hb c2]
def l65:List yg:=Zs 115 vp rY (eT2 kK rY) ZD::l64
def z5a [H:HS X0 l64]:OkH l65:=yS2 false func115 λl_ inputs r0 aa E hE=>by
 obtain⟨r_,h0,aa⟩:=zy aa;let Z0:List HO:=[zC2 10 h0];obtain c0|c0:=zH aa
 ·cases c0.2;exact yE hE (Z0++[c0,Hm (shM F8_ F8_ [])])
 obtain⟨ai,h1,aa⟩:=zy c0.2;cases aa;exact yE hE (Z0++[c0,zC1 0 h1])
def l66:List yg:=YZ 70 xQ (eT2 kK rY) ji::l65
def z1q [H:HS X0 l65]:OkH l66:=yS1 false func70 λm_ r0 aa E hE=>by
 obtain⟨r_,h0,aa⟩:=zy aa;let Z0:List HO:=[zC1 31 h0];obtain c0|c0:=zH aa
 ·cases c0.2;exact yE hE (Z0++[c0,Hm (shM F8_ F8_ [])])
 obtain c1|c1:=zH c0.2
 ·cases c1.2;exact yE hE (Z0++[c0,c1,Hm (shM F8_ F8_ [])])
 obtain⟨ai,h1,aa⟩:=zy c1.2;let Z1:List HO:=(Z0++[c0,c1,zC1 16 h1]);obtain c2|c2:=zH aa
 ·cases c2.2;exact yE hE (Z1++[c2,Hm (shM F8_ F8_ [])])
 obtain⟨ak,h2,aa⟩:=zy c2.2;cases aa;exact yE hE (Z1++[c2,Hk [] (Kl (hat 0)) (zf2 0 h2 (loC kK ai.1 <| loC rY m_.Inputs <| loN))])
def l67:List yg:=z2A 119 rY rY rY (eT2 kK rY) WO::l66
def z7q:XH prog:=((xL zl (.inl 83) [82]).or X0)
def z6z [H:HS z7q l66]:OkH l67:=yS3 false func119 λinputs from_ to r0 aa E hE=>by
 obtain c0|c0:=zH aa
 ·cases c0.2;exact yE hE [c0,Hm (shM F8_ F8_ [])]
 obtain c1|c1:=zH c0.2
 ·cases c1.2;exact yE hE [c0,c1,c1,c1,qT,Hm (shM F8_ F8_ [])]
 let Z0:List HO:=[c0,c1,c1,c1];obtain c2|c2:=zH c1.2
 ·cases c2.2;exact yE hE (Z0++[c2,Hm (shM F8_ F8_ [])])
 obtain c3|c3:=zH c2.2
 ·cases c3.2;exact yE hE (Z0++[c2,c3,Hm (shM F8_ F8_ [])])
 obtain⟨t1,ht1,aa⟩:=zy c3.2;refine yMx 1111111110 [] [0,1,2,8,9,10,11] (λx=>[(8,.own (eOs 1 false F8_ x.1)),(9,.own (eOs 1 false F8_ x.2.1)),(10,.d (I x.2.2.1)),(11,.d (I x.2.2.2))]) ht1 [(8,.own (eOs 1 true F8_ [])),(9,.own (eOs 1 true F4_ ([[]]))),(10,.d (I 0)),(11,.d (I 0))] (Z0++[c2,c3,Hh (.v 5 [9]),Hm (shM F5_ F4_ ([[]]:TA))]) λ⟨out,ay,n_,k_⟩ m1 av ae hl1 J1 ar=>?_;refine yN 11111111100 [J1] [0,1,2,8,9,10,11,45,46,49,50,51,52,58] (λz:TA×TA×Int×Int×Bool×Bool=>UQ k_ z.1 z.2.1 z.2.2.1 z.2.2.2.1 z.2.2.2.2.1 z.2.2.2.2.2=some av) (λz=>[(8,.own (eOs 1 false F8_ z.1)),(9,.own (eOs 1 false F8_ z.2.1)),(10,.d (I z.2.2.1)),(45,.d (I z.2.2.2.1)),(46,.d (B z.2.2.2.2.1)),(49,.d (I k_)),(50,.d (I to)),(51,.d (B (decide (k_<to)))),(52,.d (B (decide (k_<to)))),(58,.d (B z.2.2.2.2.2))]) [0,1,2,8,9,10,11] [Hh (.cut 0)] ?_ λJ2 au=>?_
 ·rintro⟨aj,cq,ca,ri,nh,oz⟩ ae;cases ae;exact yB ar _ hl1 []
 refine yNs 1111111110020 [J1,J2] [0,1,2,8,9,10,11] (λz:TA×Int=>Yi inputs to ay k_ z.1 z.2=some av) (λz=>[(8,.own (eOs 1 false F8_ z.1)),(10,.d (I z.2))]) [Hh (.cut 0)] ?_ λJ3 bg=>?_
 ·rintro⟨ax,cd⟩ ae;refine yN 11111111100201 [J1,J2] [0,1,2,8,9,10,11,45,46,49,50,51,52,58] (zI (Yh inputs to ay k_ ax cd) av) (λz=>[(45,.d (I cd)),(46,.d (B (decide (cd > 65536)))),(49,.d (I k_)),(50,.d (I to)),(51,.d (B (decide (k_<to)))),(52,.d (B (decide (k_<to)))),(58,.d (B z))]) [0,1,2,8,9,10,11] [Hh (.cut 0)] ?_ λJ4 db=>?_
  ·rintro il ae;obtain c4|c4:=zH ae
   ·obtain⟨r_,h0,ae⟩:=zy c4.2;cases ae;cases hl1;cases aa;exact yE hE [c4,zg 2,Hm (shM F8_ F8_ ax),Hs (zf1 2 h0 (loC vp ax <| loN)),Hm (shM F8_ F8_ ax)]
   refine yN 11111111100201111 [J1,J2] [0,1,2,8,10,11,12,45,46,49,50,51,52,58] (zI (UP k_ ax cd il) av) (λz=>[(12,.own (eOs 1 false F8_ z))]) [0,1,2,8,9,10,11,12,45,46,49,50,51,52,58] [c4,Hh (.cut 1)] ?_ λJ5 dc=>?_
   ·rintro next ae
    exact yB au (ax,next,cd,cd,decide (cd > 65536),il) ae []
   obtain⟨t6,kb,ae⟩:=zy c4.2;refine yMx 11111111100201111210 [J1,J2,J5] [0,1,2,8,9,10,11,12,45,46,49,50,51,52,58,67,68,69] (λx=>[(12,.own (eOs 1 false F8_ x.1)),(69,.d (I x.2))]) kb [(12,.own (eOs 1 true F8_ [])),(69,.d (I 0))] [Ha (lnM F8_ ay)] λ⟨cr,lc⟩ m6 dj ah hl2 J6 ep=>?_;obtain c5|c5:=zH ah
   ·refine yNs 11111111100201111210011 [J1,J2,J5,J6] [0,1,2,8,9,10,11,12,45,46,49,50,51,52,58,67,68,69] (zI (UO lc) dj) (λz=>[(12,.own (eOs 1 false F8_ z))]) [c5,Hh (.cut 0)] ?_ λJ7 gw=>?_
    ·rintro ff ah;cases ah;exact yB ep _ hl2 []
    obtain⟨a8,h1,t8,ht8,ah⟩:=yf c5.2;refine yM 1111111110020111121001120110 [J1,J2,J5,J6,J7] [0,1,2,8,9,10,11,12,14,45,46,49,50,51,52,58,67,68,69,73,74] (λx=>[(12,.own (eOs 1 false F8_ x.1)),(74,.d (I x.2))]) ht8  [Hn (iL F8_ h1),Hs (iM F8_ h1)] λ⟨cb,ld⟩ m8 nb aw hl3 J8 lq=>?_;obtain c6|c6:=zH aw
    ·obtain⟨ai,h2,aw⟩:=zy c6.2;obtain⟨g0,aw⟩:=gdE aw;obtain⟨g1,aw⟩:=gdE aw;cases aw;exact yB lq _ hl3 [c6,zC1 19 h2,Hq (dM rY [ld]),Hn (dM rY [ld]),Hn (aN rY rY g0 (by simp)),Hl (aM rY ai [ld]),Hm (shM rY rY (ai++[ld])),Hq (dM F8_ [(ai++[ld])]),Hn (dM F8_ [(ai++[ld])]),Hn (aL F8_ F8_ g1),Hl (aM F8_ cb [(ai++[ld])])]
    cases c6.2;cases hl3;exact yB gw cb ah [c6]
   cases c5.2;cases hl2;exact yB dc cr ae [c5]
  let Z1:List HO:=[Ha (lnM F8_ ax)];obtain c7|c7:=zH ae
  ·cases c7.2;cases hl1;cases aa;exact yE hE (Z1++(Hb c7::Hb c7::Hb c7::(rpN 7 qT [Hm (shM F8_ F8_ [])])))
  obtain c8|c8:=zH c7.2
  ·cases c8.2;cases hl1;cases aa;exact yE hE (Z1++(Hb c7::Hb c7::Hb c7::(rpN 6 (Hb c8) [qT,Hm (shM F8_ F8_ [])])))
  let Z2:List HO:=(Z1++(Hb c7::Hb c7::Hb c7::(rpN 4 (Hb c8) [])));obtain c9|c9:=zH c8.2
  ·let Z3:List HO:=(Z2++[c9,c9,Ha (lnM F8_ ay),c9,c9,c9,c8,c9,c8]);obtain c10|c10:=zH c9.2
   ·cases c10.2;cases hl1;cases aa;exact yE hE (Z3++[c10,Hm (shM F8_ F8_ [])])
   exact yB db (decide ((w64 (((ay.length:Nat):Int)*inputs)) > 4096)) c10.2 (Z3++[c10])
  exact yB db false c9.2 (Z2++(rpN 5 (Hb c9) [c8,c9,c8,qF]))
 obtain c11|c11:=zH ae
 ·obtain⟨g2,ae⟩:=gdE c11.2;exact yB bg ((out++ay),w64 (n_+(w64 (k_*((ay.length:Nat):Int))))) ae [c11,Hq (dM F8_ ay),Hn (dM F8_ ay),Hn (aL F8_ F8_ g2),Hl (aM F8_ out ay),Ha (lnM F8_ ay)]
 exact yB bg (out,n_) c11.2 [c11]
def l68:List yg:=Zs 73 rY rY (eT2 kK rY) WP::l67
def z59 [H:HS X0 l67]:OkH l68:=yS2 false func73 λinputs k_ r0 aa E hE=>by obtain⟨r_,h0,aa⟩:=zy aa;cases aa;exact yE hE [zC3 0 h0]
def l69:List yg:=YZ 90 vp eB Vj::l68
def z3T [H:HS X0 l68]:OkH l69:=yS1 true func90 λl_ r0 aa E hE=>by
 refine yK 11 [] [] (λz:Unit=>Wu=some r0) (λz=>[]) [0] [Hh (.cut 1)] ?_ λJ1 ar=>?_
 ·rintro⟨⟩ aa;cases aa;exact yE hE []
 refine yMb 11210 [J1] [0,3] (λx=>[(3,.d (I x))]) aa  [] λt2 aa i_ m2 av ae hl1 J2 au=>?_;let Z0:List HO:=[Ha (lnM F8_ l_)];obtain c0|c0:=zH ae
 ·obtain⟨bi,h0,ew,h1,r_,h2,ae⟩:=ZZ c0.2;let Z1:List HO:=(Z0++[c0,Hi F8_ h0,Hi F8_ h1,zC2 8 h2]);obtain c1|c1:=zH ae
  ·cases c1.2;cases hl1;cases aa;exact yE hE (Z1++[c1])
  cases c1.2;exact yB au _ hl1 (Z1++[c1])
 cases c0.2;cases hl1;exact yB ar () aa (Z0++[c0])
def l70:List yg:=Zs 54 vp rY rY ZG::l69
def z3X [H:HS X0 l69]:OkH l70:=yS2 true func54 λl_ inputs r0 aa E hE=>by
 obtain⟨r_,h0,aa⟩:=zy aa;let Z0:List HO:=[zC2 15 h0];obtain c0|c0:=zH aa
 ·cases c0.2;exact yE hE (Z0++[c0])
 obtain⟨ai,h1,aa⟩:=zy c0.2;let Z1:List HO:=(Z0++[c0,zC1 0 h1]);obtain c1|c1:=zH aa
 ·cases c1.2;exact yE hE (Z1++[c1])
 obtain⟨ak,h2,aa⟩:=zy c1.2;let Z2:List HO:=(Z1++[c1,zC1 6 h2]);obtain c2|c2:=zH aa
 ·cases c2.2;exact yE hE (Z2++[c2])
 cases c2.2;exact yE hE (Z2++[c2])
def l71:List yg:=Zs 103 rY zoo rY Xg::l70
def z58 [H:HS X0 l70]:OkH l71:=yS2 true func103 λinputs l_ r0 aa E hE=>by
 refine yK 11 [] [] (λz:Unit=>Vi=some r0) (λz=>[]) [0,1] [Hh (.cut 1)] ?_ λJ1 ar=>?_
 ·rintro⟨⟩ aa;cases aa;exact yE hE []
 refine yMb 11210 [J1] [0,8,9,10] (λx=>[(10,.d (I x))]) aa  [Ha (lnM vp l_)] λt2 aa gi m2 av ae hl1 J2 au=>?_;obtain c0|c0:=zH ae
 ·obtain⟨bi,h0,r_,h1,ae⟩:=yf c0.2;let Z0:List HO:=[c0,Hi vp h0,zC2 0 h1];obtain c1|c1:=zH ae
  ·cases c1.2;cases hl1;cases aa;exact yE hE (Z0++[c1])
  cases c1.2;exact yB au _ hl1 (Z0++[c1])
 cases c0.2;cases hl1;exact yB ar () aa [c0]
def l72:List yg:=YZ 166 F8_ Kn K0::l71
def z6y [H:HS X0 l71]:OkH l72:=yS1 true func166 λw_ r0 aa E hE=>by
 obtain⟨g0,aa⟩:=gdE aa;refine yK 111 [] [3] (zI z0k r0) (λz=>[(3,.own (eOs 1 true (eI .u8) z))]) [0,3] [Ha (lnM rY w_),Hn (rL g0),Ha (rM 1 (eI .u8) ((w_.length:Nat):Int) (0:Int)),Hh (.cut 0)] ?_ λJ1 ar=>?_
 ·rintro b_ aa;cases aa;exact yE (H:=zx ((zos prog zgU).or X0)) hE [Hx (.a (Kn (u8s b_))) (stM b_)]
 refine yMb 111210 [J1] [3,9,10,11] (λx=>[(3,.own (eOs 1 true (eI .u8) x.1)),(11,.d (I x.2))]) aa  [Ha (lnM rY w_)] λt2 aa ⟨kw,ig⟩ m2 av ae hl1 J2 au=>?_;obtain c0|c0:=zH ae
 ·obtain⟨fc,h0,dx,h1,ae⟩:=yf c0.2;cases ae;exact yB au _ hl1 [c0,Hi rY h0,Hn (iL (eI .u8) h1),Hs (iM (eI .u8) h1),Hs (iM (eI .u8) h1),Hl (sM (eI .u8) kw ig (IntKind.u8.wrap (fc)))]
 cases c0.2;cases hl1;exact yB ar kw aa [c0]
def l73:List yg:=z2A 147 vp vp rY (eT2 kK rY) Yj::l72
def z2I [H:HS X0 l72]:OkH l73:=yS3 false func147 λa_ b_ inputs r0 aa E hE=>by
 obtain⟨r_,h0,aa⟩:=zy aa;let Z0:List HO:=[zg 1,Hm (shM vp vp ([a_,b_])),Hs (zf2 1 h0 (loC rY inputs <| loC (eSl 1 true vp) [a_,b_] <| loN))];obtain c0|c0:=zH aa
 ·cases c0.2;exact yE hE (Z0++[c0,Hm (shM F8_ F8_ [])])
 refine yK (H:=zx ((ziu prog 26).or X0)) 111111 [] [11] (zI kO r0) (λz=>[(11,.own (eOs 1 false F8_ z))]) [0,1,9,10,11] (Z0++[c0,Hh (.cut 3)]) ?_ λJ1 ar=>?_
 ·rintro out aa;obtain⟨ai,h1,aa⟩:=zy aa;cases aa;exact yE hE [zg 8,Hm (shM F8_ F8_ out),Hs (zf1 8 h1 (loC vp out <| loN)),Hm (shM F8_ F8_ out)]
 obtain⟨t2,ht2,aa⟩:=zy c0.2;refine yMx 111111210 [J1] [1,9,10,11,27,28,29] (λx=>[(9,.own (.opq (QV (Yu Kn eB x.1)))),(10,.d (I x.2.1)),(11,.own (eOs 1 false F8_ x.2.2.1)),(29,.d (I x.2.2.2))]) ht2 [(9,.own (.opq (QV (Yu Kn eB ([]:List ((List UInt8)×Bool)))))),(10,.d (I 0)),(11,.own (eOs 1 true F8_ [])),(29,.d (I 0))] [Ha (lnM F8_ a_)] λ⟨kh,n_,aj,fg⟩ m2 av ae hl1 J2 au=>?_;obtain c1|c1:=zH ae
 ·refine yNs 111111210011 [J1,J2] [1,9,10,11,27,28,29] (λz:(List ((List UInt8)×Bool))×Int×TA=>kN fg z.1 z.2.1 z.2.2=some av) (λz=>[(9,.own (.opq (QV (Yu Kn eB z.1)))),(10,.d (I z.2.1)),(11,.own (eOs 1 false F8_ z.2.2))]) [c1,Hh (.cut 0)] ?_ λJ3 bg=>?_
  ·rintro⟨gn,ca,ax⟩ ae;cases ae;exact yB au _ hl1 []
  obtain⟨dv,h2,t4,ht4,ae⟩:=yf c1.2;refine yM 11111121001120110 [J1,J2,J3] [1,9,10,11,13,27,28,29,33,34,35] (λx=>[(9,.own (.opq (QV (Yu Kn eB x.1)))),(10,.d (I x.2.1)),(11,.own (eOs 1 false F8_ x.2.2.1)),(35,.d (I x.2.2.2))]) ht4  [Hi F8_ h2,Ha (lnM F8_ b_)] λ⟨eu,cd,bo,ib⟩ m4 dj ah hl2 J4 db=>?_;obtain c2|c2:=zH ah
  ·obtain⟨dx,h3,ak,h4,ah⟩:=yf c2.2;obtain⟨g0,ah⟩:=gdE ah;let Z1:List HO:=[c2,Hi F8_ h3,zC1 25 h4,Hn (apM rY g0),Hl (aM rY ak dx),Ha (lnM rY (ak++dx))];obtain c3|c3:=zH ah
   ·cases c3.2;cases hl2;cases ae;cases hl1;cases aa;exact yE (H:=zx ((xAp zl 42).or X0)) hE (Z1++[c3,Hm (shM F8_ F8_ [])])
   refine yN (H:=zx ((xAp zl 42).or X0)) 1111112100112011001100111 [J1,J2,J3,J4] [1,9,10,11,13,27,28,29,33,34,35] (λz:(List ((List UInt8)×Bool))×Int×TA=>qh ib z.1 z.2.1 z.2.2=some dj) (λz=>[(9,.own (.opq (QV (Yu Kn eB z.1)))),(10,.d (I z.2.1)),(11,.own (eOs 1 false F8_ z.2.2))]) [1,9,10,11,13,16,27,28,29,33,34,35] (Z1++[c3,Hh (.cut 0)]) ?_ λJ5 dc=>?_
   ·rintro⟨oc,lf,gx⟩ ah;let Z2:List HO:=[Ha (lnM F8_ gx)];obtain c4|c4:=zH ah
    ·cases c4.2;cases hl2;cases ae;cases hl1;cases aa;exact yE hE (Z2++[c4,c4,c4,qT,Hm (shM F8_ F8_ [])])
    obtain c5|c5:=zH c4.2
    ·cases c5.2;cases hl2;cases ae;cases hl1;cases aa;exact yE hE (Z2++[c4,c4,c4,c5,Hm (shM F8_ F8_ [])])
    cases c5.2;exact yB db _ hl2 (Z2++[c4,c4,c4,c5])
   obtain⟨am,h5,val,h6,ah⟩:=yf c3.2;replace h6:=xR h6;let Z3:List HO:=[zC1 0 h5,Hn (⟨rfl,rfl,z6j (λ_=>rfl) eu⟩:A.opq (QV (Yu Kn eB eu))=A.opq (QV (Yu Kn eB eu))/\z4t (Kn am)=true/\∀p∈Yu Kn eB eu,z4t p.1=true),Hx (.a (eB val)) ((zo0 (f:=Kn) (g:=eB) (z0:=false) (z:=.atom (.bool false)) rfl am eu).trans (congrArg eB h6))];obtain c6|c6:=zH ah
   ·obtain⟨g1,ah⟩:=gdE c6.2;exact yB (H:=zx ((zn6 zaH 52 (Yu Kn eB eu) (Yu Kn eB (z1Y eu am true))).or ((z9v zaH 50 (Yu Kn eB eu)).or X0))) dc ((z1Y eu am true),w64 (cd+(((ak++dx).length:Nat):Int)),(bo++[(ak++dx)])) ah (Z3++[c6,Hn (⟨rfl,rfl,rfl,rfl,z6j (λ_=>rfl) eu⟩:T.own (.opq (QV (Yu Kn eB eu)))=T.own (.opq (QV (Yu Kn eB eu)))/\0=0/\z4t (Kn am)=true/\(eB true).isD=true/\∀p∈Yu Kn eB eu,z4t p.1=true),Hn (zak (f:=Kn) (g:=eB) am true eu),Hq (dM F8_ [(ak++dx)]),Hn (dM F8_ [(ak++dx)]),Hn (aL F8_ F8_ g1),Hl (aM F8_ bo [(ak++dx)]),Ha (lnM rY (ak++dx))])
   exact yB (H:=zx ((z9v zaH 50 (Yu Kn eB eu)).or X0)) dc (eu,cd,bo) c6.2 (Z3++[c6])
  cases c2.2;cases hl2;exact yB bg (eu,cd,bo) ae [c2]
 cases c1.2;cases hl1;exact yB ar aj aa [c1]
def l74:List yg:=Zs 116 xQ rY (eT2 kK rY) Zp::l73
def KP [H:HS X0 l73]:OkH l74:=yS2 false func116 λm_ k_ r0 aa E hE=>by
 obtain⟨r_,h0,aa⟩:=zy aa;let Z0:List HO:=[zC1 7 h0];obtain c0|c0:=zH aa
 ·cases c0.2;exact yE hE (Z0++[c0,Hm (shM F8_ F8_ [])])
 obtain c1|c1:=zH c0.2
 ·cases c1.2;exact yE hE (Z0++[c0,c1,Hm (shM F8_ F8_ [])])
 obtain⟨ai,h1,aa⟩:=zy c1.2;let Z1:List HO:=(Z0++[c0,c1,zC2 5 h1]);obtain c2|c2:=zH aa
 ·cases c2.2;exact yE hE (Z1++[c2,Hm (shM F8_ F8_ [])])
 obtain⟨ak,h2,aa⟩:=zy c2.2;cases aa;exact yE hE (Z1++[c2,Hk [] (Kl (hat 0)) (zf3 0 h2 (loC kK r_.1 <| loC kK ai.1 <| loC rY m_.Inputs <| loN))])
def l75:List yg:=YZ 71 xQ (eT2 kK rY) vn::l74
def QQ [H:HS X0 l74]:OkH l75:=yS1 false func71 λm_ r0 aa E hE=>by obtain⟨r_,h0,aa⟩:=zy aa;cases aa;exact yE hE [zC2 0 h0]
def l76:List yg:=YZ 148 rY (Ko 167 (eSp rY)) Yt::l75
def z2X [H:HS X0 l75]:OkH l76:=yS1 true func148 λn_ r0 aa E hE=>by cases aa;exact yE hE []
abbrev Jc (x0:Int)(YY:σ->JP)(x6:Int)(js:σ):List (Nat×T):=[(0,.own (.opq (YY js).q)),(1,.d (.sptr (I x0))),(5,.d (I x0)),(6,.d (I x6))]
abbrev Ja (x0:Int)(YY:σ->JP)(x6:Int)(gg:σ)(b_:Int):List (Nat×T):=[(0,.own (.opq (YY gg).q)),(1,.d (.sptr (I x0))),(3,.d (I x6)),(4,.d (I b_)),(5,.d (I x0)),(6,.d (I x6))]
abbrev Jb (x0:Int)(YY:σ->JP)(dw:σ)(x6:Int):List (Nat×T):=[(0,.own (.opq (YY dw).q)),(1,.d (.sptr (I x0))),(5,.d (I x0)),(6,.d (I x6))]
def Ua [H:HS X0 l76](x0:Int):z4W prog (.fn 167 [.sptr (I x0)]) (λ(x:Int×Int) (_:Bool) (_:Value)=>[rY x.1,rY x.2]) (@vz x0):=by
 refine z05 (tt:=wZ) (nt:=f167.ntmps) (body:=zbd f167) zl func167 rfl (by kernel_rfl) rfl rfl (by show(2:Nat)<=22;decide) ?_;intro σ yv YY yy hy sg r0 aa E hE;obtain⟨t1,ht1,aa⟩:=zy aa;refine yL 110 [] (λs=>ZV x0 yy s.1 s.2) (λx=>Jb x0 YY x.1 x.2) (sg,0) ht1  [] λ⟨dw,x6⟩ m1 av ae hl1 J1 ar=>?_;obtain c0|c0:=zH ae
 ·refine yKs 110011 [J1] [0,1,5,6] (zI (ZW x6) av) (λz=>Jc x0 YY x6 z) [c0,Hh (.cut 0)] ?_ λJ2 au=>?_
  ·rintro js ae;cases ae;exact yB ar _ hl1 []
  obtain⟨t3,ht3,ae⟩:=zy c0.2;refine yL 11001120110 [J1,J2] (λs=>qW x0 yy x6 s.1 s.2) (λx=>Ja x0 YY x6 x.1 x.2) (dw,w64 (x6+1)) ht3  [] λ⟨gg,b_⟩ m3 dj ah hl2 J3 bg=>?_;obtain c1|c1:=zH ah
  ·obtain⟨yr,h0,ah⟩:=zy c1.2;let Z0:List HO:=[c1,Hn (KU (yv:=yv) (Y:=YY) (enc:=(λ(x:Int×Int) (_:Bool) (_:Value)=>[rY x.1,rY x.2])) (s:=gg) (x:=(x6,b_)) (s':=yr.1) (b:=yr.2) (v:=.nilFunc) [rY x6,rY b_] (show Qm [rY x6,rY b_] [rY x6,rY b_] from inferInstance))];obtain c2|c2:=zH ah
   ·cases c2.2;cases hl2;cases ae;cases hl1;cases aa;exact yF (H:=zx ((WI (P:=prog) wZ hy 19 (s:=gg) (x:=(x6,b_)) (s':=yr.1) (b:=yr.2) .nilFunc h0).or X0)) .ret [(0,.own (.opq (YY yr.1).q))] (Z0++[c2]) λst0 h0=>hE _ st0 (.inr rfl) h0
   cases c2.2;exact yB (H:=zx ((WI (P:=prog) wZ hy 19 (s:=gg) (x:=(x6,b_)) (s':=yr.1) (b:=yr.2) .nilFunc h0).or X0)) bg _ hl2 (Z0++[c2])
  cases c1.2;cases hl2;exact yB au gg ae [c1]
 cases c0.2;cases hl1;cases aa;exact yF .normal [(0,.own (.opq (YY dw).q))] [c0] λst0 h0=>hE _ st0 (.inl rfl) h0
def l77:List yg:=Zs 118 rY rY eB Qa::l76
def z2Y [H:HS X0 l76]:OkH l77:=yS2 true func118 λa_ b_ r0 aa E hE=>by cases aa;exact yE hE []
def l78:List yg:=Zs 187 rY z3M eB Y4::l77
def z0G [H:HS X0 l77]:OkH l78:=yS2 true func187 λs_ x1 r0 aa E hE=>by
 obtain c0|c0:=zH aa
 ·cases c0.2;exact yE hE (rpN 6 (Hb c0) [])
 cases c0.2;exact yE hE (rpN 4 (Hb c0) [Ha (lnM wv x1.Rows),c0,c0])
def vJ:yg:=spF (α:=TB×z6) (ρ:=Int) 156 (λx=>[F8_ x.1,(Ko 187 z3M) x.2]) (λr=>rY r) (λx=>xo x.1 x.2) [] (by rintro⟨a0,a1⟩ ⟨b0,b1⟩ h;have e0:=uT.inj (f:=F8_) _ _ (List.cons.inj h).1;replace h:=(List.cons.inj h).2;have e1:=uT.inj (f:=(Ko 187 z3M)) _ _ (List.cons.inj h).1;subst e0 e1;rfl)
def Yf [H:HS X0 l78]:vJ.Ok prog:=by
 refine WU ?_;rintro⟨s_,f_⟩ r0 aa;refine zY true func156 λE hE=>?_;refine yK 11 [] [] (λz:Unit=>vK=some r0) (λz=>[]) [0,1] [Hh (.cut 1)] ?_ λJ1 ar=>?_
 ·rintro⟨⟩ aa;cases aa;exact yE hE []
 refine yMb 11210 [J1] [0,1,7,8] (λx=>[(8,.d (I x))]) aa  [Ha (lnM rY s_)] λt2 aa x8 m2 av ae hl1 J2 au=>?_;obtain c0|c0:=zH ae
 ·obtain⟨eb,h0,r_,h1,ae⟩:=yf c0.2;let Z0:List HO:=[c0,Hi rY h0,zC2 0 h1];obtain c1|c1:=zH ae
  ·cases c1.2;cases hl1;cases aa;exact yE hE (Z0++[c1])
  cases c1.2;exact yB au _ hl1 (Z0++[c1])
 cases c0.2;cases hl1;exact yB ar () aa [c0]
def wV:yg:=spF (α:=TB×z6) (ρ:=Bool) 126 (λx=>[F8_ x.1,(Ko 187 z3M) x.2]) (λr=>eB r) (λx=>xP x.1 x.2) [] (by rintro⟨a0,a1⟩ ⟨b0,b1⟩ h;have e0:=uT.inj (f:=F8_) _ _ (List.cons.inj h).1;replace h:=(List.cons.inj h).2;have e1:=uT.inj (f:=(Ko 187 z3M)) _ _ (List.cons.inj h).1;subst e0 e1;rfl)
def v6 [H:HS X0 l78]:wV.Ok prog:=by refine WU ?_;rintro⟨s_,f_⟩ r0 aa;refine zY true func126 λE hE=>?_;obtain⟨r_,h0,aa⟩:=zy aa;cases aa;exact yE (H:=zx ((z0C zl (Yf (H:=zd 0)) 7).or X0)) hE [Hc (Ctr.add_has Jl vJ) (x:=(s_,f_)) h0 (loC F8_ s_ <| loC (Ko 187 z3M) f_ <| loN)]
def l79:List yg:=Zs 168 xQ F8_ rY Wc::l78
def z2M [H:HS X0 l78]:OkH l79:=yS2 true func168 λm_ l_ r0 aa E hE=>by
 obtain⟨r_,h0,aa⟩:=zy aa;let Z0:List HO:=[zC1 53 h0];obtain c0|c0:=zH aa
 ·cases c0.2;exact yE hE (Z0++[c0])
 obtain⟨ai,h1,aa⟩:=zy c0.2;let Z1:List HO:=(Z0++[c0,Hc (Ctr.add_has Jl wV) (x:=(l_,m_)) h1 (loC F8_ l_ <| loC (Ko 187 z3M) m_ <| loN)]);obtain c1|c1:=zH aa
 ·cases c1.2;exact yE (H:=zx ((z0C zl (v6 (H:=zd 0)) 13).or X0)) hE (Z1++[c1])
 cases c1.2;exact yE (H:=zx ((z0C zl (v6 (H:=zd 0)) 13).or X0)) hE (Z1++[c1])
def l80:List yg:=YZ 188 xQ (Ko 199 z3M) UT::l79
def z2N [H:HS X0 l79]:OkH l80:=yS1 true func188 λm_ r0 aa E hE=>by cases aa;exact yE hE []
abbrev J0 (x0:z6)(YY:σ->JP)(x8:Int)(js:σ):List (Nat×T):=[(0,.own (.opq (YY js).q)),(1,.d (.sptr (xQ x0))),(7,.d (I ((x0.Rows.length:Nat):Int))),(8,.d (I x8))]
abbrev QY (x0:z6)(YY:σ->JP)(x8:Int)(gg:σ)(t_:Int):List (Nat×T):=[(0,.own (.opq (YY gg).q)),(1,.d (.sptr (xQ x0))),(3,.d (I x8)),(4,.d (I t_)),(7,.d (I ((x0.Rows.length:Nat):Int))),(8,.d (I x8))]
abbrev QZ (x0:z6)(YY:σ->JP)(dw:σ)(x8:Int):List (Nat×T):=[(0,.own (.opq (YY dw).q)),(1,.d (.sptr (xQ x0))),(7,.d (I ((x0.Rows.length:Nat):Int))),(8,.d (I x8))]
def z0H [H:HS X0 l80](x0:z6):z4W prog (.fn 199 [.sptr (.agg [I x0.Inputs,I x0.Outputs,eSl 1 false wv x0.Rows])]) (λ(x:Int×Int) (_:Bool) (_:Value)=>[rY x.1,rY x.2]) (@uD x0):=by
 refine z05 (tt:=wZ) (nt:=f199.ntmps) (body:=zbd f199) zl func199 rfl (by kernel_rfl) rfl rfl (by show(2:Nat)<=26;decide) ?_;intro σ yv YY yy hy sg r0 aa E hE;obtain⟨t1,ht1,aa⟩:=zy aa;refine yL 110 [] (λs=>ZL x0 yy s.1 s.2) (λx=>QZ x0 YY x.1 x.2) (sg,0) ht1  [Ha (lnM wv x0.Rows)] λ⟨dw,x8⟩ m1 av ae hl1 J1 ar=>?_;obtain c0|c0:=zH ae
 ·refine yKs 110011 [J1] [0,1,7,8] (zI (ZM x8) av) (λz=>J0 x0 YY x8 z) [c0,Hh (.cut 0)] ?_ λJ2 au=>?_
  ·rintro js ae;cases ae;exact yB ar _ hl1 []
  obtain⟨t3,ht3,ae⟩:=zy c0.2;refine yL 11001120110 [J1,J2] (λs=>qM x0 yy x8 s.1 s.2) (λx=>QY x0 YY x8 x.1 x.2) (dw,w64 (x8+1)) ht3  [] λ⟨gg,t_⟩ m3 dj ah hl2 J3 bg=>?_;let Z0:List HO:=[Ha (lnM wv x0.Rows)];obtain c1|c1:=zH ah
  ·obtain⟨yr,h0,ah⟩:=zy c1.2;let Z1:List HO:=(Z0++[c1,Hn (KU (yv:=yv) (Y:=YY) (enc:=(λ(x:Int×Int) (_:Bool) (_:Value)=>[rY x.1,rY x.2])) (s:=gg) (x:=(x8,t_)) (s':=yr.1) (b:=yr.2) (v:=.nilFunc) [rY x8,rY t_] (show Qm [rY x8,rY t_] [rY x8,rY t_] from inferInstance))]);obtain c2|c2:=zH ah
   ·cases c2.2;cases hl2;cases ae;cases hl1;cases aa;exact yF (H:=zx ((WI (P:=prog) wZ hy 23 (s:=gg) (x:=(x8,t_)) (s':=yr.1) (b:=yr.2) .nilFunc h0).or X0)) .ret [(0,.own (.opq (YY yr.1).q))] (Z1++[c2]) λst0 h0=>hE _ st0 (.inr rfl) h0
   cases c2.2;exact yB (H:=zx ((WI (P:=prog) wZ hy 23 (s:=gg) (x:=(x8,t_)) (s':=yr.1) (b:=yr.2) .nilFunc h0).or X0)) bg _ hl2 (Z1++[c2])
  cases c1.2;cases hl2;exact yB au gg ae (Z0++[c1])
 cases c0.2;cases hl1;cases aa;exact yF .normal [(0,.own (.opq (YY dw).q))] [c0] λst0 h0=>hE _ st0 (.inl rfl) h0
def xH:yg:=spR (α:=TB×Int) (ρ:=TB) 202 (λx:TB×Int=>[F4_ x.1,rY x.2]) (λr:TB=>F7_ r) (λx:TB×Int=>xz x.1 x.2) [] (zp2)
def W1:∀x r,(λx:TB×Int=>xz x.1 x.2) x=some r->(Jl.add xH).run 202 ((Jl.add xH).norm 202 ((λx:TB×Int=>[F4_ x.1,rY x.2]) x))=some ((λr:TB=>F7_ r) r):=λx r h=>zlu (F:=λx:TB×Int=>xz x.1 x.2) (x:=x) h rfl
def W4:(Jl.add xH).gives 202=[]:=zes
def Wr [H:HS X0 l80]:xH.Ok prog:=by
 refine z7H ?_;rintro⟨l,n⟩ r0 aa;cases l with
 | cons a l=>cases aa
 | nil=>
  have h1:0<n/\n<=1000000:=by
   have h2:(decide (0<n)&&decide (n<=1000000))=true:=by
    cases h:(decide (0<n)&&decide (n<=1000000)) with
    | true=>rfl
    | false=>have h3:(bif (true&&(decide (0<n)&&decide (n<=1000000))) then some [] else none)=some r0:=aa;rw[h]at h3;cases h3
   simpa using h2
  have h3:(bif (true&&(decide (0<n)&&decide (n<=1000000))) then some ([]:TB) else none)=some r0:=aa;rw[decide_eq_true h1.1,decide_eq_true h1.2]at h3;cases h3;exact zbb n h1.1 h1.2
def l81:List yg:=YZ 200 vp F7_ vd::l80
def Ve [H:HS X0 l80]:OkH l81:=yS1 true func200 λslices r0 aa E hE=>by
 refine yNs 111 [] [0,3] (zI (vN slices) r0) (λz=>[(3,.d (I z))]) [Hh (.cut 2)] ?_ λJ1 ar=>?_
 ·rintro size aa;obtain⟨r_,h0,aa⟩:=zy aa;refine yK (H:=zx ((z0C zl (Wr (H:=zd 0)) 24).or X0)) 11111 [] [6] (zI vM r0) (λz=>[(6,.own (eOs 1 false rY z))]) [0,6] [Hh (.g []),Hn W4,Hx (.a (F7_ r_)) (W1 ([],size) _ h0),Hh (.cut 0)] ?_ λJ2 au=>?_
  ·rintro mr aa;cases aa;exact yE hE []
  refine yMb 11111210 [J2] [6,25,26,27] (λx=>[(6,.own (eOs 1 false rY x.1)),(27,.d (I x.2))]) aa  [Ha (lnM F8_ slices)] λt3 aa ⟨iu,pc⟩ m3 av ae hl1 J3 bg=>?_;obtain c0|c0:=zH ae
  ·obtain⟨lu,h1,ae⟩:=zy c0.2;obtain⟨g0,ae⟩:=gdE ae;cases ae;exact yB bg _ hl1 [c0,Hi F8_ h1,Hn (dM rY lu),Hn (aL rY rY g0),Hl (aM rY iu lu)]
  cases c0.2;cases hl1;exact yB au iu aa [c0]
 refine yMb 111210 [J1] [0,3,9,10,11] (λx=>[(3,.d (I x.1)),(11,.d (I x.2))]) aa  [Ha (lnM F8_ slices)] λt4 aa ⟨l8,ig⟩ m4 av ae hl1 J4 db=>?_;obtain c1|c1:=zH ae
 ·obtain⟨ly,h2,ae⟩:=zy c1.2;let Z0:List HO:=[c1,Hi F8_ h2,Ha (lnM rY ly)];obtain c2|c2:=zH ae
  ·cases c2.2
  cases c2.2;exact yB db _ hl1 (Z0++[c2])
 cases c1.2;cases hl1;exact yB ar l8 aa [c1]
abbrev U0 (n_:Int)(f_:ArN 64 (ArN 64 TB))(out:TB):List (Nat×T):=[(0,.own (.box (xG 64 (xG 64 (eNl 1 rY)) f_))),(4,.d (I n_)),(11,.own (eOs 1 false rY out))]
abbrev VZ (m_:z6)(t_:Int)(n_:Int)(f_:ArN 64 (ArN 64 TB))(ap:List z8)(i7:Int):List (Nat×T):=[(0,.own (.box (xG 64 (xG 64 (eNl 1 rY)) f_))),(3,.d (I t_)),(4,.d (I n_)),(6,.own (.box (xQ m_))),(11,.own (eOs 1 true rY [])),(19,.d (eSl 2 false uS ap)),(20,.d (I ((ap.length:Nat):Int))),(21,.d (I i7))]
abbrev VY (m_:z6)(t_:Int)(n_:Int)(f_:ArN 64 (ArN 64 TB))(ap:List z8)(i7:Int):List (Nat×T):=[(0,.own (.box (xG 64 (xG 64 (eNl 1 rY)) f_))),(3,.d (I t_)),(4,.d (I n_)),(6,.own (.box (xQ m_))),(11,.own (eOs 1 true rY [])),(19,.d (eSl 2 false uS ap)),(20,.d (I ((ap.length:Nat):Int))),(21,.d (I i7))]
def Xl [H:HS X0 l81](bz:Value):∀(m_:z6) (s_:Int) (t_:Int) (n_:Int) (f_:ArN 64 (ArN 64 TB)) (r0:TB×ArN 64 (ArN 64 TB)),vI m_ s_ t_ n_ f_=some r0->uC prog (.fn 189 []) [.atom bz,.agg [I m_.Inputs,I m_.Outputs,eSl 1 false wv m_.Rows],I s_,I t_,I n_] ([bz].zip [.box (xG 64 (xG 64 (eNl 1 rY)) f_)]) (eNl 1 rY r0.1) [.box (xG 64 (xG 64 (eNl 1 rY)) r0.2)]:=by
 intro m_ s_ t_ n_ f_ r0 aa;refine zaV (tt:=wZ) (nt:=f189.ntmps) (body:=zbd f189) [0] zl func189 rfl (by kernel_rfl) rfl rfl (by show(5:Nat)<=85;decide) (by decide) rfl rfl rfl rfl (λE hG hE=>?_) rfl;unfold vI at aa;refine yA (H:=zx ((xRe prog 10 (.atom (.slice none 0 0)) (eNl 1 rY ([]:TB)) (zfw 1)).or ((xL zl (.inl 76) [66]).or X0))) 11 [] [(0,.own (.box (xG 64 (xG 64 (eNl 1 rY)) f_))),(2,.d (I s_)),(3,.d (I t_)),(4,.d (I n_)),(6,.own (.box (xQ m_)))] [Hn (rfl:T.d (.atom (.slice none 0 0))=T.d (.atom (.slice none 0 0)))] ?_;refine zeV (c':=(sub [1,0] (zbd f189))) (by kernel_rfl) hG ?_;refine yJ (H:=zx ((xL zl (.inl 76) [66]).or X0)) 11011 [] [0,4,11] (λz:TB=>vD n_ f_ z=some r0) (λz=>U0 n_ f_ z) [(0,.own (.box (xG 64 (xG 64 (eNl 1 rY)) f_))),(2,.d (I s_)),(3,.d (I t_)),(4,.d (I n_)),(6,.own (.box (xQ m_))),(11,.own (eOs 1 true rY []))] [Hh (.cut 2)] ?_ λJ1 ar=>?_
 ·rintro out aa;unfold vD at aa;obtain c0|c0:=zH aa
  ·obtain rfl:=xR c0.2;exact yF (H:=zx ((xRe prog 10 (.atom (.slice none 0 0)) (eNl 1 rY ([]:TB)) (zfw 1)).or ((xL zl (.inl 76) [66]).or X0))) .ret [(0,.own (.box (xG 64 (xG 64 (eNl 1 rY)) f_))),(10,.d (eNl 1 rY ([]:TB)))] [Ha (lnM rY out),c0,Hn (rfl:T.d (.atom (.slice none 0 0))=T.d (.atom (.slice none 0 0)))] λst0 h0=>hE _ st0 (.inr rfl) (ZS h0 ⟨⟨rfl,rfl⟩,trivial⟩) (zmL h0 rfl rfl)
  obtain⟨r_,h0,aa⟩:=zy c0.2;obtain⟨g0,aa⟩:=gdE aa;obtain rfl:=xR aa;exact yF (H:=zx ((xRe prog 10 (eSl 1 true rY r_) (eNl 1 rY r_) (λS v q=>(LeA.slNl 1 true rY g0).repV q)).or ((xL zl (.inl 76) [66]).or X0))) .ret [(0,.own (.box (xG 64 (xG 64 (eNl 1 rY)) f_))),(10,.d (eNl 1 rY r_))] [Ha (lnM rY out),c0,zg 34,Hm (shM rY rY out),Hs (zf1 34 h0 (loC F8_ out <| loN)),Hm (shM rY rY out),Hn (rfl:T.d (eSl 1 true rY r_)=T.d (eSl 1 true rY r_))] λst0 h0=>hE _ st0 (.inr rfl) (ZS h0 ⟨⟨rfl,rfl⟩,trivial⟩) (zmL h0 rfl rfl)
 obtain⟨ap,h1,t2,ht2,aa⟩:=yf aa;refine yL (H:=zx ((xL zl (.inl 76) [66]).or X0)) 11011210 [J1] (λs=>wp m_ t_ n_ f_ ap s) (λx=>VY m_ t_ n_ f_ ap x) 0 ht2  [Hi wv h1,Ha (lnM uS ap)] λi7 m2 av ae hl1 J2 au=>?_;try unfold wp at ae;obtain c1|c1:=zH ae
 ·refine yJ (H:=zx ((xL zl (.inl 76) [66]).or X0)) 11011210011 [J1,J2] [0,3,4,6,11,19,20,21] (λz:Unit=>xE i7=some av) (λz=>VZ m_ t_ n_ f_ ap i7) [(0,.own (.box (xG 64 (xG 64 (eNl 1 rY)) f_))),(3,.d (I t_)),(4,.d (I n_)),(6,.own (.box (xQ m_))),(11,.own (eOs 1 true rY [])),(19,.d (eSl 2 false uS ap)),(20,.d (I ((ap.length:Nat):Int))),(21,.d (I i7))] [c1,Hh (.cut 0)] ?_ λJ3 bg=>?_
  ·rintro⟨⟩ ae;unfold xE at ae;obtain rfl:=xR ae;exact yB (H:=zx ((xL zl (.inl 76) [66]).or X0)) au _ hl1 []
  obtain⟨al,h2,du,h3,bp,h4,ae⟩:=ZZ c1.2;let Z0:List HO:=[Hi uS h2,Hi wv h3,Hi uS h4];obtain c2|c2:=zH ae
  ·obtain rfl:=xR c2.2;obtain rfl:=hl1;exact yBx (H:=zx ((xL zl (.inl 76) [66]).or X0)) ar [i7] aa [(0,.own (.box (xG 64 (xG 64 (eNl 1 rY)) f_))),(4,.d (I n_)),(11,.own (eOs 1 true rY ([i7])))] inferInstance (Z0++[c2])
  obtain c3|c3:=zH c2.2
  ·let Z1:List HO:=(Z0++(Hb c2::(rpN 4 (Hb c3) [])));obtain c4|c4:=zH c3.2
   ·obtain⟨cell,h5,co,h6,ae⟩:=yf c4.2;let Z2:List HO:=(Z1++(rpN 7 (Hb c4) (Hn (⟨Qi (by kernel_rfl) f_ (i0 h5),(iL (xG 64 (eNl 1 rY)) h5).2⟩:kI wZ 246 ((f_.l).map (xG 64 (eNl 1 rY))) al.To=true/\al.To.toNat<((f_.l).map (xG 64 (eNl 1 rY))).length)::Hb c4::Hh (.f)::Hs (iM (xG 64 (eNl 1 rY)) h5)::Hn (⟨Qi (by kernel_rfl) cell (i0 h6),(iL (eNl 1 rY) h6).2⟩:kI wZ 221 ((cell.l).map (eNl 1 rY)) bp.To=true/\bp.To.toNat<((cell.l).map (eNl 1 rY)).length)::Hb c4::Hh (.f)::Hs (iM (xG 64 (eNl 1 rY)) h5)::Hh (.f)::Hs (iM (eNl 1 rY) h6)::Hn (rfl:T.d (eNl 1 rY co)=T.d (eNl 1 rY co))::Hb c4::Ha (lnM rY co)::(rpN 4 (Hb c4) []))));obtain c5|c5:=zH ae
    ·obtain⟨iv,h7,d9,h8,ai,h9,ae⟩:=ZZ c5.2;obtain rfl:=xR ae;obtain rfl:=hl1;exact yB (H:=zx ((xLs zl 75 (eNl 1 rY d9) (eSl 1 false rY d9) inferInstance).or ((xBl zl 66).or ((xLs zl 59 (eNl 1 rY co) (eSl 1 false rY co) inferInstance).or ((xL zl (.inl 76) [66]).or X0))))) ar ai aa (Z2++[c5,Hn (⟨Qi (by kernel_rfl) f_ (i0 h7),(iL (xG 64 (eNl 1 rY)) h7).2⟩:kI wZ 246 ((f_.l).map (xG 64 (eNl 1 rY))) al.To=true/\al.To.toNat<((f_.l).map (xG 64 (eNl 1 rY))).length),Hh (.op 9),Hh (.f),Hs (iM (xG 64 (eNl 1 rY)) h7),Hn (⟨Qi (by kernel_rfl) iv (i0 h8),(iL (eNl 1 rY) h8).2⟩:kI wZ 221 ((iv.l).map (eNl 1 rY)) bp.To=true/\bp.To.toNat<((iv.l).map (eNl 1 rY)).length),Hh (.op 0),Hh (.f),Hs (iM (xG 64 (eNl 1 rY)) h7),Hh (.f),Hs (iM (eNl 1 rY) h8),Hn (rfl:T.d (eNl 1 rY d9)=T.d (eNl 1 rY d9)),Hm (shM rY rY ([i7])),zg 0,Hm (shM F8_ F8_ ([[i7],d9])),Hs (zf1 0 h9 (loC z6u [[i7],d9] <| loN)),Hm (shM F8_ F8_ ([[i7],d9]))])
    exact yB (H:=zx ((xLs zl 59 (eNl 1 rY co) (eSl 1 false rY co) inferInstance).or ((xL zl (.inl 76) [66]).or X0))) bg () c5.2 (Z2++[c5])
   exact yB (H:=zx ((xL zl (.inl 76) [66]).or X0)) bg () c4.2 (Z1++(rpN 14 (Hb c4) [qF]))
  exact yB (H:=zx ((xL zl (.inl 76) [66]).or X0)) bg () c3.2 (Z0++(Hb c2::(rpN 4 (Hb c3) (rpN 15 qF []))))
 obtain rfl:=xR c1.2;obtain rfl:=hl1;exact yBx (H:=zx ((xL zl (.inl 76) [66]).or X0)) ar ([]:TB) aa [(0,.own (.box (xG 64 (xG 64 (eNl 1 rY)) f_))),(4,.d (I n_)),(11,.own (eOs 1 true rY []))] inferInstance [c1]
def JU [H:HS X0 l81](bz:Value):∀(s_:Int) (t_:Int) (w_:TB) (f_:ArN 64 (ArN 64 TB)) (r0:ArN 64 (ArN 64 TB)),uu s_ t_ w_ f_=some r0->uC prog (.fn 190 []) [.atom bz,I s_,I t_,eNl 1 rY w_] ([bz].zip [.box (xG 64 (xG 64 (eNl 1 rY)) f_)]) (.tup []) [.box (xG 64 (xG 64 (eNl 1 rY)) r0)]:=by intro s_ t_ w_ f_ r0 aa;refine z0Z (tt:=wZ) (nt:=f190.ntmps) (body:=zbd f190) [0] zl func190 rfl (by kernel_rfl) rfl rfl (by show(4:Nat)<=22;decide) (by decide) rfl rfl (λE hE=>?_) rfl;unfold uu at aa;refine zhX 0 (v:=bz) ⟨_,rfl⟩ (by kernel_rfl) λb0 hb0=>?_;subst hb0;obtain⟨cell,h0,co,h1,arr,h2,aa⟩:=ZZ aa;replace h2:=xR h2;obtain⟨arr1,h3,aa⟩:=zy aa;replace h3:=xR h3;obtain⟨iv,h4,d9,h5,arr2,h6,aa⟩:=ZZ aa;replace h6:=xR h6;obtain⟨pt,h7,aa⟩:=zy aa;replace h7:=xR h7;obtain rfl:=xR aa;exact yF (H:=zx ((xIr zl 21 0 t_.toNat b0).or ((xRi zl 20 64 64 b0).or ((xNr prog 19 b0).or ((xMv prog 11 0 (z1P b0) rfl).or X0))))) .normal [(0,.own (.box (xG 64 (xG 64 (eNl 1 rY)) pt)))] [Hn (rfl:some (z1P b0)=some (z1P b0)),Hn (⟨Qi (by kernel_rfl) f_ (i0 h0),(iL (xG 64 (eNl 1 rY)) h0).2⟩:kI wZ 246 ((f_.l).map (xG 64 (eNl 1 rY))) s_=true/\s_.toNat<((f_.l).map (xG 64 (eNl 1 rY))).length),Hh (.op 10),Hh (.f),Hs (iM (xG 64 (eNl 1 rY)) h0),Hn (⟨Qi (by kernel_rfl) cell (i0 h1),(iL (eNl 1 rY) h1).2⟩:kI wZ 221 ((cell.l).map (eNl 1 rY)) t_=true/\t_.toNat<((cell.l).map (eNl 1 rY)).length),Hh (.op 0),Hh (.f),Hs (iM (xG 64 (eNl 1 rY)) h0),Hh (.f),Hs (iM (eNl 1 rY) h1),Hh (.f),Hs (iM (xG 64 (eNl 1 rY)) h0),Hh (.f),Hs (iM (eNl 1 rY) h1),Hx (.l ((arr.l).map (eNl 1 rY))) ((ArN.setL (eNl 1 rY) cell t_ w_).trans (congrArg (λq=>(ArN.l q).map (eNl 1 rY)) h2)),Hx (.l ((arr1.l).map (xG 64 (eNl 1 rY)))) ((ArN.setL (xG 64 (eNl 1 rY)) f_ s_ arr).trans (congrArg (λq=>(ArN.l q).map (xG 64 (eNl 1 rY))) h3)),Hn (rfl:T.d (.atom (z1P b0))=T.d (.atom (z1P b0))),Hn (⟨rfl,i0 h4,zfS (x:=arr1) h4⟩:T.d (.atom (z1P b0))=T.d (.atom (z1P b0))/\0<=t_/\t_.toNat<64),Hn (⟨⟨congrArg (λk=>T.d (.atom (.pointer (some ⟨b0,k,none⟩)))) (zhY (f:=(xG 64 (eNl 1 rY))) arr1 h4).symm,(iL (xG 64 (eNl 1 rY)) h4).2⟩,rfl⟩:(T.d (.atom (.pointer (some ⟨b0,t_.toNat*64,none⟩)))=T.d (.atom (.pointer (some ⟨b0,A.sizes (((arr1.l).map (xG 64 (eNl 1 rY))).take t_.toNat),none⟩)))/\t_.toNat<((arr1.l).map (xG 64 (eNl 1 rY))).length)/\some (z1P b0)=some (z1P b0)),Hh (.op 2),Hh (.f),Hs (iM (xG 64 (eNl 1 rY)) h4),Hn (⟨Qi (by kernel_rfl) iv (i0 h5),(iL (eNl 1 rY) h5).2⟩:kI wZ 221 ((iv.l).map (eNl 1 rY)) s_=true/\s_.toNat<((iv.l).map (eNl 1 rY)).length),Hh (.op 0),Hh (.f),Hs (iM (xG 64 (eNl 1 rY)) h4),Hh (.f),Hs (iM (eNl 1 rY) h5),Hh (.f),Hs (iM (xG 64 (eNl 1 rY)) h4),Hh (.f),Hs (iM (eNl 1 rY) h5),Hx (.l ((arr2.l).map (eNl 1 rY))) ((ArN.setL (eNl 1 rY) iv s_ w_).trans (congrArg (λq=>(ArN.l q).map (eNl 1 rY)) h6)),Hx (.l ((pt.l).map (xG 64 (eNl 1 rY)))) ((ArN.setL (xG 64 (eNl 1 rY)) arr1 t_ arr2).trans (congrArg (λq=>(ArN.l q).map (xG 64 (eNl 1 rY))) h7))] λst0 h0=>hE _ st0 (.inl rfl) (ZS h0 ⟨⟨rfl,rfl⟩,trivial⟩)
def l82:List yg:=YZ 169 xQ (eBx (xG 64 (xG 64 (eNl 1 rY)))) ut::l81
abbrev UC (f_:ArN 64 (ArN 64 TB)):List (Nat×T):=[(3,.own (.box (.box (xG 64 (xG 64 (eNl 1 rY)) f_))))]
abbrev UB (m_:z6)(n_:Int)(ni:ArN 64 (ArN 64 TB)):List (Nat×T):=[(1,.own (.box (xQ m_))),(3,.own (.box (.box (xG 64 (xG 64 (eNl 1 rY)) ni)))),(4,.own (.box (I n_)))]
abbrev Uy (m_:z6)(n_:Int)(now:List y5)(od:ArN 64 (ArN 64 TB))(pd:Int):List (Nat×T):=[(1,.own (.box (xQ m_))),(3,.own (.box (.box (xG 64 (xG 64 (eNl 1 rY)) od)))),(4,.own (.box (I n_))),(48,.d (eSl 4 false (zT rY rY (eNl 1 rY) eB) now)),(49,.d (I ((now.length:Nat):Int))),(50,.d (I pd))]
abbrev UA (m_:z6)(n_:Int)(p9:ArN 64 (ArN 64 TB))(now:List y5):List (Nat×T):=[(1,.own (.box (xQ m_))),(3,.own (.box (.box (xG 64 (xG 64 (eNl 1 rY)) p9)))),(4,.own (.box (I n_))),(5,.own (.box (eOs 4 false (zT rY rY (eNl 1 rY) eB) now)))]
abbrev wU (m_:z6)(n_:Int)(ai:z6)(j9:ArN 64 (ArN 64 TB))(jk:List y5):List (Nat×T):=[(1,.own (.box (xQ m_))),(3,.own (.box (.box (xG 64 (xG 64 (eNl 1 rY)) j9)))),(4,.own (.box (I n_))),(5,.own (.box (eOs 4 false (zT rY rY (eNl 1 rY) eB) jk))),(22,.d (.fn 199 [.sptr (.agg [I ai.Inputs,I ai.Outputs,eSl 1 false wv ai.Rows])]))]
abbrev Uz (m_:z6)(ky:ArN 64 (ArN 64 TB))(n_:Int):List (Nat×T):=[(1,.own (.box (xQ m_))),(3,.own (.box (.box (xG 64 (xG 64 (eNl 1 rY)) ky)))),(4,.own (.box (I n_)))]
def JT [H:HS X0 l81]:OkH l82:=by
 refine zO1 λm_ r0 aa=>?_;try unfold ut at aa;refine z8D (tt:=wZ) (rs:=[(true,2,none)]) (n:=⟨f169.ntmps,[]⟩) (body:=zbd f169) zl func169 rfl (by kernel_rfl) rfl rfl (by show(1:Nat)<=65;decide) λE hE=>?_
 refine yJ 111 [] [3] (λz:ArN 64 (ArN 64 TB)=>ud z=some r0) (λz=>UC z) [(1,.own (.box (xQ m_))),(3,.own (.box (.box (xG 64 (xG 64 (eNl 1 rY)) (ArN.rep 64 (ArN.rep 64 ([]:TB)))))))] [Hh (.cut 2)] ?_ λJ1 ar=>?_
 ·rintro f_ aa;unfold ud at aa;obtain rfl:=xR aa;let ZE:List HO:=[];exact zbP X0 zl H.ok z83 hE 4000 (hs:=hoH ZE) (x:=(.box (xG 64 (xG 64 (eNl 1 rY)) f_))) (hoB ZE) (by kernel_rfl) (LeV.refl _)
 obtain⟨t2,ht2,aa⟩:=zy aa;refine yL 111210 [J1] (λs=>ua m_ s.1 s.2) (λx=>Uz m_ x.1 x.2) ((ArN.rep 64 (ArN.rep 64 ([]:TB))),1) ht2  [] λ⟨ky,n_⟩ m2 av ae hl1 J2 au=>?_;try unfold ua at ae
 let Z0:List HO:=[Ha (lnM wv m_.Rows)];obtain c0|c0:=zH ae
 ·refine yJ 11121001 [J1,J2] [1,3,4] (λz:ArN 64 (ArN 64 TB)=>uc n_ z=some av) (λz=>UB m_ n_ z) [(1,.own (.box (xQ m_))),(3,.own (.box (.box (xG 64 (xG 64 (eNl 1 rY)) ky)))),(4,.own (.box (I n_)))] (Z0++[c0,Hh (.cut 0)]) ?_ λJ3 bg=>?_
  ·rintro ni ae;unfold uc at ae;obtain rfl:=xR ae;exact yB au _ hl1 []
  refine yJ 11121001201 [J1,J2,J3] [1,3,4,5] (λz:ArN 64 (ArN 64 TB)×List y5=>ub n_ z.1 z.2=some av) (λz=>UA m_ n_ z.1 z.2) [(1,.own (.box (xQ m_))),(3,.own (.box (.box (xG 64 (xG 64 (eNl 1 rY)) ky)))),(4,.own (.box (I n_))),(5,.own (.box (eOs 4 true (zT rY rY F8_ eB) [])))] [Hh (.cut 1)] ?_ λJ4 db=>?_
  ·rintro⟨p9,now⟩ ae;unfold ub at ae;obtain⟨t5,ht5,ae⟩:=zy ae;refine yL 11121001201110 [J1,J2,J3] (λs=>wN now s.1 s.2) (λx=>Uy m_ n_ now x.1 x.2) (p9,0) ht5  [Hh (.v 0 [5]),Hm (shM (zT rY rY (eNl 1 rY) eB) (zT rY rY (eNl 1 rY) eB) now),Hh (.v 1 [5]),Ha (lnM (zT rY rY (eNl 1 rY) eB) now)] λ⟨od,pd⟩ m5 dj ah hl2 J5 dc=>?_;try unfold wN at ah;obtain c1|c1:=zH ah
   ·obtain⟨ic,h0,r_,h1,ah⟩:=yf c1.2;obtain rfl:=xR ah;exact yB (H:=zx ((z9w (P:=prog) wZ 3 0 (fa:=.fn 190 []) (z:=.box (xG 64 (xG 64 (eNl 1 rY)) od)) (z':=.box (xG 64 (xG 64 (eNl 1 rY)) r_)) (r:=.tup []) (xl:=[]) (xr:=[rY ic.S,rY ic.T,(eNl 1 rY) ic.Word]) rfl rfl (λv=>JU (H:=zd 0) v _ _ _ _ _ h1) 61).or X0)) dc _ hl2 [c1,Hi (zT rY rY (eNl 1 rY) eB) h0,Hn (⟨rfl,leP (show Qm [] [] from inferInstance),leP (show Qm [rY ic.S,rY ic.T,(eNl 1 rY) ic.Word] [rY ic.S,rY ic.T,(eNl 1 rY) ic.Word] from inferInstance),rfl,rfl⟩:([.fn 190 []]:List A)=[.fn 190 []]/\LeP [] []/\LeP [rY ic.S,rY ic.T,(eNl 1 rY) ic.Word] [rY ic.S,rY ic.T,(eNl 1 rY) ic.Word]/\T.als 3 [.deref] 0 0=T.als 3 [.deref] 0 0/\T.own (.box (.box (xG 64 (xG 64 (eNl 1 rY)) od)))=T.own (.box (.box (xG 64 (xG 64 (eNl 1 rY)) od))))]
   obtain rfl:=xR c1.2;obtain rfl:=hl2;exact yB bg od ae [c1]
  obtain⟨ai,h2,t6,kb,ae⟩:=yf c0.2;refine yAt (sub [1,1,2,1,0,0,1,2,0,1,2,1,0] (zbd f169)) (frs [1,1,2,1,0,0,1,2,0,1,2,1,0] [J1,J2,J3,J4] (zbd f169) []) [(1,.own (.box (xQ m_))),(3,.own (.box (.box (xG 64 (xG 64 (eNl 1 rY)) ky)))),(4,.own (.box (I n_))),(5,.own (.box (eOs 4 true (zT rY rY (eNl 1 rY) eB) []))),(22,.d (.fn 199 [.sptr (.agg [I ai.Inputs,I ai.Outputs,eSl 1 false wv ai.Rows])]))] [zC1 1 h2] λst0 h0=>?_;refine JL (g:=.tmp 22) (ps:=[23,24]) (assign:=(sub [1,1,2,1,0,0,1,2,0,1,2,1,0,0] (zbd f169))) (body:=(sub [1,1,2,1,0,0,1,2,0,1,2,1,0,1] (zbd f169))) (K:=199) (caps:=[.sptr (.agg [I ai.Inputs,I ai.Outputs,eSl 1 false wv ai.Rows])]) (by kernel_rfl) [1,3,4,5,22] (λs=>wU m_ n_ ai s.1 s.2) (λz=>nomatch z) (λz=>nomatch z) ((λ(x:Int×Int) (_:Bool) (_:Value)=>[rY x.1,rY x.2])) (F:=@uD ai) (λs x=>xe m_ n_ s.1 s.2 x.1 x.2) (ky,([]:List y5)) t6 _ h0 inferInstance (by kernel_rfl) (by decide) (λ_=>rfl) (by rintro⟨⟩) (by kernel_rfl) (λ_ _ _=>rfl) (z0H (H:=zd 1) ai) kb ?_ ?_
  ·rintro sr ⟨j9,jk⟩ ⟨kx,ga⟩ vr dj ah;replace ah:xe m_ n_ j9 jk kx ga=some dj:=ah;unfold xe at ah;refine yF .normal [(1,.own (.box (xQ m_))),(3,.own (.box (.box (xG 64 (xG 64 (eNl 1 rY)) j9)))),(4,.own (.box (I n_))),(5,.own (.box (eOs 4 false (zT rY rY (eNl 1 rY) eB) jk))),(6,.d (I kx)),(7,.d (I ga)),(22,.d (.fn 199 [.sptr (.agg [I ai.Inputs,I ai.Outputs,eSl 1 false wv ai.Rows])]))] [] λst0 h0=>⟨rfl,z35 h0 ?_⟩;obtain⟨cell,h3,co,h4,ah⟩:=yf ah;let Z1:List HO:=[Hn (⟨Qi (by kernel_rfl) j9 (i0 h3),(iL (xG 64 (eNl 1 rY)) h3).2⟩:kI wZ 246 ((j9.l).map (xG 64 (eNl 1 rY))) kx=true/\kx.toNat<((j9.l).map (xG 64 (eNl 1 rY))).length),Hh (.op 5),Hh (.f),Hs (iM (xG 64 (eNl 1 rY)) h3),Hn (⟨Qi (by kernel_rfl) cell (i0 h4),(iL (eNl 1 rY) h4).2⟩:kI wZ 221 ((cell.l).map (eNl 1 rY)) ga=true/\ga.toNat<((cell.l).map (eNl 1 rY)).length),Hh (.op 0),Hh (.f),Hs (iM (xG 64 (eNl 1 rY)) h3),Hh (.f),Hs (iM (eNl 1 rY) h4),Hn (⟨rfl,rfl⟩:T.d (eNl 1 rY co)=T.d (eNl 1 rY co)/\T.d (.atom (.slice none 0 0))=T.d (.atom (.slice none 0 0)))];obtain c2|c2:=zH ah
   ·obtain rfl:=xR c2.2;exact yF (H:=zx ((zit zl 32 51 1 (co.map rY) true (!co.isEmpty) (by kernel_rfl) (nlB true rY co)).or X0)) .normal (wU m_ n_ ai j9 jk) (Z1++[c2]) λst0 h0=>⟨rfl,_,h0,LeL.refl _⟩
   obtain⟨ak,h5,ah⟩:=zy c2.2;let Z2:List HO:=(Z1++[c2,Hn (⟨rfl,leP (show Qm [] [] from inferInstance),leP (show Qm [xQ m_,rY kx,rY ga,rY n_] [xQ m_,rY kx,rY ga,rY n_] from inferInstance),rfl,rfl⟩:([.fn 189 []]:List A)=[.fn 189 []]/\LeP [] []/\LeP [xQ m_,rY kx,rY ga,rY n_] [xQ m_,rY kx,rY ga,rY n_]/\T.als 3 [.deref] 0 0=T.als 3 [.deref] 0 0/\T.own (.box (.box (xG 64 (xG 64 (eNl 1 rY)) j9)))=T.own (.box (.box (xG 64 (xG 64 (eNl 1 rY)) j9)))),Hn (⟨rfl,rfl⟩:T.d (eNl 1 rY ak.1)=T.d (eNl 1 rY ak.1)/\T.d (.atom (.slice none 0 0))=T.d (.atom (.slice none 0 0)))]);obtain c3|c3:=zH ah
   ·obtain⟨g0,ah⟩:=gdE c3.2;obtain rfl:=xR ah;exact yF (H:=zx ((zit zl 40 51 1 (ak.1.map rY) true (!ak.1.isEmpty) (by kernel_rfl) (nlB true rY ak.1)).or ((z9w (P:=prog) wZ 3 0 (fa:=.fn 189 []) (z:=.box (xG 64 (xG 64 (eNl 1 rY)) j9)) (z':=.box (xG 64 (xG 64 (eNl 1 rY)) ak.2)) (r:=eNl 1 rY ak.1) (xl:=[]) (xr:=[xQ m_,rY kx,rY ga,rY n_]) rfl rfl (λv=>Xl (H:=zd 0) v _ _ _ _ _ _ h5) 38).or ((zit zl 32 51 1 (co.map rY) true (!co.isEmpty) (by kernel_rfl) (nlB true rY co)).or X0)))) .normal (wU m_ n_ ai ak.2 (jk++[(y5.mk kx ga ak.1 false)])) (Z2++[c3,Hq (dM (zT rY rY (eNl 1 rY) eB) [(y5.mk kx ga ak.1 false)]),Hn (dM (zT rY rY (eNl 1 rY) eB) [(y5.mk kx ga ak.1 false)]),Hn (aL (zT rY rY (eNl 1 rY) eB) (zT rY rY (eNl 1 rY) eB) g0),Hl (aM (zT rY rY (eNl 1 rY) eB) jk [(y5.mk kx ga ak.1 false)])]) λst0 h0=>⟨rfl,_,h0,LeL.refl _⟩
   obtain rfl:=xR c3.2;exact yF (H:=zx ((zit zl 40 51 1 (ak.1.map rY) true (!ak.1.isEmpty) (by kernel_rfl) (nlB true rY ak.1)).or ((z9w (P:=prog) wZ 3 0 (fa:=.fn 189 []) (z:=.box (xG 64 (xG 64 (eNl 1 rY)) j9)) (z':=.box (xG 64 (xG 64 (eNl 1 rY)) ak.2)) (r:=eNl 1 rY ak.1) (xl:=[]) (xr:=[xQ m_,rY kx,rY ga,rY n_]) rfl rfl (λv=>Xl (H:=zd 0) v _ _ _ _ _ _ h5) 38).or ((zit zl 32 51 1 (co.map rY) true (!co.isEmpty) (by kernel_rfl) (nlB true rY co)).or X0)))) .normal (wU m_ n_ ai ak.2 jk) (Z2++[c3]) λst0 h0=>⟨rfl,_,h0,LeL.refl _⟩
  rcases t6 with⟨j9,jk⟩|z
  ·dsimp only at ae;exact Yw (by kernel_rfl) (db _ [(1,.own (.box (xQ m_))),(3,.own (.box (.box (xG 64 (xG 64 (eNl 1 rY)) j9)))),(4,.own (.box (I n_))),(5,.own (.box (eOs 4 false (zT rY rY (eNl 1 rY) eB) jk)))] (j9,jk) ae (show Own.canon [1,3,4,5] _=ofL _ by kernel_rfl) inferInstance)
  cases z
 obtain rfl:=xR c0.2;obtain rfl:=hl1;exact yB ar ky aa (Z0++[c0])
def l83:List yg:=z2A 149 xQ rY rY (eT3 F4_ eB rY) qt::l82
def KJ [H:HS X0 l82]:OkH l83:=yS3 false func149 λm_ s_ t_ r0 aa E hE=>by
 let u0:=(xG 64 (eNl 1 rY));obtain⟨r_,h0,aa⟩:=zy aa;let Z0:List HO:=[zg 3,Hm (shM rY rY ([s_,t_])),Hs (zf2 3 h0 (loC xQ m_ <| loC F4_ [s_,t_] <| loN))];obtain c0|c0:=zH aa
 ·cases c0.2;exact yE hE (Z0++[c0,Hm (shM rY rY [])])
 obtain⟨ai,h1,cell,h2,co,h3,ak,h4,am,h5,aa⟩:=zhR c0.2;cases aa;exact yE (H:=zx ((xLs zl 26 (eNl 1 rY co) (eSl 1 false rY co) inferInstance).or X0)) hE (Z0++[c0,zC1 0 h1,Hn (⟨Qi (by kernel_rfl) ai (i0 h2),(iL u0 h2).2⟩:kI wZ 246 ((ai.l).map u0) s_=true/\s_.toNat<((ai.l).map u0).length),Hh (.op 4),Hh (.f),Hs (iM u0 h2),Hn (⟨Qi (by kernel_rfl) cell (i0 h3),(iL (eNl 1 rY) h3).2⟩:kI wZ 221 ((cell.l).map (eNl 1 rY)) t_=true/\t_.toNat<((cell.l).map (eNl 1 rY)).length),Hh (.op 0),Hh (.f),Hs (iM u0 h2),Hh (.f),Hs (iM (eNl 1 rY) h3),Hn (rfl:T.d (eNl 1 rY co)=T.d (eNl 1 rY co)),zC1 36 h4,zg 35,Hm (shM rY rY ak),Hs (zf1 35 h5 (loC F8_ ak <| loN)),Hm (shM rY rY ak),Ha (lnM rY am)])
def l84:List yg:=Zs 117 xQ (z8w 118) (eT2 kK rY) Wl::l83
abbrev KD (m_:z6)(x5:Int)(out:TA):List (Nat×T):=[(2,.own (.box (xQ m_))),(4,.own (.box (eOs 1 true F8_ []))),(5,.own (.box (I x5))),(6,.own (.box (eOs 1 false F4_ out)))]
abbrev vo (m_:z6)(ai:Int)(ge:Int)(aj:TA):List (Nat×T):=[(2,.own (.box (xQ m_))),(3,.own (.box (.fn 118 []))),(4,.own (.box (eOs 1 true F8_ []))),(5,.own (.box (I ge))),(6,.own (.box (eOs 1 false F4_ aj))),(15,.d (.fn 167 [.sptr (I ai)]))]
def z2W [H:HS X0 l83]:OkH l84:=yS2 false func117 λm_ is r0 aa E hE=>by
 refine yJ 111 [] [2,4,5,6] (λz:Int×TA=>Zl m_ z.1 z.2=some r0) (λz=>KD m_ z.1 z.2) [(2,.own (.box (xQ m_))),(3,.own (.box (.fn 118 []))),(4,.own (.box (eOs 1 true F8_ []))),(5,.own (.box (I 0))),(6,.own (.box (eOs 1 true F8_ [])))] [Hh (.cut 2)] ?_ λJ1 ar=>?_
 ·rintro⟨x5,out⟩ aa;unfold Zl at aa;obtain⟨r_,h0,aa⟩:=zy aa;obtain rfl:=xR aa;exact yE hE [zg 18,Hm (shM F4_ F4_ out),Hs (zf2 18 h0 (loC zlD out <| loC rY m_.Inputs <| loN)),Hm (shM F4_ F4_ out)]
 obtain⟨ai,h1,t2,ht2,aa⟩:=yf aa;refine yAt (sub [1,1,2,1,0] (zbd f117)) (frs [1,1,2,1,0] [J1] (zbd f117) []) [(2,.own (.box (xQ m_))),(3,.own (.box (.fn 118 []))),(4,.own (.box (eOs 1 true F8_ []))),(5,.own (.box (I 0))),(6,.own (.box (eOs 1 true F4_ []))),(15,.d (.fn 167 [.sptr (I ai)]))] [Ha (lnM wv m_.Rows),zC1 7 h1] λst0 h0=>?_;refine JL (g:=.tmp 15) (ps:=[16,17]) (assign:=(sub [1,1,2,1,0,0] (zbd f117))) (body:=(sub [1,1,2,1,0,1] (zbd f117))) (K:=167) (caps:=[.sptr (I ai)]) (by kernel_rfl) [2,3,4,5,6,15] (λs=>vo m_ ai s.1 s.2) (λs=>vo m_ ai s.1 s.2) (λs=>Code.ret) ((λ(x:Int×Int) (_:Bool) (_:Value)=>[rY x.1,rY x.2])) (F:=@vz ai) (λs x=>vR m_ s.1 s.2 x.1 x.2) (0,([]:TA)) t2 _ h0 inferInstance (by kernel_rfl) (by decide) (λ_=>rfl) (λ_=>rfl) (by kernel_rfl) (λ_ _ _=>rfl) (Ua (H:=zd 7) ai) ht2 ?_ ?_
 ·rintro qg ⟨ge,aj⟩ ⟨ft,ba⟩ vr av ae;replace ae:vR m_ ge aj ft ba=some av:=ae;unfold vR at ae;refine yF .normal [(2,.own (.box (xQ m_))),(3,.own (.box (.fn 118 []))),(4,.own (.box (eOs 1 true F8_ []))),(5,.own (.box (I ge))),(6,.own (.box (eOs 1 false F4_ aj))),(7,.d (I ft)),(8,.d (I ba)),(15,.d (.fn 167 [.sptr (I ai)]))] [] λst0 h0=>⟨rfl,z35 h0 ?_⟩;obtain⟨ak,h2,ae⟩:=zy ae;let Z0:List HO:=[zC2 6 h2];obtain c0|c0:=zH ae
  ·obtain rfl:=xR c0.2;exact yF .normal (vo m_ ai ge aj) (Z0++[c0]) λst0 h0=>⟨rfl,_,h0,LeL.refl _⟩
  obtain⟨am,h3,ae⟩:=zy c0.2;let Z1:List HO:=(Z0++[c0,zC3 0 h3]);obtain c1|c1:=zH ae
  ·obtain rfl:=xR c1.2;exact yF .ret (vo m_ ai am.2.2 aj) (Z1++[c1]) λst0 h0=>⟨rfl,_,h0,LeL.refl _⟩
  obtain⟨g0,ae⟩:=gdE c1.2;obtain rfl:=xR ae;exact yF .normal (vo m_ ai ge (aj++[am.1])) (Z1++[c1,Hq (dM F4_ [am.1]),Hn (dM F4_ [am.1]),Hn (aL F4_ F4_ g0),Hl (aM F4_ aj [am.1])]) λst0 h0=>⟨rfl,_,h0,LeL.refl _⟩
 rcases t2 with⟨ge,aj⟩|z
 ·dsimp only at aa;exact Yw (by kernel_rfl) (ar _ [(2,.own (.box (xQ m_))),(4,.own (.box (eOs 1 true F8_ []))),(5,.own (.box (I ge))),(6,.own (.box (eOs 1 false F4_ aj)))] (ge,aj) aa (show Own.canon [2,4,5,6] _=ofL _ by kernel_rfl) inferInstance)
 obtain⟨ge,aj⟩:=z;dsimp only at aa;show AWP _ _ (Code.ret) _ _;obtain rfl:=xR aa;exact yE hE [Hm (shM F8_ F8_ [])]
def l85:List yg:=YZ 72 xQ (eT2 kK rY) QG::l84
def z5j [H:HS X0 l84]:OkH l85:=yS1 false func72 λm_ r0 aa E hE=>by
 obtain⟨r_,h0,aa⟩:=zy aa;let Z0:List HO:=[zC1 41 h0];obtain c0|c0:=zH aa
 ·cases c0.2;exact yE hE (Z0++[c0,Hm (shM F8_ F8_ [])])
 obtain⟨ai,h1,aa⟩:=zy c0.2;cases aa;exact yE hE (Z0++[c0,zC2 0 h1])
def l86:List yg:=Zs 74 rY rY (eT2 kK rY) Vk::l85
def z3W [H:HS X0 l85]:OkH l86:=yS2 false func74 λinputs k_ r0 aa E hE=>by obtain⟨r_,h0,aa⟩:=zy aa;cases aa;exact yE hE [zC3 18 h0]
def l87:List yg:=YZ 75 vp vp Xw::l86
def z3Y [H:HS X0 l86]:OkH l87:=yS1 false func75 λl_ r0 aa E hE=>by
 let Z0:List HO:=[Ha (lnM F8_ l_)];obtain c0|c0:=zH aa
 ·cases c0.2;exact yEl hE (Z0++[c0,Hm (shM F5_ F4_ ([[]]))])
 cases c0.2;exact yE hE (Z0++[Hb c0])
def l88:List yg:=z2A 120 rY rY (eSp rY) eB VK::l87
def z44 [H:HS X0 l87]:OkH l88:=yS3 true func120 λa_ b_ x2 r0 aa E hE=>by
 obtain c0|c0:=zH aa
 ·cases c0.2;exact yE hE (rpN 4 (Hb c0) [])
 cases c0.2;exact yE hE (rpN 4 (Hb c0) [])
def Xx:yg:=spF (α:=z6×Int) (ρ:=TA×Int) 117 (λx=>[xQ x.1,(Ko 120 (eSp rY)) x.2]) (λr=>.tup [kK r.1,rY r.2]) (λx=>uB x.1 x.2) [] (by rintro⟨a0,a1⟩ ⟨b0,b1⟩ h;have e0:=uT.inj (f:=xQ) _ _ (List.cons.inj h).1;replace h:=(List.cons.inj h).2;have e1:=uT.inj (f:=(Ko 120 (eSp rY))) _ _ (List.cons.inj h).1;subst e0 e1;rfl)
abbrev UH (m_:z6)(x5:Int)(out:TA):List (Nat×T):=[(2,.own (.box (xQ m_))),(4,.own (.box (eOs 1 true F8_ []))),(5,.own (.box (I x5))),(6,.own (.box (eOs 1 false F4_ out)))]
abbrev xN (m_:z6)(is:Int)(ai:Int)(ge:Int)(aj:TA):List (Nat×T):=[(2,.own (.box (xQ m_))),(3,.own (.box (.fn 120 [.sptr (I is)]))),(4,.own (.box (eOs 1 true F8_ []))),(5,.own (.box (I ge))),(6,.own (.box (eOs 1 false F4_ aj))),(15,.d (.fn 167 [.sptr (I ai)]))]
def JZ [H:HS X0 l88]:Xx.Ok prog:=by
 refine WU ?_;rintro⟨m_,is⟩ r0 aa;try unfold uB at aa;refine zY false func117 λE hE=>?_;refine yJ 111 [] [2,4,5,6] (λz:Int×TA=>um m_ z.1 z.2=some r0) (λz=>UH m_ z.1 z.2) [(2,.own (.box (xQ m_))),(3,.own (.box (.fn 120 [.sptr (I is)]))),(4,.own (.box (eOs 1 true F8_ []))),(5,.own (.box (I 0))),(6,.own (.box (eOs 1 true F8_ [])))] [Hh (.cut 2)] ?_ λJ1 ar=>?_
 ·rintro⟨x5,out⟩ aa;unfold um at aa;obtain⟨r_,h0,aa⟩:=zy aa;obtain rfl:=xR aa;exact yE hE [zg 23,Hm (shM F4_ F4_ out),Hs (zf2 23 h0 (loC zlD out <| loC rY m_.Inputs <| loN)),Hm (shM F4_ F4_ out)]
 obtain⟨ai,h1,t2,ht2,aa⟩:=yf aa;refine yAt (sub [1,1,2,1,0] (zbd f117)) (frs [1,1,2,1,0] [J1] (zbd f117) []) [(2,.own (.box (xQ m_))),(3,.own (.box (.fn 120 [.sptr (I is)]))),(4,.own (.box (eOs 1 true F8_ []))),(5,.own (.box (I 0))),(6,.own (.box (eOs 1 true F4_ []))),(15,.d (.fn 167 [.sptr (I ai)]))] [Ha (lnM wv m_.Rows),zC1 12 h1] λst0 h0=>?_;refine JL (g:=.tmp 15) (ps:=[16,17]) (assign:=(sub [1,1,2,1,0,0] (zbd f117))) (body:=(sub [1,1,2,1,0,1] (zbd f117))) (K:=167) (caps:=[.sptr (I ai)]) (by kernel_rfl) [2,3,4,5,6,15] (λs=>xN m_ is ai s.1 s.2) (λs=>xN m_ is ai s.1 s.2) (λs=>Code.ret) ((λ(x:Int×Int) (_:Bool) (_:Value)=>[rY x.1,rY x.2])) (F:=@vz ai) (λs x=>yI m_ is s.1 s.2 x.1 x.2) (0,([]:TA)) t2 _ h0 inferInstance (by kernel_rfl) (by decide) (λ_=>rfl) (λ_=>rfl) (by kernel_rfl) (λ_ _ _=>rfl) (Ua (H:=zd 12) ai) ht2 ?_ ?_
 ·rintro qg ⟨ge,aj⟩ ⟨ft,ba⟩ vr av ae;replace ae:yI m_ is ge aj ft ba=some av:=ae;unfold yI at ae;refine yF .normal [(2,.own (.box (xQ m_))),(3,.own (.box (.fn 120 [.sptr (I is)]))),(4,.own (.box (eOs 1 true F8_ []))),(5,.own (.box (I ge))),(6,.own (.box (eOs 1 false F4_ aj))),(7,.d (I ft)),(8,.d (I ba)),(15,.d (.fn 167 [.sptr (I ai)]))] [] λst0 h0=>⟨rfl,z35 h0 ?_⟩;obtain⟨ak,h2,ae⟩:=zy ae;let Z0:List HO:=[zC3 0 h2];obtain c0|c0:=zH ae
  ·obtain rfl:=xR c0.2;exact yF .normal (xN m_ is ai ge aj) (Z0++[c0]) λst0 h0=>⟨rfl,_,h0,LeL.refl _⟩
  obtain⟨am,h3,ae⟩:=zy c0.2;let Z1:List HO:=(Z0++[c0,zC3 5 h3]);obtain c1|c1:=zH ae
  ·obtain rfl:=xR c1.2;exact yF .ret (xN m_ is ai am.2.2 aj) (Z1++[c1]) λst0 h0=>⟨rfl,_,h0,LeL.refl _⟩
  obtain⟨g0,ae⟩:=gdE c1.2;obtain rfl:=xR ae;exact yF .normal (xN m_ is ai ge (aj++[am.1])) (Z1++[c1,Hq (dM F4_ [am.1]),Hn (dM F4_ [am.1]),Hn (aL F4_ F4_ g0),Hl (aM F4_ aj [am.1])]) λst0 h0=>⟨rfl,_,h0,LeL.refl _⟩
 rcases t2 with⟨ge,aj⟩|z
 ·dsimp only at aa;exact Yw (by kernel_rfl) (ar _ [(2,.own (.box (xQ m_))),(4,.own (.box (eOs 1 true F8_ []))),(5,.own (.box (I ge))),(6,.own (.box (eOs 1 false F4_ aj)))] (ge,aj) aa (show Own.canon [2,4,5,6] _=ofL _ by kernel_rfl) inferInstance)
 obtain⟨ge,aj⟩:=z;dsimp only at aa;show AWP _ _ (Code.ret) _ _;obtain rfl:=xR aa;exact yE hE [Hm (shM F8_ F8_ [])]
def l89:List yg:=Zs 76 xQ rY (eT2 kK rY) Kk::l88
def z6C [H:HS X0 l88]:OkH l89:=yS2 false func76 λm_ s_ r0 aa E hE=>by
 obtain⟨r_,h0,aa⟩:=zy aa;let Z0:List HO:=[zC1 45 h0];obtain c0|c0:=zH aa
 ·cases c0.2;exact yE hE (Z0++[c0,Hm (shM F8_ F8_ [])])
 obtain c1|c1:=zH c0.2
 ·cases c1.2;exact yE hE (Z0++(Hb c0::(rpN 6 (Hb c1) [qT,Hm (shM F8_ F8_ [])])))
 let Z1:List HO:=(Z0++(Hb c0::(rpN 4 (Hb c1) [Ha (lnM wv m_.Rows),c1,c1])));obtain c2|c2:=zH c1.2
 ·cases c2.2;exact yE hE (Z1++[c2,Hm (shM F8_ F8_ [])])
 obtain⟨ai,h1,aa⟩:=zy c2.2;cases aa;exact yE (H:=zx ((z0C zl (JZ (H:=zd 0)) 23).or X0)) hE (Z1++[c2,Hc (Ctr.add_has Jl Xx) (x:=(m_,s_)) h1 (loC xQ m_ <| loC (Ko 120 (eSp rY)) s_ <| loN)])
def l90:List yg:=Zs 36 xQ rY (eT2 (ePo Jn) rY) jG::l89
def z0F [H:HS X0 l89]:OkH l90:=yS2 false func36 λm_ bound r0 aa E hE=>by
 refine yC 111 [] [1,2,6] [Hh (.cut 2)] ?_;refine z4M (y:=.box (.agg [.agg [I m_.Inputs,I m_.Outputs,eSl 1 false wv m_.Rows],eOs 1 true F8_ [],eOs 1 true F8_ [],eOs 1 true F8_ [],eOs 1 true vp [],eOs 1 true F8_ [],eOs 1 true F8_ []])) (by kernel_rfl) 6 (by kernel_rfl) (by kernel_rfl) λmf hv6=>?_;obtain⟨r_,h0,ai,h1,ak,h2,am,h3,az,h4,aa⟩:=zhR aa;refine yN 111111111 [] [2,6] (λz:Unit=>ZI m_ r_ ai ak am az=some r0) (λz=>[]) [2,6,7] [zC1 23 h0,Hn (⟨rfl,by decide⟩:true=true/\0<5),zC1 14 h1,Hn (⟨rfl,by decide⟩:true=true/\1<5),zC1 4 h2,Hn (⟨rfl,by decide⟩:true=true/\2<5),Ha (lnM wv m_.Rows),zC2 21 h3,Hn (⟨rfl,by decide⟩:true=true/\3<5),Ha (lnM wv m_.Rows),zC2 3 h4,Hn (⟨rfl,by decide⟩:true=true/\4<5),Hh (.cut 0)] ?_ λJ1 ar=>?_
 ·rintro⟨⟩ aa;obtain⟨bn,h5,aa⟩:=zy aa;refine yK 11111111111 [] [6] (zI (WQ m_ r_ ai am az bn) r0) (λz=>[(6,.own (.box (.agg [xQ m_,eSl 1 true F4_ r_.1,eSl 1 true F4_ ai.1,eSl 1 false F8_ bn,eOs 1 false vp z,eSl 1 true F4_ am.1,eSl 1 true F4_ az.1])))]) [2,6] [Hk [] (Kl (hat 2)) (zf1 2 h5 (loC kK ak.1 <| loN)),Hh (.cut 0)] ?_ λJ2 au=>?_
  ·rintro lh aa;cases aa;exact yEx hE [Hm (shM vp vp lh)] (.tup [.sptr (.agg [.agg [I m_.Inputs,I m_.Outputs,eSl 1 false wv m_.Rows],eSl 1 true F4_ r_.1,eSl 1 true F4_ ai.1,eSl 1 false F8_ bn,eSl 1 false vp lh,eSl 1 true F4_ am.1,eSl 1 true F4_ az.1]),I 0]) (show LeV (.tup [.sptr (.agg [.agg [I m_.Inputs,I m_.Outputs,eSl 1 false wv m_.Rows],eSl 1 true F4_ r_.1,eSl 1 true F4_ ai.1,eSl 1 false F8_ bn,eSl 1 false vp lh,eSl 1 true F4_ am.1,eSl 1 true F4_ az.1]),I 0]) (.tup [.dop (poQ (some (.agg [.agg [I m_.Inputs,I m_.Outputs,eSl 1 false wv m_.Rows],eSl 1 false F8_ r_.1,eSl 1 false F8_ ai.1,eSl 1 false F8_ bn,eSl 1 false vp lh,eSl 1 false F8_ am.1,eSl 1 false F8_ az.1]))),I 0]) from inferInstance)
  obtain⟨t3,ht3,aa⟩:=zy aa;refine yMx 11111111111210 [J2] [2,6,91,92] (λx=>[(6,.own (.box (.agg [xQ m_,eSl 1 true F4_ r_.1,eSl 1 true F4_ ai.1,eSl 1 false F8_ bn,eOs 1 false vp x.1,eSl 1 true F4_ am.1,eSl 1 true F4_ az.1]))),(92,.d (I x.2))]) ht3 [(6,.own (.box (.agg [xQ m_,eSl 1 true F4_ r_.1,eSl 1 true F4_ ai.1,eSl 1 false F8_ bn,eOs 1 true vp [],eSl 1 true F4_ am.1,eSl 1 true F4_ az.1]))),(92,.d (I 0))] [Ha (lnM wv m_.Rows)] λ⟨j4,oe⟩ m3 av ae hl1 J3 bg=>?_;obtain c0|c0:=zH ae
  ·obtain⟨cx,h6,ae⟩:=zy c0.2;let Z0:List HO:=[Hb c0,zC2 0 h6];obtain c1|c1:=zH ae
   ·cases c1.2;cases hl1;cases aa;exact yEx hE (Z0++[c1]) (.tup [.atom (.pointer none),I cx.2]) (show LeV (.tup [.atom (.pointer none),I cx.2]) (.tup [.dop (poQ none),I cx.2]) from inferInstance)
   obtain⟨gb,h7,ae⟩:=zy c1.2;obtain⟨g0,ae⟩:=gdE ae;cases ae;exact yB (H:=zx ((xNc prog 113 6 mf).or ((xMv prog 104 6 mf hv6).or X0))) bg _ hl1 (Z0++[Hb c1,Hn (rfl:some mf=some mf),Hk [] (Kl (hat 2)) (zf1 2 h7 (loC kK cx.1 <| loN)),Hq (dM vp [gb]),Hn (dM vp [gb]),Hn (aL vp vp g0),Hl (aM vp j4 [gb]),Hn (⟨rfl,rfl⟩:T.d (.atom mf)=T.d (.atom mf)/\some mf=some mf)])
  cases c0.2;cases hl1;exact yB au j4 aa [Hb c0]
 obtain c2|c2:=zH aa
 ·cases c2.2;exact yEx hE [Hh (.u 70),qT,c2] (.tup [.atom (.pointer none),I r_.2]) (show LeV (.tup [.atom (.pointer none),I r_.2]) (.tup [.dop (poQ none),I r_.2]) from inferInstance)
 let Z1:List HO:=[Hh (.u 70),qT,Hb c2,qT];obtain c3|c3:=zH c2.2
 ·cases c3.2;exact yEx hE (Z1++[c3]) (.tup [.atom (.pointer none),I ai.2]) (show LeV (.tup [.atom (.pointer none),I ai.2]) (.tup [.dop (poQ none),I ai.2]) from inferInstance)
 obtain c4|c4:=zH c3.2
 ·cases c4.2;exact yEx hE (Z1++[c3,qT,c4]) (.tup [.atom (.pointer none),I ak.2]) (show LeV (.tup [.atom (.pointer none),I ak.2]) (.tup [.dop (poQ none),I ak.2]) from inferInstance)
 obtain c5|c5:=zH c4.2
 ·cases c5.2;exact yEx hE (Z1++[c3,qT,c4,qT,c5]) (.tup [.atom (.pointer none),I am.2]) (show LeV (.tup [.atom (.pointer none),I am.2]) (.tup [.dop (poQ none),I am.2]) from inferInstance)
 let Z2:List HO:=(Z1++[Hb c3,qT,Hb c4,qT,Hb c5,qT]);obtain c6|c6:=zH c5.2
 ·cases c6.2;exact yEx hE (Z2++[c6]) (.tup [.atom (.pointer none),I az.2]) (show LeV (.tup [.atom (.pointer none),I az.2]) (.tup [.dop (poQ none),I az.2]) from inferInstance)
 exact yB ar () c6.2 (Z2++[Hb c6,qF])
def xF [H:HS X0 l90](bz:Value):∀(parts:TA) (b_:zb) (r0:zb×Bool),xu parts b_=some r0->z7r prog 219 [.atom bz,eSl 1 false F8_ parts] ([bz].zip [.box (.agg [eOs 16 false F2_ b_.nodes_,I b_.leaves_,I b_.most_])]) r0.2 (.iface 124 (.agg #[])) (.tup []) [.box (.agg [eOs 16 false F2_ r0.1.nodes_,I r0.1.leaves_,I r0.1.most_])]:=by
 intro parts b_ r0 aa;refine z4C (tt:=wZ) (nt:=f219.ntmps) (body:=zbd f219) [0] zl func219 rfl (by kernel_rfl) rfl rfl (by show(2:Nat)<=105;decide) (by decide) rfl rfl rfl (λE hE hD=>?_);refine yK 111 [] [0] (λz:List (zC Int)×Int=>ZK b_ z.1 z.2=some r0) (λz=>[(0,.own (.box (.agg [eOs 16 false F2_ z.1,I z.2,I b_.most_])))]) [0,1,4,5] [Hh (.cut 2)] ?_ λJ1 ar=>?_
 ·rintro⟨br,cp⟩ aa;obtain c0|c0:=zH aa
  ·refine yC 111110 [] [0] [c0,Hh (.stp 0)] ?_;cases c0.2;exact yP (H:=zx ((zfY prog 104 124 underlying124).or X0)) 2 [] λst0=>hD rfl st0
  cases c0.2;exact yF .normal [(0,.own (.box (.agg [eOs 16 false F2_ br,I cp,I b_.most_])))] [c0] λst0 h0=>hE rfl _ st0 (.inl rfl) (ZS h0 ⟨⟨rfl,rfl⟩,trivial⟩)
 refine yMb 111210 [J1] [0,4,5,11,12,13] (λx=>[(0,.own (.box (.agg [eOs 16 false F2_ x.1,I x.2.1,I b_.most_]))),(4,.d (.atom (.int .i32 x.2.2.1))),(5,.d (B x.2.2.2.1)),(13,.d (I x.2.2.2.2))]) aa  [Ha (lnM F8_ parts)] λt2 aa ⟨bh,cj,at_,nq,fq⟩ m2 av ae hl1 J2 au=>?_;obtain c1|c1:=zH ae
 ·refine yNs 111210011 [J1,J2] [0,4,5,11,12,13] (λz:List (zC Int)×Int×Int×Bool=>ZJ fq z.1 z.2.1 z.2.2.1 z.2.2.2=some av) (λz=>[(0,.own (.box (.agg [eOs 16 false F2_ z.1,I z.2.1,I b_.most_]))),(4,.d (.atom (.int .i32 z.2.2.1))),(5,.d (B z.2.2.2))]) [c1,Hh (.cut 0)] ?_ λJ3 bg=>?_
  ·rintro⟨bm,ce,ia,nj⟩ ae;cases ae;exact yB au _ hl1 []
  obtain⟨fl,h0,t4,ht4,ae⟩:=yf c1.2;refine yM 11121001120110 [J1,J2,J3] [0,4,5,11,12,13,17,18,19] (λx=>[(0,.own (.box (.agg [eOs 16 false F2_ x.1,I x.2.1,I b_.most_]))),(4,.d (.atom (.int .i32 x.2.2.1))),(5,.d (B x.2.2.2.1)),(19,.d (I x.2.2.2.2))]) ht4  [Hi F8_ h0,Ha (lnM rY fl)] λ⟨aq,bc,gc,ka,dy⟩ m4 dj ah hl2 J4 db=>?_;obtain c2|c2:=zH ah
  ·obtain⟨dt,h1,je,h2,cell,h3,ah⟩:=ZZ c2.2;refine yN 111210011201100110011 [J1,J2,J3,J4] [0,5,10,11,12,13,17,18,19] (λz:List (zC Int)×Int×Bool×Int=>vH dy z.1 z.2.1 z.2.2.1 z.2.2.2=some dj) (λz=>[(0,.own (.box (.agg [eOs 16 false F2_ z.1,I z.2.1,I b_.most_]))),(5,.d (B z.2.2.1)),(10,.d (.atom (.int .i32 z.2.2.2)))]) [0,4,5,9,10,11,12,13,17,18,19] [c2,Hi rY h1,Hn (iL F2_ h2),Hs (iM F2_ h2),Hn (⟨arJ (by kernel_rfl) (i0 h3),(iL (eI .i32) h3).2⟩:kI wZ 162 ((zC.toL je).map (eI .i32)) dt=true/\dt.toNat<((zC.toL je).map (eI .i32)).length),Hh (.op 0),Hh (.f),Hx (.a (eOs 16 false F2_ aq)) (rfl:some (eOs 16 false F2_ aq:A)=some (eOs 16 false F2_ aq)),Hs (iM F2_ h2),Hh (.f),Hs (iM (eI .i32) h3),Hh (.cut 0)] ?_ λJ5 dc=>?_
   ·rintro⟨ct,cg,nk,next⟩ ah;cases ah;exact yB db _ hl2 []
   obtain c3|c3:=zH ah
   ·refine yN 1112100112011001100112101 [J1,J2,J3,J4,J5] [0,4,9,10,11,12,13,17,18,19] (zI (yp aq gc dy dt) dj) (λz=>[(0,.own (.box (.agg [eOs 16 false F2_ aq,I z,I b_.most_])))]) [0,4,5,9,10,11,12,13,17,18,19] [c3,Ha (lnM F2_ aq),Hh (.cut 0)] ?_ λJ6 ep=>?_
    ·rintro eg ah;obtain⟨iw,h4,co,h5,arr,h6,ah⟩:=ZZ ah;replace h6:=xR h6;obtain⟨g0,ah⟩:=gdE ah;exact yB dc (((aq.set gc.toNat arr)++([(zC.mk 0 0 0 0 0 0 0 0 0 0 0 0 0 0 0 0)]:List (zC Int))),eg,true,IntKind.i32.wrap (((aq.length:Nat):Int))) ah [Hn (iL F2_ h4),Hs (iM F2_ h4),Hn (⟨arJ (by kernel_rfl) (i0 h5),(iL (eI .i32) h5).2⟩:kI wZ 162 ((zC.toL iw).map (eI .i32)) dt=true/\dt.toNat<((zC.toL iw).map (eI .i32)).length),Hh (.op 0),Hh (.f),Hx (.a (eOs 16 false F2_ aq)) (rfl:some (eOs 16 false F2_ aq:A)=some (eOs 16 false F2_ aq)),Hs (iM F2_ h4),Hh (.f),Hs (iM (eI .i32) h5),Hh (.f),Hx (.a (eOs 16 false F2_ aq)) (rfl:some (eOs 16 false F2_ aq:A)=some (eOs 16 false F2_ aq)),Hs (iM F2_ h4),Hh (.f),Hs (iM (eI .i32) h5),Hx (.l ((zC.toL arr).map (eI .i32))) ((zC.setL (eI .i32) iw dt (IntKind.i32.wrap (((aq.length:Nat):Int)))).trans (congrArg (λq=>(zC.toL q).map (eI .i32)) h6)),Hl (sM F2_ aq gc arr),Hx (.l [eOs 16 false F2_ (aq.set gc.toNat arr),I eg,I b_.most_]) (rfl:([eOs 16 false F2_ (aq.set gc.toNat arr),I eg,I b_.most_]:List A)=[eOs 16 false F2_ (aq.set gc.toNat arr),I eg,I b_.most_]),Hq (dM F2_ ([(zC.mk 0 0 0 0 0 0 0 0 0 0 0 0 0 0 0 0)]:List (zC Int))),Hn (dM F2_ ([(zC.mk 0 0 0 0 0 0 0 0 0 0 0 0 0 0 0 0)]:List (zC Int))),Hn (aL F2_ F2_ g0),Hl (aM F2_ (aq.set gc.toNat arr) ([(zC.mk 0 0 0 0 0 0 0 0 0 0 0 0 0 0 0 0)]:List (zC Int)))]
    obtain c4|c4:=zH c3.2
    ·obtain c5|c5:=zH c4.2
     ·let Z0:List HO:=(Hb c4::Hb c4::Hb c4::(rpN 5 (Hb c5) [Ha (lnM F2_ aq),c5,c4,c5,c4]));obtain c6|c6:=zH c5.2
      ·exact yB ep (w64 (bc+1)) c6.2 (Z0++(rpN 9 (Hb c6) [c4,c6,c4,qT]))
      obtain⟨dp,h7,ah⟩:=zy c6.2;let Z1:List HO:=(Z0++(rpN 6 (Hb c6) [Hn (iL F2_ h7),c6,Hs (iM F2_ h7),c6,c6,c4,c6,c4]));obtain c7|c7:=zH ah
      ·exact yB ep (w64 (bc+1)) c7.2 (Z1++[c7])
      exact yB ep bc c7.2 (Z1++[c7])
     obtain⟨em,h8,ah⟩:=zy c5.2;let Z2:List HO:=(Hb c4::Hb c4::Hb c4::(rpN 6 (Hb c5) (Hb c4::Hb c5::Hb c4::(rpN 6 qF [Hn (iL F2_ h8),qF,Hs (iM F2_ h8),qF,qF,c4,qF,c4]))));obtain c8|c8:=zH ah
     ·exact yB ep (w64 (bc+1)) c8.2 (Z2++[c8])
     exact yB ep bc c8.2 (Z2++[c8])
    exact yB ep bc c4.2 (rpN 7 (Hb c4) [qF])
   exact yB dc (aq,bc,ka,cell) c3.2 [c3]
  cases c2.2;cases hl2;exact yB bg (aq,bc,gc,ka) ae [c2]
 cases c1.2;cases hl1;exact yB ar (bh,cj) aa [c1]
def QL [H:HS X0 l90](bz:Value):∀(x0:Qk) (x_:zG) (b_:zb) (r0:zb×Bool),va x0 x_ b_=some r0->z7r prog 218 [.agg [],.sptr (.agg [.agg [I x_.m_.Inputs,I x_.m_.Outputs,eSl 1 false wv x_.m_.Rows],eSl 1 false F8_ x_.q_,eSl 1 false F8_ x_.p_,eSl 1 false F8_ x_.all_,eSl 1 false vp x_.each_,eSl 1 false F8_ x_.short_,eSl 1 false F8_ x_.exact_]),.atom bz] ([bz].zip [.box (.agg [eOs 16 false F2_ b_.nodes_,I b_.leaves_,I b_.most_])]) r0.2 (.iface 124 (.agg #[])) (.tup []) [.box (.agg [eOs 16 false F2_ r0.1.nodes_,I r0.1.leaves_,I r0.1.most_])]:=by
 intro x0 x_ b_ r0 aa;refine z4C (tt:=wZ) (nt:=f218.ntmps) (body:=zbd f218) [2] zl func218 rfl (by kernel_rfl) rfl rfl (by show(3:Nat)<=48;decide) (by decide) rfl rfl rfl (λE hE hD=>?_);refine yMb 1110 [] [1,2,15,16,17] (λx=>[(2,.own (.box (.agg [eOs 16 false F2_ x.1,I x.2.1,I x.2.2.1]))),(17,.d (I x.2.2.2))]) aa  [Ha (lnM F8_ x_.p_)] λt1 aa ⟨br,cp,fm,ba⟩ m1 av ae hl1 J1 ar=>?_;obtain c0|c0:=zH ae
 ·refine yNs 1110011 [J1] [1,2,15,16,17] (λz:List (zC Int)×Int×Int=>Yo ba z.1 z.2.1 z.2.2=some av) (λz=>[(2,.own (.box (.agg [eOs 16 false F2_ z.1,I z.2.1,I z.2.2])))]) [c0,Hh (.cut 0)] ?_ λJ2 au=>?_
  ·rintro⟨bh,cj,fh⟩ ae;cases ae;exact yB ar _ hl1 []
  obtain⟨bj,h0,t3,ht3,ae⟩:=yf c0.2;refine yM 111001120110 [J1,J2] [1,2,7,15,16,17,24,25,26] (λx=>[(2,.own (.box (.agg [eOs 16 false F2_ x.1,I x.2.1,I x.2.2.1]))),(26,.d (I x.2.2.2))]) ht3  [Hi F8_ h0,Ha (lnM F8_ x_.short_)] λ⟨bm,ce,d0,gk⟩ m3 dj ah hl2 J3 bg=>?_;obtain c1|c1:=zH ah
  ·refine yNs 111001120110011 [J1,J2,J3] [1,2,7,15,16,17,24,25,26] (λz:List (zC Int)×Int×Int=>Yn gk z.1 z.2.1 z.2.2=some dj) (λz=>[(2,.own (.box (.agg [eOs 16 false F2_ z.1,I z.2.1,I z.2.2])))]) [c1,Hh (.cut 0)] ?_ λJ4 db=>?_
   ·rintro⟨aq,bc,fj⟩ ah;cases ah;exact yB bg _ hl2 []
   obtain⟨a6,h1,t5,ht5,ah⟩:=yf c1.2;refine yM 11100112011001120110 [J1,J2,J3,J4] [1,2,7,9,15,16,17,24,25,26,33,34,35] (λx=>[(2,.own (.box (.agg [eOs 16 false F2_ x.1,I x.2.1,I x.2.2.1]))),(35,.d (I x.2.2.2))]) ht5  [Hi F8_ h1,Ha (lnM F8_ x_.all_)] λ⟨ct,cg,dz,ib⟩ m5 nb aw hl3 J5 dc=>?_;obtain c2|c2:=zH aw
   ·obtain⟨fy,h2,aw⟩:=zy c2.2;refine yC 11100112011001120110011001 [J1,J2,J3,J4,J5] [1,2,7,9,11,15,16,17,24,25,26,33,34,35] [c2,Hi F8_ h2,Hh (.stp 0)] ?_;obtain⟨r_,h3,aw⟩:=zy aw;obtain c3|c3:=zH aw
    ·cases c3.2;cases hl3;cases ah;cases hl2;cases ae;cases hl1;cases aa;exact yD 5 [2] ((xF (H:=zd 0) bz _ _ _ h3).2 c3.1) [.atom bz,z6u [bj,a6,fy]] inferInstance [Hm (shM F8_ F8_ ([bj,a6,fy]))] λst0=>hD rfl st0
    cases c3.2;exact yB (H:=zx ((jV (P:=prog) wZ [2] ((xF (H:=zd 0) bz _ _ _ h3).1 c3.1) 44).or X0)) dc _ hl3 [Hm (shM F8_ F8_ ([bj,a6,fy])),Hn (ZH (f:=.fn 219 []) (xs:=[.atom bz,vp [bj,a6,fy]]) (ls:=[(bz,.box (.agg [eOs 16 false F2_ ct,I cg,I dz]))]) (r:=.tup []) (ys:=[.box (.agg [eOs 16 false F2_ r_.1.nodes_,I r_.1.leaves_,I r_.1.most_])]) [.atom bz,z6u [bj,a6,fy]] (show Qm [.atom bz,z6u [bj,a6,fy]] [.atom bz,vp [bj,a6,fy]] from inferInstance))]
   cases c2.2;cases hl3;exact yB db (ct,cg,dz) ah [c2]
  cases c1.2;cases hl2;exact yB au (bm,ce,d0) ae [c1]
 cases c0.2;cases hl1;cases aa;exact yF .normal [(2,.own (.box (.agg [eOs 16 false F2_ br,I cp,I fm])))] [c0] λst0 h0=>hE rfl _ st0 (.inl rfl) (ZS h0 ⟨⟨rfl,rfl⟩,trivial⟩)
def l91:List yg:=z2A 228 vp F8_ (z8w 125) (eT2 rY eB) yV::l90
def qK [H:HS X0 l90]:OkH l91:=yS3 false func228 λx_ target cmp r0 aa E hE=>by
 refine yN 1111 [] [0,1,2,8,9] (zI (yG x_ target) r0) (λz=>[(9,.d (I z))]) [0,1,2,8,9,10] [Ha (lnM F8_ x_),Hh (.cut 1)] ?_ λJ1 ar=>?_
 ·rintro i_ aa;obtain c0|c0:=zH aa
  ·obtain⟨mq,h0,r_,h1,aa⟩:=yf c0.2;cases aa;exact yE hE (rpN 4 (Hb c0) [Hi F8_ h0,c0,c0,c0,zC2 30 h1,c0,c0])
  cases c0.2;exact yE hE (rpN 9 (Hb c0) [])
 refine yMb 111120 [J1] [0,1,2,8,9,10] (λx=>[(9,.d (I x.1)),(10,.d (I x.2))]) aa  [] λt2 aa ⟨fk,j_⟩ m2 av ae hl1 J2 au=>?_;obtain c1|c1:=zH ae
 ·obtain⟨l7,h2,ai,h3,ae⟩:=yf c1.2;let Z0:List HO:=[c1,Hi F8_ h2,zC2 30 h3];obtain c2|c2:=zH ae
  ·cases c2.2;exact yB (H:=zx ((zn7 prog).or X0)) au _ hl1 (Z0++[c2])
  cases c2.2;exact yB (H:=zx ((zn7 prog).or X0)) au _ hl1 (Z0++[c2])
 cases c1.2;cases hl1;exact yB ar fk aa [c1]
def l92:List yg:=Zs 225 vp F8_ eB z0T::l91
def z8R [H:HS X0 l91]:OkH l92:=yS2 true func225 λl_ w_ r0 aa E hE=>by obtain⟨r_,h0,aa⟩:=zy aa;cases aa;exact yE hE [zC3 0 h0]
def l93:List yg:=Zs 224 F8_ zlC eB kL::l92
def z1g [H:HS X0 l92]:OkH l93:=yS2 true func224 λw_ x1 r0 aa E hE=>by obtain⟨r_,h0,aa⟩:=zy aa;cases aa;exact yE hE [zC2 0 h0]
def l94:List yg:=Zs 227 vp (Ko 224 zlC) rY vt::l93
def Xm [H:HS X0 l93]:OkH l94:=yS2 true func227 λs_ f_ r0 aa E hE=>by
 refine yK 11 [] [] (λz:Unit=>uM=some r0) (λz=>[]) [0,1] [Hh (.cut 1)] ?_ λJ1 ar=>?_
 ·rintro⟨⟩ aa;cases aa;exact yE hE []
 refine yMb 11210 [J1] [0,1,7,8] (λx=>[(8,.d (I x))]) aa  [Ha (lnM F8_ s_)] λt2 aa x8 m2 av ae hl1 J2 au=>?_;obtain c0|c0:=zH ae
 ·obtain⟨eb,h0,r_,h1,ae⟩:=yf c0.2;let Z0:List HO:=[c0,Hi F8_ h0,zC2 0 h1];obtain c1|c1:=zH ae
  ·cases c1.2;cases hl1;cases aa;exact yE hE (Z0++[c1])
  cases c1.2;exact yB au _ hl1 (Z0++[c1])
 cases c0.2;cases hl1;exact yB ar () aa [c0]
def l95:List yg:=Zs 223 zi9 (Ko 224 zlC) zi9 xK [true,false]::l94
def uQ:XH prog:=((zn9 zl 41).or X0)
def YU [H:HS uQ l94]:OkH l95:=yS2 true func223 λs_ kz r0 aa E hE=>by
 refine z4M (y:=eOs 1 false F8_ s_) rfl 0 (by kernel_rfl) (by kernel_rfl) λcu hv0=>?_;obtain⟨r_,h0,aa⟩:=zy aa;let Z0:List HO:=[zg 0,Hm (shM F8_ F8_ s_),Hs (zf2 0 h0 (loC vp s_ <| loC (Ko 224 zlC) kz <| loN))];obtain c0|c0:=zH aa
 ·cases c0.2;exact yE hE (Z0++[c0])
 refine yK 1111 [] [0,5] (λz:TA×Int=>xa z.1 z.2=some r0) (λz=>[(0,.own (eOs 1 false F8_ z.1)),(5,.d (I z.2))]) [0,1,5] (Z0++[c0,Hh (.cut 0)]) ?_ λJ1 ar=>?_
 ·rintro⟨bk,i_⟩ aa;obtain⟨g0,aa⟩:=gdE aa;obtain⟨g1,aa⟩:=gdE aa;obtain⟨g2,aa⟩:=gdE aa;cases aa;exact yE (H:=zx ((xVc zl 38 1 0 cu i_).or ((xVw zl 38 0 cu).or uQ))) hE [Hn (⟨.inl rfl,rfl⟩:(T.als 0 [] 0 0=T.als 0 [] 0 0\/T.als 0 [] 0 0=T.d (.atom cu))/\some cu=some cu),Hn (⟨g0.1,cuB F8_ g0⟩:(0:Int)<=i_/\i_.toNat<=(bk.map F8_).length),Hn (⟨rfl,rfl⟩:T.d (.atom (V7 1 cu i_))=T.d (.atom (V7 1 cu i_))/\some cu=some cu),Hn (⟨g1.1,cuB F8_ g1,dM F8_ bk⟩:(0:Int)<=i_/\i_.toNat<=(bk.map F8_).length/\A.areD (bk.map F8_)=true),Hx (.l ((bk.take i_.toNat++List.replicate (bk.length - i_.toNat) []).map F8_)) (vcM F8_ bk i_.toNat ([]:TB)),Hn g2.1,Hn (cuB F8_ g2),Hl (cuM F8_ (bk.take i_.toNat++List.replicate (bk.length - i_.toNat) []) i_)]
 refine yMb 1111210 [J1] [0,1,5,6] (λx=>[(0,.own (eOs 1 false F8_ x.1)),(5,.d (I x.2.1)),(6,.d (I x.2.2))]) c0.2  [] λt2 aa ⟨da,fk,j_⟩ m2 av ae hl1 J2 au=>?_;let Z1:List HO:=[Ha (lnM F8_ da)];obtain c1|c1:=zH ae
 ·refine yNs 111121001 [J1,J2] [0,1,5,6] (λz:TA×Int=>yn j_ z.1 z.2=some av) (λz=>[(0,.own (eOs 1 false F8_ z.1)),(5,.d (I z.2))]) (Z1++[c1,Hh (.cut 0)]) ?_ λJ3 bg=>?_
  ·rintro⟨ng,qa⟩ ae;cases ae;exact yB au _ hl1 []
  obtain⟨eb,h1,ai,h2,ae⟩:=yf c1.2;let Z2:List HO:=[Hn (iL F8_ h1),Hs (iM F8_ h1),zC2 1 h2];obtain c2|c2:=zH ae
  ·obtain⟨nn,h3,ae⟩:=zy c2.2;exact yB bg ((da.set fk.toNat eb),w64 (fk+1)) ae (Z2++[c2,Hn (iL F8_ h3),Hs (iM F8_ h3),Hs (iM F8_ h3),Hl (sM F8_ da fk eb)])
  exact yB bg (da,fk) c2.2 (Z2++[c2])
 cases c1.2;cases hl1;exact yB ar (da,fk) aa (Z1++[c1])
def l96:List yg:=z2A 221 vp vp rY (eT2 kK rY) ZF::l95
def z3V [H:HS X0 l95]:OkH l96:=yS3 false func221 λa_ b_ inputs r0 aa E hE=>by
 obtain⟨r_,h0,aa⟩:=zy aa;let Z0:List HO:=[zg 24,Hm (shM vp vp ([a_,b_])),Hs (zf2 24 h0 (loC rY inputs <| loC (eSl 1 true vp) [a_,b_] <| loN))];obtain c0|c0:=zH aa
 ·cases c0.2;exact yE hE (Z0++[c0,Hm (shM F8_ F8_ [])])
 obtain⟨ai,h1,ak,h2,am,h3,aa⟩:=ZZ c0.2;cases aa;exact yE hE (Z0++[c0,zC1 40 h1,zC2 0 h2,zg 31,Hm (shM F8_ F8_ ak),Hs (zf1 31 h3 (loC vp ak <| loN)),Hm (shM F8_ F8_ ak)])
def l97:List yg:=Zs 92 xQ rY rY Y9::l96
def z0J [H:HS X0 l96]:OkH l97:=yS2 true func92 λm_ s_ r0 aa E hE=>by
 obtain⟨r_,h0,aa⟩:=zy aa;let Z0:List HO:=[zC1 71 h0];obtain c0|c0:=zH aa
 ·cases c0.2;exact yE hE (Z0++[c0])
 obtain c1|c1:=zH c0.2
 ·cases c1.2;exact yE hE (Z0++(Hb c0::(rpN 6 (Hb c1) [qT])))
 let Z1:List HO:=(Z0++(Hb c0::(rpN 4 (Hb c1) [Ha (lnM wv m_.Rows),c1,c1])));obtain c2|c2:=zH c1.2
 ·cases c2.2;exact yE hE (Z1++[c2])
 cases c2.2;exact yE hE (Z1++[c2])
def l98:List yg:=z2A 94 xQ rY F8_ (λr:TB×Int=>.opq (z7v [some (F5_ r.1),some (rY r.2)])) Wk::l97
def z2T [H:HS X0 l97]:OkH l98:=by
 refine zO3 λm_ s_ w_ r0 aa=>?_;refine z8D (tt:=wZ) (rs:=[(true,6,none),(false,7,none)]) (n:=⟨f94.ntmps,[]⟩) (body:=zbd f94) zl func94 rfl (by kernel_rfl) rfl rfl (by show(3:Nat)<=43;decide) λE hE=>?_;obtain⟨g0,aa⟩:=gdE aa;refine yK 111 [] [1,8] (λz:Int×TB=>XO z.1 z.2=some r0) (λz=>[(1,.d (I z.1)),(8,.own (eOs 1 true rY z.2))]) [1,2,3,8] [Ha (lnM rY w_),Hn (rL g0),Ha (rM 1 rY ((w_.length:Nat):Int) (0:Int)),Hh (.cut 0)] ?_ λJ1 ar=>?_
 ·rintro⟨bk,out⟩ aa;cases aa;let ZE:List HO:=[];exact zbP X0 zl H.ok z83 hE 4000 (hs:=hoH ZE) (x:=(.opq (z7v [some (eOs 1 true rY out),some (I bk)]))) (hoB ZE) (by kernel_rfl) (LeV.refl _)
 refine yMb 111210 [J1] [1,3,8,15,16,17] (λx=>[(1,.d (I x.1)),(8,.own (eOs 1 true rY x.2.1)),(17,.d (I x.2.2))]) aa  [Ha (lnM rY w_)] λt2 aa ⟨da,aj,ba⟩ m2 av ae hl1 J2 au=>?_;obtain c0|c0:=zH ae
 ·obtain⟨fc,h0,r_,h1,ae⟩:=yf c0.2;refine yN 1112100110011 [J1,J2] [3,8,9,11,15,16,17] (λz:Int×Int=>vQ aj ba z.1 z.2=some av) (λz=>[(11,.own (.box (.agg [I z.1,I z.2])))]) [1,3,8,9,10,11,15,16,17] [c0,Hi rY h0,zC0 77 h1,Hh (.cut 0)] ?_ λJ3 bg=>?_
  ·rintro⟨gz,nr⟩ ae;obtain⟨dn,h2,ae⟩:=zy ae;cases ae;exact yB au _ hl1 [Hn (iL rY h2),Hs (iM rY h2),Hs (iM rY h2),Hl (sM rY aj ba nr)]
  obtain c1|c1:=zH ae
  ·obtain⟨ap,h3,al,h4,ae⟩:=yf c1.2;exact yB bg (al.To,al.Out) ae [c1,Hi wv h3,Hi uS h4]
  exact yB bg (r_.To,r_.Out) c1.2 [c1]
 cases c0.2;cases hl1;exact yB ar (da,aj) aa [c0]
def l99:List yg:=z2A 226 xQ rY F8_ (eT2 rY rY) jM::l98
def z0M [H:HS X0 l98]:OkH l99:=yS3 false func226 λm_ s_ w_ r0 aa E hE=>by
 obtain⟨r_,h0,aa⟩:=zy aa;let Z0:List HO:=[zC2 1 h0];obtain c0|c0:=zH aa
 ·cases c0.2;exact yE hE (Z0++[c0])
 obtain⟨ai,h1,aa⟩:=zy c0.2;let Z1:List HO:=(Z0++[c0,zC2 45 h1]);obtain c1|c1:=zH aa
 ·cases c1.2;exact yE hE (Z1++[c1])
 obtain⟨ak,h2,aa⟩:=zy c1.2;cases aa;exact yE (H:=zx ((ziv prog 31 [none,some (I ak.2)]).or ((ziv prog 30 [some (eOs 1 true rY ak.1),some (I ak.2)]).or X0))) hE (Z1++[c1,zC3 0 h2,Hn (⟨rfl,rfl⟩:T.own (.opq (z7v [some (eOs 1 true rY ak.1),some (I ak.2)]))=T.own (.opq (z7v [some (eOs 1 true rY ak.1),some (I ak.2)]))/\1=1),Hn (⟨rfl,rfl⟩:T.own (.opq (z7v [none,some (I ak.2)]))=T.own (.opq (z7v [none,some (I ak.2)]))/\1=1)])
end Go.Own
end
