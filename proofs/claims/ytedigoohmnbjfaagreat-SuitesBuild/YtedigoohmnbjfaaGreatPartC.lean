/- -/
import Derived.Test.YtedigoohmnbjfaaGreatPartB
import Derived.RangeFuncWrites
import Derived.RangeFuncCalls
import Derived.OrdersIn
import Derived.TacticsIn
import Derived.LoopNIn
import Derived.IntWalk
noncomputable section
set_option linter.unusedVariables false
set_option linter.unusedSimpArgs false
namespace Go.Ex
open Go.Own (A zo yj Rep yK zbH)
def JM (P:Program)(t:Nat):EK->Prop
 | .int k=>P.underlying t=some (.int k)
 | .bool=>P.underlying t=some .bool
 | .str=>P.underlying t=some .string
 | .slice e=>P.underlying t=some (.slice e)
 | .ptr e=>P.underlying t=some (.pointer e)
 | .struct fs=>∃fields,P.underlying t=some (.struct fields)/\fields.toList.map (λf=>(f.offset,f.type))=fs/\∀f∈fields.toList,∃i,P.info? f.type=some i
 | .array n e=>P.underlying t=some (.array n e)
 | .map k e=>P.underlying t=some (.map k e)
 | .func=>∃a b c,P.underlying t=some (.func a b c)
 | .iface=>∃ms,P.underlying t=some (.interface ms)
 | .other=>∃d,P.underlying t=some d/\(match d with|.struct _|.array _ _=>false|_=>true)=true
structure zqF (P:Program)(t:Nat)(i:EI):Prop where
 guard:P.eqGuardType P.depth t=false
 run:∀(vs us:List Value) (r:Bool) (w:World),vs.length=i.size->us.length=i.size->zzM i vs=true->w7 vs us=some r->(Op.equal t (.agg vs.toArray) (.agg us.toArray)).run P w=.ok r w
 key:∀(vs:List Value) (e:Bool) (w:World),vs.length=i.size->(Instr.checkKey e 10000 t (.agg vs.toArray)).run P w=.ok () w
structure zgP (P:Program)(t:Nat)(i:EI):Prop where
 info:∃f,P.info? t=some f/\f.size=i.size/\f.bytes=i.bytes/\∀z,i.zero=some z->∃v,f.zero=some v/\v.cells.toList=z/\(∀u∈z,u.oneCell'=true)/\z.length=i.size/\(if i.kind.isAgg=true then ∃cs,v=.agg cs else v.oneCell'=true)
 kind:JM P t i.kind
 eqn:i.eqn=true->zqF P t i
variable {k:EK}
section
variable {P:Program}{N n hi:Nat}{a:Act}{w:World}{Ds:List Nat}{o:Oper}
theorem z2v {t:Nat}  (h:JM P t k)(w:World):(Go.isAgg t).run P w=.ok k.isAgg w:=by
 cases k with
 | struct fs=>obtain⟨f,h,_⟩:=h;simp[Go.isAgg,run_underlying h,EK.isAgg]
 | func=>obtain⟨_,_,_,h⟩:=h;simp[Go.isAgg,run_underlying h,EK.isAgg]
 | iface=>obtain⟨_,h⟩:=h;simp[Go.isAgg,run_underlying h,EK.isAgg]
 | other=>obtain⟨d,h,hd⟩:=h;cases d <;> first|(simp at hd;done)|simp[Go.isAgg,run_underlying h,EK.isAgg]
 | _=>simp only[JM]at h;simp[Go.isAgg,run_underlying h,EK.isAgg]
end
open Go.Own (A zo yj Rep yK zbH)
def mkV (ag:Bool)(cs:List Value):Value:=if ag=true then .agg cs.toArray else cs.headD undef
theorem z4s:∀{z1 z2 vs:List Value},zdK (z1++z2) vs=true->zdK z1 (vs.take z1.length)=true/\zdK z2 (vs.drop z1.length)=true
 | [],z2,vs,h=>⟨rfl,h⟩
 | a::z1,z2,[],h=>by cases a <;> simp[zdK]at h
 | a::z1,z2,v::vs,h=>by
  have:zdK (z1++z2) vs=true/\(∀l l',zdK l l'=true->zdK (a::l) (v::l')=true):=by cases a <;> cases v <;> simp only[gQ,zdK,gG]at h ⊢ <;> exact⟨h,λl l' q=>q⟩
  obtain⟨h1,h2⟩:=this;obtain⟨q1,q2⟩:=z4s h1;exact⟨h2 _ _ q1,q2⟩
theorem z2M:∀{n:Nat} {vs us:List Value} {r:Bool},w7 vs us=some r->∃r1 r2,w7 (vs.take n) (us.take n)=some r1/\w7 (vs.drop n) (us.drop n)=some r2/\r=(r1&&r2)
 | 0,vs,us,r,h=>⟨true,r,by simp[w7],by simpa using h,by simp⟩
 | n+1,[],us,r,h=>by
  cases us with
  | nil=>simp only[w7,Option.some.injEq]at h;subst h;exact⟨true,true,by simp[w7],by simp[w7],rfl⟩
  | cons u us=>simp[w7]at h
 | n+1,v::vs,[],r,h=>by unfold w7 at h;split at h <;> simp_all
 | n+1,v::vs,u::us,r,h=>by
  have:∃b r',w7 vs us=some r'/\r=(b&&r')/\∀l l' q,w7 l l'=some q->w7 (v::l) (u::l')=some (b&&q):=by
   unfold w7 at h;split at h
   ·rename_i h1 _;cases h1
   ·rename_i k a xs k' b ys h1 h2;cases h1;cases h2;split at h
    ·rename_i hk;rw[pZ]at h;obtain⟨r',e1,rfl⟩:=h;exact⟨_,r',e1,rfl,λl l' q hq=>by simp[w7,hk,hq]⟩
    ·cases h
   ·rename_i a xs b ys h1 h2;cases h1;cases h2;rw[pZ]at h;obtain⟨r',e1,rfl⟩:=h;exact⟨_,r',e1,rfl,λl l' q hq=>by simp[w7,hq]⟩
   ·rename_i a xs b ys h1 h2;cases h1;cases h2;rw[pZ]at h;obtain⟨r',e1,rfl⟩:=h;exact⟨_,r',e1,rfl,λl l' q hq=>by simp[w7,hq]⟩
   ·cases h
  obtain⟨b,r',h1,rfl,h2⟩:=this;obtain⟨r1,r2,q1,q2,rfl⟩:=z2M (n:=n) h1;exact⟨b&&r1,r2,h2 _ _ _ q1,q2,by rw[Bool.and_assoc]⟩
structure EqP (P:Program)(t:Nat)(z:List Value)(ag:Bool)(dep:Nat):Prop where
 pos:1<=dep
 part:∀(cs:List Value) (off:Nat) (w:World),off+z.length<=cs.length->(Go.part t cs.toArray off).run P w=.ok (mkV ag ((cs.drop off).take z.length)) w
 size:∀w,(Go.sizeOf t).run P w=.ok z.length w
 eq:∀d,dep<=d->∀(vs us:List Value) (r:Bool) (w:World),vs.length=z.length->us.length=z.length->zdK z vs=true->w7 vs us=some r->(Op.equalIn d t (mkV ag vs) (mkV ag us)).run P w=.ok r w
 guard:∀d,dep<=d->P.eqGuardType d t=false
 key:∀d e,dep<=d->∀(vs:List Value) (w:World),vs.length=z.length->(Instr.checkKey e d t (mkV ag vs)).run P w=.ok () w
variable {z:List Value}{dep d:Nat}{zs:List (List Value×Bool)}{ag:Bool}{vs us:List Value}
section
variable {P:Program}{t:Nat}
theorem z0r {n:Nat}(h:∃f,P.info? t=some f/\f.size=n)(w:World):(Go.sizeOf t).run P w=.ok n w:=by obtain⟨f,f1,f2⟩:=h;simp[Go.sizeOf,typeInfo,f1,f2]
theorem zoi (hk:JM P t k){n:Nat}(hs:∃f,P.info? t=some f/\f.size=n)(h1:k.isAgg=true\/n=1)(cs:List Value)(off:Nat)(w:World)(hle:off+n<=cs.length):(Go.part t cs.toArray off).run P w=.ok (mkV k.isAgg ((cs.drop off).take n)) w:=by
 have hk':=z2v hk w;unfold Go.part;simp only[Sem.run_bind,hk',Result.andThen_ok,Sem.run_ite];by_cases hag:k.isAgg=true
 ·simp only[hag,if_true,z0r hs,Result.andThen_ok,Sem.run_pure,mkV];congr 2;apply mV;intro j;simp[pV,mQ]
 ·have hn:n=1:=h1.resolve_left hag;subst hn;have hlt:off<cs.length:=by omega
  have:cs.toArray[off]?=some cs[off]:=by simp[hlt]
  simp only[hag,if_false,gG,mkV,this,Sem.run_pure];congr 1;rw[List.take_one,List.head?_drop,p7 hlt];rfl
def zoV:EK->Value->Bool
 | .int _,.int _ _=>true
 | .bool,.bool _=>true
 | .str,.string _=>true
 | _,_=>false
theorem z8S (hk:JM P t k)(hs:∃f,P.info? t=some f/\f.size=1){z:Value}(hz:zoV k z=true):EqP P t [z] false 1:=by
 have hag:k.isAgg=false:=by cases k <;> first|rfl|(cases z <;> cases hz)
 refine⟨pC _,λcs off w h=>?_,λw=>z0r hs w,?_,?_,?_⟩
 ·have:=zoi hk hs (.inr rfl) cs off w h;rw[hag]at this;exact this
 ·intro d hd vs us r w hv hu hf he;obtain⟨d,rfl⟩:∃d',d=d' + 1:=⟨d - 1,by omega⟩;rcases vs with _|⟨v,_|⟨_,_⟩⟩ <;> simp at hv
  rcases us with _|⟨u,_|⟨_,_⟩⟩ <;> simp at hu
  simp only[mkV,gG,if_false,nV];unfold Op.equalIn;cases k <;> cases z <;> simp only[zoV,gG]at hz <;> cases v <;> simp only[zdK,gG]at hf <;> cases u <;> simp only[w7,reduceCtorEq]at he
  ·split at he
   ·rename_i hkk;simp only[gH,rE,Option.some.injEq]at he;subst he;simp only[JM]at hk;simp[Sem.run_bind,run_underlying hk,hkk]
   ·cases he
  ·simp only[gH,rE,Option.some.injEq]at he;subst he;simp only[JM]at hk;simp[Sem.run_bind,run_underlying hk]
  ·simp only[gH,rE,Option.some.injEq]at he;subst he;simp only[JM]at hk;simp[Sem.run_bind,run_underlying hk]
 ·intro d hd;obtain⟨d,rfl⟩:∃d',d=d' + 1:=⟨d - 1,by omega⟩;unfold Program.eqGuardType;cases k <;> cases z <;> simp only[zoV,gG]at hz <;> simp only[JM]at hk <;> simp[hk]
 ·intro d e hd vs w hv;obtain⟨d,rfl⟩:∃d',d=d' + 1:=⟨d - 1,by omega⟩;unfold Instr.checkKey;cases k <;> cases z <;> simp only[zoV,gG]at hz <;> simp only[JM]at hk <;> simp[Sem.run_bind,run_underlying hk]
def yC (P:Program)(dep:Nat):List Field->Nat->List (List Value×Bool)->Prop
 | [],_,[]=>True
 | f::fs,off,(z,ag)::zs=>f.name≠"_"/\f.offset=off/\EqP P f.type z ag dep/\yC P dep fs (off+z.length) zs
 | _,_,_=>False
def z0u (zs:List (List Value×Bool)):List Value:=(zs.map (·.1)).flatten
theorem zfe (hd:dep<=d)  (w:World):∀{fs:List Field} {off:Nat} {zs:List (List Value×Bool)} {r:Bool},yC P dep fs off zs->off+(z0u zs).length=vs.length->off+(z0u zs).length=us.length->zdK (z0u zs) (vs.drop off)=true->w7 (vs.drop off) (us.drop off)=some r ->
  Sem.run P (forIn fs ((none,()):Option Bool×Unit) λf _=>
   if f.name≠"_" then do
    let a <-Go.part f.type vs.toArray f.offset;let b <-Go.part f.type us.toArray f.offset;let q <-Op.equalIn d f.type a b
    if(!q)=true then pure (ForInStep.done (some false,())) else pure (ForInStep.yield (none,()))
   else pure (ForInStep.yield (none,()))) w=.ok (if r=true then(none,()) else(some false,())) w
 | [],off,[],r,_,h1,h2,hf,he=>by have hv:vs.drop off=[]:=mL (by simp[z0u]at h1;omega);have hu:us.drop off=[]:=mL (by simp[z0u]at h2;omega);rw[hv,hu]at he;simp only[w7,Option.some.injEq]at he;subst he;simp
 | f::fs,off,(z,ag)::zs,r,hok,h1,h2,hf,he=>by
  obtain⟨g1,g2,g3,g4⟩:=hok;have hz:z0u ((z,ag)::zs)=z++z0u zs:=by simp[z0u]
  rw[hz]at h1 h2 hf;simp only[pN]at h1 h2;obtain⟨f1,f2⟩:=z4s hf;rw[mX]at f2;obtain⟨r1,r2,e1,e2,rfl⟩:=z2M (n:=z.length) he;rw[mX,mX]at e2;have p1:=g3.part vs off w (by omega);have p2:=g3.part us off w (by omega);have p3:=g3.eq d hd _ _ r1 w (by simp;omega) (by simp;omega) f1 e1;simp only[List.forIn_cons,Sem.run_bind,ne_eq,g1,not_false_eq_true,if_true,g2,p1,p2,p3,Result.andThen_ok];cases r1
  ·simp
  ·simp only[gP,gG,if_false,Sem.run_pure,Result.andThen_ok,rD];exact zfe hd w g4 (by omega) (by omega) f2 e2
 | [],_,_::_,_,h,_,_,_,_=>by simp[yC]at h
 | _::_,_,[],_,h,_,_,_,_=>by simp[yC]at h
theorem zca (hd:dep<=d){e:Bool}{vs:List Value}(w:World):∀{fs:List Field} {off:Nat} {zs:List (List Value×Bool)},yC P dep fs off zs->off+(z0u zs).length=vs.length ->
  Sem.run P (forIn fs PUnit.unit λf _=>
   if f.name≠"_" then do
    let a <-Go.part f.type vs.toArray f.offset
    Instr.checkKey e d f.type a
    pure (ForInStep.yield PUnit.unit)
   else pure (ForInStep.yield PUnit.unit)) w=.ok PUnit.unit w
 | [],off,[],_,h1=>by simp
 | f::fs,off,(z,ag)::zs,hok,h1=>by
  obtain⟨g1,g2,g3,g4⟩:=hok;have hz:z0u ((z,ag)::zs)=z++z0u zs:=by simp[z0u]
  rw[hz]at h1;simp only[pN]at h1;have p1:=g3.part vs off w (by omega);have p3:=g3.key d e hd ((vs.drop off).take z.length) w (by simp;omega);simp only[List.forIn_cons,Sem.run_bind,ne_eq,g1,not_false_eq_true,if_true,g2,p1,p3,Result.andThen_ok,Sem.run_pure];exact zca hd w g4 (by omega)
 | [],_,_::_,h,_=>by simp[yC]at h
 | _::_,_,[],h,_=>by simp[yC]at h
theorem z7R (hd:dep<=d):∀{fs:List Field} {off:Nat} {zs:List (List Value×Bool)},yC P dep fs off zs->fs.any (λf=>f.name != "_" && P.eqGuardType d f.type)=false
 | [],_,_,_=>rfl
 | f::fs,off,(z,ag)::zs,hok=>by obtain⟨g1,g2,g3,g4⟩:=hok;simp only[List.any_cons,g3.guard d hd,Bool.and_false,nQ];exact z7R hd g4
 | _::_,_,[],h=>by simp[yC]at h
theorem QH {fields:Array Field}(hu:P.underlying t=some (.struct fields))(hst:P.stoodInHeld t=false)  (hs:∃f,P.info? t=some f/\f.size=(z0u zs).length){dep:Nat}(h1:1<=dep)(hf:yC P dep fields.toList 0 zs):EqP P t (z0u zs) true (dep+1):=by
 have hk:JM P t (.struct (fields.toList.map λf=>(f.offset,f.type)))\/True:=.inr trivial;refine⟨by omega,λcs off w h=>?_,λw=>z0r hs w,?_,?_,?_⟩
 ·unfold Go.part Go.isAgg;simp only[Sem.run_bind,run_underlying hu,Result.andThen_ok,Sem.run_pure,if_true,z0r hs,mkV];congr 2;apply mV;intro j;simp[pV,mQ]
 ·intro d hd vs us r w hv hu' hfit he;obtain⟨d,rfl⟩:∃d',d=d' + 1:=⟨d - 1,by omega⟩;simp only[mkV,if_true];unfold Op.equalIn;simp only[Sem.run_bind,run_underlying hu,Result.andThen_ok,program,Sem.run,hst,gG,if_false];rw[<-Array.forIn_toList];have:=zfe (P:=P) (d:=d) (dep:=dep) (by omega) (vs:=vs) (us:=us) w (off:=0) (r:=r) hf (by simpa using hv.symm) (by simpa using hu'.symm) (by simpa using hfit) (by simpa using he);rw[this];cases r <;> simp
 ·intro d hd;obtain⟨d,rfl⟩:∃d',d=d' + 1:=⟨d - 1,by omega⟩;unfold Program.eqGuardType;simp only[hu];rw[<-Array.any_toList];exact z7R (by omega) hf
 ·intro d e hd vs w hv;obtain⟨d,rfl⟩:∃d',d=d' + 1:=⟨d - 1,by omega⟩;simp only[mkV,if_true];unfold Instr.checkKey;simp only[Sem.run_bind,run_underlying hu,Result.andThen_ok];rw[<-Array.forIn_toList];have:=zca (P:=P) (dep:=dep) (d:=d) (e:=e) (vs:=vs) (by omega) w (off:=0) hf (by simpa using hv.symm);rw[this];simp
def zeA (n:Nat)(z:List Value):List Value:=(List.replicate n z).flatten
theorem zhh (n:Nat)(z:List Value):(zeA n z).length=n*z.length:=by simp[zeA]
theorem zhF (hd:dep<=d){el:Nat}   (hE:EqP P el z ag dep)  (w:World):∀{n i:Nat} {r:Bool},i*z.length+n*z.length=vs.length->i*z.length+n*z.length=us.length->zdK (zeA n z) (vs.drop (i*z.length))=true->w7 (vs.drop (i*z.length)) (us.drop (i*z.length))=some r ->
  Sem.run P (forIn (List.range' i n) ((none,()):Option Bool×Unit) λj _=>do
    let a <-Go.part el vs.toArray (j*z.length);let b <-Go.part el us.toArray (j*z.length);let q <-Op.equalIn d el a b
    if(!q)=true then pure (ForInStep.done (some false,())) else pure (ForInStep.yield (none,()))) w=.ok (if r=true then(none,()) else(some false,())) w
 | 0,i,r,h1,h2,hf,he=>by have hv:vs.drop (i*z.length)=[]:=mL (by omega);have hu:us.drop (i*z.length)=[]:=mL (by omega);rw[hv,hu]at he;simp only[w7,Option.some.injEq]at he;subst he;simp
 | n+1,i,r,h1,h2,hf,he=>by
  have hz:zeA (n+1) z=z++zeA n z:=by simp[zeA,nI]
  rw[hz]at hf;rw[mn,rm]at h1 h2;obtain⟨f1,f2⟩:=z4s hf;have hi:i*z.length+z.length=(i+1)*z.length:=by rw[mn,rm]
  rw[mX,hi]at f2;obtain⟨r1,r2,e1,e2,rfl⟩:=z2M (n:=z.length) he;rw[mX,mX,hi]at e2;have p1:=hE.part vs (i*z.length) w (by omega);have p2:=hE.part us (i*z.length) w (by omega);have p3:=hE.eq d hd _ _ r1 w (by simp;omega) (by simp;omega) f1 e1;simp only[List.range'_succ,List.forIn_cons,Sem.run_bind,p1,p2,p3,Result.andThen_ok];cases r1
  ·simp
  ·simp only[gP,gG,if_false,Sem.run_pure,Result.andThen_ok,rD];exact zhF hd hE w (by omega) (by omega) f2 e2
theorem zf1 (hd:dep<=d){e:Bool}{el:Nat}   (hE:EqP P el z ag dep){vs:List Value}(w:World):∀{n i:Nat},i*z.length+n*z.length=vs.length ->
  Sem.run P (forIn (List.range' i n) PUnit.unit λj _=>do
    let s <-Go.sizeOf el;let a <-Go.part el vs.toArray (j*s)
    Instr.checkKey e d el a
    pure (ForInStep.yield PUnit.unit)) w=.ok PUnit.unit w
 | 0,i,h1=>by simp
 | n+1,i,h1=>by
  rw[mn,rm]at h1;have hi:i*z.length+z.length=(i+1)*z.length:=by rw[mn,rm]
  have p1:=hE.part vs (i*z.length) w (by omega);have p3:=hE.key d e hd ((vs.drop (i*z.length)).take z.length) w (by simp;omega);simp only[List.range'_succ,List.forIn_cons,Sem.run_bind,hE.size,p1,p3,Result.andThen_ok,Sem.run_pure];exact zf1 hd hE w (by omega)
theorem WR {n el:Nat}(hu:P.underlying t=some (.array n el))   {dep:Nat}(hE:EqP P el z ag dep)(hs:∃f,P.info? t=some f/\f.size=(zeA n z).length):EqP P t (zeA n z) true (dep+1):=by
 refine⟨by omega,λcs off w h=>?_,λw=>z0r hs w,?_,?_,?_⟩
 ·unfold Go.part Go.isAgg;simp only[Sem.run_bind,run_underlying hu,Result.andThen_ok,Sem.run_pure,if_true,z0r hs,mkV];congr 2;apply mV;intro j;simp[pV,mQ]
 ·intro d hd vs us r w hv hu' hfit he;obtain⟨d,rfl⟩:∃d',d=d' + 1:=⟨d - 1,by omega⟩;rw[zhh]at hv hu';simp only[mkV,if_true];unfold Op.equalIn;simp only[Sem.run_bind,run_underlying hu,Result.andThen_ok,hE.size];simp only[Std.Legacy.Range.forIn_eq_forIn_range',Std.Legacy.Range.size,nG,Nat.add_one_sub_one,Nat.div_one];have:=zhF (P:=P) (d:=d) (dep:=dep) (by omega) hE (vs:=vs) (us:=us) w (n:=n) (i:=0) (r:=r) (by simpa using hv.symm) (by simpa using hu'.symm) (by simpa using hfit) (by simpa using he);rw[this];cases r <;> simp
 ·intro d hd;obtain⟨d,rfl⟩:∃d',d=d' + 1:=⟨d - 1,by omega⟩;unfold Program.eqGuardType;simp only[hu];exact hE.guard d (by omega)
 ·intro d e hd vs w hv;obtain⟨d,rfl⟩:∃d',d=d' + 1:=⟨d - 1,by omega⟩;rw[zhh]at hv;simp only[mkV,if_true];unfold Instr.checkKey;simp only[Sem.run_bind,run_underlying hu,Result.andThen_ok];simp only[Std.Legacy.Range.forIn_eq_forIn_range',Std.Legacy.Range.size,nG,Nat.add_one_sub_one,Nat.div_one];have:=zf1 (P:=P) (dep:=dep) (d:=d) (e:=e) (vs:=vs) (by omega) hE w (n:=n) (i:=0) (by simpa using hv.symm);rw[this];simp
theorem EqP.mono {dep dep':Nat}(h:EqP P t z ag dep)(hd:dep<=dep'):EqP P t z ag dep' :=
 ⟨pE h.pos hd,h.part,h.size,λd q=>h.eq d (pE hd q),λd q=>h.guard d (pE hd q),λd e q=>h.key d e (pE hd q)⟩
theorem yC.nil {dep off:Nat}:yC P dep [] off []:=trivial
theorem yC.cons {dep off:Nat}{f:Field}{fs:List Field}    (h1:f.name≠"_")(h2:f.offset=off)(h3:EqP P f.type z ag dep)(h4:yC P dep fs (off+z.length) zs):yC P dep (f::fs) off ((z,ag)::zs):=⟨h1,h2,h3,h4⟩
theorem XF {i:EI}  {dep:Nat}(h:EqP P t z true dep)(hz:i.zero=some z)(hsz:i.size=z.length)(h1:dep<=P.depth)(h2:dep<=10000):zqF P t i:={
 guard:=h.guard _ h1
 run:=λvs us r w hv hu hf he=>h.eq _ h2 vs us r w (hv.trans hsz) (hu.trans hsz) (by simpa only[zzM,hz] using hf) he
 key:=λvs e w hv=>h.key _ e h2 vs w (hv.trans hsz) }
end
theorem JG (h:z.all (·.oneCell')=true):∀u∈z,u.oneCell'=true:=gJ.1 h
end Go.Ex

namespace Go.Own
inductive H where
 | a (x:A)
 | l (xs:List A)
 | b (x:Bool)
 | g (gs:List Bool)
 | cut (n:Nat)
 | n (m:Nat) (ks:List Nat)
 | v (m:Nat) (ks:List Nat)
 | u (m:Nat)
 | f
 | op (m:Nat)
 | stp (m:Nat)
def HM (α:Type):=St->List H->Option (α×List Nat×List (Nat×Ent)×List H×List Prop)
def HM.bind {α β:Type}(m:HM α)(f:α->HM β):HM β:=λst hs=>
 match m st hs with
 | none=>none
 | some (a,R,U,hs',ob)=>
  match f a (zh U st) hs' with
  | none=>none
  | some (b,R',U',hs'',ob')=>some (b,R++R',U++U',hs'',ob++ob')
variable {α:Type}
def HM.pure (a:α):HM α:=λ_ hs=>some (a,[],[],hs,[])
instance:Monad HM:={ pure:=HM.pure,bind:=HM.bind }
def zV:HM α:=λ_ _=>none
def yg (m:SM α):HM α:=λst hs=>match m st with|some (a,R,U)=>some (a,R,U,hs,[])|none=>none
def zrV (p:Prop):HM Unit:=λ_ hs=>some ((),[],[],hs,[p])
def zp4:HM (List A):=λ_ hs=>match hs with|.l x::hs=>some (x,[],[],hs,[])|_=>none
def zvV:HM (List Bool):=λ_ hs=>match hs with|.g x::hs=>some (x,[],[],hs,[])|_=>none
def z8X:List Prop->Prop
 | []=>True
 | p::ps=>p/\z8X ps
theorem xw:∀{l m:List Prop},z8X (l++m)->z8X l/\z8X m
 | [],_,h=>⟨trivial,h⟩
 | _::_,_,h=>⟨⟨h.1,(xw h.2).1⟩,(xw h.2).2⟩
def Snd (m:SM α)(h:HM α):Prop:=∀st hs a R U hs' ob,h st hs=some (a,R,U,hs',ob)->z8X ob->m st=some (a,R,U)
theorem zn (m:SM α):Snd m (yg m):=by
 intro st hs a R U hs' ob e _;unfold Go.Own.yg at e;split at e
 ·rename_i h;simp only[Option.some.injEq,Prod.mk.injEq]at e;obtain⟨rfl,rfl,rfl,_,_⟩:=e;exact h
 ·cases e
theorem zj {α β:Type}{m:SM α}{h:HM α}{f:α->SM β}{g:α->HM β}(h1:Snd m h)(h2:∀a,Snd (f a) (g a)):Snd (m >>= f) (h >>= g):=by
 intro st hs b R U hs' ob e ho;change HM.bind h g st hs=_ at e;change SM.bind m f st=_;unfold HM.bind at e;split at e
 ·cases e
 ·rename_i a R1 U1 hs1 ob1 e1;split at e
  ·cases e
  ·rename_i b' R2 U2 hs2 ob2 e2;simp only[Option.some.injEq,Prod.mk.injEq]at e;obtain⟨rfl,rfl,rfl,rfl,rfl⟩:=e;obtain⟨o1,o2⟩:=xw ho;unfold SM.bind;rw[h1 _ _ _ _ _ _ _ e1 o1];dsimp only
   rw[h2 _ _ _ _ _ _ _ _ e2 o2]
theorem vw (a:α):Snd (pure a) (pure a:HM α):=by intro st hs b R U hs' ob e _;change HM.pure a st hs=_ at e;unfold HM.pure at e;simp only[Option.some.injEq,Prod.mk.injEq]at e;obtain⟨rfl,rfl,rfl,_,_⟩:=e;rfl
theorem zw (m:SM α):Snd m (zV:HM α):=by intro st hs b R U hs' ob e;cases e
def zgM (x:Option A):HM A:=λ_ hs=>match hs with|.a y::hs=>some (y,[],[],hs,[x=some y])|_=>none
theorem z5l (x:Option A):Snd (ofO x) (zgM x):=by
 intro st hs a R U hs' ob e ho;unfold Go.Own.zgM at e;split at e
 ·simp only[Option.some.injEq,Prod.mk.injEq]at e;obtain⟨rfl,rfl,rfl,_,rfl⟩:=e;have:x=some _:=ho.1;subst this;rfl
 ·cases e
def eqA (x:A):HM A:=λ_ hs=>match hs with|.a y::hs=>some (y,[],[],hs,[x=y])|_=>none
theorem zbo (x:A):Snd (pure x) (eqA x):=by
 intro st hs a R U hs' ob e ho;unfold Go.Own.eqA at e;split at e
 ·simp only[Option.some.injEq,Prod.mk.injEq]at e;obtain⟨rfl,rfl,rfl,_,rfl⟩:=e;have:x=_:=ho.1;subst this;rfl
 ·cases e
def eqL (x:List A):HM (List A):=λ_ hs=>match hs with|.l y::hs=>some (y,[],[],hs,[x=y])|_=>none
theorem ziv (x:List A):Snd (pure x) (eqL x):=by
 intro st hs a R U hs' ob e ho;unfold Go.Own.eqL at e;split at e
 ·simp only[Option.some.injEq,Prod.mk.injEq]at e;obtain⟨rfl,rfl,rfl,_,rfl⟩:=e;have:x=_:=ho.1;subst this;rfl
 ·cases e
def zwh (x:Bool):HM Bool:=λ_ hs=>match hs with|.b y::hs=>some (y,[],[],hs,[x=y])|_=>none
theorem zk0 (x:Bool):Snd (pure x) (zwh x):=by
 intro st hs a R U hs' ob e ho;unfold Go.Own.zwh at e;split at e
 ·simp only[Option.some.injEq,Prod.mk.injEq]at e;obtain⟨rfl,rfl,rfl,_,rfl⟩:=e;have:x=_:=ho.1;subst this;rfl
 ·cases e
def XW (p:Prop)  (h:HM α):HM α:=zrV p >>= λ_=>h
variable {p:Prop}
theorem vL {m m':SM α}{h:HM α}[Decidable p](h1:Snd m h):Snd (if p then m else m') (XW p h):=by
 intro st hs b R U hs' ob e ho;change HM.bind (zrV p) (λ_=>h) st hs=_ at e;unfold HM.bind zrV at e;dsimp only at e;split at e
 ·cases e
 ·rename_i b' R2 U2 hs2 ob2 e2;simp only[Option.some.injEq,Prod.mk.injEq,p9]at e;obtain⟨rfl,rfl,rfl,rfl,rfl⟩:=e;have:p:=ho.1;rw[if_pos this];exact h1 _ _ _ _ _ _ _ e2 ho.2
theorem z6D {m:SM α}{h:HM α}(h1:p->Snd m h):Snd m (XW p h):=by
 intro st hs b R U hs' ob e ho;change HM.bind (zrV p) (λ_=>h) st hs=_ at e;unfold HM.bind zrV at e;dsimp only at e;split at e
 ·cases e
 ·rename_i b' R2 U2 hs2 ob2 e2;simp only[Option.some.injEq,Prod.mk.injEq,p9]at e;obtain⟨rfl,rfl,rfl,rfl,rfl⟩:=e;exact h1 ho.1 _ _ _ _ _ _ _ e2 ho.2
theorem jP [Decidable p]{m m':SM α}{h h':HM α}(h1:Snd m h)(h2:Snd m' h'):Snd (if p then m else m') (if p then h else h'):=by split <;> assumption
theorem z3a {m m':SM α}{h:HM α}(e:m=m')(h1:Snd m' h):Snd m h:=e ▸ h1
def zlt (m:HM α):HM α:=λst hs=>match m st hs with|some (a,R,_,hs',ob)=>some (a,R,[],hs',ob)|none=>none
theorem zry {m:SM α}{h:HM α}(h1:Snd m h):Snd (ghost m) (zlt h):=by
 intro st hs b R U hs' ob e ho;unfold zlt at e;split at e
 ·rename_i a R1 U1 hs1 ob1 e1;simp only[Option.some.injEq,Prod.mk.injEq]at e;obtain⟨rfl,rfl,rfl,rfl,rfl⟩:=e;unfold Go.Own.ghost;rw[h1 _ _ _ _ _ _ _ e1 ho]
 ·cases e
def orH (x y:HM α):HM α:=λst hs=>match hs with|.f::hs'=>x st hs'|hs=>y st hs
theorem zCA {m:SM α}{x y:HM α}(h1:Snd m x)(h2:Snd m y):Snd m (orH x y):=by
 intro st hs a R U hs' ob e ho;unfold orH at e;split at e
 ·exact h1 _ _ _ _ _ _ _ e ho
 ·exact h2 _ _ _ _ _ _ _ e ho
def zmw:List Q5->A->HM A
 | [],x=>pure x
 | .deref::p,.box x=>zmw p x
 | .fld i::p,.agg fs=>orH (zgM fs[i]? >>= λy=>zmw p y) (match fs[i]? with|some y=>zmw p y|none=>zV)
 | .idx i::p,.osl _ _ es=>zgM es[i]? >>= λy=>zmw p y
 | _,_=>zV
theorem zon (x:α):(ofO (some x):SM α)=pure x:=rfl
theorem ye {α β:Type}(x:α)(f:α->SM β):(pure x >>= f)=f x:=by
 funext st;change SM.bind (SM.pure x) f st=_;unfold SM.bind SM.pure;simp only[p9];show(match f x st with|none=>none|some (b,R',U')=>some (b,R',U'))=f x st;cases f x st with
 | none=>rfl
 | some q=>rfl
theorem zeK (e:Option A)(f:A->Option α):(ofO (match e with|some y=>f y|none=>none):SM α)=(ofO e >>= λy=>ofO (f y)):=by
 funext st;change _=SM.bind (ofO e) _ st;cases e with
 | none=>rfl
 | some y=>unfold SM.bind ofO;simp only[zh,p9];cases f y <;> rfl
theorem zg3:∀(p:List Q5) (x:A),Snd (ofO (vQ p x)) (zmw p x)
 | [],x=>vw x
 | .deref::p,.box x=>zg3 p x
 | .fld i::p,.agg fs=>by
  simp only[vQ,zmw];refine zCA ?_ ?_
  ·refine z3a (zeK _ (λy=>vQ p y)) ?_;exact zj (z5l _) λy=>zg3 p y
  ·cases h:fs[i]? with
   | some y=>exact zg3 p y
   | none=>exact zw _
 | .idx i::p,.osl sz t es=>by simp only[vQ,zmw];refine z3a (zeK _ (λy=>vQ p y)) ?_;exact zj (z5l _) λy=>zg3 p y
 | .deref::p,.atom _|.deref::p,.fn _ _|.deref::p,.agg _|.deref::p,.tup _|.deref::p,.sl _ _ _|.deref::p,.sptr _|.deref::p,.dop _|.deref::p,.osl _ _ _|.deref::p,.dead _|.deref::p,.opq _=>zw _
 | .fld i::p,.atom _|.fld i::p,.fn _ _|.fld i::p,.box _|.fld i::p,.tup _|.fld i::p,.sl _ _ _|.fld i::p,.sptr _|.fld i::p,.dop _|.fld i::p,.osl _ _ _|.fld i::p,.dead _|.fld i::p,.opq _=>zw _
 | .idx i::p,.atom _|.idx i::p,.fn _ _|.idx i::p,.box _|.idx i::p,.tup _|.idx i::p,.sl _ _ _|.idx i::p,.sptr _|.idx i::p,.dop _|.idx i::p,.agg _|.idx i::p,.dead _|.idx i::p,.opq _=>zw _
def zj4:List Q5->A->A->HM A
 | [],_,z=>pure z
 | .deref::p,.box x,z=>zj4 p x z >>= λy=>pure (.box y)
 | .fld i::p,.agg fs,z=>orH (zgM fs[i]? >>= λy=>zj4 p y z >>= λw=>eqL (fs.set i w) >>= λes'=>pure (.agg es')) (match fs[i]? with|some y=>zj4 p y z >>= λw=>pure (.agg (fs.set i w))|none=>zV)
 | .idx i::p,.osl sz t es,z=>zgM es[i]? >>= λy=>zj4 p y z >>= λw=>eqL (es.set i w) >>= λes'=>pure (.osl sz t es')
 | _,_,_=>zV
variable {U:List (Nat×Ent)}{st:St}{R:List Nat}{hs:List H}{hs':List H}
theorem zm9 {x:Option A}   {a:A}    {ob:List Prop}(e:zgM x st hs=some (a,R,U,hs',ob))(ho:z8X ob):x=some a/\R=[]/\U=[]:=by
 unfold zgM at e;split at e
 ·simp only[Option.some.injEq,Prod.mk.injEq]at e;obtain⟨rfl,rfl,rfl,_,rfl⟩:=e;exact⟨ho.1,rfl,rfl⟩
 ·cases e
theorem zlI {x:List A}   {a:List A}    {ob:List Prop}(e:eqL x st hs=some (a,R,U,hs',ob))(ho:z8X ob):x=a/\R=[]/\U=[]:=by
 unfold eqL at e;split at e
 ·simp only[Option.some.injEq,Prod.mk.injEq]at e;obtain⟨rfl,rfl,rfl,_,rfl⟩:=e;exact⟨ho.1,rfl,rfl⟩
 ·cases e
theorem z2L {α β:Type}{m:HM α}{f:α->HM β}   {b:β}    {ob:List Prop}(e:(m >>= f) st hs=some (b,R,U,hs',ob)) :
  ∃a R1 U1 hs1 ob1 R2 U2 ob2,m st hs=some (a,R1,U1,hs1,ob1)/\f a (zh U1 st) hs1=some (b,R2,U2,hs',ob2)/\R=R1++R2/\U=U1++U2/\ob=ob1++ob2:=by
 change HM.bind m f st hs=_ at e;unfold HM.bind at e;split at e
 ·cases e
 ·rename_i a R1 U1 hs1 ob1 e1;split at e
  ·cases e
  ·rename_i b' R2 U2 hs2 ob2 e2;simp only[Option.some.injEq,Prod.mk.injEq]at e;obtain⟨rfl,rfl,rfl,rfl,rfl⟩:=e;exact⟨a,R1,U1,hs1,ob1,R2,U2,ob2,e1,e2,rfl,rfl,rfl⟩
theorem z4r {x b:α}      {ob:List Prop}(e:(pure x:HM α) st hs=some (b,R,U,hs',ob)):x=b/\R=[]/\U=[]/\ob=[]:=by change HM.pure x st hs=_ at e;unfold HM.pure at e;simp only[Option.some.injEq,Prod.mk.injEq]at e;obtain⟨rfl,rfl,rfl,_,rfl⟩:=e;exact⟨rfl,rfl,rfl,rfl⟩
theorem z5h:∀(p:List Q5) (x z:A) {st:St} {hs:List H} {a:A} {R:List Nat} {U:List (Nat×Ent)} {hs':List H} {ob:List Prop},zj4 p x z st hs=some (a,R,U,hs',ob)->z8X ob->JN p x z=a/\R=[]/\U=[]
 | [],x,z,st,hs,a,R,U,hs',ob,e,_=>by obtain⟨h1,h2,h3,_⟩:=z4r e;exact⟨h1,h2,h3⟩
 | .deref::p,.box x,z,st,hs,a,R,U,hs',ob,e,ho=>by simp only[zj4]at e;obtain⟨b,R1,U1,hs1,ob1,R2,U2,ob2,e1,e2,rfl,rfl,rfl⟩:=z2L e;obtain⟨o1,o2⟩:=xw ho;obtain⟨h1,rfl,rfl⟩:=z5h p x z e1 o1;obtain⟨h2,rfl,rfl,_⟩:=z4r e2;exact⟨by rw[JN,h1];exact h2,rfl,rfl⟩
 | .fld i::p,.agg fs,z,st,hs,a,R,U,hs',ob,e,ho=>by
  simp only[zj4]at e;unfold orH at e;split at e
  ·obtain⟨b,R1,U1,hs1,ob1,R2,U2,ob2,e1,e2,rfl,rfl,rfl⟩:=z2L e;obtain⟨o1,o2⟩:=xw ho;obtain⟨g1,rfl,rfl⟩:=zm9 e1 o1;obtain⟨w,R3,U3,hs3,ob3,R4,U4,ob4,e3,e4,rfl,rfl,rfl⟩:=z2L e2;obtain⟨o3,o4⟩:=xw o2;obtain⟨h1,rfl,rfl⟩:=z5h p b z e3 o3;obtain⟨es',R5,U5,hs5,ob5,R6,U6,ob6,e5,e6,rfl,rfl,rfl⟩:=z2L e4;obtain⟨o5,o6⟩:=xw o4;obtain⟨g2,rfl,rfl⟩:=zlI e5 o5;obtain⟨h2,rfl,rfl,_⟩:=z4r e6;refine⟨?_,rfl,rfl⟩;rw[JN,g1];dsimp only
   rw[h1,g2];exact h2
  ·cases hy:fs[i]? with
   | some y=>
    simp only[hy]at e;obtain⟨b,R1,U1,hs1,ob1,R2,U2,ob2,e1,e2,rfl,rfl,rfl⟩:=z2L e;obtain⟨o1,o2⟩:=xw ho;obtain⟨h1,rfl,rfl⟩:=z5h p y z e1 o1;obtain⟨h2,rfl,rfl,_⟩:=z4r e2;refine⟨?_,rfl,rfl⟩;rw[JN,hy];dsimp only
    rw[h1];exact h2
   | none=>simp only[hy]at e;cases e
 | .idx i::p,.osl sz t es,z,st,hs,a,R,U,hs',ob,e,ho=>by
  simp only[zj4]at e;obtain⟨b,R1,U1,hs1,ob1,R2,U2,ob2,e1,e2,rfl,rfl,rfl⟩:=z2L e;obtain⟨o1,o2⟩:=xw ho;obtain⟨g1,rfl,rfl⟩:=zm9 e1 o1;obtain⟨w,R3,U3,hs3,ob3,R4,U4,ob4,e3,e4,rfl,rfl,rfl⟩:=z2L e2;obtain⟨o3,o4⟩:=xw o2;obtain⟨h1,rfl,rfl⟩:=z5h p b z e3 o3;obtain⟨es',R5,U5,hs5,ob5,R6,U6,ob6,e5,e6,rfl,rfl,rfl⟩:=z2L e4;obtain⟨o5,o6⟩:=xw o4;obtain⟨g2,rfl,rfl⟩:=zlI e5 o5;obtain⟨h2,rfl,rfl,_⟩:=z4r e6;refine⟨?_,rfl,rfl⟩;rw[JN,g1];dsimp only
  rw[h1,g2];exact h2
 | .deref::p,.atom _,_,_,_,_,_,_,_,_,e,_|.deref::p,.fn _ _,_,_,_,_,_,_,_,_,e,_|.deref::p,.agg _,_,_,_,_,_,_,_,_,e,_|.deref::p,.tup _,_,_,_,_,_,_,_,_,e,_|.deref::p,.sl _ _ _,_,_,_,_,_,_,_,_,e,_
 | .deref::p,.sptr _,_,_,_,_,_,_,_,_,e,_|.deref::p,.dop _,_,_,_,_,_,_,_,_,e,_|.deref::p,.osl _ _ _,_,_,_,_,_,_,_,_,e,_|.deref::p,.dead _,_,_,_,_,_,_,_,_,e,_|.deref::p,.opq _,_,_,_,_,_,_,_,_,e,_=>by cases e
 | .fld i::p,.atom _,_,_,_,_,_,_,_,_,e,_|.fld i::p,.fn _ _,_,_,_,_,_,_,_,_,e,_|.fld i::p,.box _,_,_,_,_,_,_,_,_,e,_|.fld i::p,.tup _,_,_,_,_,_,_,_,_,e,_|.fld i::p,.sl _ _ _,_,_,_,_,_,_,_,_,e,_
 | .fld i::p,.sptr _,_,_,_,_,_,_,_,_,e,_|.fld i::p,.dop _,_,_,_,_,_,_,_,_,e,_|.fld i::p,.osl _ _ _,_,_,_,_,_,_,_,_,e,_|.fld i::p,.dead _,_,_,_,_,_,_,_,_,e,_|.fld i::p,.opq _,_,_,_,_,_,_,_,_,e,_=>by cases e
 | .idx i::p,.atom _,_,_,_,_,_,_,_,_,e,_|.idx i::p,.fn _ _,_,_,_,_,_,_,_,_,e,_|.idx i::p,.agg _,_,_,_,_,_,_,_,_,e,_|.idx i::p,.tup _,_,_,_,_,_,_,_,_,e,_|.idx i::p,.sl _ _ _,_,_,_,_,_,_,_,_,e,_
 | .idx i::p,.sptr _,_,_,_,_,_,_,_,_,e,_|.idx i::p,.dop _,_,_,_,_,_,_,_,_,e,_|.idx i::p,.box _,_,_,_,_,_,_,_,_,e,_|.idx i::p,.dead _,_,_,_,_,_,_,_,_,e,_|.idx i::p,.opq _,_,_,_,_,_,_,_,_,e,_=>by cases e
theorem zrr (p:List Q5)(x z:A):Snd (pure (JN p x z)) (zj4 p x z):=by intro st hs a R U hs' ob e ho;obtain⟨rfl,rfl,rfl⟩:=z5h p x z e ho;rfl
def z3w:A->HM A
 | .osl sz t es=>zp4 >>= λxs=>XW (A.lives es=true/\A.shuts es=xs) (pure (.sl sz t xs))
 | .agg fs=>shutAs fs >>= λgs=>pure (.agg gs)
 | .box x=>z3w x >>= λy=>pure (.sptr y)
 | .dead _|.opq _|.tup _=>zV
 | x=>pure x
where shutAs:List A->HM (List A)
 | []=>pure []
 | x::xs=>z3w x >>= λy=>shutAs xs >>= λys=>pure (y::ys)
theorem zd9 {h:HM α}   {a:α}    {ob:List Prop}(e:XW p h st hs=some (a,R,U,hs',ob))(ho:z8X ob):p/\∃ob',h st hs=some (a,R,U,hs',ob')/\z8X ob':=by obtain⟨_,R1,U1,hs1,ob1,R2,U2,ob2,e1,e2,rfl,rfl,rfl⟩:=z2L e;unfold zrV at e1;simp only[Option.some.injEq,Prod.mk.injEq]at e1;obtain⟨_,rfl,rfl,rfl,rfl⟩:=e1;exact⟨ho.1,ob2,e2,ho.2⟩
mutual
theorem z9r:∀(x:A) {st:St} {hs:List H} {a:A} {R:List Nat} {U:List (Nat×Ent)} {hs':List H} {ob:List Prop},z3w x st hs=some (a,R,U,hs',ob)->z8X ob->x.live=true/\x.shut=a/\R=[]/\U=[]
 | .osl sz t es,st,hs,a,R,U,hs',ob,e,ho=>by
  simp only[z3w]at e;obtain⟨xs,R1,U1,hs1,ob1,R2,U2,ob2,e1,e2,rfl,rfl,rfl⟩:=z2L e;obtain⟨o1,o2⟩:=xw ho;have hh:R1=[]/\U1=[]:=by
   unfold zp4 at e1;split at e1
   ·simp only[Option.some.injEq,Prod.mk.injEq]at e1;exact⟨e1.2.1.symm,e1.2.2.1.symm⟩
   ·cases e1
  obtain⟨rfl,rfl⟩:=hh;obtain⟨⟨q1,q2⟩,ob',e3,_⟩:=zd9 e2 o2;obtain⟨h1,rfl,rfl,_⟩:=z4r e3;exact⟨by simp only[A.live];exact q1,by simp only[A.shut];rw[q2];exact h1,rfl,rfl⟩
 | .agg fs,st,hs,a,R,U,hs',ob,e,ho=>by simp only[z3w]at e;obtain⟨xs,R1,U1,hs1,ob1,R2,U2,ob2,e1,e2,rfl,rfl,rfl⟩:=z2L e;obtain⟨o1,o2⟩:=xw ho;obtain⟨q1,q2,rfl,rfl⟩:=zbL fs e1 o1;obtain⟨h1,rfl,rfl,_⟩:=z4r e2;exact⟨by simp only[A.live];exact q1,by simp only[A.shut];rw[q2];exact h1,rfl,rfl⟩
 | .box x,st,hs,a,R,U,hs',ob,e,ho=>by simp only[z3w]at e;obtain⟨xs,R1,U1,hs1,ob1,R2,U2,ob2,e1,e2,rfl,rfl,rfl⟩:=z2L e;obtain⟨o1,o2⟩:=xw ho;obtain⟨q1,q2,rfl,rfl⟩:=z9r x e1 o1;obtain⟨h1,rfl,rfl,_⟩:=z4r e2;exact⟨by simp only[A.live];exact q1,by simp only[A.shut];rw[q2];exact h1,rfl,rfl⟩
 | .dead _,_,_,_,_,_,_,_,e,_=>by cases e
 | .opq _,_,_,_,_,_,_,_,e,_=>by cases e
 | .tup _,_,_,_,_,_,_,_,e,_=>by cases e
 | .atom v,_,_,_,_,_,_,_,e,_=>by simp only[z3w]at e;obtain⟨h1,rfl,rfl,_⟩:=z4r e;exact⟨rfl,h1,rfl,rfl⟩
 | .fn _ _,_,_,_,_,_,_,_,e,_=>by simp only[z3w]at e;obtain⟨h1,rfl,rfl,_⟩:=z4r e;exact⟨rfl,h1,rfl,rfl⟩
 | .sl _ _ _,_,_,_,_,_,_,_,e,_=>by simp only[z3w]at e;obtain⟨h1,rfl,rfl,_⟩:=z4r e;exact⟨rfl,h1,rfl,rfl⟩
 | .sptr _,_,_,_,_,_,_,_,e,_=>by simp only[z3w]at e;obtain⟨h1,rfl,rfl,_⟩:=z4r e;exact⟨rfl,h1,rfl,rfl⟩
 | .dop _,_,_,_,_,_,_,_,e,_=>by simp only[z3w]at e;obtain⟨h1,rfl,rfl,_⟩:=z4r e;exact⟨rfl,h1,rfl,rfl⟩
theorem zbL:∀(x:List A) {st:St} {hs:List H} {a:List A} {R:List Nat} {U:List (Nat×Ent)} {hs':List H} {ob:List Prop},z3w.shutAs x st hs=some (a,R,U,hs',ob)->z8X ob->A.lives x=true/\A.shuts x=a/\R=[]/\U=[]
 | [],_,_,_,_,_,_,_,e,_=>by simp only[z3w.shutAs]at e;obtain⟨h1,rfl,rfl,_⟩:=z4r e;exact⟨rfl,h1,rfl,rfl⟩
 | x::xs,st,hs,a,R,U,hs',ob,e,ho=>by simp only[z3w.shutAs]at e;obtain⟨y,R1,U1,hs1,ob1,R2,U2,ob2,e1,e2,rfl,rfl,rfl⟩:=z2L e;obtain⟨o1,o2⟩:=xw ho;obtain⟨q1,q2,rfl,rfl⟩:=z9r x e1 o1;obtain⟨ys,R3,U3,hs3,ob3,R4,U4,ob4,e3,e4,rfl,rfl,rfl⟩:=z2L e2;obtain⟨o3,o4⟩:=xw o2;obtain⟨q3,q4,rfl,rfl⟩:=zbL xs e3 o3;obtain⟨h1,rfl,rfl,_⟩:=z4r e4;exact⟨by simp only[A.lives,pJ];exact⟨q1,q3⟩,by simp only[A.shuts];rw[q2,q4];exact h1,rfl,rfl⟩
end
theorem z8a {p c q:Prop}[Decidable p][Decidable c]{m m':SM α}{h:HM α}(hpq:c->q->p)(h1:Snd m h):Snd (if p then m else m') (if c then XW q h else zV):=by
 by_cases hc:c
 ·rw[if_pos hc];exact z6D λhq=>z3a (if_pos (hpq hc hq)) h1
 ·rw[if_neg hc];exact zw _
def zgt (r:Nat)(p:List Q5)(er ec:Nat):HM A:=yg (rdE r) >>= λe=>
 match e.t with
 | .own x=>if e.er=er/\(p=[]\/e.ec=ec) then zmw p x else zV
 | .d x=>if e.er=er/\p=[] then pure x else zV
 | _=>zV
theorem zbO (r:Nat)(p:List Q5)(er ec:Nat):Snd (look r p er ec) (zgt r p er ec):=by
 refine zj (zn _) λe=>?_;obtain⟨t,a,b⟩:=e;cases t with
 | own x=>exact jP (zg3 _ _) (zw _)
 | d x=>exact jP (vw _) (zw _)
 | _=>exact zw _
def zc2 (r:Nat)(p:List Q5)(er ec:Nat):HM A:=yg (rdE r) >>= λe=>
 match e.t with
 | .own x=>if e.er=er/\e.ec=ec then zmw p x else zV
 | _=>zV
theorem zcV (r:Nat)(p:List Q5)(er ec:Nat):Snd (lookP r p er ec) (zc2 r p er ec):=by
 refine zj (zn _) λe=>?_;obtain⟨t,a,b⟩:=e;cases t with
 | own x=>exact jP (zg3 _ _) (zw _)
 | _=>exact zw _
def z4f:T->HM A
 | .d a=>pure a
 | .als r p er ec=>zgt r p er ec >>= λy=>if y.isD=true then pure y else zV
 | _=>zV
theorem W1 (x:T):Snd (val x) (z4f x):=by
 cases x with
 | d a=>exact vw _
 | als r p er ec=>exact zj (zbO _ _ _ _) λy=>jP (vw _) (zw _)
 | _=>exact zw _
def zfQ:T->HM A
 | .d a=>pure a
 | .als r p er ec=>zgt r p er ec >>= λy=>
  if y.isD=true then pure y else if y.plain=true then yg (rdE r) >>= λe=>
   match e.t with
   | .own x=>
    if p=[] then yg (wrE r ⟨.gone,e.er+1,e.ec+1⟩) >>= λ_=>pure y
    else zj4 p x (.dead y.size) >>= λz=>yg (wrE r ⟨.own z,e.er,e.ec+1⟩) >>= λ_=>pure y
   | _=>zV
  else zV
 | _=>zV
theorem zbM (x:T):Snd (take x) (zfQ x):=by
 cases x with
 | d a=>exact vw _
 | als r p er ec=>
  refine zj (zbO _ _ _ _) λy=>jP (vw _) (jP (zj (zn _) λe=>?_) (zw _));obtain⟨t,a,b⟩:=e;cases t with
  | own x=>refine jP (sdLift' _ _) ?_;refine z3a (m':=pure (JN p x (.dead y.size)) >>= λz=>wrE r ⟨.own z,a,b+1⟩ >>= λ_=>pure y) (ye _ _).symm ?_;exact zj (zrr _ _ _) λz=>sdLift' _ _
  | _=>exact zw _
 | _=>exact zw _
where sdLift' {β:Type} (m:SM Unit) (y:β):Snd (m >>= λ_=>pure y) (yg m >>= λ_=>pure y):=zj (zn m) λ_=>vw y
def z59 (tt:TT)(t:Nat)(x:T):HM A:=zfQ x >>= λy=>pure (Jq tt t y)
theorem z4j (tt:TT)(t:Nat)(x:T):Snd (takeC tt t x) (z59 tt t x):=zj (zbM x) λ_=>vw _
def z9I:T->HM (A⊕(Nat×List Q5×Nat×Nat))
 | .d (.sptr y)=>pure (.inl y)
 | .ptr r p er ec=>pure (.inr (r,p,er,ec))
 | .als r p er ec=>yg (rdE r) >>= λe=>zgt r p er ec >>= λy=>
  match y with
  | .box _=>pure (.inr (r,p++[.deref],e.er,e.ec))
  | .sptr z=>pure (.inl z)
  | _=>zV
 | _=>zV
theorem z9s (x:T):Snd (ptrOf x) (z9I x):=by
 cases x with
 | d a=>cases a <;> first|exact vw _|exact zw _
 | ptr r p er ec=>exact vw _
 | als r p er ec=>refine zj (zn _) λe=>zj (zbO _ _ _ _) λy=>?_;cases y <;> first|exact vw _|exact zw _
 | _=>exact zw _
def zbt:T->HM A
 | .d a=>pure a
 | .als r p er ec=>zgt r p er ec
 | _=>zV
theorem z5k (x:T):Snd (peek x) (zbt x):=by
 cases x with
 | d a=>exact vw _
 | als r p er ec=>exact zbO _ _ _ _
 | _=>exact zw _
def zl0 (tt:TT)(n:Fr)(dst:Option Nat)(t:Nat)(x:T):HM Unit:=z9I x >>= λq=>
 match q with
 | .inl y=>if Ym tt t y=true/\y.isD=true then yg (wrT n dst (.d y)) else zV
 | .inr (r,p,er,ec)=>zc2 r p er ec >>= λy=>
  if Ym tt t y=true then
   (if y.isD=true then yg (wrT n dst (.d y)) else yg (wrT n dst (.als r p er ec)))
  else zV
theorem zjX (tt:TT)(n:Fr)(dst:Option Nat)(t:Nat)(x:T):Snd (loadA tt n dst t x) (zl0 tt n dst t x):=by
 refine zj (z9s _) λq=>?_;rcases q with y|⟨r,p,er,ec⟩
 ·exact jP (zn _) (zw _)
 ·exact zj (zcV _ _ _ _) λy=>jP (jP (zn _) (zn _)) (zw _)
def zju (tt:TT)(t:Nat)(x v:T):HM Unit:=z9I x >>= λq=>
 match q with
 | .inl _=>zV
 | .inr (r,p,er,ec)=>z59 tt t v >>= λy=>yg (rdE r) >>= λe=>
  match e.t with
  | .own x0=>
   if e.er=er/\e.ec=ec then zmw p x0 >>= λy0=>if y.size=y0.size/\Ym tt t y=true then zj4 p x0 y >>= λz=>yg (wrE r ⟨.own z,e.er,e.ec+1⟩) else zV
   else zV
  | _=>zV
theorem znV (tt:TT)(t:Nat)(x v:T):Snd (storeA tt t x v) (zju tt t x v):=by
 refine zj (z9s _) λq=>?_;rcases q with y|⟨r,p,er,ec⟩
 ·exact zw _
 ·refine zj (z4j _ _ _) λy=>zj (zn _) λe=>?_;obtain⟨t',a,b⟩:=e;cases t' with
  | own x0=>
   refine jP ?_ (zw _);refine z3a (m':=ofO (vQ p x0) >>= λy0=>if y.size=y0.size/\Ym tt t y=true then wrE r ⟨.own (JN p x0 y),a,b+1⟩ else zu) ?_ ?_
   ·cases vQ p x0 with
    | none=>rfl
    | some y0=>exact(ye _ _).symm
   ·refine zj (zg3 _ _) λy0=>jP ?_ (zw _);refine z3a (m':=pure (JN p x0 y) >>= λz=>wrE r ⟨.own z,a,b+1⟩) (ye _ _).symm ?_;exact zj (zrr _ _ _) λz=>zn _
  | _=>exact zw _
def za5 (tt:TT)(n:Fr)(dst:Option Nat)(t i:Nat)(x:T):HM Unit:=z9I x >>= λq=>
 match q with
 | .inl (.agg fs)=>
  match fs[i]? with
  | some y=>if z4u tt t i fs=true then yg (wrT n dst (.d (.sptr y))) else zV
  | none=>zV
 | .inl _=>zV
 | .inr (r,p,er,ec)=>zc2 r p er ec >>= λy=>
  match y with
  | .agg fs=>if z4u tt t i fs=true/\i<fs.length then yg (wrT n dst (.ptr r (p++[.fld i]) er ec)) else zV
  | _=>zV
theorem zem (tt:TT)(n:Fr)(dst:Option Nat)(t i:Nat)(x:T):Snd (fieldAddrA tt n dst t i x) (za5 tt n dst t i x):=by
 refine zj (z9s _) λq=>?_;rcases q with y|⟨r,p,er,ec⟩
 ·cases y with
  | agg fs=>
   dsimp only
   cases fs[i]? with
   | some y=>exact jP (zn _) (zw _)
   | none=>exact zw _
  | _=>exact zw _
 ·refine zj (zcV _ _ _ _) λy=>?_;cases y with
  | agg fs=>exact jP (zn _) (zw _)
  | _=>exact zw _
def zsm (tt:TT)(n:Fr)(dst:Option Nat)(t:Nat)(sz:Nat)(xs:List A)(j:Int):HM Unit :=
 if wx tt t=some sz then XW (0<=j) (zgM xs[j.toNat]? >>= λy=>yg (wrT n dst (.d (.sptr y)))) else zV
theorem zjZ (tt:TT)(n:Fr)(dst:Option Nat)(t:Nat)(sz:Nat)(xs:List A)(j:Int) :
  Snd (if wx tt t=some sz/\0<=j then(match xs[j.toNat]? with|some y=>wrT n dst (.d (.sptr y))|none=>zu) else zu) (zsm tt n dst t sz xs j):=by
 refine z8a (λh1 h2=>⟨h1,h2⟩) ?_;refine z3a (m':=ofO xs[j.toNat]? >>= λy=>wrT n dst (.d (.sptr y))) ?_ (zj (z5l _) λy=>zn _);cases xs[j.toNat]? with
 | none=>rfl
 | some y0=>exact(ye _ _).symm
def za2 (tt:TT)(n:Fr)(dst:Option Nat)(t:Nat)(x:T)(i:A):HM Unit :=
 match i with
 | .atom (.int _ j)=>
  match x with
  | .d (.sl sz _ xs)=>zsm tt n dst t sz xs j
  | .als r p er ec=>yg (rdE r) >>= λe=>zgt r p er ec >>= λy=>
   match y with
   | .osl sz _ es=>if wx tt t=some sz then XW (0<=j/\j.toNat<es.length) (yg (wrT n dst (.ptr r (p++[.idx j.toNat]) e.er e.ec))) else zV
   | .sl sz _ xs=>zsm tt n dst t sz xs j
   | _=>zV
  | _=>zV
 | _=>zV
theorem zel (tt:TT)(n:Fr)(dst:Option Nat)(t:Nat)(x:T)(i:A):Snd (indexAddrA tt n dst t x i) (za2 tt n dst t x i):=by
 cases i with
 | atom v=>
  cases v with
  | int k j=>
   cases x with
   | d a=>
    cases a with
    | sl sz tg xs=>exact zjZ tt n dst t sz xs j
    | _=>exact zw _
   | als r p er ec=>
    refine zj (zn _) λe=>zj (zbO _ _ _ _) λy=>?_;cases y with
    | osl sz tg es=>exact z8a (λh1 h2=>⟨h1,h2.1,h2.2⟩) (zn _)
    | sl sz tg xs=>exact zjZ tt n dst t sz xs j
    | _=>exact zw _
   | _=>exact zw _
  | _=>exact zw _
 | _=>exact zw _
def z6K (tt:TT)(n:Fr)(dst:Option Nat)(t:Nat)(x:T)(i:A):HM Unit :=
 match i with
 | .atom (.int _ j)=>z9I x >>= λq=>
  match q with
  | .inl (.agg fs)=>zgM fs[j.toNat]? >>= λy=>XW (XI tt t fs j=true) (yg (wrT n dst (.d (.sptr y))))
  | .inl _=>zV
  | .inr (r,p,er,ec)=>zc2 r p er ec >>= λy=>
   match y with
   | .agg fs=>XW (XI tt t fs j=true/\j.toNat<fs.length) (yg (wrT n dst (.ptr r (p++[.fld j.toNat]) er ec)))
   | _=>zV
 | _=>zV
theorem z9u (tt:TT)(n:Fr)(dst:Option Nat)(t:Nat)(x:T)(i:A):Snd (indexArrA tt n dst t x i) (z6K tt n dst t x i):=by
 cases i with
 | atom v=>
  cases v with
  | int k j=>
   refine zj (z9s _) λq=>?_;rcases q with y|⟨r,p,er,ec⟩
   ·cases y with
    | agg fs=>
     refine z3a (m':=ofO fs[j.toNat]? >>= λy=>if XI tt t fs j=true then wrT n dst (.d (.sptr y)) else zu) ?_ (zj (z5l _) λy=>vL (zn _));dsimp only
     cases fs[j.toNat]? with
     | none=>rfl
     | some y0=>exact(ye _ _).symm
    | _=>exact zw _
   ·refine zj (zcV _ _ _ _) λy=>?_;cases y with
    | agg fs=>exact vL (zn _)
    | _=>exact zw _
  | _=>exact zw _
 | _=>exact zw _
def z8U (tt:TT)(n:Fr)(dst:Option Nat)(t:Nat)(s x:T):HM Unit :=
 match tt t with
 | some ⟨.slice e,_,_,_,_⟩=>
  match tt e with
  | some i=>zbt x >>= λy=>
   match y with
   | .sl sz _ ys|.osl sz _ ys=>
    if sz=i.size/\i.bytes<=4096/\0<i.size/\i.zero.isSome=true then XW (A.areD ys=true) (z59 tt t s >>= λz=>
     match z with
     | .osl sz' tg es=>if sz'=i.size then XW (es.length+ys.length<=lim) (eqL (es++ys) >>= λzs=>yg (wrT n dst (.own (.osl sz' false zs)))) else zV
     | .sl sz' tg es=>if sz'=i.size/\tg=true then XW (es.length+ys.length<=lim/\ys≠[]/\A.areD es=true) (eqL (es++ys) >>= λzs=>yg (wrT n dst (.own (.osl sz' false zs)))) else zV
     | _=>zV)
    else zV
   | _=>zV
  | none=>zV
 | _=>zV
theorem zep (tt:TT)(n:Fr)(dst:Option Nat)(t:Nat)(s:T)(i:TI)(sz:Nat)(ys:List A) :
    Snd (if sz=i.size/\A.areD ys=true/\i.bytes<=4096/\0<i.size/\i.zero.isSome=true then do
          let z <-takeC tt t s;match z with
          | .osl sz' tg es=>if sz'=i.size/\es.length+ys.length<=lim then wrT n dst (.own (.osl sz' false (es++ys))) else zu
          | .sl sz' tg es=>if sz'=i.size/\es.length+ys.length<=lim/\tg=true/\ys≠[]/\A.areD es=true then wrT n dst (.own (.osl sz' false (es++ys))) else zu
          | _=>zu
        else zu)
      (if sz=i.size/\i.bytes<=4096/\0<i.size/\i.zero.isSome=true then XW (A.areD ys=true) (z59 tt t s >>= λz=>
          match z with
          | .osl sz' tg es=>if sz'=i.size then XW (es.length+ys.length<=lim) (eqL (es++ys) >>= λzs=>yg (wrT n dst (.own (.osl sz' false zs)))) else zV
          | .sl sz' tg es=>if sz'=i.size/\tg=true then XW (es.length+ys.length<=lim/\ys≠[]/\A.areD es=true) (eqL (es++ys) >>= λzs=>yg (wrT n dst (.own (.osl sz' false zs)))) else zV
          | _=>zV)
        else zV):=by
  refine z8a (λh1 h2=>⟨h1.1,h2,h1.2⟩) (zj (z4j _ _ _) λz=>?_);cases z with
  | osl sz' tg es=>refine z8a (λh1 h2=>⟨h1,h2⟩) ?_;exact z3a (ye (es++ys) λzs=>wrT n dst (.own (.osl sz' false zs))).symm (zj (ziv _) λ_=>zn _)
  | sl sz' tg es=>refine z8a (λh1 h2=>⟨h1.1,h2.1,h1.2,h2.2⟩) ?_;exact z3a (ye (es++ys) λzs=>wrT n dst (.own (.osl sz' false zs))).symm (zj (ziv _) λ_=>zn _)
  | _=>exact zw _
theorem zeo (tt:TT)(n:Fr)(dst:Option Nat)(t:Nat)(s x:T):Snd (appendA tt n dst t s x) (z8U tt n dst t s x):=by
 unfold appendA z8U;generalize tt t=q;rcases q with _|⟨k,a1,a2,a3,a4⟩
 ·exact zw _
 ·cases k with
  | slice e=>
   dsimp only
   generalize tt e=q;cases q with
   | none=>exact zw _
   | some i=>
    refine zj (z5k _) λy=>?_;cases y with
    | sl sz _ ys=>exact zep tt n dst t s _ sz ys
    | osl sz _ ys=>exact zep tt n dst t s _ sz ys
    | _=>exact zw _
  | _=>exact zw _
def z4y (tt:TT)(n:Fr)(dst:Option Nat)(t:Nat)(s x:Operand):HM Unit :=
 match tt t with
 | some ⟨.slice e,_,_,_,_⟩=>
  match tt e with
  | some i=>
   if i.bytes<=4096/\0<i.size/\i.zero.isSome=true then yg (opnd x) >>= λtx=>zfQ tx >>= λy=>yg (opnd s) >>= λts=>z59 tt t ts >>= λz=>
    match y,z with
    | .osl sz _ ys,.osl sz' tg es=>if sz=i.size/\sz'=i.size/\A.plains ys=true then XW (es.length+ys.length<=lim) (eqL (es++ys) >>= λzs=>yg (wrT n dst (.own (.osl sz' false zs)))) else zV
    | _,_=>zV
   else zV
  | none=>zV
 | _=>zV
theorem zen (tt:TT)(n:Fr)(dst:Option Nat)(t:Nat)(s x:Operand):Snd (appendOwnA tt n dst t s x) (z4y tt n dst t s x):=by
 unfold appendOwnA z4y;generalize tt t=q;rcases q with _|⟨k,a1,a2,a3,a4⟩
 ·exact zw _
 ·cases k with
  | slice e=>
   dsimp only
   generalize tt e=q;cases q with
   | none=>exact zw _
   | some i=>
    refine jP (zj (zn _) λtx=>zj (zbM _) λy=>zj (zn _) λts=>zj (z4j _ _ _) λz=>?_) (zw _);cases y with
    | osl sz tg' ys=>
     cases z with
     | osl sz' tg es=>refine z8a (λh1 h2=>⟨h1.1,h1.2.1,h1.2.2,h2⟩) ?_;exact z3a (ye (es++ys) λzs=>wrT n dst (.own (.osl sz' false zs))).symm (zj (ziv _) λ_=>zn _)
     | _=>exact zw _
    | _=>exact zw _
  | _=>exact zw _
def zbK (tt:TT)(t:Nat):T->HM A
 | .d (.tup _)=>zV
 | .d a=>pure (Jq tt t a).shut
 | .als r p er ec=>zgt r p er ec >>= λy=>
  if y.isD=true then pure y else z3w y >>= λys=>yg (rdE r) >>= λe=>
    match e.t with
    | .own x=>
     if p=[] then yg (wrE r ⟨.d ys,e.er,e.ec+1⟩) >>= λ_=>pure ys
     else zj4 p x ys >>= λz=>yg (wrE r ⟨.own z,e.er,e.ec+1⟩) >>= λ_=>pure ys
    | _=>zV
 | _=>zV
theorem zrq (y:A){f:A->SM α}{g:A->HM α}(h:Snd (f y.shut) (g y.shut)):Snd (if y.live=true then f y.shut else zu) (z3w y >>= g):=by intro st hs b R U hs' ob e ho;obtain⟨a,R1,U1,hs1,ob1,R2,U2,ob2,e1,e2,rfl,rfl,rfl⟩:=z2L e;obtain⟨o1,o2⟩:=xw ho;obtain⟨q1,rfl,rfl,rfl⟩:=z9r y e1 o1;rw[if_pos q1];exact h _ _ _ _ _ _ _ e2 o2
theorem z2t (tt:TT)(t:Nat)(x:T):Snd (shutT tt t x) (zbK tt t x):=by
 cases x with
 | d a=>cases a <;> first|exact zw _|exact vw _
 | als r p er ec=>
  refine zj (zbO _ _ _ _) λy=>jP (vw _) ?_;refine zrq y (f:=λys=>do
    let e <-rdE r;match e.t with
    | .own x=>
     if p=[] then do
      wrE r ⟨.d ys,e.er,e.ec+1⟩
      pure ys
     else do
      wrE r ⟨.own (JN p x ys),e.er,e.ec+1⟩
      pure ys
    | _=>zu) ?_
  refine zj (zn _) λe=>?_;obtain⟨t',a,b⟩:=e;cases t' with
  | own x=>refine jP (zj (zn _) λ_=>vw _) ?_;refine z3a (m':=pure (JN p x y.shut) >>= λz=>wrE r ⟨.own z,a,b+1⟩ >>= λ_=>pure y.shut) (ye _ _).symm ?_;exact zj (zrr _ _ _) λz=>zj (zn _) λ_=>vw _
  | _=>exact zw _
 | _=>exact zw _
def Ya (tt:TT):List (Operand×Nat)->HM (List A)
 | []=>pure []
 |(x,t)::as_=>yg (opnd x) >>= λy=>zbK tt t y >>= λa=>Ya tt as_ >>= λbs=>pure (a::bs)
theorem XR (tt:TT):∀as_,Snd (shutArgs tt as_) (Ya tt as_)
 | []=>vw _
 |(x,t)::as_=>zj (zn _) λy=>zj (z2t _ _ _) λa=>zj (XR tt as_) λbs=>vw _
def z9O (tt:TT):List (Bool×Operand×Nat)->HM (List A)
 | []=>pure []
 |(g,x,t)::as_=>yg (opnd x) >>= λy=>(if g=true then z59 tt t y else zbK tt t y) >>= λa=>z9O tt as_ >>= λbs=>pure (a::bs)
theorem zbN (tt:TT):∀as_,Snd (passArgs tt as_) (z9O tt as_)
 | []=>vw _
 |(g,x,t)::as_=>zj (zn _) λy=>zj (jP (z4j _ _ _) (z2t _ _ _)) λa=>zj (zbN tt as_) λbs=>vw _
def zlY (tt:TT)(ctr:Ctr)(n:Fr)(dst:Option Nat)(f:A)(as_:List (Operand×Nat)):HM Unit :=
 match f with
 | .fn k caps=>zvV >>= λgs=>XW (ctr.lend k=none/\ctr.gives k=gs) (
  if gs.isEmpty=true then zlt (Ya tt as_) >>= λxs=>zgM (ctr.run k (ctr.norm k (xs++caps))) >>= λr=>
    if r.flat=true then yg (wrT n dst (.d r))
    else Ya tt as_ >>= λ_=>yg (wrT n dst (mkT r))
  else if gs.length=as_.length then z9O tt (gs.zip as_) >>= λxs=>zgM (ctr.run k (ctr.norm k (xs++caps))) >>= λr=>yg (wrT n dst (mkT r))
  else zV)
 | _=>zV
theorem zrz (tt:TT)(ctr:Ctr)(n:Fr)(dst:Option Nat)(f:A)(as_:List (Operand×Nat)):Snd (callA tt ctr n dst f as_) (zlY tt ctr n dst f as_):=by
 cases f with
 | fn k caps=>
  intro st hs b R U hs' ob e ho;unfold zlY at e;obtain⟨gs,R1,U1,hs1,ob1,R2,U2,ob2,e1,e2,rfl,rfl,rfl⟩:=z2L e;obtain⟨o1,o2⟩:=xw ho;have hh:R1=[]/\U1=[]:=by
   unfold zvV at e1;split at e1
   ·simp only[Option.some.injEq,Prod.mk.injEq]at e1;exact⟨e1.2.1.symm,e1.2.2.1.symm⟩
   ·cases e1
  obtain⟨rfl,rfl⟩:=hh;obtain⟨⟨q1,q2⟩,ob',e3,o3⟩:=zd9 e2 o2;subst q2;simp only[callA,q1];revert e3;have main:∀{h:HM Unit} {m:SM Unit},Snd m h->h (zh [] st) hs1=some (b,R2,U2,hs',ob')->m st=some (b,[]++R2,[]++U2):=λhs e=>hs _ _ _ _ _ _ _ e o3;intro e3;refine main ?_ e3;refine jP ?_ (jP ?_ (zw _))
  ·refine zj (zry (XR _ _)) λxs=>?_;refine z3a (m':=ofO (ctr.run k (ctr.norm k (xs++caps))) >>= λr=>if r.flat=true then wrT n dst (.d r) else shutArgs tt as_ >>= λ_=>wrT n dst (mkT r)) ?_ (zj (z5l _) λr=>jP (zn _) (zj (XR _ _) λ_=>zn _));cases ctr.run k (ctr.norm k (xs++caps)) with
   | none=>rfl
   | some r=>exact(ye _ _).symm
  ·refine zj (zbN _ _) λxs=>?_;refine z3a (m':=ofO (ctr.run k (ctr.norm k (xs++caps))) >>= λr=>wrT n dst (mkT r)) ?_ (zj (z5l _) λr=>zn _);cases ctr.run k (ctr.norm k (xs++caps)) with
   | none=>rfl
   | some r=>exact(ye _ _).symm
 | _=>exact zw _
def zgW:List (Operand×Nat)->TT->HM (List A)
 | [],_=>pure []
 |(x,t)::ps,tt=>yg (opnd x) >>= λy=>z59 tt t y >>= λa=>zgW ps tt >>= λbs=>pure (a::bs)
theorem zg1 (tt:TT):∀ps,Snd (takes ps tt) (zgW ps tt)
 | []=>vw _
 |(x,t)::ps=>zj (zn _) λy=>zj (z4j _ _ _) λa=>zj (zg1 tt ps) λbs=>vw _
def zwe (tt:TT)(n:Fr)(dst:Option Nat)(op:BinOp)(xt:Nat)(vx vy:A):HM Unit :=
 match op with
 | .quo|.rem=>
  match vx,vy with
  | .atom (.int k a),.atom (.int k' b)=>if k=k' then XW (b≠0) (yg (wrT n dst (.d (.atom (.int k (match op with|.quo=>k.wrap (a.tdiv b)|_=>a.tmod b)))))) else zV
  | _,_=>zV
 | _=>yg (ofO (zqx tt op xt vx vy) >>= λr=>wrT n dst (.d r))
theorem zv7 (tt:TT)(n:Fr)(dst:Option Nat)(op:BinOp)(xt:Nat)(vx vy:A):Snd (ofO (zqx tt op xt vx vy) >>= λr=>wrT n dst (.d r)) (zwe tt n dst op xt vx vy):=by
 have main:∀op,op=.quo\/op=.rem->Snd (ofO (zqx tt op xt vx vy) >>= λr=>wrT n dst (.d r)) (match vx,vy with
  | .atom (.int k a),.atom (.int k' b)=>if k=k' then XW (b≠0) (yg (wrT n dst (.d (.atom (.int k (match op with|.quo=>k.wrap (a.tdiv b)|_=>a.tmod b)))))) else zV
  | _,_=>zV):=by
  intro op hop;cases vx with
  | atom v=>
   cases v with
   | int k a=>
    cases vy with
    | atom u=>
     cases u with
     | int k' b=>
      dsimp only
      by_cases hk:k=k'
      ·rw[if_pos hk];refine z6D λhb=>?_;refine z3a ?_ (zn _);rcases hop with rfl|rfl <;> simp only[zqx,if_pos hk,zll,if_neg hb] <;> exact ye _ _
      ·rw[if_neg hk];exact zw _
     | _=>exact zw _
    | _=>exact zw _
   | _=>exact zw _
  | _=>exact zw _
 cases op with
 | quo=>exact main _ (.inl rfl)
 | rem=>exact main _ (.inr rfl)
 | _=>exact zn _
def zvi (n:Fr)(dst:Option Nat)(c x y:Operand):HM Unit:=yg (opnd c) >>= λtc=>z4f tc >>= λvc=>
 match vc with
 | .atom (.bool b)=>zwh b >>= λb=>match b with|true=>yg (opnd x >>= λt=>wrT n dst t)|false=>yg (opnd y >>= λt=>wrT n dst t)
 | _=>zV
theorem zv2 (n:Fr)(dst:Option Nat)(c x y:Operand):Snd (zge n dst c x y) (zvi n dst c x y):=by
 refine zj (zn _) λtc=>zj (W1 _) λvc=>?_;cases vc with
 | atom v=>
  cases v with
  | bool b=>
   refine z3a (m':=pure b >>= λb=>match b with|true=>(opnd x >>= λt=>wrT n dst t)|false=>(opnd y >>= λt=>wrT n dst t)) ?_ (zj (zk0 _) λb=>?_)
   ·rw[ye];cases b <;> rfl
   ·cases b <;> exact zn _
  | _=>exact zw _
 | _=>exact zw _
def zeO (n:Fr)(dst:Option Nat)(x:Operand):HM Unit:=yg (opnd x) >>= λy=>
 match y with
 | .d (.fn f cs)=>yg (wrT n dst (.d (.fn f cs)))
 | y=>z9I y >>= λq=>
  match q with
  | .inl _=>yg (wrT n dst y)
  | .inr (r,p,er,ec)=>zc2 r p er ec >>= λ_=>yg (wrT n dst y)
theorem ziu (n:Fr)(dst:Option Nat)(x:Operand):Snd (nilCheckO n dst x) (zeO n dst x):=by
 refine zj (zn _) λy=>?_;have main:∀y:T,Snd (ptrOf y >>= λq=>match q with
  | .inl _=>wrT n dst y
  | .inr (r,p,er,ec)=>lookP r p er ec >>= λ_=>wrT n dst y) (z9I y >>= λq=>
  match q with
  | .inl _=>yg (wrT n dst y)
  | .inr (r,p,er,ec)=>zc2 r p er ec >>= λ_=>yg (wrT n dst y)):=by
  intro y;refine zj (z9s _) λq=>?_;rcases q with z|⟨r,p,er,ec⟩
  ·exact zn _
  ·exact zj (zcV _ _ _ _) λ_=>zn _
 cases y with
 | d a=>
  cases a with
  | fn f cs=>exact zn _
  | _=>exact main _
 | _=>exact main _
def zae (dflt:Nat):Option Operand->HM Nat
 | none=>pure dflt
 | some x=>yg (opnd x) >>= λt=>z4f t >>= λv=>
  match v with
  | .atom (.int _ j)=>XW (0<=j) (pure j.toNat)
  | _=>zV
theorem z6E (dflt:Nat)(x:Option Operand):Snd (bound dflt x) (zae dflt x):=by
 cases x with
 | none=>exact vw _
 | some x=>
  refine zj (zn _) λt=>zj (W1 _) λv=>?_;cases v with
  | atom v=>
   cases v with
   | int k j=>exact vL (vw _)
   | _=>exact zw _
  | _=>exact zw _
def zpS (tt:TT)(n:Fr)(dst:Option Nat)(t:Nat)(x:Operand)(lo hi mx:Option Operand):HM Unit:=yg (opnd x) >>= λy=>
 match y with
 | .d (.sl sz tg xs)=>
  if wx tt t=some sz then zae 0 lo >>= λl=>zae xs.length hi >>= λh=>
   match mx with
   | none=>XW (l<=h/\h<=xs.length) (eqA (.sl sz (tg&&h==xs.length) ((xs.drop l).take (h - l))) >>= λz=>yg (wrT n dst (.d z)))
   | some _=>zae 0 mx >>= λm=>if hi.isSome=true then XW (l<=h/\h<=m/\m<=xs.length) (eqA (.sl sz (m==h) ((xs.drop l).take (h - l))) >>= λz=>yg (wrT n dst (.d z))) else zV
  else zV
 | _=>zV
theorem zrp (tt:TT)(n:Fr)(dst:Option Nat)(t:Nat)(x:Operand)(lo hi mx:Option Operand):Snd (sliceO tt n dst t x lo hi mx) (zpS tt n dst t x lo hi mx):=by
 refine zj (zn _) λy=>?_;cases y with
 | d a=>
  cases a with
  | sl sz tg xs=>
   refine jP (zj (z6E _ _) λl=>zj (z6E _ _) λh=>?_) (zw _);cases mx with
   | none=>refine vL ?_;exact z3a (ye _ λz=>wrT n dst (.d z)).symm (zj (zbo _) λ_=>zn _)
   | some m=>refine zj (z6E _ _) λm=>z8a (λh1 h2=>⟨h2.1,h2.2.1,h2.2.2,h1⟩) ?_;exact z3a (ye _ λz=>wrT n dst (.d z)).symm (zj (zbo _) λ_=>zn _)
  | _=>exact zw _
 | _=>exact zw _
def z6I (tt:TT)(n:Fr)(dst:Option Nat)(t:Nat)(l c:Operand):HM Unit:=yg (opnd l) >>= λtl=>z4f tl >>= λvl=>yg (opnd c) >>= λtc=>z4f tc >>= λvc=>
 match vl,vc with
 | .atom (.int _ x),.atom (.int _ y)=>
  match tt t with
  | some ⟨.slice e,_,_,_,_⟩=>
   match tt e with
   | some i=>
    match i.zero with
    | some z=>if i.bytes<=4096 then XW (0<=x/\x<=y/\y<=lim) (eqA (.osl i.size (decide (x=y)) (List.replicate x.toNat z)) >>= λr=>yg (wrT n dst (.own r))) else zV
    | none=>zV
   | none=>zV
  | _=>zV
 | _,_=>zV
theorem z9t (tt:TT)(n:Fr)(dst:Option Nat)(t:Nat)(l c:Operand):Snd (XX tt n dst t l c) (z6I tt n dst t l c):=by
 refine zj (zn _) λtl=>zj (W1 _) λvl=>zj (zn _) λtc=>zj (W1 _) λvc=>?_;cases vl with
 | atom v=>
  cases v with
  | int k x=>
   cases vc with
   | atom u=>
    cases u with
    | int k' y=>
     dsimp only
     generalize tt t=q;rcases q with _|⟨k,a1,a2,a3,a4⟩
     ·exact zw _
     ·cases k with
      | slice e=>
       dsimp only
       generalize tt e=q;cases q with
       | none=>exact zw _
       | some i=>
        dsimp only
        cases i.zero with
        | none=>exact zw _
        | some z=>refine z8a (λh1 h2=>⟨h2.1,h2.2.1,h2.2.2,h1⟩) ?_;exact z3a (ye _ λz=>wrT n dst (.own z)).symm (zj (zbo _) λ_=>zn _)
      | _=>exact zw _
    | _=>exact zw _
   | _=>exact zw _
  | _=>exact zw _
 | _=>exact zw _
def JA (tt:TT)(n:Fr)(dst:Option Nat)(t len:Nat)(ps:List (Nat×Operand)):HM Unit :=
 match tt t with
 | some ⟨.slice e,_,_,_,_⟩=>
  match tt e with
  | some i=>
   match i.zero with
   | some z=>zgW (ps.map λp=>(p.2,e)) tt >>= λxs=>
    if z9Q (List.replicate len z) ((ps.map (·.1)).zip xs)=true/\len*i.size<=16777216/\len<=lim then
     yg (wrT n dst (.own (.osl i.size true (z5i (List.replicate len z) ((ps.map (·.1)).zip xs)))))
    else zV
   | none=>zV
  | none=>zV
 | _=>zV
theorem z2u (tt:TT)(n:Fr)(dst:Option Nat)(t len:Nat)(ps:List (Nat×Operand)):Snd (qZ tt n dst t len ps) (JA tt n dst t len ps):=by
 unfold qZ JA;generalize tt t=q;rcases q with _|⟨k,a1,a2,a3,a4⟩
 ·exact zw _
 ·cases k with
  | slice e=>
   dsimp only
   generalize tt e=q;cases q with
   | none=>exact zw _
   | some i=>
    dsimp only
    cases i.zero with
    | none=>exact zw _
    | some z=>exact zj (zg1 _ _) λxs=>jP (zn _) (zw _)
  | _=>exact zw _
def zlZ (tt:TT)(n:Fr)(dst:Option Nat)(t:Nat)(ps:List (Nat×Operand)):HM Unit :=
 match tt t with
 | some i=>
  match i.zero with
  | some (.agg zs)=>zgW (ps.map λp=>(p.2,0)) tt >>= λxs=>
   if z9Q zs ((ps.map (·.1)).zip xs)=true/\zhl tt t zs ((ps.map (·.1)).zip xs)=true/\i.kind.isAgg=true/\((Jm tt t 0).isSome=true\/z9Y i.kind=true) then
    yg (wrT n dst (mkT (.agg (z5i zs ((ps.map (·.1)).zip xs)))))
   else zV
  | _=>zV
 | none=>zV
theorem zrA (tt:TT)(n:Fr)(dst:Option Nat)(t:Nat)(ps:List (Nat×Operand)):Snd (z7S tt n dst t ps) (zlZ tt n dst t ps):=by
 unfold z7S zlZ;generalize tt t=q;cases q with
 | none=>exact zw _
 | some i=>
  dsimp only
  cases i.zero with
  | none=>exact zw _
  | some z=>
   cases z with
   | agg zs=>exact zj (zg1 _ _) λxs=>jP (zn _) (zw _)
   | _=>exact zw _
def zef (tt:TT)(ctr:Ctr)(n:Fr)(o:Oper):HM Unit :=
 match o.op with
 | .assign x=>yg (opnd x) >>= λy=>
  match y with
  | .ptr r p er ec=>yg (wrT n o.dst (.ptr r p er ec))
  | y=>z59 tt o.type y >>= λz=>yg (wrT n o.dst (mkT z))
 | .binOp op xt x y _=>yg (opnd x) >>= λtx=>z4f tx >>= λvx=>yg (opnd y) >>= λty=>z4f ty >>= λvy=>zwe tt n o.dst op xt vx vy
 | .unOp op _ x=>yg (opnd x) >>= λt=>z4f t >>= λy=>yg (ofO (unA op y) >>= λr=>wrT n o.dst (.d r))
 | .convert s t x=>yg (opnd x) >>= λy=>z4f y >>= λv=>
  match v with
  | .atom (.int _ m)=>
   match tt s with
   | some _=>
    match tt t with
    | some ⟨.int k,_,_,_,_⟩=>yg (wrT n o.dst (.d (.atom (.int k (k.wrap m)))))
    | _=>zV
   | none=>zV
  | _=>zV
 | .pick c x y=>zvi n o.dst c x y
 | .nilCheck x=>zeO n o.dst x
 | .slice t x lo hi mx=>zpS tt n o.dst t x lo hi mx
 | .load t x=>yg (opnd x) >>= λy=>zl0 tt n o.dst t y
 | .store t x v=>if o.dst=none then yg (opnd x) >>= λy=>yg (opnd v) >>= λz=>zju tt t y z else zV
 | .fieldAddr t x i=>yg (opnd x) >>= λy=>za5 tt n o.dst t i y
 | .indexAddr t x i=>yg (opnd x) >>= λy=>yg (opnd i) >>= λti=>z4f ti >>= λvi=>if(zft tt t).isSome=true then z6K tt n o.dst t y vi else za2 tt n o.dst t y vi
 | .box t x=>yg (opnd x) >>= λy=>z59 tt t y >>= λz=>
  match z with
  | .tup _=>zV
  | z=>if z.isAgg=true\/z.size=1 then yg (wrT n o.dst (.own (.box z))) else zV
 | .makeSlice t l c=>z6I tt n o.dst t l c
 | .buildSlice t len ps=>JA tt n o.dst t len ps.toList
 | .build t ps=>zlZ tt n o.dst t ps.toList
 | .makeFunc (.func f) ⟨[]⟩ caps=>Ya tt (caps.toList.map λx=>(x,0)) >>= λxs=>if xs.all z6H=true then yg (wrT n o.dst (.d (.fn f xs))) else zV
 | .call ⟨.builtin .len,⟨[x]⟩,⟨[t]⟩⟩=>yg (opnd x) >>= λy=>zbt y >>= λz=>yg (ofO (lenOf z)) >>= λm=>if jF tt t=true then eqA (.atom (.int .i64 m)) >>= λr=>yg (wrT n o.dst (.d r)) else zV
 | .call ⟨.builtin .cap,⟨[x]⟩,⟨[t]⟩⟩=>yg (opnd x) >>= λy=>zbt y >>= λz=>yg (ofO (zlU z)) >>= λm=>if jF tt t=true then eqA (.atom (.int .i64 m)) >>= λr=>yg (wrT n o.dst (.d r)) else zV
 | .call ⟨.builtin .append,⟨[s,x]⟩,⟨[t,t']⟩⟩=>if t=t' then yg (opnd s) >>= λts=>yg (opnd x) >>= λtx=>zbt tx >>= λy=>
   match y with
   | .osl _ _ ys=>zwh (A.areD ys) >>= λb=>match b with|true=>z8U tt n o.dst t ts tx|false=>z4y tt n o.dst t s x
   | _=>z8U tt n o.dst t ts tx
  else zV
 | .call ⟨.value f,args,tys⟩=>if args.size=tys.size then yg (opnd f) >>= λtf=>z4f tf >>= λvf=>zlY tt ctr n o.dst vf (args.toList.zip tys.toList) else zV
 | _=>yg (stepO tt ctr n o)
theorem zv6 (tt:TT)(n:Fr)(dst:Option Nat)(s t:Nat)(v:A):Snd (match v with
  | .atom (.int _ m)=>
   match tt s with
   | some _=>
    match tt t with
    | some ⟨.int k,_,_,_,_⟩=>wrT n dst (.d (.atom (.int k (k.wrap m))))
    | _=>zu
   | none=>zu
  | _=>zu:SM Unit) (match v with
  | .atom (.int _ m)=>
   match tt s with
   | some _=>
    match tt t with
    | some ⟨.int k,_,_,_,_⟩=>yg (wrT n dst (.d (.atom (.int k (k.wrap m)))))
    | _=>zV
   | none=>zV
  | _=>zV):=by
 cases v with
 | atom u=>
  cases u with
  | int k m=>
   dsimp only
   generalize tt s=q;cases q with
   | none=>exact zw _
   | some _=>
    dsimp only
    generalize tt t=q;rcases q with _|⟨k,a1,a2,a3,a4⟩
    ·exact zw _
    ·cases k <;> first|exact zn _|exact zw _
  | _=>exact zw _
 | _=>exact zw _
theorem zg2 (tt:TT)(ctr:Ctr)(n:Fr)(o:Oper):Snd (stepO tt ctr n o) (zef tt ctr n o):=by
 unfold stepO zef;cases ho:o.op with
 | move x=>exact sdLift' ho
 | assign x=>
  refine zj (zn _) λy=>?_;cases y with
  | ptr r p er ec=>exact zn _
  | _=>exact zj (z4j _ _ _) λz=>zn _
 | binOp op xt x y yt=>exact zj (zn _) λtx=>zj (W1 _) λvx=>zj (zn _) λty=>zj (W1 _) λvy=>zv7 _ _ _ _ _ _ _
 | unOp op xt x=>exact zj (zn _) λt=>zj (W1 _) λy=>zn _
 | convert s t x=>exact zj (zn _) λy=>zj (W1 _) λv=>zv6 _ _ _ _ _ _
 | pick c x y=>exact zv2 _ _ _ _ _
 | extract x i=>exact sdLift' ho
 | nilCheck x=>exact ziu _ _ _
 | slice t x lo hi mx=>exact zrp _ _ _ _ _ _ _ _
 | load t x=>exact zj (zn _) λy=>zjX _ _ _ _ _
 | store t x v=>exact jP (zj (zn _) λy=>zj (zn _) λz=>znV _ _ _ _) (zw _)
 | fieldAddr t x i=>exact zj (zn _) λy=>zem _ _ _ _ _ _
 | indexAddr t x i=>exact zj (zn _) λy=>zj (zn _) λti=>zj (W1 _) λvi=>jP (z9u _ _ _ _ _ _) (zel _ _ _ _ _ _)
 | alloc t=>exact sdLift' ho
 | box t x=>refine zj (zn _) λy=>zj (z4j _ _ _) λz=>?_;cases z <;> first|exact zw _|exact jP (zn _) (zw _)
 | makeSlice t l c=>exact z9t _ _ _ _ _ _
 | buildSlice t len ps=>exact z2u _ _ _ _ _ _
 | build t ps=>exact zrA _ _ _ _ _
 | makeFunc fn first caps=>
  cases fn with
  | func f=>
   obtain⟨l⟩:=first;cases l with
   | nil=>exact zj (XR _ _) λxs=>jP (zn _) (zw _)
   | cons _ _=>exact sdLift' ho
  | _=>exact sdLift' ho
 | call c=>
  obtain⟨callee,⟨args⟩,⟨tys⟩⟩:=c;cases callee with
  | value f=>exact jP (zj (zn _) λtf=>zj (W1 _) λvf=>zrz _ _ _ _ _ _) (zw _)
  | invoke r m=>exact sdLift' ho
  | builtin b=>
   cases b with
   | len=>rcases args with _|⟨x,_|⟨y,l⟩⟩ <;> rcases tys with _|⟨t,_|⟨t',l'⟩⟩ <;> first|exact sdLift' ho|exact zj (zn _) λy=>zj (z5k _) λz=>zj (zn _) λm=>jP (z3a (ye _ λr=>wrT n o.dst (.d r)).symm (zj (zbo _) λr=>zn _)) (zw _)
   | cap=>rcases args with _|⟨x,_|⟨y,l⟩⟩ <;> rcases tys with _|⟨t,_|⟨t',l'⟩⟩ <;> first|exact sdLift' ho|exact zj (zn _) λy=>zj (z5k _) λz=>zj (zn _) λm=>jP (z3a (ye _ λr=>wrT n o.dst (.d r)).symm (zj (zbo _) λr=>zn _)) (zw _)
   | append=>
    rcases args with _|⟨x,_|⟨y,_|⟨z,l⟩⟩⟩ <;> rcases tys with _|⟨t,_|⟨t',_|⟨t'',l'⟩⟩⟩ <;> first|exact sdLift' ho|skip
    refine jP (zj (zn _) λts=>zj (zn _) λtx=>zj (z5k _) λw=>?_) (zw _);cases w with
    | osl sz tg ys=>
     dsimp only
     refine z3a (m':=pure (A.areD ys) >>= λb=>match b with|true=>appendA tt n o.dst t ts tx|false=>appendOwnA tt n o.dst t x y) ?_ (zj (zk0 _) λb=>?_)
     ·rw[ye];cases A.areD ys <;> rfl
     ·cases b
      ·exact zen _ _ _ _ _ _
      ·exact zeo _ _ _ _ _ _
    | _=>exact zeo _ _ _ _ _ _
   | _=>exact sdLift' ho
 | _=>exact sdLift' ho
where sdLift' {op:Op} {tt:TT} {ctr:Ctr} {n:Fr} {o:Oper} {m:SM Unit} (ho:o.op=op) (e:stepO tt ctr n o=m:=by first|rfl|(unfold stepO;simp only[ho])):Snd m (yg (stepO tt ctr n o)):=e ▸ zn _
def zzA (mx:Bool):A->A->Option A
 | .atom (.int k a),.atom (.int k' b)=>if k=k' then some (.atom (.int k (if mx=true then(if a<b then b else a) else(if b<a then b else a)))) else none
 | _,_=>none
def minO (n:Fr)(dst:Option Nat)(mx:Bool)(x y:Operand):SM Unit:=do
 let tx <-opnd x;let vx <-val tx;let ty <-opnd y;let vy <-val ty;let r <-ofO (zzA mx vx vy)
 wrT n dst (.d r)
def cutO (tt:TT)(n:Fr)(dst:Option Nat)(t:Nat)(x hi:Operand):SM Unit:=do
 let y <-opnd x;let z <-take y;match z with
 | .osl sz _ es=>
  if wx tt t=some sz then(bound es.length (some hi) >>= λh=>if h<=es.length then wrT n dst (.own (.osl sz false (es.take h))) else zu)
  else zu
 | _=>zu
variable {P:Program}{u:Unit}{S:zo}{tt:TT}{o:Oper}{xs:List A}{x y:Operand}
section
variable {C:Ctx}{S:zo}{Fp:Nat->List Nat}{X:List Nat}{st:St}{a:Act}{w:World}
theorem zqe (h:Sim C S Fp [] st a w)  {mx:Bool}{x y:Operand}{t1 t2:Nat}(ho:o.op=.call ⟨.builtin (if mx=true then .max else .min),⟨[x,y]⟩,⟨[t1,t2]⟩⟩)    (e:minO C.n o.dst mx x y st=some (u,R,U)):qO P C o a w (zh U st):=by
 unfold minO at e;obtain⟨tx,R1,U1,R2,U2,h1,e1,rfl,rfl⟩:=bind_some e;obtain⟨rfl,hx⟩:=zK h h1;obtain⟨vx,R3,U3,R4,U4,h3,e2,rfl,rfl⟩:=bind_some e1;obtain⟨rfl,qx⟩:=jD h hx h3;simp only[zh,p9]at e2 ⊢;obtain⟨ty,R5,U5,R6,U6,h5,e3,rfl,rfl⟩:=bind_some e2;obtain⟨rfl,hy⟩:=zK h h5;obtain⟨vy,R7,U7,R8,U8,h7,e4,rfl,rfl⟩:=bind_some e3;obtain⟨rfl,qy⟩:=jD h hy h7;simp only[zh,p9]at e4 ⊢;obtain⟨r,R9,U9,R10,U10,h9,e5,rfl,rfl⟩:=bind_some e4;obtain⟨hr,rfl,rfl⟩:=kQ h9;simp only[zh,p9]at e5 ⊢;unfold zzA at hr;split at hr
 ·split at hr
  ·rename_i hk;simp only[Option.some.injEq]at hr;subst hr hk;obtain⟨ex,_⟩:=zD.1 qx;obtain⟨ey,_⟩:=zD.1 qy;obtain⟨Fp',hs⟩:=wP h e5 (x:=.d _) (zD.2 ⟨rfl,rfl⟩);refine zr ?_ hs;cases mx
   ·simp[execOp,ho,resolve,invoke,builtin,ex,ey,Builtin.min_,Builtin.min2]
   ·simp[execOp,ho,resolve,invoke,builtin,ex,ey,Builtin.max_,Builtin.max2]
  ·cases hr
 ·cases hr
theorem zcd {h:Array Obj}  {cs:List Value}{F:List Nat}(q:zZ S h xs cs F)(k:Nat):∃F',zZ S h (xs.take k) (cs.take (A.sizes (xs.take k))) F'/\(∀b∈F',b∈F)/\(F.Nodup->F'.Nodup):=by
 induction xs generalizing cs F k with
 | nil=>simp only[zZ]at q;obtain⟨rfl,rfl⟩:=q;exact⟨[],by simp[zZ],by simp,by simp⟩
 | cons x xs ih=>
  cases k with
  | zero=>exact⟨[],by simp[zZ,A.sizes],by simp,by simp⟩
  | succ k=>
   simp only[zZ]at q;obtain⟨c1,c2,F1,F2,rfl,rfl,q1,q2⟩:=q;obtain⟨F',g1,g2,g3⟩:=ih q2 k;refine⟨F1++F',?_,?_,?_⟩
   ·simp only[ru,zZ,A.sizes];refine⟨c1,c2.take (A.sizes (xs.take k)),F1,F',?_,rfl,q1,g1⟩;rw[List.take_append,q1.len,nH (by rw[q1.len];omega)];simp
   ·intro b hb;rcases pA.1 hb with hb|hb
    ·simp[hb]
    ·simp[g2 b hb]
   ·intro hn;rw[pM]at hn ⊢;refine⟨hn.1,g3 hn.2.1,?_⟩;intro k hk k' hk';exact hn.2.2 k hk k' (g2 k' hk')
theorem zw6 {P:Program}  (hT:wy P tt)(h:Sim C S Fp [] st a w)  {t:Nat}{x hi:Operand}(ho:o.op=.slice t x none (some hi) none)    (e:cutO tt C.n o.dst t x hi st=some (u,R,U)):qO P C o a w (zh U st):=by
 unfold cutO at e;obtain⟨y,R1,U1,R2,U2,h1,e1,rfl,rfl⟩:=bind_some e;obtain⟨rfl,hx⟩:=zK h h1;simp only[zh,p9]at e1 ⊢;obtain⟨z,R3,U3,R4,U4,h3,e2,rfl,rfl⟩:=bind_some e1;obtain⟨Fp',F,g1,g2⟩:=z6z h hx h3;rw[zB];cases z with
 | osl sz tg es=>
  simp only at e2;split at e2
  ·rename_i hel;obtain⟨hh,R5,U5,R6,U6,h5,e3,rfl,rfl⟩:=bind_some e2;obtain⟨rfl,b2⟩:=z3n g1 h5;simp only[zh,p9]at e3 ⊢;split at e3
   ·rename_i hle;obtain⟨el,he,hsz⟩:=uk hT hel w;obtain⟨cs,k1,k2,k3⟩:∃cs,zU S w.heap (.osl sz tg es) cs F/\F.Nodup/\a.eval x=y8 (.osl sz tg es) cs:=by
     rcases g2 with⟨q,_⟩|q
     ·simp only[wh,qa,Rep,false_and,exists_false]at q
     ·exact q
    simp only[zU]at k1;obtain⟨p,c,rfl,t1,t2,t3,t4,t5⟩:=k1;have ev:a.eval x=.slice p es.length c:=k3;have hrun:=Vq (P:=P) (w:=w) he hsz (p:=p) (len:=es.length) (c:=c) (lo:=none) (mx:=none) (.inl ⟨rfl,rfl⟩) (z3o b2) (.inl ⟨rfl,rfl⟩) (pT _) (by omega) (pC c) (by simp);have hp:(if c=0 then p else p.map (·.add (0*sz)))=p:=by
     split
     ·rfl
     ·cases p <;> simp[Addr.add]
    rw[hp]at hrun;have hlen:(es.take hh).length=hh:=by simp;omega
    have ht4:∀x∈es.take hh,x.size=sz:=λx hx=>t4 x (gC hx);obtain⟨F2,cs2,m1,m2,m3,m4⟩:∃F2 cs2,zU S w.heap (.osl sz false (es.take hh)) cs2 F2/\F2.Nodup/\(∀k∈F2,k∈F)/\y8 (.osl sz false (es.take hh)) cs2=.slice p hh c:=by
     rcases t5 with⟨rfl,rfl,rfl,rfl⟩|⟨b,arr,ty,l,F',rfl,e1,e2,e3,e4,rfl,e5⟩
     ·have:hh=0:=by simp at hle;omega
      subst this;refine⟨[],[.slice none 0 0],?_,by simp,by simp,rfl⟩;simp only[zU];exact⟨none,0,by simp,by simp,by simp,pT _,by simp,.inl (by simp)⟩
     ·obtain⟨F3,q1,q2,q3⟩:=zcd e4 hh;have hn:=pY.1 k2;refine⟨b::F3,[.slice (some ⟨b,0,none⟩) hh c],?_,pY.2 ⟨λq=>hn.1 (q2 b q),q3 hn.2⟩,?_,rfl⟩
      ·simp only[zU];refine⟨some ⟨b,0,none⟩,c,by rw[hlen],by simp,by rw[hlen];omega,t3,ht4,.inr ⟨b,arr,ty,_,F3,rfl,e1,e2,?_,q1,rfl,e5⟩⟩;rw[<-e3,r8,A.sizes_const ht4,hlen];congr 1;have:=gF sz hle;omega
      ·intro k hk;rcases pD.1 hk with rfl|hk
       ·simp
       ·simp[q2 k hk]
    have g1':Sim C S Fp' (F2++[]) (zh U3 st) a w:=g1.mem g1.below (λ_ _ _ h=>h) g1.still.cell g1.sbase (λt' k hk=>⟨rfl,(g1.free t' k hk).2.1⟩) (by simpa using m2) (λt' k hk=>g1.xd t' k (by simp at hk ⊢;exact m3 k hk)) (λk hk=>g1.xb k (by simp at hk ⊢;exact m3 k hk));obtain⟨Fp'',hs⟩:=Kc g1' e3 m1 m2;rw[m4]at hs;refine zr ?_ hs;simp only[nG]at hrun;simp only[gH]at hrun;simp[execOp,ho,ev,hrun]
   ·exact(z7 e3).elim
  ·exact(z7 e2).elim
 | _=>exact(z7 e2).elim
end
variable {w:World}
theorem zha (hT:wy P tt){t:Nat}{y:A}(hf:Ym tt t y=true){w:World}{c1 cs c2:List Value}(hl:cs.length=y.size) :
  (part t (c1++cs++c2).toArray c1.length).run P w=.ok (y8 y cs) w:=by
 unfold Ym at hf;split at hf
 ·rename_i i hi;simp only[pJ,beq_iff_eq,mI]at hf;obtain⟨⟨h1,h2⟩,h3⟩:=hf;have hk:=z2v (hT t i hi).kind w;unfold part;simp only[Sem.run_bind,hk,Result.andThen_ok,Sem.run_ite];by_cases ha:i.kind.isAgg=true
  ·rw[if_pos ha];rw[h1]at ha;cases y <;> simp[A.isAgg]at ha;simp only[YF hT hi,Result.andThen_ok,h2,<-hl,Sem.run_pure,y8];congr 2;simp[List.extract_eq_take_drop]
  ·rw[if_neg ha];have h4:i.size=1:=by simpa[ha] using h3
   have hlen:cs.length=1:=by omega
   obtain⟨c,rfl⟩:=mG.1 hlen;rw[h1]at ha;have:((c1++[c]++c2).toArray)[c1.length]?=some c:=by simp
   rw[this];cases y <;> simp_all [A.isAgg,y8]
 ·cases hf
def zqz (tt:TT)(t:Nat):Option (Nat×Nat) :=
 match tt t with
 | some ⟨.array n e,_,_,_,_⟩=>some (n,e)
 | _=>none
def indexO (tt:TT)(n:Fr)(dst:Option Nat)(t:Nat)(x i:Operand):SM Unit:=do
 let tx <-opnd x;let vx <-val tx;let ti <-opnd i;let vi <-val ti;match vx,vi with
 | .agg fs,.atom (.int _ j)=>
  match zqz tt t with
  | some (m,e)=>match fs[j.toNat]? with
   | some y=>if 0<=j/\j<(m:Int)/\Ym tt e y=true/\y.isD=true/\(fs.take j.toNat).all (λz=>z.size==y.size)=true then wrT n dst (.d y) else zu
   | none=>zu
  | none=>zu
 | _,_=>zu
variable {Fp:Nat->List Nat}{a:Act}{C:Ctx}
theorem zhH {P:Program}  (hT:wy P tt)      {w:World}(h:Sim C S Fp [] st a w)  {t:Nat}{x i:Operand}(ho:o.op=.index t x i)    (e:indexO tt C.n o.dst t x i st=some (u,R,U)):qO P C o a w (zh U st):=by
 unfold indexO at e;obtain⟨tx,R1,U1,R2,U2,h1,e1,rfl,rfl⟩:=bind_some e;obtain⟨rfl,hx⟩:=zK h h1;obtain⟨vx,R3,U3,R4,U4,h3,e2,rfl,rfl⟩:=bind_some e1;obtain⟨rfl,qx⟩:=jD h hx h3;simp only[zh,p9]at e2 ⊢;obtain⟨ty,R5,U5,R6,U6,h5,e3,rfl,rfl⟩:=bind_some e2;obtain⟨rfl,hy⟩:=zK h h5;obtain⟨vy,R7,U7,R8,U8,h7,e4,rfl,rfl⟩:=bind_some e3;obtain⟨rfl,qy⟩:=jD h hy h7;simp only[zh,p9]at e4 ⊢;split at e4
 ·rename_i fs k j;cases ha:zqz tt t with
  | none=>simp only[ha]at e4;exact(z7 e4).elim
  | some q=>
   obtain⟨m,el⟩:=q;simp only[ha]at e4;cases hf:fs[j.toNat]? with
   | none=>simp only[hf]at e4;exact(z7 e4).elim
   | some y=>
    simp only[hf]at e4;split at e4
    ·rename_i hc;obtain⟨c1,c2,c3,c4,c5⟩:=hc;have hk:P.underlying t=some (.array m el):=by
      unfold zqz at ha;split at ha
      ·rename_i ht;cases ha;exact(hT _ _ ht).kind
      ·cases ha
     obtain⟨i',hi⟩:∃i',tt el=some i':=by
      unfold Ym at c3;split at c3
      ·exact⟨_,by assumption⟩
      ·cases c3
     obtain⟨cs,r1,r2⟩:=(qx:qa S (.agg fs) (a.eval x));simp only[Rep]at r1;obtain⟨d1,ci,d2,rfl,hl,hr⟩:=z11 r1 hf;have ei:=(zD.1 qy).1;have hsz:i'.size=y.size:=by unfold Ym at c3;rw[hi]at c3;simp only[pJ,beq_iff_eq]at c3;exact c3.1.2
     have hoff:d1.length=j.toNat*i'.size:=by rw[hl,A.sizes_const (sz:=y.size) (λz hz=>by simpa using gJ.1 c5 z hz),pU,hsz];congr 1;have:=(p8.1 hf).1;omega
     obtain⟨Fp',hs⟩:=wP h e4 (x:=.d y) (qa.repV ⟨ci,hr,rfl⟩);refine zr ?_ hs;have hp:=zha (P:=P) hT c3 (w:=w) (c1:=d1) (c2:=d2) hr.len;rw[hoff]at hp;have ex:a.eval x=.agg (d1++ci++d2).toArray:=r2;simp only[execOp,ho,Instr.index,asIntOf,ei,ex,Sem.run_bind,Sem.run_pure,Result.andThen_ok,run_underlying hk,c1,c2,and_self,if_true,YF hT hi,hp]
    ·exact(z7 e4).elim
 ·exact(z7 e4).elim
def ztH (tt:TT)(n:Fr)(o:Oper):Option (SM Unit) :=
 match o.op with
 | .call ⟨.builtin .min,⟨[x,y]⟩,⟨[_,_]⟩⟩=>some (minO n o.dst false x y)
 | .call ⟨.builtin .max,⟨[x,y]⟩,⟨[_,_]⟩⟩=>some (minO n o.dst true x y)
 | .index t x i=>some (indexO tt n o.dst t x i)
 | _=>none
theorem Loc.indexO (tt:TT)(n:Fr)(dst:Option Nat)(t:Nat)(x i:Operand):Loc (indexO tt n dst t x i):=by
 unfold Go.Own.indexO;refine Loc.bind (Loc.opnd _) λ_=>Loc.bind (Loc.val _) λ_=>Loc.bind (Loc.opnd _) λ_=>Loc.bind (Loc.val _) λ_=>?_;split
 ·split
  ·split
   ·exact Loc.ite (Loc.wrT _ _ _) Loc.fail
   ·exact Loc.fail
  ·exact Loc.fail
 ·exact Loc.fail
theorem Loc.minO (n:Fr)(dst:Option Nat)(mx:Bool)(x y:Operand):Loc (minO n dst mx x y):=by unfold Go.Own.minO;exact Loc.bind (Loc.opnd _) λ_=>Loc.bind (Loc.val _) λ_=>Loc.bind (Loc.opnd _) λ_=>Loc.bind (Loc.val _) λ_=>Loc.bind (Loc.ofO _) λ_=>Loc.wrT _ _ _
theorem Loc.cutO (tt:TT)(n:Fr)(dst:Option Nat)(t:Nat)(x hi:Operand):Loc (cutO tt n dst t x hi):=by
 unfold Go.Own.cutO;refine Loc.bind (Loc.opnd _) λ_=>Loc.bind (Loc.take _) λz=>?_;cases z with
 | osl sz tg es=>exact Loc.ite (Loc.bind (Loc.bound _ _) λ_=>Loc.ite (Loc.wrT _ _ _) Loc.fail) Loc.fail
 | _=>exact Loc.fail
theorem zsy (hT:wy P tt):zaV P (ztH tt):=by
 refine⟨?_,?_⟩
 ·intro C S Fp st a w o m u R U e h h2;unfold ztH at e;split at e
  ·rename_i ho;cases e;exact zqe (mx:=false) h ho h2
  ·rename_i ho;cases e;exact zqe (mx:=true) h ho h2
  ·rename_i ho;cases e;exact zhH hT h ho h2
  ·cases e
 ·intro n o m e;unfold ztH at e;split at e
  ·cases e;exact λst st' a R U=>Loc.minO _ _ _ _ _ st st' a R U
  ·cases e;exact λst st' a R U=>Loc.minO _ _ _ _ _ st st' a R U
  ·cases e;exact λst st' a R U=>Loc.indexO _ _ _ _ _ _ st st' a R U
  ·cases e
def zcc (tt:TT)(d:Nat)(n:Fr)(o:Oper):Option (SM Unit) :=
 match o.op with
 | .slice t x none (some hi) none=>if o.dst=some d then some (cutO tt n o.dst t x hi) else none
 | _=>none
theorem zlG (hT:wy P tt)(d:Nat):zaV P (zcc tt d):=by
 refine⟨?_,?_⟩
 ·intro C S Fp st a w o m u R U e h h2;unfold zcc at e;split at e
  ·rename_i ho;split at e
   ·cases e;exact zw6 hT h ho h2
   ·cases e
  ·cases e
 ·intro n o m e;unfold zcc at e;split at e
  ·split at e
   ·cases e;exact λst st' a R U=>Loc.cutO _ _ _ _ _ _ st st' a R U
   ·cases e
  ·cases e
structure XH (P:Program) where
 e:Fr->Oper->Option (SM Unit)
 h:Fr->Oper->Option (HM Unit)
 ok:zaV P e
 none:∀n o,e n o=none->h n o=none
 some:∀n o m,e n o=some m->∃q,h n o=some q/\Snd m q
def XH.or (x y:XH P):XH P:={
 e:=λn o=>match x.e n o with|.some m=>.some m|.none=>y.e n o
 h:=λn o=>match x.h n o with|.some m=>.some m|.none=>y.h n o
 ok:=by
  refine⟨?_,?_⟩
  ·intro C S Fp st a w o m u R U e;cases hx:x.e C.n o with
   | some m'=>simp only[hx]at e;cases e;exact x.ok.1 C S Fp st a w o _ u R U hx
   | none=>simp only[hx]at e;exact y.ok.1 C S Fp st a w o _ u R U e
  ·intro n o m e;cases hx:x.e n o with
   | some m'=>simp only[hx]at e;cases e;exact x.ok.2 n o _ hx
   | none=>simp only[hx]at e;exact y.ok.2 n o _ e
 none:=by
  intro n o e;cases hx:x.e n o with
  | some m'=>simp only[hx]at e;cases e
  | none=>simp only[hx]at e;simp only[x.none n o hx];exact y.none n o e
 some:=by
  intro n o m e;cases hx:x.e n o with
  | some m'=>simp only[hx]at e;cases e;obtain⟨q,h1,h2⟩:=x.some n o _ hx;exact⟨q,by simp only[h1],h2⟩
  | none=>simp only[hx]at e;obtain⟨q,h1,h2⟩:=y.some n o _ e;exact⟨q,by simp only[x.none n o hx];exact h1,h2⟩ }
def zzz (n:Fr)(dst:Option Nat)(mx:Bool)(x y:Operand):HM Unit:=yg (opnd x) >>= λtx=>z4f tx >>= λvx=>yg (opnd y) >>= λty=>z4f ty >>= λvy=>yg (ofO (zzA mx vx vy) >>= λr=>wrT n dst (.d r))
theorem zv3 (n:Fr)(dst:Option Nat)(mx:Bool)(x y:Operand):Snd (minO n dst mx x y) (zzz n dst mx x y) :=
 zj (zn _) λ_=>zj (W1 _) λ_=>zj (zn _) λ_=>zj (W1 _) λ_=>zn _
def zBz (tt:TT)(n:Fr)(dst:Option Nat)(t:Nat)(x hi:Operand):HM Unit:=yg (opnd x) >>= λy=>zfQ y >>= λz=>
 match z with
 | .osl sz _ es=>if wx tt t=some sz then zae es.length (some hi) >>= λh=>XW (h<=es.length) (eqL (es.take h) >>= λxs=>yg (wrT n dst (.own (.osl sz false xs)))) else zV
 | _=>zV
theorem zzm (tt:TT)(n:Fr)(dst:Option Nat)(t:Nat)(x hi:Operand):Snd (cutO tt n dst t x hi) (zBz tt n dst t x hi):=by
 refine zj (zn _) λy=>zj (zbM _) λz=>?_;cases z with
 | osl sz tg es=>refine jP (zj (z6E _ _) λh=>vL ?_) (zw _);exact z3a (ye _ λxs=>wrT n dst (.own (.osl sz false xs))).symm (zj (ziv _) λ_=>zn _)
 | _=>exact zw _
def zqm (tt:TT)(n:Fr)(dst:Option Nat)(t:Nat)(x i:Operand):HM Unit:=yg (opnd x) >>= λtx=>z4f tx >>= λvx=>yg (opnd i) >>= λti=>z4f ti >>= λvi=>
 yg (match vx,vi with
 | .agg fs,.atom (.int _ j)=>
  match zqz tt t with
  | some (m,e)=>match fs[j.toNat]? with
   | some y=>if 0<=j/\j<(m:Int)/\Ym tt e y=true/\y.isD=true/\(fs.take j.toNat).all (λz=>z.size==y.size)=true then wrT n dst (.d y) else zu
   | none=>zu
  | none=>zu
 | _,_=>zu)
theorem zrx (tt:TT)(n:Fr)(dst:Option Nat)(t:Nat)(x i:Operand):Snd (indexO tt n dst t x i) (zqm tt n dst t x i) :=
 zj (zn _) λ_=>zj (W1 _) λ_=>zj (zn _) λ_=>zj (W1 _) λ_=>zn _
def xB (hT:wy P tt):XH P:={
 e:=ztH tt
 h:=λn o=>match o.op with
  | .call ⟨.builtin .min,⟨[x,y]⟩,⟨[_,_]⟩⟩=>some (zzz n o.dst false x y)
  | .call ⟨.builtin .max,⟨[x,y]⟩,⟨[_,_]⟩⟩=>some (zzz n o.dst true x y)
  | .index t x i=>some (zqm tt n o.dst t x i)
  | _=>none
 ok:=zsy hT
 none:=by
  intro n o e;unfold ztH at e;split at e
  ·cases e
  ·cases e
  ·cases e
  ·rfl
 some:=by
  intro n o m e;unfold ztH at e;split at e
  ·rename_i ho;cases e;exact⟨_,by simp only[ho],zv3 _ _ _ _ _⟩
  ·rename_i ho;cases e;exact⟨_,by simp only[ho],zv3 _ _ _ _ _⟩
  ·rename_i ho;cases e;exact⟨_,by simp only[ho],zrx _ _ _ _ _ _⟩
  ·cases e }
def zAE (hT:wy P tt)(d:Nat):XH P:={
 e:=zcc tt d
 h:=λn o=>match o.op with
  | .slice t x none (some hi) none=>if o.dst=some d then some (zBz tt n o.dst t x hi) else none
  | _=>none
 ok:=zlG hT d
 none:=by
  intro n o e;unfold zcc at e;split at e
  ·rename_i ho;split at e
   ·cases e
   ·rename_i hd;simp only[ho,if_neg hd]
  ·rfl
 some:=by
  intro n o m e;unfold zcc at e;split at e
  ·rename_i ho;split at e
   ·rename_i hd;cases e;exact⟨_,by simp only[ho,if_pos hd],zzm _ _ _ _ _ _⟩
   ·cases e
  ·cases e }
theorem zls {ks:List Nat}{m:SM Unit}(hm:∀S Fp st,Sim C S Fp [] st a w->∀u R U,m st=some (u,R,U)->qO P C o a w (zh U st))(h:Sim C S Fp [] st a w){u:Unit}{R:List Nat}{U:List (Nat×Ent)}
  (e:(shutArgs (λ_=>none) (ks.map λk=>(.tmp k,0)) >>= λ_=>m) st=some (u,R,U)):qO P C o a w (zh U st):=by
 obtain⟨xs,R1,U1,R2,U2,h1,e1,rfl,rfl⟩:=bind_some e;obtain⟨S1,Fp1,g1,_⟩:=vV h h1;rw[zB];exact hm _ _ _ g1 _ _ _ e1
def zBp (d:Nat⊕Nat)(o:Oper):Bool :=
 match d with
 | .inl d=>o.dst==some d
 | .inr p=>match o.op with|.store _ (.tmp q) _=>q==p|_=>false
def za6 (tt:TT)(d:Nat⊕Nat)(ks:List Nat)(n:Fr)(o:Oper):Option (SM Unit) :=
 if zBp d o=true then some (shutArgs (λ_=>none) (ks.map λk=>(.tmp k,0)) >>= λ_=>stepO tt z3y n o) else none
def QJ (hT:wy P tt)(d:Nat⊕Nat)(ks:List Nat):XH P:={
 e:=za6 tt d ks
 h:=λn o=>if zBp d o=true then some (Ya (λ_=>none) (ks.map λk=>(.tmp k,0)) >>= λ_=>zef tt z3y n o) else none
 ok:=by
  refine⟨?_,?_⟩
  ·intro C S Fp st a w o m u R U e h h2;unfold za6 at e;split at e
   ·cases e;exact zls (λS Fp st h u R U e=>zcN hT (zgE P) h e) h h2
   ·cases e
  ·intro n o m e;unfold za6 at e;split at e
   ·cases e;exact λst st' a R U=>Loc.bind (Loc.shutArgs _ _) (λ_=>Loc.stepO _ _ _ _) st st' a R U
   ·cases e
 none:=by
  intro n o e;unfold za6 at e;split at e
  ·cases e
  ·rename_i hd;rw[if_neg hd]
 some:=by
  intro n o m e;unfold za6 at e;split at e
  ·rename_i hd;cases e;exact⟨_,by rw[if_pos hd],zj (XR _ _) λ_=>zg2 _ _ _ _⟩
  ·cases e }
def zh2 (X:XH P)(tt:TT)(ctr:Ctr)(n:Fr)(o:Oper):HM Unit :=
 match X.h n o with
 | some q=>q
 | none=>zef tt (ctr.withE X.e) n o
theorem zjU (X:XH P)(tt:TT)(ctr:Ctr)(n:Fr)(o:Oper):Snd (stepX tt (ctr.withE X.e) n o) (zh2 X tt ctr n o):=by
 unfold stepX zh2;cases he:X.e n o with
 | none=>rw[X.none n o he];exact z3a (by simp only[he]) (zg2 _ _ _ _)
 | some m=>obtain⟨q,h1,h2⟩:=X.some n o m he;rw[h1];exact z3a (by simp only[he]) h2
def zfZ (X:XH P)(tt:TT)(ctr:Ctr)(n:Fr)(ops:Array Oper)(o:Oper):HM Unit :=
 match o.guard with
 | none=>zh2 X tt ctr n o
 | some (j,want)=>
  match (ops[j]?).bind (·.dst) with
  | some g=>yg (rdE g) >>= λe=>
   match e.t with
   | .d (.atom (.bool b))=>zwh b >>= λb=>if b=want then zh2 X tt ctr n o else yg (wrT n o.dst (.d (.tup [])))
   | .d (.tup [])=>yg (wrT n o.dst (.d (.tup [])))
   | _=>zV
  | none=>zV
def zq9:List H->List H
 | .op 0::hs=>hs
 | .op (m+1)::hs=>.op m::hs
 | hs=>hs
def zh3 (X:XH P)(tt:TT)(ctr:Ctr)(n:Fr)(ops:Array Oper)(o:Oper):HM Unit:=λst hs=>zfZ X tt ctr n ops o st (zq9 hs)
theorem znW (X:XH P)(tt:TT)(ctr:Ctr)(n:Fr)(ops:Array Oper)(o:Oper):Snd (stepG tt (ctr.withE X.e) n ops o) (zfZ X tt ctr n ops o):=by
 unfold stepG zfZ;cases o.guard with
 | none=>exact zjU _ _ _ _ _
 | some q=>
  obtain⟨j,want⟩:=q;dsimp only
  cases (ops[j]?).bind (·.dst) with
  | none=>exact zw _
  | some g=>
   refine zj (zn _) λe=>?_;obtain⟨t,a,b⟩:=e;cases t with
   | d x=>
    cases x with
    | atom v=>
     cases v with
     | bool b=>refine z3a (m':=pure b >>= λb=>if b=want then stepX tt (ctr.withE X.e) n o else wrT n o.dst (.d (.tup []))) (ye _ _).symm ?_;exact zj (zk0 _) λb=>jP (zjU _ _ _ _ _) (zn _)
     | _=>exact zw _
    | tup l=>
     cases l with
     | nil=>exact zn _
     | cons _ _=>exact zw _
    | _=>exact zw _
   | _=>exact zw _
theorem zjV (X:XH P)(tt:TT)(ctr:Ctr)(n:Fr)(ops:Array Oper)(o:Oper):Snd (stepG tt (ctr.withE X.e) n ops o) (zh3 X tt ctr n ops o) :=
 λst hs a R U hs' ob e ho=>znW X tt ctr n ops o st (zq9 hs) a R U hs' ob e ho
abbrev Lg:=List (List Nat×List Nat)
def zit (X:XH P)(tt:TT)(ctr:Ctr)(n:Fr)(ops:Array Oper):List Oper->St->List H->Option (St×List H×List Prop×Lg)
 | [],st,hs=>some (st,hs,[],[])
 | o::os,st,hs=>
  match zh3 X tt ctr n ops o st hs with
  | none=>none
  | some (_,R,U,hs',ob)=>
   match zit X tt ctr n ops os (zh U st) hs' with
   | none=>none
   | some (st',hs'',ob',lg)=>some (st',hs'',ob++ob',(R,U.map (·.1))::lg)
variable {ops:Array Oper}
section
variable {P:Program}{X:XH P}{tt:TT}{ctr:Ctr}{n:Fr}
theorem z8N {K:St->Prop}:∀(l:List Oper) (st:St) (hs:List H) {st':St} {hs':List H} {ob:List Prop} {lg:Lg},zit X tt ctr n ops l st hs=some (st',hs',ob,lg)->z8X ob->K st'->zmu tt (ctr.withE X.e) n ops l st K
 | [],st,hs,st',hs',ob,lg,e,ho,hk=>by simp only[zit,Option.some.injEq,Prod.mk.injEq]at e;obtain⟨rfl,_⟩:=e;exact hk
 | o::os,st,hs,st',hs',ob,lg,e,ho,hk=>by
  simp only[zit]at e;cases e1:zh3 X tt ctr n ops o st hs with
  | none=>simp only[e1]at e;cases e
  | some q=>
   obtain⟨u,R,U,hs1,ob1⟩:=q;simp only[e1]at e;cases e2:zit X tt ctr n ops os (zh U st) hs1 with
   | none=>simp only[e2]at e;cases e
   | some q=>obtain⟨st2,hs2,ob2,lg2⟩:=q;simp only[e2,Option.some.injEq,Prod.mk.injEq]at e;obtain⟨rfl,rfl,rfl,rfl⟩:=e;obtain⟨o1,o2⟩:=xw ho;simp only[zmu,zbr];rw[zjV X tt ctr n ops o _ _ _ _ _ _ _ e1 o1];exact z8N os _ _ e2 o2 hk
theorem zej {K:St->Prop}:∀(l:List Oper) (st:St) (hs:List H) (logs:Lg) {st':St} {hs':List H} {ob:List Prop} {lg:Lg},zit X tt ctr n ops l st hs=some (st',hs',ob,lg)->z8X ob->za8 ops.toList (logs++lg)=true->K st'->zfi tt (ctr.withE X.e) n ops l st logs K
 | [],st,hs,logs,st',hs',ob,lg,e,ho,hd,hk=>by simp only[zit,Option.some.injEq,Prod.mk.injEq]at e;obtain⟨rfl,_,_,rfl⟩:=e;exact⟨by simpa using hd,hk⟩
 | o::os,st,hs,logs,st',hs',ob,lg,e,ho,hd,hk=>by
  simp only[zit]at e;cases e1:zh3 X tt ctr n ops o st hs with
  | none=>simp only[e1]at e;cases e
  | some q=>
   obtain⟨u,R,U,hs1,ob1⟩:=q;simp only[e1]at e;cases e2:zit X tt ctr n ops os (zh U st) hs1 with
   | none=>simp only[e2]at e;cases e
   | some q=>obtain⟨st2,hs2,ob2,lg2⟩:=q;simp only[e2,Option.some.injEq,Prod.mk.injEq]at e;obtain⟨rfl,rfl,rfl,rfl⟩:=e;obtain⟨o1,o2⟩:=xw ho;simp only[zfi,zbr];rw[zjV X tt ctr n ops o _ _ _ _ _ _ _ e1 o1];exact zej os _ _ _ e2 o2 (by simpa using hd) hk
end
inductive Fm where
 | seq (y:Code)
 | blk (id:Nat)
 | pre (J:St->Prop)
 | rnd (m:Nat) (c:Code)
def ztN (P:Program)(n:Fr)(c:Code):Nat->St->(Exit->St->Prop)->Prop
 | 0,_,_=>False
 | m+1,st,Q=>AWP P n c st (zbl (λst'=>ztN P n c m st' Q) Q)
variable {Q:Exit->St->Prop}{c:Code}{n:Fr}
theorem ztN.loop:∀(m:Nat) (st:St),ztN P n c m st Q->AWP P n (.loop c) st Q:=by
 intro m st h rd mm df w0 S0 M S Fp a w hc hs;refine wpIn_loop_rounds m ?_;have gen:∀(m:Nat) (st:St) (df':List Nat) (S:zo) (Fp:Nat->List Nat) (a:Act) (w:World),ztN P n c m st Q->Sim ⟨n,df',w0,S0,M⟩ S Fp [] st a w->Q8 df M df' Fp w->Code.roundsIn (fen rd) mm P c (zmy n df w0 S0 M Q) m a w:=by
  intro m;induction m with
  | zero=>intro st df' S Fp a w h _ _;exact h.elim
  | succ m ih=>
   intro st df' S Fp a w h hs hd;refine wpIn_mono (AWP.go h hc hs hd) ?_;intro e a' w' hp;cases e with
   | normal=>obtain⟨df2,st2,S2,Fp2,h1,h2,h3⟩:=hp;exact ih st2 df2 S2 Fp2 a' w' h3 h1 h2
   | _=>exact hp.next λ_ q=>q
 exact gen m st df S Fp a w h hs (hc.post hs)
def Qf (P:Program)(n:Fr):List Fm->(Exit->St->Prop)->Exit->St->Prop
 | [],Q=>Q
 | .seq y::fs,Q=>zbl (λst=>AWP P n y st (Qf P n fs Q)) (Qf P n fs Q)
 | .blk id::fs,Q=>z1I id (Qf P n fs Q)
 | .pre J::fs,Q=>zbl J (Qf P n fs Q)
 | .rnd m c::fs,Q=>zbl (λst=>ztN P n c m st (Qf P n fs Q)) (Qf P n fs Q)
inductive zja where
 | fin (e:Exit)
 | back (J:St->Prop)
 | at(c:Code) (fs:List Fm)
def zja.sem (P:Program)(n:Fr)(Q:Exit->St->Prop):zja->St->Prop
 | .fin e,st=>Q e st
 | .back J,st=>J st
 | .at c fs,st=>AWP P n c st (Qf P n fs Q)
inductive Nxt where
 | go (y:Code) (fs:List Fm)
 | stop (s:zja)
 | none
def unw:List Fm->Nxt
 | []=>.stop (.fin .normal)
 | .seq y::fs=>.go y fs
 | .blk _::fs=>unw fs
 | .pre J::_=>.stop (.back J)
 | .rnd (m+1) c::fs=>.go c (.rnd m c::fs)
 | .rnd 0 _::_=>.none
def zfz (id:Nat):List Fm->Option (List Fm)
 | []=>none
 | .blk i::fs=>if id=i then some fs else zfz id fs
 | .seq _::fs=>zfz id fs
 | .pre _::fs=>zfz id fs
 | .rnd _ _::fs=>zfz id fs
abbrev zmx:=Option (zja×St×List H×List Prop)
def ztK (ob:List Prop):zmx->zmx
 | none=>none
 | some (s,st,hs,ob')=>some (s,st,hs,ob++ob')
def goN (rec:Code->List Fm->St->List H->zmx)(x:Nxt)(st:St)(hs:List H):zmx :=
 match x with
 | .go y fs=>rec y fs st hs
 | .stop s=>some (s,st,hs,[])
 | .none=>none
def znU (k:Nat):SM Unit:=do
 let y <-opnd (.tmp k);let q <-ptrOf y;match q with
 | .inr (r,p,er,ec)=>do
  let _ <-lookP r p er ec;let _ <-shutT (λ_=>none) 0 (.als r p er ec)
  pure ()
 | .inl _=>zu
def znS (k:Nat):SM Unit:=do
 let e <-rdE k;match e.t with
 | .own (.osl sz t es)=>if A.lives es=true then wrE k ⟨.own (.osl sz t (A.shuts es)),e.er,e.ec+1⟩ else zu
 | _=>zu
def zoY:T->Bool
 | .own (.osl _ _ _)=>true
 | _=>false
def sealX (k:Nat):SM Unit:=do
 let e <-rdE k
 if zoY e.t=true then znS k else znU k
def zh7:List Nat->SM Unit
 | []=>pure ()
 | k::ks=>do
  sealX k
  zh7 ks
def zpV (k:Nat):HM Unit :=
 yg (opnd (.tmp k)) >>= λy=>yg (ptrOf y) >>= λq=>
 match q with
 | .inr (r,p,er,ec)=>yg (lookP r p er ec) >>= λ_=>zbK (λ_=>none) 0 (.als r p er ec) >>= λ_=>pure ()
 | .inl _=>zV
def zpU (k:Nat):HM Unit :=
 yg (rdE k) >>= λe=>
 match e.t with
 | .own (.osl sz t es)=>zp4 >>= λes'=>XW (A.lives es=true/\A.shuts es=es') (yg (wrE k ⟨.own (.osl sz t es'),e.er,e.ec+1⟩))
 | _=>zV
def zpT (k:Nat):HM Unit:=yg (rdE k) >>= λe=>if zoY e.t=true then zpU k else zpV k
def zcU:List Nat->HM Unit
 | []=>pure ()
 | k::ks=>zpT k >>= λ_=>zcU ks
theorem zru (k:Nat):Snd (znU k) (zpV k) :=
 zj (zn _) λy=>zj (zn _) λq=>by
  cases q with
  | inl _=>exact zw _
  | inr q=>obtain⟨r,p,er,ec⟩:=q;exact zj (zn _) λ_=>zj (z2t _ _ _) λ_=>vw _
theorem zrt (k:Nat):Snd (znS k) (zpU k):=by
 refine zj (zn _) λe=>?_;obtain⟨t,er,ec⟩:=e;cases t with
 | own x=>
  cases x with
  | osl sz tg es=>
   intro st hs b R U hs' ob e ho;obtain⟨es',R1,U1,hs1,ob1,R2,U2,ob2,e1,e2,rfl,rfl,rfl⟩:=z2L e;unfold zp4 at e1;split at e1
   ·simp only[Option.some.injEq,Prod.mk.injEq]at e1;obtain⟨rfl,rfl,rfl,_,rfl⟩:=e1;obtain⟨⟨q1,q2⟩,ob',e3,o3⟩:=zd9 e2 (xw ho).2;subst q2;dsimp only
    rw[if_pos q1];exact zn _ _ _ _ _ _ _ _ e3 o3
   ·cases e1
  | _=>exact zw _
 | _=>exact zw _
theorem zrs (k:Nat):Snd (sealX k) (zpT k):=zj (zn _) λe=>jP (zrt k) (zru k)
theorem zh8:∀ks,Snd (zh7 ks) (zcU ks)
 | []=>vw _
 | k::ks=>zj (zrs k) λ_=>zh8 ks
variable {k:Nat}
theorem znR (h:Sim C S Fp [] st a w)     (e:znS k st=some (u,R,U)):∃S' Fp',Sim C S' Fp' [] (zh U st) a w:=by
 unfold znS at e;obtain⟨en,R1,U1,R2,U2,h1,e1,rfl,rfl⟩:=bind_some e;obtain⟨rfl,rfl,rfl⟩:=yl h1;simp only[zh,p9]at e1 ⊢;have hno:∀x,(st k).t=x->zoY x=false->False:=by
  intro x hx hn;rw[hx]at e1;cases x with
  | own y=>cases y <;> first|exact z7 e1|(simp[zoY]at hn)
  | _=>exact z7 e1
 have hyes:∃sz t es,(st k).t=.own (.osl sz t es):=by
  cases hx:(st k).t with
  | own y=>cases y <;> first|exact⟨_,_,_,rfl⟩|exact(hno _ hx rfl).elim
  | _=>exact(hno _ hx rfl).elim
 obtain⟨sz,t,es,ht⟩:=hyes;rw[ht]at e1;dsimp only at e1;split at e1
 ·rename_i hl;obtain⟨rfl,rfl⟩:=wO e1;have hr:=h.ent k;unfold wv at hr;simp only[ht]at hr;obtain⟨cs,q,q1,q2⟩:=hr;simp only[zU]at q;obtain⟨p,c,rfl,d1,d2,d3,d4,d5⟩:=q;simp only[hU,zh];rcases d5 with⟨rfl,rfl,rfl,hF0⟩|⟨b,arr,ty,l,F1,rfl,e1,e2,e3,e4,hF0,e5⟩
  ·exact⟨S,z2j Fp k [],h.change k (.own (.osl sz t (A.shuts []))) _ _ [] h.below (λ_ _ _ q=>q) h.still.cell h.sbase (λt' k' hk hk'=>⟨rfl,(h.free t' k' hk').2.1⟩)
    ⟨⟨_,by simp only[zU];exact⟨none,0,rfl,λ_=>rfl,pC _,pT _,by simp[A.shuts],.inl (by simp[A.shuts])⟩,by simp,by rw[q2];rfl⟩,_,ht⟩ (.inl ⟨_,ht⟩) (pC _) (gB _) (by simp) (by simp) h.xn (λt k _ hk=>h.xd t k hk) (by simp) h.xb⟩
  ·have hF7:∀q∈F1,q∈Fp k:=λq hq=>by rw[hF0];exact nF _ hq
   obtain⟨m1,m2,m3,m4⟩:=z2F h hF7;have hrs:=zZ.shut (S':=yf S w.heap F1) m1 e4 hl (λk hk o=>by unfold yf;rw[if_pos hk]);have hlen:(A.shuts es).length=es.length:=by simp[A.shuts_eq]
   have hb:b∉F1:=by rw[hF0]at q1;exact(pY.1 q1).1
   have hbk:b∈Fp k:=by rw[hF0];exact rF
   refine⟨yf S w.heap F1,z2j Fp k [b],h.change k (.own (.osl sz t (A.shuts es))) _ _ [b] h.below m1 m2 m3 ?_ ⟨⟨_,?_,by simp,by rw[q2];rfl⟩,_,ht⟩ (.inl ⟨_,ht⟩) (pC _) (gB _) ?_ ?_ h.xn (λt k _ hk=>h.xd t k hk) (by simp) h.xb⟩
   ·intro t' k' hk hk';refine⟨rfl,λo=>?_⟩;rw[m4 k' (λhF=>hk (h.disj t' k k' hk' (hF7 k' hF)))];exact(h.free t' k' hk').2.1 o
   ·simp only[zU];refine⟨some ⟨b,0,none⟩,c,by rw[hlen],λht=>by rw[hlen];exact d1 ht,by rw[hlen];exact d2,d3,?_,.inr ⟨b,arr,ty,_,[],rfl,e1,e2,by rw[hlen];exact e3,yK.concs _ hrs,rfl,?_⟩⟩
    ·intro x hx;rw[A.shuts_eq]at hx;obtain⟨y,hy,rfl⟩:=pW.1 hx;rw[A.size_shut];exact d4 y hy
    ·intro o;rw[m4 b hb];exact e5 o
   ·intro t' k' hk hk' hk2;simp only[pD,pX,or_false]at hk';subst hk';exact hk (h.disj t' k _ hk2 hbk)
   ·intro k' hk';simp only[pD,pX,or_false]at hk';subst hk';exact h.base k _ hbk
 ·exact(z7 e1).elim
theorem znT (h:Sim C S Fp [] st a w)     (e:znU k st=some (u,R,U)):∃S' Fp',Sim C S' Fp' [] (zh U st) a w:=by
 unfold znU at e;obtain⟨y,R1,U1,R2,U2,h1,e1,rfl,rfl⟩:=bind_some e;obtain⟨rfl,hx⟩:=zK h h1;obtain⟨q,R3,U3,R4,U4,h3,e2,rfl,rfl⟩:=bind_some e1;obtain⟨rfl,hq⟩:=z3f h hx h3;simp only[zh,p9]at e2 ⊢;split at e2
 ·rename_i r p er ec;obtain⟨z,R7,U7,R8,U8,h7,e4,rfl,rfl⟩:=bind_some e2;obtain⟨rfl,x0,k1,k2,k3,k4⟩:=z3k h7;simp only[zh,p9]at e4 ⊢;obtain⟨z2,R9,U9,R10,U10,h9,e5,rfl,rfl⟩:=bind_some e4;obtain⟨_,_,rfl⟩:=zy e5;obtain⟨b,o',arr,ty,csy,Fy,cs,ev,o1,f2,f3,f4,f5,f6,f7,f8,f9,f10,f11,_⟩:=z9H h hq k1 k2 k3 k4;have hals:TOk S w.heap st (Act.tv a) (.als r p er ec) (y8 z csy):=⟨by omega,by omega,by simp only[k1];exact λ_ _=>.inr ⟨o1,z,b,o',csy,k4,f11,f4.len,zcS f2 f3,rfl⟩⟩
  obtain⟨S',Fp',g1,_⟩:=z5g h hals h9;exact⟨S',Fp',by simpa using g1⟩
 ·exact(z7 e2).elim
theorem znQ (h:Sim C S Fp [] st a w)     (e:sealX k st=some (u,R,U)):∃S' Fp',Sim C S' Fp' [] (zh U st) a w:=by
 unfold sealX at e;obtain⟨en,R1,U1,R2,U2,h1,e1,rfl,rfl⟩:=bind_some e;obtain⟨rfl,rfl,rfl⟩:=yl h1;simp only[zh,p9]at e1 ⊢;split at e1
 ·exact znR h e1
 ·exact znT h e1
theorem zek:∀{ks:List Nat} {S:zo} {Fp:Nat->List Nat} {st:St},Sim C S Fp [] st a w->∀{u:Unit} {R:List Nat} {U:List (Nat×Ent)},zh7 ks st=some (u,R,U)->∃S' Fp',Sim C S' Fp' [] (zh U st) a w
 | [],S,Fp,st,h,u,R,U,e=>by obtain⟨_,rfl,rfl⟩:=zy e;exact⟨S,Fp,h⟩
 | k::ks,S,Fp,st,h,u,R,U,e=>by simp only[zh7]at e;obtain⟨_,R1,U1,R2,U2,h1,e1,rfl,rfl⟩:=bind_some e;obtain⟨S1,Fp1,g1⟩:=znQ h h1;rw[zB];exact zek g1 e1
def zCs:List H->List H
 | .n (m+1) ks::hs=>.n m ks::hs
 | .v (m+1) ks::hs=>.v m ks::hs
 | .stp (m+1)::hs=>.stp m::hs
 | hs=>hs
def zcR (rec:Code->List Fm->St->List H->zmx)(X:XH P)(tt:TT)(ctr:Ctr)(n:Fr)(c:Code)(fs:List Fm)(st:St)(hs:List H):zmx :=
  match c with
  | .skip=>goN rec (unw fs) st hs
  | .label _=>goN rec (unw fs) st hs
  | .ret=>some (.fin .ret,st,hs,[])
   | .exit id=>match zfz id fs with|some fs'=>goN rec (unw fs') st hs|none=>some (.fin (.exit id),st,hs,[])
  | .region _ ops d=>
   match zit X tt ctr n ops ops.toList st hs with
   | some (st',hs',ob,lg)=>if d=false\/za8 ops.toList lg=true then ztK ob (goN rec (unw fs) st' hs') else none
   | none=>none
  | .seq x y=>
   match hs with
   | .cut 0::hs'=>some (.at (.seq x y) fs,st,hs',[])
   | .cut (m+1)::hs'=>rec x (.seq y::fs) st (.cut m::hs')
   | hs=>rec x (.seq y::fs) st hs
  | .cond o x y=>
   match zfj st o with
   | some b=>
    match hs with
    | .b b' :: hs'=>ztK [b=b'] (rec (match b' with|true=>x|false=>y) fs st hs')
    | _=>none
   | none=>none
  | .block id c=>rec c (.blk id::fs) st hs
  | .loop c=>
   match hs with
   | .u m::hs'=>rec c (.rnd m c::fs) st hs'
   | hs=>some (.at (.loop c) fs,st,hs,[])
  | c=>some (.at c fs,st,hs,[])
def zk6 (X:XH P)(tt:TT)(ctr:Ctr)(n:Fr):Nat->Code->List Fm->St->List H->zmx
 | 0,_,_,_,_=>none
 | k+1,c,fs,st,hs=>
  match hs with
  | .n 0 ks::hs=>
   match Ya (λ_=>none) (ks.map λi=>(.tmp i,0)) st hs with
   | some (_,_,U,hs',ob)=>ztK ob (zk6 X tt ctr n k c fs (zh U st) hs')
   | none=>none
  | .v 0 ks::hs=>
   match zcU ks st hs with
   | some (_,_,U,hs',ob)=>ztK ob (zk6 X tt ctr n k c fs (zh U st) hs')
   | none=>none
  | .stp 0::hs=>some (.at c fs,st,hs,[])
  | hs=>zcR (zk6 X tt ctr n k) X tt ctr n c fs st (zCs hs)
variable {fs:List Fm}{rec:Code->List Fm->St->List H->zmx}
section
variable {P:Program}{tt:TT}{ctr:Ctr}{n:Fr}{Q:Exit->St->Prop}
theorem ze5 {k:Nat}  (hrec:∀c fs st hs s st' hs' ob,rec c fs st hs=some (s,st',hs',ob)->z8X ob->s.sem P n Q st'->AWP P n c st (Qf P n fs Q)) :
  ∀(fs:List Fm) {st:St} {hs:List H} {s:zja} {st':St} {hs':List H} {ob:List Prop},goN rec (unw fs) st hs=some (s,st',hs',ob)->z8X ob->s.sem P n Q st'->Qf P n fs Q .normal st
 | [],st,hs,s,st',hs',ob,e,ho,h=>by simp only[unw,goN,Option.some.injEq,Prod.mk.injEq]at e;obtain⟨rfl,rfl,_⟩:=e;exact h
 | .seq y::fs,st,hs,s,st',hs',ob,e,ho,h=>by simp only[unw,goN]at e;exact hrec _ _ _ _ _ _ _ _ e ho h
 | .blk id::fs,st,hs,s,st',hs',ob,e,ho,h=>by simp only[unw]at e;exact ze5 (k:=k) hrec fs e ho h
 | .pre J::fs,st,hs,s,st',hs',ob,e,ho,h=>by simp only[unw,goN,Option.some.injEq,Prod.mk.injEq]at e;obtain⟨rfl,rfl,_⟩:=e;exact h
 | .rnd (m+1) c::fs,st,hs,s,st',hs',ob,e,ho,h=>by simp only[unw,goN]at e;exact hrec _ _ _ _ _ _ _ _ e ho h
 | .rnd 0 c::fs,st,hs,s,st',hs',ob,e,ho,h=>by simp only[unw,goN]at e;cases e
theorem z9g {id:Nat}  : ∀(fs:List Fm) {fs':List Fm},zfz id fs=some fs'->Qf P n fs' Q .normal st->Qf P n fs Q (.exit id) st
 | [],fs',e,h=>by cases e
 | .blk i::fs,fs',e,h=>by
  simp only[zfz]at e;simp only[Qf,z1I];split at e
  ·rename_i hi;simp only[Option.some.injEq]at e;subst e;rw[if_pos hi];exact h
  ·rename_i hi;rw[if_neg hi];exact z9g fs e h
 | .seq y::fs,fs',e,h=>z9g fs (by simpa only[zfz] using e) h
 | .pre J::fs,fs',e,h=>z9g fs (by simpa only[zfz] using e) h
 | .rnd _ _::fs,fs',e,h=>z9g fs (by simpa only[zfz] using e) h
theorem zeE:∀(fs:List Fm),Q .ret st->Qf P n fs Q .ret st
 | [],h=>h
 | .seq _::fs,h=>zeE fs h
 | .blk _::fs,h=>zeE fs h
 | .pre _::fs,h=>zeE fs h
 | .rnd _ _::fs,h=>zeE fs h
theorem z9G {id:Nat}  : ∀(fs:List Fm),zfz id fs=none->Q (.exit id) st->Qf P n fs Q (.exit id) st
 | [],_,h=>h
 | .blk i::fs,e,h=>by
  simp only[zfz]at e;simp only[Qf,z1I];split at e
  ·cases e
  ·rename_i hi;rw[if_neg hi];exact z9G fs e h
 | .seq y::fs,e,h=>z9G fs (by simpa only[zfz] using e) h
 | .pre J::fs,e,h=>z9G fs (by simpa only[zfz] using e) h
 | .rnd _ _::fs,e,h=>z9G fs (by simpa only[zfz] using e) h
theorem z5E {ob:List Prop}{x:zmx}{s:zja}   {ob':List Prop}(e:ztK ob x=some (s,st,hs,ob')):∃ob2,x=some (s,st,hs,ob2)/\ob'=ob++ob2:=by
 cases x with
 | none=>cases e
 | some q=>obtain⟨s1,st1,hs1,ob1⟩:=q;simp only[ztK,Option.some.injEq,Prod.mk.injEq]at e;obtain⟨rfl,rfl,rfl,rfl⟩:=e;exact⟨ob1,rfl,rfl⟩
theorem AWP.label {l:Nat}   (h:Q .normal st):AWP P n (.label l) st Q:=λ_ _ _ _ _ _ _ _ _ _ hc hs=>wpIn_label (hc.fin hs h)
theorem znv (X:XH P)(hT:wy P tt)(hC:zF P ctr)(hm:P.follows .mixedOrders=true)  (ih:∀c fs st hs s st' hs' ob,rec c fs st hs=some (s,st',hs',ob)->z8X ob->s.sem P n Q st'->AWP P n c st (Qf P n fs Q))(c:Code)(fs:List Fm)(st:St)(hs:List H)(s:zja)(st':St)(hs':List H)(ob:List Prop)
  (e:zcR rec X tt ctr n c fs st hs=some (s,st',hs',ob)) (ho:z8X ob) (h:s.sem P n Q st'):AWP P n c st (Qf P n fs Q):=by
 cases c with
 | skip=>exact AWP.skip (ze5 (k:=0) ih fs e ho h)
 | label l=>exact AWP.label (ze5 (k:=0) ih fs e ho h)
 | ret=>simp only[zcR,Option.some.injEq,Prod.mk.injEq]at e;obtain⟨rfl,rfl,_⟩:=e;exact AWP.ret (zeE fs h)
 | exit id=>
  simp only[zcR]at e;cases hx:zfz id fs with
  | none=>simp only[hx,Option.some.injEq,Prod.mk.injEq]at e;obtain⟨rfl,rfl,_⟩:=e;exact AWP.exit (z9G fs hx h)
  | some fs'=>simp only[hx]at e;exact AWP.exit (z9g fs hx (ze5 (k:=0) ih fs' e ho h))
 | region id ops d=>
  simp only[zcR]at e;cases hx:zit X tt ctr n ops ops.toList st hs with
  | none=>simp only[hx]at e;cases e
  | some q=>
   obtain⟨st1,hs1,ob1,lg⟩:=q;simp only[hx]at e;by_cases hd:d=false\/za8 ops.toList lg=true
   ·rw[if_pos hd]at e;obtain⟨ob2,e2,rfl⟩:=z5E e;obtain⟨o1,o2⟩:=xw ho;have hq:=ze5 (k:=0) ih fs e2 o2 h;cases d with
    | false=>exact AWP.region hT (hC.withE X.ok) (z8N _ _ _ hx o1 hq)
    | true=>exact AWP.drawn hT (hC.withE X.ok) hm (zej _ _ _ [] hx o1 (by simpa using hd) hq)
   ·rw[if_neg hd]at e;cases e
 | seq x y=>
  have gen:∀hs,rec x (.seq y::fs) st hs=some (s,st',hs',ob)->AWP P n (.seq x y) st (Qf P n fs Q):=λhs e=>AWP.seq (ih _ _ _ _ _ _ _ _ e ho h);rcases hs with _|⟨q,hs⟩
  ·exact gen _ e
  ·cases q with
   | cut m=>
    cases m with
    | zero=>simp only[zcR,Option.some.injEq,Prod.mk.injEq]at e;obtain⟨rfl,rfl,_⟩:=e;exact h
    | succ m=>exact gen _ e
   | _=>exact gen _ e
 | cond o x y=>
  simp only[zcR]at e;cases hb:zfj st o with
  | none=>simp only[hb]at e;cases e
  | some b=>
   simp only[hb]at e;rcases hs with _|⟨q,hs⟩
   ·cases e
   ·cases q with
    | b b'=>
     obtain⟨ob2,e2,rfl⟩:=z5E e;have h1:b=b':=ho.1;subst h1;cases b with
     | true=>exact AWP.condT hb (ih _ _ _ _ _ _ _ _ e2 ho.2 h)
     | false=>exact AWP.condF hb (ih _ _ _ _ _ _ _ _ e2 ho.2 h)
    | _=>cases e
 | block id c=>exact AWP.block (ih _ _ _ _ _ _ _ _ e ho h)
 | loop c=>
  have gen:some (zja.at (.loop c) fs,st,hs,([]:List Prop))=some (s,st',hs',ob)->AWP P n (.loop c) st (Qf P n fs Q):=by intro e;simp only[Option.some.injEq,Prod.mk.injEq]at e;obtain⟨rfl,rfl,_⟩:=e;exact h
  rcases hs with _|⟨q,hs⟩
  ·exact gen e
  ·cases q with
   | u m=>exact ztN.loop (m+1) st (ih _ _ _ _ _ _ _ _ e ho h)
   | _=>exact gen e
 | _=>simp only[zcR,Option.some.injEq,Prod.mk.injEq]at e;obtain⟨rfl,rfl,_⟩:=e;exact h
theorem z9y (X:XH P)(hT:wy P tt)(hC:zF P ctr)(hm:P.follows .mixedOrders=true):∀(k:Nat) (c:Code) (fs:List Fm) (st:St) (hs:List H) (s:zja) (st':St) (hs':List H) (ob:List Prop),
  zk6 X tt ctr n k c fs st hs=some (s,st',hs',ob)->z8X ob->s.sem P n Q st'->AWP P n c st (Qf P n fs Q):=by
 intro k;induction k with
 | zero=>intro c fs st hs s st' hs' ob e;cases e
 | succ k ih=>
  intro c fs st hs s st' hs' ob e ho h;have gen:∀hs,zcR (zk6 X tt ctr n k) X tt ctr n c fs st hs=some (s,st',hs',ob)->AWP P n c st (Qf P n fs Q):=λhs e=>znv X hT hC hm ih c fs st hs s st' hs' ob e ho h;rcases hs with _|⟨q,hs⟩
  ·exact gen _ e
  ·cases q with
   | v m ks=>
    cases m with
    | zero=>
     simp only[zk6]at e;cases hx:zcU ks st hs with
     | none=>simp only[hx]at e;cases e
     | some q=>obtain⟨xs,R,U,hs1,ob1⟩:=q;simp only[hx]at e;obtain⟨ob2,e2,rfl⟩:=z5E e;obtain⟨o1,o2⟩:=xw ho;have h1:=zh8 _ _ _ _ _ _ _ _ hx o1;have h2:=ih c fs _ _ _ _ _ _ e2 o2 h;intro rd m df w0 S0 M S Fp a w hc hs;obtain⟨S',Fp',g1⟩:=zek hs h1;exact h2 rd m df w0 S0 M S' Fp' a w hc g1
    | succ m=>exact gen _ e
   | n m ks=>
    cases m with
    | zero=>
     simp only[zk6]at e;cases hx:Ya (λ_=>none) (ks.map λi=>(.tmp i,0)) st hs with
     | none=>simp only[hx]at e;cases e
     | some q=>obtain⟨xs,R,U,hs1,ob1⟩:=q;simp only[hx]at e;obtain⟨ob2,e2,rfl⟩:=z5E e;obtain⟨o1,o2⟩:=xw ho;have h1:=XR (λ_=>none) _ _ _ _ _ _ _ _ hx o1;have h2:=ih c fs _ _ _ _ _ _ e2 o2 h;intro rd m df w0 S0 M S Fp a w hc hs;obtain⟨S',Fp',g1,_⟩:=vV hs h1;exact h2 rd m df w0 S0 M S' Fp' a w hc g1
    | succ m=>exact gen _ e
   | stp m=>
    cases m with
    | zero=>simp only[zk6,Option.some.injEq,Prod.mk.injEq]at e;obtain⟨rfl,rfl,_⟩:=e;exact h
    | succ m=>exact gen _ e
   | _=>exact gen _ e
structure Ob where
 p:Prop
 h:p
def ob (h:p):Ob:=⟨p,h⟩
theorem zbZ:∀(l:List Ob),z8X (l.map Ob.p)
 | []=>trivial
 | o::l=>⟨o.h,zbZ l⟩
def zbQ (X:XH P)(tt:TT)(ctr:Ctr)(n:Fr)(live:List Nat)(k:Nat)(c:Code)(fs:List Fm)(st:St)(hs:List H):Option (zja×St×List Prop) :=
 match zk6 X tt ctr n k c fs st hs with
 | some (s,st',[],ob)=>some (s,canon live st',ob)
 | _=>none
theorem zgL (X:XH P)(hT:wy P tt)(hC:zF P ctr)(hm:P.follows .mixedOrders=true)(live:List Nat)(k:Nat){c:Code}{fs:List Fm}{st:St}{hs:List H}{s:zja}{st':St}(obs:List Ob)
  (e:zbQ X tt ctr n live k c fs st hs=some (s,st',obs.map Ob.p)) (h:∀st0,canon live st0=st'->s.sem P n Q st0):AWP P n c st (Qf P n fs Q):=by
 unfold zbQ at e;split at e
 ·rename_i s1 st1 ob1 e1;simp only[Option.some.injEq,Prod.mk.injEq]at e;obtain⟨rfl,h1,rfl⟩:=e;exact z9y X hT hC hm k c fs st hs _ _ _ _ e1 (zbZ obs) (h _ h1)
 ·cases e
def sub:List Nat->Code->Code
 | [],c=>c
 | 0::p,.seq x _=>sub p x
 | 1::p,.seq _ y=>sub p y
 | 2::p,.seq x _=>sub p x
 | 0::p,.cond _ x _=>sub p x
 | 1::p,.cond _ _ y=>sub p y
 | _::p,.block _ c=>sub p c
 | _::p,.loop c=>sub p c
 | _::p,.scope c=>sub p c
 | 0::p,.rangeFunc _ _ c _=>sub p c
 | 1::p,.rangeFunc _ _ _ c=>sub p c
 | _::_,c=>c
def frs:List Nat->List (St->Prop)->Code->List Fm->List Fm
 | [],_,_,fs=>fs
 | 0::p,Js,.seq x y,fs=>frs p Js x (.seq y::fs)
 | 1::p,Js,.seq _ y,fs=>frs p Js y fs
 | 2::p,J::Js,.seq x _,fs=>frs p Js x (.pre J::fs)
 | 0::p,Js,.cond _ x _,fs=>frs p Js x fs
 | 1::p,Js,.cond _ _ y,fs=>frs p Js y fs
 | _::p,Js,.block id c,fs=>frs p Js c (.blk id::fs)
 |(m+3)::p,Js,.loop c,fs=>frs p Js c (.rnd m c::fs)
 | _::p,J::Js,.loop c,fs=>frs p Js c (.pre J::fs)
 | _::p,Js,.scope c,fs=>frs p Js c fs
 | 0::p,Js,.rangeFunc _ _ c _,_=>frs p Js c []
 | 1::p,Js,.rangeFunc _ _ _ c,_=>frs p Js c []
 | _::_,_,_,fs=>fs
end
class LeA (x y:A):Prop where
 rep:∀S cs,Rep S x cs->Rep S y cs
 conc:∀S h cs F,zU S h x cs F->zU S h y cs F
 val:∀cs,y8 x cs=y8 y cs
 tup:∀fs,x=.tup fs->y=x
class zck (xs ys:List A):Prop where
 rep:∀S cs,yK S xs cs->yK S ys cs
 conc:∀S h cs F,zZ S h xs cs F->zZ S h ys cs F
 len:xs.length=ys.length
 size:∀sz,(∀x∈xs,x.size=sz)->∀y∈ys,y.size=sz
instance (priority:=2000) LeA.refl (x:A):LeA x x:=⟨λ_ _ h=>h,λ_ _ _ _ h=>h,λ_=>rfl,λ_ _=>rfl⟩
instance (priority:=2000) zck.refl (x:List A):zck x x:=⟨λ_ _ h=>h,λ_ _ _ _ h=>h,rfl,λ_ h=>h⟩
theorem z3c {S:zo}{xs ys:List A}(hl:xs.length=ys.length)(h:xs=[]):ys=[]:=by subst h;exact List.length_eq_zero_iff.1 hl.symm
instance LeA.osl (sz:Nat)(t:Bool)(xs ys:List A)[h:zck xs ys]:LeA (.osl sz t xs) (.osl sz false ys):={
 rep:=λS cs q=>by simp only[Rep]at q
 conc:=λS hp cs F q=>by
  simp only[zU]at q ⊢;obtain⟨p,c,e,h1,h2,h3,h4,h5⟩:=q;refine⟨p,c,by rw[<-h.len];exact e,by simp,by rw[<-h.len];exact h2,h3,h.size _ h4,?_⟩;rcases h5 with⟨q1,q2,q3,q4⟩|⟨b,arr,ty,l,F',e1,e2,e3,e4,e5,e6,e7⟩
  ·exact .inl ⟨z3c (S:=S) h.len q1,q2,q3,q4⟩
  ·exact .inr ⟨b,arr,ty,l,F',e1,e2,e3,by rw[<-h.len];exact e4,h.conc _ _ _ _ e5,e6,e7⟩
 val:=λ_=>rfl
 tup:=λ_ e=>by cases e }
instance LeA.sl (sz:Nat)(t:Bool)(xs ys:List A)[h:zck xs ys]:LeA (.sl sz t xs) (.sl sz false ys):={
 rep:=λS cs q=>by
  simp only[Rep]at q ⊢;obtain⟨p,c,e,h1,h2,h3,h4⟩:=q;refine⟨p,c,by rw[<-h.len];exact e,by simp,by rw[<-h.len];exact h2,h.size _ h3,?_⟩;rcases h4 with q|⟨b,o,l,q1,q2,q3⟩
  ·exact .inl (z3c (S:=S) h.len q)
  ·exact .inr ⟨b,o,l,q1,h.rep _ _ q2,q3⟩
 conc:=λS hp cs F q=>by
  simp only[zU]at q ⊢;refine⟨?_,q.2⟩;have q:=q.1;simp only[Rep]at q ⊢;obtain⟨p,c,e,h1,h2,h3,h4⟩:=q;refine⟨p,c,by rw[<-h.len];exact e,by simp,by rw[<-h.len];exact h2,h.size _ h3,?_⟩;rcases h4 with q|⟨b,o,l,q1,q2,q3⟩
  ·exact .inl (z3c (S:=S) h.len q)
  ·exact .inr ⟨b,o,l,q1,h.rep _ _ q2,q3⟩
 val:=λ_=>rfl
 tup:=λ_ e=>by cases e }
instance LeA.agg (xs ys:List A)[h:zck xs ys]:LeA (.agg xs) (.agg ys):={
 rep:=λS cs q=>by simp only[Rep]at q ⊢;exact h.rep _ _ q
 conc:=λS hp cs F q=>by simp only[zU]at q ⊢;exact h.conc _ _ _ _ q
 val:=λ_=>rfl
 tup:=λ_ e=>by cases e }
instance LeA.box (x y:A)[h:LeA x y]:LeA (.box x) (.box y):={
 rep:=λS cs q=>by simp only[Rep]at q
 conc:=λS hp cs F q=>by simp only[zU]at q ⊢;obtain⟨b,ty,l,F',e1,e2,e3,e4,e5⟩:=q;exact⟨b,ty,l,F',e1,e2,h.conc _ _ _ _ e3,e4,e5⟩
 val:=λ_=>rfl
 tup:=λ_ e=>by cases e }
class SzA (x y:A):Prop where
 eq:x.size=y.size
instance (priority:=2000) SzA.refl (x:A):SzA x x:=⟨rfl⟩
class ztL (x y:List A):Prop where
 eq:A.sizes x=A.sizes y
instance ztL.nil:ztL [] []:=⟨rfl⟩
instance ztL.cons (x y:A)(xs ys:List A)[h:SzA x y][k:ztL xs ys]:ztL (x::xs) (y::ys):=⟨by simp only[A.sizes,h.eq,k.eq]⟩
instance SzA.agg (xs ys:List A)[h:ztL xs ys]:SzA (.agg xs) (.agg ys):=⟨by simp only[A.size,h.eq]⟩
instance zck.nil:zck [] []:=zck.refl []
instance zck.cons (x y:A)(xs ys:List A)[h:LeA x y][z:SzA x y][k:zck xs ys]:zck (x::xs) (y::ys):={
 rep:=λS cs q=>by simp only[yK]at q ⊢;obtain⟨c1,c2,e,q1,q2⟩:=q;exact⟨c1,c2,e,h.rep _ _ q1,k.rep _ _ q2⟩
 conc:=λS hp cs F q=>by simp only[zZ]at q ⊢;obtain⟨c1,c2,F1,F2,e,e2,q1,q2⟩:=q;exact⟨c1,c2,F1,F2,e,e2,h.conc _ _ _ _ q1,k.conc _ _ _ _ q2⟩
 len:=by simp[k.len]
 size:=λsz q=>by
  intro y' hy;rcases pD.1 hy with rfl|hy
  ·rw[<-z.eq];exact q x (by simp)
  ·exact k.size sz (λx hx=>q x (by simp[hx])) y' hy }
theorem zvG {f g:α->A}(h:∀x,LeA (f x) (g x))(z:∀x,SzA (f x) (g x)):∀l:List α,zck (l.map f) (l.map g)
 | []=>zck.nil
 | x::l=>@zck.cons _ _ _ _ (h x) (z x) (zvG h z l)
instance zck.map {α:Type}(f g:α->A)[h:∀x,LeA (f x) (g x)][z:∀x,SzA (f x) (g x)](l:List α):zck (l.map f) (l.map g):=zvG h z l
variable {v:Value}
theorem LeA.repV {x y:A}(h:LeA x y)   (q:wh S x v):wh S y v:=by
 by_cases ht:∃fs,x=.tup fs
 ·obtain⟨fs,rfl⟩:=ht;rw[h.tup fs rfl];exact q
 ·have q1:qa S x v:=by cases x <;> simp only[wh]at q <;> first|exact q|exact absurd ⟨_,rfl⟩ ht
  obtain⟨cs,c1,c2⟩:=q1;exact qa.repV ⟨cs,h.rep _ _ c1,by rw[<-h.val];exact c2⟩
class LeV (x y:A):Prop where
 has:∀S h v F,Has S h x v F->Has S h y v F
instance (priority:=2000) LeV.refl (x:A):LeV x x:=⟨λ_ _ _ _ h=>h⟩
instance LeV.one (x y:A)[h:LeA x y]:LeV x y:=⟨λS hp v F q=>by
 rcases q with⟨q,e⟩|⟨cs,q1,q2,q3⟩
 ·exact .inl ⟨h.repV q,e⟩
 ·exact .inr ⟨cs,h.conc _ _ _ _ q1,q2,by rw[<-h.val];exact q3⟩⟩
class z3p (xs ys:List A):Prop where
 all:∀S vs,UR (qa S) xs vs->UR (qa S) ys vs
instance z3p.nil:z3p [] []:=⟨λ_ _ h=>h⟩
instance z3p.cons (x y:A)(xs ys:List A)[h:LeA x y][k:z3p xs ys]:z3p (x::xs) (y::ys):=⟨λS vs q=>by
 cases vs with
 | nil=>exact q.elim
 | cons v vs=>refine⟨?_,k.all S vs q.2⟩;obtain⟨cs,c1,c2⟩:=q.1;exact⟨cs,h.rep _ _ c1,by rw[<-h.val];exact c2⟩⟩
instance LeV.tup (xs ys:List A)[k:z3p xs ys]:LeV (.tup xs) (.tup ys):=⟨λS hp v F q=>by
 rcases q with⟨q,e⟩|⟨cs,q1,q2,q3⟩
 ·simp only[wh]at q;obtain⟨vs,e2,q⟩:=q;exact .inl ⟨by simp only[wh];exact⟨vs,e2,k.all _ _ q⟩,e⟩
 ·simp only[zU]at q1⟩
def LeT:T->T->Prop
 | .own x,y=>∃z,y=.own z/\LeA x z
 | .d x,y=>∃z,y=.d z/\LeA x z
 | .als r p er ec,y=>p=[]/\y=.als r [] er ec
 | .gone,y=>y=.gone
 | _,_=>False
class zdI (l m:List (Nat×T)):Prop where
 ent:∀t,(ofL l t).er=(ofL m t).er/\(ofL l t).ec=(ofL m t).ec/\LeT (ofL l t).t (ofL m t).t
instance zdI.nil:zdI [] []:=⟨λt=>⟨rfl,rfl,rfl⟩⟩
theorem zdI.cons' {x y:T}{l m:List (Nat×T)}(h:LeT x y)(hl:zdI l m):zdI ((k,x)::l) ((k,y)::m):=⟨λt=>by
 simp only[ofL];split
 ·exact⟨rfl,rfl,h⟩
 ·exact hl.ent t⟩
instance zdI.own (k:Nat)(x y:A)(l m:List (Nat×T))[h:LeA x y][hl:zdI l m]:zdI ((k,.own x)::l) ((k,.own y)::m):=zdI.cons' ⟨y,rfl,h⟩ hl
instance zdI.d (k:Nat)(x y:A)(l m:List (Nat×T))[h:LeA x y][hl:zdI l m]:zdI ((k,.d x)::l) ((k,.d y)::m):=zdI.cons' ⟨y,rfl,h⟩ hl
instance zdI.als (k r er ec:Nat)(l m:List (Nat×T))[hl:zdI l m]:zdI ((k,.als r [] er ec)::l) ((k,.als r [] er ec)::m):=zdI.cons' ⟨rfl,rfl⟩ hl
class LeL (l m:List (Nat×T)):Prop where
 or:l=m\/zdI l m
instance (priority:=2000) LeL.refl (l:List (Nat×T)):LeL l l:=⟨.inl rfl⟩
instance LeL.of0 (l m:List (Nat×T))[h:zdI l m]:LeL l m:=⟨.inr h⟩
variable {X:List Nat}
theorem Sim.le {st st':St}   (h:Sim C S Fp X st a w)(hl:∀t,(st t).er=(st' t).er/\(st t).ec=(st' t).ec/\LeT (st t).t (st' t).t):Sim C S Fp X st' a w:={
 size:=h.size
 pin:=h.pin
 defers:=h.defers
 below:=h.below
 mine:=h.mine
 still:=h.still
 sinc:=h.sinc
 sbase:=h.sbase
 disj:=h.disj
 base:=h.base
 xn:=h.xn
 xd:=h.xd
 xb:=h.xb
 ent:=λt=>by
  have q:=h.ent t;obtain⟨_,_,l3⟩:=hl t;unfold wv at q ⊢;cases ht:(st t).t with
  | gone=>simp only[ht,LeT]at l3 q;simp only[l3];exact q
  | d x=>simp only[ht,LeT]at l3 q;obtain⟨z,e,l3⟩:=l3;simp only[e];exact⟨l3.repV q.1,q.2⟩
  | own x=>simp only[ht,LeT]at l3 q;obtain⟨z,e,l3⟩:=l3;simp only[e];obtain⟨cs,q1,q2,q3⟩:=q;exact⟨cs,l3.conc _ _ _ _ q1,q2,by rw[<-l3.val];exact q3⟩
  | als r p er ec=>
   simp only[ht,LeT]at l3 q;obtain⟨rfl,e⟩:=l3;simp only[e];refine⟨q.1,?_⟩;obtain⟨q1,q2,q3⟩:=q.2;obtain⟨r1,r2,r3⟩:=hl r;unfold XJ;refine⟨by rw[<-r1];exact q1,by rw[<-r2];exact q2,?_⟩;cases hr:(st r).t with
   | own x=>
    simp only[hr,LeT]at q3 r3;obtain⟨z,e2,_⟩:=r3;simp only[e2];intro g1 g2;rcases q3 (by rw[r1];exact g1) (.inl trivial) with g|g
    ·exact .inl g
    ·simp[z2C]at g
   | d x=>simp only[hr,LeT]at q3 r3;obtain⟨z,e2,_⟩:=r3;simp only[e2];intro g1 _;exact q3 (by rw[r1];exact g1) trivial
   | gone=>simp only[hr,LeT]at r3;simp only[r3]
   | als u p e1 e2=>simp only[hr,LeT]at r3;simp only[r3.2]
   | ptr u p e1 e2=>simp only[hr,LeT]at r3
  | ptr r p er ec=>simp only[ht,LeT]at l3 }
variable {rs:List (Nat×Option Nat)}{st0:St}{r:A}{fn:Func}{keep:Bool}
section
variable {P:Program}{tt:TT}{ctr:Ctr}{n:Fr}{Q:Exit->St->Prop}
theorem zsO {l m:List (Nat×T)}(h:LeL l m)(k:AWP P n c (ofL m) Q):AWP P n c (ofL l) Q :=
 h.or.elim (λe=>e ▸ k) λh=>λrd mm df w0 S0 M S Fp a w hc hs=>k rd mm df w0 S0 M S Fp a w hc (hs.le h.ent)
theorem zpz {X:Type}{c c':Code}{fs:List Fm}  (e:c=.loop c')(live:List Nat)(Inv:X->Prop)(mu:X->Nat)(stOf:X->List (Nat×T))(x0:X)(l0:List (Nat×T))(hs:canon live st0=ofL l0)(hl:LeL l0 (stOf x0))(h0:Inv x0)
  (round:∀x,Inv x->∀J:St->Prop,(∀st' l' x',Inv x'->mu x' < mu x->canon live st'=ofL l'->LeL l' (stOf x')->J st')->AWP P n c' (ofL (stOf x)) (Qf P n (.pre J::fs) Q)):AWP P n c st0 (Qf P n fs Q):=by
 subst e;refine AWP.loop live (λk st=>∃x l,Inv x/\mu x=k/\st=ofL l/\LeL l (stOf x)) (mu x0) ⟨x0,l0,h0,rfl,hs,hl⟩ ?_;rintro k st ⟨x,l,hx,rfl,rfl,hl⟩;refine zsO hl ?_;exact round x hx _ λst' l' x' h1 h2 h3 h4=>⟨_,h2,x',l',h1,rfl,h3,h4⟩
theorem zpA {X:Type}{c x y:Code}   (e:c=.seq x y)(live live0:List Nat)(l0:List (Nat×T))(hs:canon live0 st0=ofL l0)(Inv:X->Prop)(stJ:X->List (Nat×T))(h1:∀z,Inv z->AWP P n y (ofL (stJ z)) (Qf P n fs Q))
  (h2:∀J:St->Prop,(∀st' l' z,Inv z->canon live st'=ofL l'->LeL l' (stJ z)->J st')->AWP P n x (ofL l0) (Qf P n (.pre J::fs) Q)):AWP P n c st0 (Qf P n fs Q):=by
 subst e;refine AWP.canon live0 ?_;rw[hs];refine AWP.nextC live λK hK=>h2 K λst' l' z hz he hl=>hK st' ?_;rw[he];exact zsO hl (h1 z hz)
def zkc (tt:TT)(keep:Bool)(rs:List (Nat×Option Nat)):SM A :=
 match keep,rs with
 | true,[(t,none)]=>ztF tt true [t]
 | _,rs=>zv9 tt rs
def zo7 (tt:TT)(keep:Bool)(rs:List (Nat×Option Nat)):HM A :=
 match keep,rs with
 | true,[(t,none)]=>yg (ztF tt true [t])
 | _,rs=>Ya tt (rs.map λr=>(.tmp r.1,0)) >>= λxs=>
  match WQ tt rs xs with
  | some [y]=>pure y
  | some ys=>pure (.tup ys)
  | none=>zV
theorem zpX (tt:TT)(rs:List (Nat×Option Nat)):Snd (zv9 tt rs) (Ya tt (rs.map λr=>(.tmp r.1,0)) >>= λxs=>
  match WQ tt rs xs with
  | some [y]=>pure y
  | some ys=>pure (.tup ys)
  | none=>zV):=by
 refine zj (XR _ _) λxs=>?_;cases WQ tt rs xs with
 | none=>exact zw _
 | some ys=>rcases ys with _|⟨y,_|⟨z,l⟩⟩ <;> exact vw _
theorem zuZ (tt:TT)(keep:Bool)(rs:List (Nat×Option Nat)):Snd (zkc tt keep rs) (zo7 tt keep rs):=by
 cases keep with
 | false=>rcases rs with _|⟨⟨t,_|ty⟩,_|⟨q,l⟩⟩ <;> exact zpX _ _
 | true=>rcases rs with _|⟨⟨t,_|ty⟩,_|⟨q,l⟩⟩ <;> first|exact zn _|exact zpX _ _
theorem zpt {n:Fr}  {body:Code}{keep:Bool}{rs:List (Nat×Option Nat)}{ls:List A}{r:A}(hT:wy P tt)(hf:P.funcs[k]?=some fn)(hnm:(fn.name == "runtime.NumGoroutine")=false)(hb:fn.body=some body)
  (hn:n=⟨fn.ntmps,[]⟩) (hr:fn.results=(rs.map ze6).toArray) (ha:ls.length<=fn.ntmps)
  (h:∀E:St->Prop,(∀st x R U,zkc tt keep rs st=some (x,R,U)->LeV x r->E st)->AWP P n body (ofL (zhG 0 ls)) (Qf P n [] (zj5 E))):V5 P k ls r:=by
 have h':=h (λst=>∃x R U,zkc tt keep rs st=some (x,R,U)/\LeV x r) λst x R U h1 h2=>⟨x,R,U,h1,h2⟩;refine⟨⟨fn,hf,hnm,by rw[hb];rfl⟩,?_⟩;intro S w vs F hS hq hF;have h2:AWP P n body (ini ls) (λex st=>(ex=.normal\/ex=.ret)/\∃x R U,zkc tt keep rs st=some (x,R,U)/\LeV x r):=by
  rw[zc7];refine AWP.mono h' ?_;intro e st q;cases e with
  | normal=>exact⟨.inl rfl,q⟩
  | ret=>exact⟨.inr rfl,q⟩
  | _=>exact q.elim
 refine z6M (R:=λw e w'=>∃v' S' F',e=.returned v'/\UQ (λk=>w.heap.size<=k\/k∈F) w w'/\(∀b o u,S b o=some u->S' b o=some u)/\(∀b o,b<w.heap.size->b∉F->S' b o=S b o)/\xu S' w'/\Has S' w'.heap r v' F'/\F'.Nodup /\
   ∀k∈F',w.heap.size<=k\/k∈F) hf hb (by rw[hn]) (by rw[hn];simp) ha hS hq hF h2 ?_
 rintro ex st' ⟨hx,x,R,U,h3,h4⟩;refine⟨hx,?_⟩;intro df S' Fp' a' w' h1;have gcase:zv9 tt rs st'=some (x,R,U)->∃v,(results fn a'.tmps).run P w'=.ok v w'/\∃v' S' F',Ending.returned v=.returned v'/\UQ (λk=>w.heap.size<=k\/k∈F) w w'/\(∀b o u,S b o=some u->S' b o=some u)/\(∀b o,b<w.heap.size->b∉F->S' b o=S b o)/\xu S' w'/\Has S' w'.heap r v' F'/\F'.Nodup /\
   ∀k∈F',w.heap.size<=k\/k∈F:=by
  intro he;obtain⟨v,S2,hres,g1,g2,g3,g4⟩:=zrK (P:=P) hT hr h1 he;refine⟨_,hres,_,S2,[],rfl,h1.below,λb o u hu=>g1 _ _ _ (h1.sinc _ _ _ hu),?_,g3,h4.has _ _ _ _ (.inl ⟨g4,rfl⟩),by simp,by simp⟩;intro b o hb' hbF;exact g2 b o (by rintro(hq|hq) <;> first|omega|exact hbF hq)
 cases keep with
 | false=>exact gcase (by rcases rs with _|⟨⟨t,_|ty⟩,_|⟨q,l⟩⟩ <;> exact h3)
 | true=>
  rcases rs with _|⟨⟨t,_|ty⟩,_|⟨q,l⟩⟩
  ·exact gcase h3
  ·have h3':ztF tt true [t] st'=some (x,R,U):=h3;obtain⟨hl,S2,F',g1,g2,g3,g4,g5,g6⟩:=zrL h1 h3';refine⟨_,zg4 (P:=P) (ts:=[t]) hr hl a' w',_,S2,F',rfl,h1.below,λb o u hu=>g1 _ _ _ (h1.sinc _ _ _ hu),?_,g3,h4.has _ _ _ _ g4,g5,g6⟩;intro b o hb' hbF;exact g2 b o (by rintro(hq|hq) <;> first|omega|exact hbF hq)
  ·exact gcase h3
  ·exact gcase h3
  ·exact gcase h3
def ztE (X:XH P)(tt:TT)(ctr:Ctr)(n:Fr)(keep:Bool)(rs:List (Nat×Option Nat))(k:Nat)(c:Code)(fs:List Fm)(st:St)(hs:List H):Option (A×List Prop) :=
 match zk6 X tt ctr n k c fs st hs with
 | some (.fin .normal,st',hs',ob)=>match zo7 tt keep rs st' hs' with|some (x,_,_,[],ob')=>some (x,ob++ob')|_=>none
 | some (.fin .ret,st',hs',ob)=>match zo7 tt keep rs st' hs' with|some (x,_,_,[],ob')=>some (x,ob++ob')|_=>none
 | _=>none
theorem zqy (X:XH P)(hT:wy P tt)(hC:zF P ctr)(hm:P.follows .mixedOrders=true){E:St->Prop}    (hE:∀st x R U,zkc tt keep rs st=some (x,R,U)->LeV x r->E st)(k:Nat){c:Code}{fs:List Fm}{st:St}{hs:List H}{x:A}(obs:List Ob)
  (e:ztE X tt ctr n keep rs k c fs st hs=some (x,obs.map Ob.p)) (hle:LeV x r):AWP P n c st (Qf P n fs (zj5 E)):=by
 unfold ztE at e;have fin:∀{st' hs' ob},(match zo7 tt keep rs st' hs' with|some (x,_,_,[],ob')=>some (x,ob++ob')|_=>none)=some (x,obs.map Ob.p)->z8X ob/\E st':=by
  intro st' hs' ob e;split at e
  ·rename_i x1 R U ob' he;simp only[Option.some.injEq,Prod.mk.injEq]at e;obtain⟨rfl,e2⟩:=e;have ha:=zbZ obs;rw[<-e2]at ha;obtain⟨o1,o2⟩:=xw ha;exact⟨o1,hE _ _ _ _ (zuZ tt keep rs _ _ _ _ _ _ _ he o2) hle⟩
  ·cases e
 split at e
 ·rename_i st' hs' ob' he;obtain⟨h1,h2⟩:=fin e;exact z9y X hT hC hm k c fs st hs _ _ _ _ he h1 h2
 ·rename_i st' hs' ob' he;obtain⟨h1,h2⟩:=fin e;exact z9y X hT hC hm k c fs st hs _ _ _ _ he h1 h2
 ·cases e
end
abbrev w64 (x:Int):Int:=IntKind.i64.wrap x
def idx (l:List α):Int->Option α
 | .ofNat n=>l[n]?
 | .negSucc _=>none
inductive LR (σ τ:Type) where
 | next (s:σ)
 | done (t:τ)
variable {σ τ:Type}
def z3x (step:σ->Option (LR σ τ))(n:Nat):σ->Option τ :=
 Nat.rec (λ_=>none) (λ_ ih s=>match step s with|none=>none|some (.next s')=>ih s'|some (.done t)=>some t) n
def z1O:Nat:=18446744073709551616
def loop (step:σ->Option (LR σ τ))(s:σ):Option τ:=z3x step z1O s
def zyU (step:σ->Option (LR σ τ))(m:Nat)(t:τ):LR σ τ->Prop
 | .next s'=>z3x step m s'=some t
 | .done t'=>t'=t
theorem zzD {step:σ->Option (LR σ τ)}{n:Nat}{s:σ}{t:τ}(h:z3x step n s=some t):∃m lr,n=m+1/\step s=some lr/\zyU step m t lr:=by
 cases n with
 | zero=>cases h
 | succ m=>
  have h':(match step s with|none=>none|some (.next s')=>z3x step m s'|some (.done t)=>some t)=some t:=h;cases hs:step s with
  | none=>simp[hs]at h'
  | some lr=>
   refine⟨m,lr,rfl,rfl,?_⟩;cases lr with
   | next s'=>simp only[hs]at h';exact h'
   | done t'=>simp only[hs,Option.some.injEq]at h';exact h'
theorem zc {α β:Type}{x:Option α}{f:α->Option β}{r:β}(h:Option.bind x f=some r):∃u,x=some u/\f u=some r:=by
 cases x with
 | none=>cases h
 | some u=>exact⟨u,rfl,h⟩
theorem zI {c:Bool}{x y:Option α}{r:α}(h:(bif c then x else y)=some r):(c=true/\x=some r)\/(c=false/\y=some r):=by
 cases c
 ·exact .inr ⟨rfl,h⟩
 ·exact .inl ⟨rfl,h⟩
def gd (p:Prop)[Decidable p](x:Option α):Option α:=if p then x else none
theorem gdE [Decidable p]{x:Option α}{r:α}(h:gd p x=some r):p/\x=some r:=by
 unfold gd at h;by_cases hp:p
 ·rw[if_pos hp]at h;exact⟨hp,h⟩
 ·rw[if_neg hp]at h;cases h
theorem za {a b:α}(h:some a=some b):a=b:=by cases h;rfl
variable {gives:List Bool}{β:Type}
section
variable {α:Type}
def eI (k:IntKind)(x:Int):A:=.atom (.int k x)
def eB (b:Bool):A:=.atom (.bool b)
def eSl (sz:Nat)(t:Bool)(f:α->A)(l:List α):A:=.sl sz t (l.map f)
def eOs (sz:Nat)(t:Bool)(f:α->A)(l:List α):A:=.osl sz t (l.map f)
def eBx (f:α->A)(x:α):A:=.box (f x)
def eSp (f:α->A)(x:α):A:=.sptr (f x)
def zj8 (k:Nat)(_:Unit):A:=.fn k []
def z1k (k:Nat)(f:α->A)(x:α):A:=.fn k [f x]
def zDf (k:Nat)(f:α->A)(g:β->A)(x:α×β):A:=.fn k [f x.1,g x.2]
def zzN (f:α->A)(g:β->A)(x:α×β):A:=.agg [f x.1,g x.2]
def zDe {β γ:Type}(f:α->A)(g:β->A)(h:γ->A)(x:α×β×γ):A:=.agg [f x.1,g x.2.1,h x.2.2]
class z4U (f:α->A):Prop where
 isD:∀x,(f x).isD=true
class zAy (f:α->A):Prop where
 no:∀x,(f x).isD=false
class Kz (f:α->A) (g:outParam (α->A)):Prop where
 lo:∀x,(f x).loose=g x
class z7V (f:α->A) (g:outParam (α->A)):Prop where
 live:∀x,(f x).live=true
 sh:∀x,(f x).shut=g x
class kZ (f:α->A):Prop where
 inj:∀x y,f x=f y->x=y
instance (k:IntKind):z4U (eI k):=⟨λ_=>rfl⟩
instance:z4U eB:=⟨λ_=>rfl⟩
instance (sz:Nat)(t:Bool)(f:α->A):z4U (eSl sz t f):=⟨λ_=>rfl⟩
instance (k:Nat):Kz (zj8 k) (zj8 k):=⟨λ_=>rfl⟩
instance (k:Nat)(f f':α->A)[h:Kz f f']:Kz (z1k k f) (z1k k f'):=⟨λx=>by simp only[z1k,A.loose,A.looses,h.lo]⟩
instance (k:Nat):kZ (zj8 k):=⟨λ_ _ _=>rfl⟩
instance (k:Nat)(f:α->A)[h:kZ f]:kZ (z1k k f):=⟨λa b e=>by simp only[z1k,A.fn.injEq,List.cons.injEq,true_and,and_true]at e;exact h.inj _ _ e⟩
instance (sz:Nat)(t:Bool)(f:α->A):zAy (eOs sz t f):=⟨λ_=>rfl⟩
instance (k:IntKind):Kz (eI k) (eI k):=⟨λ_=>rfl⟩
instance:Kz eB eB:=⟨λ_=>rfl⟩
instance (sz:Nat)(t:Bool)(f g:α->A)[h:Kz f g]:Kz (eSl sz t f) (eSl sz false g):=⟨λl=>by simp only[eSl,A.loose,zc1,h.lo]⟩
instance (sz:Nat)(t:Bool)(f g:α->A)[h:Kz f g]:Kz (eOs sz t f) (eOs sz false g):=⟨λl=>by simp only[eOs,A.loose,zc1,h.lo]⟩
instance (f g:α->A)[h:Kz f g]:Kz (eSp f) (eSp g):=⟨λl=>by simp only[eSp,A.loose,h.lo]⟩
instance (k:IntKind):z7V (eI k) (eI k):=⟨λ_=>rfl,λ_=>rfl⟩
instance:z7V eB eB:=⟨λ_=>rfl,λ_=>rfl⟩
instance (sz:Nat)(t:Bool)(f:α->A):z7V (eSl sz t f) (eSl sz t f):=⟨λ_=>rfl,λ_=>rfl⟩
instance (sz:Nat)(t:Bool)(f g:α->A)[h:z7V f g]:z7V (eOs sz t f) (eSl sz t g):=⟨λl=>by simp only[eOs,A.live];exact z9T f l h.live,λl=>by simp only[eOs,eSl,A.shut,z9q,h.sh]⟩
instance (k:IntKind):kZ (eI k):=⟨λa b h=>by simpa[eI] using h⟩
instance:kZ eB:=⟨λa b h=>by simpa[eB] using h⟩
theorem zkS {f:α->β}(hf:∀a b,f a=f b->a=b):∀{l l':List α},l.map f=l'.map f->l=l'
 | [],[],_=>rfl
 | [],_::_,h=>by simp at h
 | _::_,[],h=>by simp at h
 | a::l,b::l',h=>by simp only[gM,List.cons.injEq]at h;rw[hf _ _ h.1,zkS hf h.2]
instance (sz:Nat)(t:Bool)(f:α->A)[h:kZ f]:kZ (eSl sz t f):=⟨λa b e=>by simp only[eSl,A.sl.injEq,true_and]at e;exact zkS h.inj e⟩
instance (sz:Nat)(t:Bool)(f:α->A)[h:kZ f]:kZ (eOs sz t f):=⟨λa b e=>by simp only[eOs,A.osl.injEq,true_and]at e;exact zkS h.inj e⟩
instance (f:α->A)[h:kZ f]:kZ (eSp f):=⟨λa b e=>by simp only[eSp,A.sptr.injEq]at e;exact h.inj _ _ e⟩
instance (sz sz':Nat)(t t':Bool)(f g:α->A)(l l':List α):SzA (eSl sz t f l) (eSl sz' t' g l'):=⟨rfl⟩
instance (sz:Nat)(t:Bool)(f g:α->A)[h:∀x,LeA (f x) (g x)][z:∀x,SzA (f x) (g x)](l:List α):LeA (eSl sz t f l) (eSl sz false g l):=LeA.sl sz t (l.map f) (l.map g)
instance (sz:Nat)(t:Bool)(f g:α->A)[h:∀x,LeA (f x) (g x)][z:∀x,SzA (f x) (g x)](l:List α):LeA (eOs sz t f l) (eOs sz false g l):=LeA.osl sz t (l.map f) (l.map g)
theorem i0 {l:List α}{i:Int}{u:α}(h:idx l i=some u):0<=i:=by
 cases i with
 | ofNat n=>exact nM n
 | negSucc n=>cases h
theorem iE {l:List α}{i:Int}{u:α}(h:idx l i=some u):l[i.toNat]?=some u:=by
 cases i with
 | ofNat n=>exact h
 | negSucc n=>cases h
theorem iM (f:α->A){l:List α}{i:Int}{u:α}(h:idx l i=some u):(l.map f)[i.toNat]?=some (f u):=by rw[gT,iE h];rfl
theorem iL (f:α->A){l:List α}{i:Int}{u:α}(h:idx l i=some u):0<=i/\i.toNat<(l.map f).length:=⟨i0 h,by rw[gD];exact(p8.1 (iE h)).1⟩
theorem arJ {t:Nat}{fs:List A}{j:Int}(h0:XI tt t fs 0=true)(hj:0<=j):XI tt t fs j=true:=by
 unfold XI at h0 ⊢;split at h0
 ·simp only[Int.le_refl,decide_true,rE,pJ]at h0;simp only[hj,decide_true,rE,pJ];exact h0
 ·cases h0
theorem sM (f:α->A)(l:List α)(i:Int)(v:α):(l.map f).set i.toNat (f v)=(l.set i.toNat v).map f:=by rw[List.map_set]
theorem dM (f:α->A)[h:z4U f](l:List α):A.areD (l.map f)=true:=zdC f l h.isD
theorem d1 (f:α->A)[h:z4U f](x:α):A.areD [f x]=true:=by simp[A.areD,h.isD]
theorem o1 (f:α->A)[h:zAy f](x:α):A.areD [f x]=false:=by simp[A.areD,h.no]
theorem shM (f g:α->A)[h:z7V f g](l:List α):A.lives (l.map f)=true/\A.shuts (l.map f)=l.map g:=⟨z9T f l h.live,by rw[z9q];simp only[h.sh]⟩
theorem aM (f:α->A)(l m:List α):l.map f++m.map f=(l++m).map f:=by rw[mF]
theorem aL (f g:α->A){l m:List α}(h:l.length+m.length<=4294967296):(l.map f).length+(m.map g).length<=lim:=by simpa[lim] using h
theorem aN (f g:α->A)[z4U g]{l m:List α}(h:l.length+m.length<=4294967296)(hm:m≠[]):(l.map g).length+(m.map f).length<=lim/\m.map f≠[]/\A.areD (l.map g)=true:=⟨by simpa[lim] using h,by simpa using hm,dM g l⟩
theorem rM (sz:Nat)(f:α->A)(n:Int)(z:α):A.osl sz (decide (n=n)) (List.replicate n.toNat (f z))=eOs sz true f (List.replicate n.toNat z):=by simp[eOs]
theorem rL {n:Int}(h:0<=n/\n<=4294967296):0<=n/\n<=n/\n<=((lim:Nat):Int):=⟨h.1,Int.le_refl _,h.2⟩
theorem lnM (f:α->A)(l:List α):A.atom (.int .i64 (((l.map f).length:Nat):Int))=.atom (.int .i64 ((l.length:Nat):Int)):=by rw[gD]
theorem oC (f:α->A)[h:zAy f](x:α)(l:List α):A.areD ((x::l).map f)=false:=by simp[A.areD,h.no]
theorem aM0 (f:α->A)(m:List α):([]:List A)++m.map f=m.map f:=rfl
theorem slA {a:Int}{r:Prop}(h:0<=a/\r):0<=a:=h.1
theorem slB {a b:Int}{r:Prop}(h:0<=a/\a<=b/\r):0<=b:=Int.le_trans h.1 h.2.1
theorem slC {a b m:Int}{r:Prop}(h:0<=a/\a<=b/\r/\b<=m):0<=m:=by omega
theorem zuV (f:α->A){l:List α}{a:Int}(h:0<=a/\a<=((l.length:Nat):Int)/\((l.length:Nat):Int)<=((l.length:Nat):Int)):a.toNat<=(l.map f).length/\(l.map f).length<=(l.map f).length:=by simp;omega
theorem znB (f:α->A){l:List α}{b:Int}(h:(0:Int)<=0/\0<=b/\b<=((l.length:Nat):Int)):0<=b.toNat/\b.toNat<=(l.map f).length:=by simp;omega
theorem zz7 (f:α->A){l:List α}{a b:Int}(h:0<=a/\a<=b/\b<=((l.length:Nat):Int)):a.toNat<=b.toNat/\b.toNat<=(l.map f).length:=by simp;omega
theorem zuW (f:α->A){l:List α}{b m:Int}(h:(0:Int)<=0/\0<=b/\m<=((l.length:Nat):Int)/\b<=m):0<=b.toNat/\b.toNat<=m.toNat/\m.toNat<=(l.map f).length:=by simp;omega
theorem zB5 (sz:Nat)(f:α->A)(l:List α)(a b:Nat):A.sl sz (b==b) (((l.map f).drop a).take (b - a))=eSl sz true f ((l.drop a).take (b - a)):=by simp[eSl]
theorem slE (sz:Nat)(t:Bool)(f:α->A)(l:List α)(a:Nat):A.sl sz (t&&(l.map f).length==(l.map f).length) (((l.map f).drop a).take ((l.map f).length - a))=eSl sz t f (l.drop a):=by simp[eSl];rw[nH (by simp)]
def mx (a b:Int):Int:=if a<b then b else a
theorem cuB (f:α->A){l:List α}{b:Int}(h:0<=b/\b<=((l.length:Nat):Int)):b.toNat<=(l.map f).length:=by simp;omega
theorem cuM (f:α->A)(l:List α)(b:Int):(l.map f).take b.toNat=(l.take b.toNat).map f:=by rw[List.map_take]
theorem slM (sz:Nat)(t:Bool)(f:α->A)(l:List α)(a b:Nat):A.sl sz t (((l.map f).drop a).take (b - a))=eSl sz t f ((l.drop a).take (b - a)):=by simp[eSl]
def spF (k:Nat){α ρ:Type}(enc:α->List A)(encR:ρ->A)(F:α->Option ρ)(gives:List Bool)(inj:∀x y,enc x=enc y->x=y):zN:={
 α:=α
 k:=k
 raw:=false
 gives:=gives
 enc:=enc
 pre:=λx=>∃r,F x=some r
 f:=λx=>match F x with|some r=>encR r|none=>.dead 0
 inj:=by intro x y h _ _;rw[inj x y h] }
theorem JP {c:Ctr}  {α ρ:Type}{enc:α->List A}{encR:ρ->A}{F:α->Option ρ}  {inj:∀x y,enc x=enc y->x=y}(h:c.Has (spF k enc encR F gives inj)){x:α}{r:ρ}(hr:F x=some r){as_:List A}(ha:as_.map A.loose=enc x) :
  c.run k (c.norm k as_)=some (encR r):=by
 have h1:=h.run x ⟨r,hr⟩;have h2:c.raw k=false:=h.raw;unfold Ctr.norm;rw[h2];simp only[gG,if_false];rw[ha];refine Eq.trans h1 ?_;simp only[spF,hr]
theorem JO {c:Ctr}  {α ρ:Type}{enc:α->List A}{encR:ρ->A}{F:α->Option ρ}  {inj:∀x y,enc x=enc y->x=y}(h:c.Has (spF k enc encR F gives inj)):c.lend k=none/\c.gives k=gives:=⟨h.lend,h.gives⟩
theorem zC {α ρ:Type}{enc:α->List A}{encR:ρ->A}{F:α->Option ρ}  {inj:∀x y,enc x=enc y->x=y}(h:∀x r,F x=some r->V5 P k (enc x) (encR r)):(spF k enc encR F gives inj).Ok P:=by rintro x ⟨r,hr⟩;have:=h x r hr;simpa only[spF,hr] using this
theorem loN:([]:List A).map A.loose=[]:=rfl
theorem loC (f:α->A){g:α->A}[h:Kz f g](x:α){as_ bs:List A}(k:as_.map A.loose=bs):(f x::as_).map A.loose=g x::bs:=by simp only[gM,h.lo,k]
end
section
variable {P:Program}{tt:TT}{ctr:Ctr}{n:Fr}{Q:Exit->St->Prop}
theorem zpB (X:XH P)(hT:wy P tt)(hC:zF P ctr)(hm:P.follows .mixedOrders=true)(live:List Nat)(k:Nat){c:Code}{fs:List Fm}{st:St}(hs:List H)(c':Code)(fs':List Fm)(l':List (Nat×T))(obs:List Ob)
  (e:zbQ X tt ctr n live k c fs st hs=some (.at c' fs',ofL l',obs.map Ob.p)) (h:∀st0,canon live st0=ofL l'->AWP P n c' st0 (Qf P n fs' Q)):AWP P n c st (Qf P n fs Q):=zgL X hT hC hm live k obs e h
theorem zm7 (X:XH P)(hT:wy P tt)(hC:zF P ctr)(hm:P.follows .mixedOrders=true)(live:List Nat)(k:Nat){c:Code}{fs:List Fm}{st:St}(hs:List H)(J:St->Prop)(l':List (Nat×T))(obs:List Ob)
  (e:zbQ X tt ctr n live k c fs st hs=some (.back J,ofL l',obs.map Ob.p)) (h:∀st0,canon live st0=ofL l'->J st0):AWP P n c st (Qf P n fs Q):=zgL X hT hC hm live k obs e h
end
open Classical
def zbv:A->Option (List Value)
 | .atom (.int k x)=>some [.int k x]
 | .atom (.string s)=>some [.string s]
 | .agg fs=>keyLs fs
 | _=>none
where keyLs:List A->Option (List Value)
 | []=>some []
 | a::as_=>match zbv a,keyLs as_ with|some x,some y=>some (x++y)|_,_=>none
def z6o (a:A):Option Value:=(zbv a).map (y8 a)
mutual
theorem zhE:∀{a:A} {cs l:List Value},Rep S a cs->zbv a=some l->cs=l
 | .atom v,cs,l,h,e=>by
  cases v <;> simp only[zbv]at e <;> first|(cases e;done)|skip
  all_goals
   simp only[Rep]at h;cases e;exact h.1
 | .agg fs,cs,l,h,e=>by simp only[Rep]at h;simp only[zbv]at e;exact zf0 h e
 | .fn _ _,_,_,_,e=>by cases e
 | .tup _,_,_,_,e=>by cases e
 | .sl _ _ _,_,_,_,e=>by cases e
 | .sptr _,_,_,_,e=>by cases e
 | .dop _,_,_,_,e=>by cases e
 | .osl _ _ _,_,_,_,e=>by cases e
 | .box _,_,_,_,e=>by cases e
 | .dead _,_,_,_,e=>by cases e
 | .opq _,_,_,_,e=>by cases e
theorem zf0:∀{as_:List A} {cs l:List Value},yK S as_ cs->zbv.keyLs as_=some l->cs=l
 | [],cs,l,h,e=>by simp only[yK]at h;simp only[zbv.keyLs]at e;cases e;exact h
 | a::as_,cs,l,h,e=>by
  simp only[yK]at h;obtain⟨c1,c2,rfl,h1,h2⟩:=h;simp only[zbv.keyLs]at e;cases e1:zbv a with
  | none=>simp only[e1]at e;cases e
  | some x=>
   cases e2:zbv.keyLs as_ with
   | none=>simp only[e1,e2]at e;cases e
   | some y=>simp only[e1,e2]at e;cases e;rw[zhE h1 e1,zf0 h2 e2]
end
theorem zhD {a:A}{v kv:Value}(h:qa S a v)(e:z6o a=some kv):v=kv:=by obtain⟨cs,h1,rfl⟩:=h;unfold z6o at e;obtain⟨l,e1,rfl⟩:=pZ.1 e;rw[zhE h1 e1]
def z7U (S:zo)(es:List (A×A))(ents:List MapEntry):Prop:=UR (λp (e:MapEntry)=>z6o p.1=some e.key/\qa S p.2 e.val) es ents
def z1G (es:List (A×A)):Opq:={
 holds:=λS h u F=>∃b ents cl,u=.map (some b)/\F=[b]/\h[b]?=some (.map ents cl)/\(∀o,S b o=none)/\z7U S es ents.toList
 one:=λ⟨_,_,_,e,_⟩=>.inl (by rw[e];rfl)
 frame:=λhS hF ⟨b,ents,cl,e1,e2,e3,e4,e5⟩=>by subst e2;obtain⟨g1,g2⟩:=hF b (by simp);exact⟨b,ents,cl,e1,rfl,g1.trans e3,g2,UR.mono (λ_ _ q=>⟨q.1,q.2.mono hS⟩) e5⟩
 own:=λ⟨b,ents,cl,e1,e2,e3,e4,e5⟩ k hk=>by subst e2;simp only[pD,pX,or_false]at hk;subst hk;exact⟨(pK.1 e3).1,e4⟩
 idx:=0 }
def z1g (k:A):List (A×A)->Nat->Option (Nat×A)
 | [],_=>none
 | p::es,i=>if z6o p.1=z6o k then some (i,p.2) else z1g k es (i+1)
def z4t (k:Value):List MapEntry->Nat->Option (Nat×Value)
 | [],_=>none
 | e::es,i=>if e.key=k then some (i,e.val) else z4t k es (i+1)
variable {kv:Value}
theorem zdl {k:A}  (hk:z6o k=some kv):∀{es:List (A×A)} {ents:List MapEntry} {i:Nat},z7U S es ents ->
  (z1g k es i=none/\z4t kv ents i=none)\/∃j y v,z1g k es i=some (j,y)/\z4t kv ents i=some (j,v)/\qa S y v/\i<=j/\j<i+es.length/\(ents[j - i]?).map (·.key)=some kv
 | [],[],i,_=>.inl ⟨rfl,rfl⟩
 | p::es,e::ents,i,h=>by
  simp only[z1g,z4t];by_cases hp:z6o p.1=z6o k
  ·have he:e.key=kv:=by have:=h.1.1.symm.trans (hp.trans hk);simpa using this
   rw[if_pos hp,if_pos he];exact .inr ⟨i,p.2,e.val,rfl,rfl,h.1.2,pC _,by simp,by simp[he]⟩
  ·have he:¬e.key=kv:=λq=>hp (by rw[h.1.1,hk,q]);rw[if_neg hp,if_neg he];rcases zdl hk (i:=i+1) h.2 with q|⟨j,y,v,q1,q2,q3,q4,q5,q6⟩
   ·exact .inl q
   ·refine .inr ⟨j,y,v,q1,q2,q3,by omega,by simp only[gI];omega,?_⟩;rw[show j - i=(j - (i+1))+1 by omega,rz];exact q6
 | [],_::_,_,h=>h.elim
 | _::_,[],_,h=>h.elim
structure zmq (P:Program)(t kt et:Nat)(ok:A->Bool)(z:A):Prop where
 und:P.underlying t=some (.map kt et)
 zero:∃zv,(∀w,(zeroValue et).run P w=.ok zv w)/\∀S,qa S z zv
 check:∀a kv e w,ok a=true->z6o a=some kv->(Instr.checkKey e 10000 kt kv).run P w=.ok () w
 find:∀a kv,ok a=true->z6o a=some kv->∀(ents:List MapEntry) (es:List (A×A)),(∀p∈es,ok p.1=true)->UR (λp (e:MapEntry)=>z6o p.1=some e.key) es ents->∀w,(Instr.findKey kt kv ents).run P w=.ok (z4t kv ents 0) w
 bits:∀a kv,ok a=true->z6o a=some kv->Instr.sameBits 10000 kv kv=true
 key:∀a,ok a=true->∃kv,z6o a=some kv
 zd:z.isD=true
variable {es:List (A×A)}
section
variable {P:Program}{C:Ctx}{S:zo}{Fp:Nat->List Nat}{X:List Nat}{st:St}{a:Act}{w:World}{t kt et:Nat}{ok:A->Bool}{z:A}
def zoG (n:Fr)(dst:Option Nat)(es:List (A×A))(ok:A->Bool)(z:A)(x k:Operand)(two:Bool):SM Unit:=do
 let tx <-opnd x;let y <-peek tx;let tk <-opnd k;let vk <-val tk
 if y=.opq (z1G es)/\ok vk=true/\∀p∈es,ok p.1=true then
  wrT n dst (.d (match z1g vk es 0 with
   | some (_,v)=>if two=true then .tup [v,.atom (.bool true)] else v
   | none=>if two=true then .tup [z,.atom (.bool false)] else z))
 else zu
theorem zdd {q:Opq}  (h:wh S (.opq q) v\/∃cs F,zU S w.heap (.opq q) cs F/\v=y8 (.opq q) cs):∃F,q.holds S w.heap v F:=by
 rcases h with h|⟨cs,F,h1,h2⟩
 ·simp only[wh,qa,Rep,false_and,exists_false]at h
 ·simp only[zU]at h1;obtain⟨u,rfl,h1⟩:=h1;exact⟨F,by rw[h2];exact h1⟩
theorem zoE (mt:zmq P t kt et ok z)  {ents:Array MapEntry}{cl b:Nat}(hb:w.heap[b]?=some (.map ents cl))(he:z7U S es ents.toList)(hok:∀p∈es,ok p.1=true){vk:A}  (hv:ok vk=true)(hk:z6o vk=some kv)(two:Bool) :
    ∃v,(Instr.lookup t (.map (some b)) kv two).run P w=.ok v w/\wh S (match z1g vk es 0 with
      | some (_,v)=>if two=true then .tup [v,.atom (.bool true)] else v
      | none=>if two=true then .tup [z,.atom (.bool false)] else z) v:=by
  obtain⟨zv,z1,z2⟩:=mt.zero;have hf:=mt.find vk kv hv hk ents.toList es hok (UR.mono (λ_ _ q=>q.1) he) w;have hc:=mt.check vk kv ents.isEmpty w hv hk;have run:(Instr.lookup t (.map (some b)) kv two).run P w=(do
        let (v,b) <-match z4t kv ents.toList 0 with
          | some (_,v)=>pure (v,true)
          | none=>pure (<-zeroValue et,false)
        pure (if two then .tuple #[v,.bool b] else v):Sem Value).run P w:=by
    unfold Instr.lookup;rw[Sem.run_bind,run_underlying mt.und,Result.andThen_ok];have hg:(getObj b).run P w=.ok (.map ents cl) w:=by simp[getObj,Sem.run,hb]
    simp only[Sem.run_bind,hg,Result.andThen_ok,Sem.run_pure,hc,hf];cases z4t kv ents.toList 0 <;> rfl
  rcases zdl hk (i:=0) he with⟨q1,q2⟩|⟨j,y,v,q1,q2,q3,_⟩
  · rw[q1];refine⟨if two=true then .tuple #[zv,.bool false] else zv,?_,?_⟩
    · rw[run,q2];simp[z1]
    · cases two
      · exact(z2 S).repV
      · simp only[if_true,wh];exact⟨[zv,.bool false],rfl,z2 S,xY.2 ⟨rfl,rfl⟩,trivial⟩
  · rw[q1];refine⟨if two=true then .tuple #[v,.bool true] else v,?_,?_⟩
    · rw[run,q2];simp
    · cases two
      · exact q3.repV
      · simp only[if_true,wh];exact⟨[v,.bool true],rfl,q3,xY.2 ⟨rfl,rfl⟩,trivial⟩
theorem zoF (mt:zmq P t kt et ok z)(h:Sim C S Fp [] st a w)   {x k:Operand}{two:Bool}(ho:o.op=.lookup t x k two)    (e:zoG C.n o.dst es ok z x k two st=some (u,R,U)):qO P C o a w (zh U st):=by
 unfold zoG at e;obtain⟨tx,R1,U1,R2,U2,h1,e1,rfl,rfl⟩:=bind_some e;obtain⟨rfl,hx⟩:=zK h h1;obtain⟨y,R3,U3,R4,U4,h3,e2,rfl,rfl⟩:=bind_some e1;obtain⟨rfl,qx⟩:=z19 h hx h3;simp only[zh,p9]at e2 ⊢;obtain⟨tk,R5,U5,R6,U6,h5,e3,rfl,rfl⟩:=bind_some e2;obtain⟨rfl,hk⟩:=zK h h5;obtain⟨vk,R7,U7,R8,U8,h7,e4,rfl,rfl⟩:=bind_some e3;obtain⟨rfl,qk⟩:=jD h hk h7;simp only[zh,p9]at e4 ⊢;split at e4
 ·rename_i hc;obtain⟨rfl,c2,c3⟩:=hc;obtain⟨F,b,ents,cl,ev,_,g1,_,g3⟩:=zdd qx;obtain⟨kv,hkv⟩:=mt.key vk c2;have hkd:a.eval k=kv:=by refine zhD (S:=S) ?_ hkv;cases vk <;> first|exact qk|(simp only[z6o,zbv,Option.map_none]at hkv;cases hkv)
  obtain⟨v,r1,r2⟩:=zoE mt g1 g3 c3 c2 hkv two;obtain⟨Fp',hs⟩:=wP h e4 (x:=.d _) r2;exact zr (by simp[execOp,ho,ev,hkd,r1]) hs
 ·exact(z7 e4).elim
def zq6 (es:List (A×A))(k v:A):List (A×A) :=
 match z1g k es 0 with
 | some (j,_)=>es.set j (k,v)
 | none=>es++[(k,v)]
def ztD (es:List (A×A))(ok:A->Bool)(x k v:Operand):SM Unit:=do
 let tx <-opnd x;match tx with
 | .als r [] er ec=>do
  let e <-rdE r;let tk <-opnd k;let vk <-val tk;let tv <-opnd v;let vv <-val tv
  if e.t=.own (.opq (z1G es))/\e.er=er/\ok vk=true/\vv.isD=true/\∀p∈es,ok p.1=true then
   wrE r ⟨.own (.opq (z1G (zq6 es vk vv))),e.er,e.ec+1⟩
  else zu
 | _=>zu
theorem zh6:∀{es:List (A×A)} {ents:List MapEntry} {j:Nat} {p:A×A} {f:MapEntry->MapEntry},z7U S es ents->(∀e,ents[j]?=some e->z6o p.1=some (f e).key/\qa S p.2 (f e).val)->z7U S (es.set j p) (ents.modify j f)
 | [],[],j,p,f,_,_=>by simp only[List.set_nil,List.modify_nil];exact trivial
 | q::es,e::ents,0,p,f,h,hf=>by have:=hf e (by simp);simp only[nT,List.modify_zero_cons];exact⟨this,h.2⟩
 | q::es,e::ents,j+1,p,f,h,hf=>by simp only[rZ,List.modify_succ_cons];exact⟨h.1,zh6 h.2 (λe' he'=>hf e' (by simpa using he'))⟩
 | [],_::_,_,_,_,h,_=>h.elim
 | _::_,[],_,_,_,h,_=>h.elim
theorem zjm (mt:zmq P t kt et ok z)(h:Sim C S Fp [] st a w)   {x k v:Operand}(ho:o.op=.mapUpdate t x k v\/o.op=.insert t x k v)(hd:o.dst=none)    (e:ztD es ok x k v st=some (u,R,U)):qO P C o a w (zh U st):=by
 unfold ztD at e;obtain⟨tx,R1,U1,R2,U2,h1,e1,rfl,rfl⟩:=bind_some e;obtain⟨rfl,hx⟩:=zK h h1;simp only[zh,p9]at e1 ⊢;split at e1
 ·rename_i r er ec;obtain⟨en,R3,U3,R4,U4,h3,e2,rfl,rfl⟩:=bind_some e1;obtain⟨rfl,rfl,rfl⟩:=yl h3;simp only[zh,p9]at e2 ⊢;obtain⟨tk,R5,U5,R6,U6,h5,e3,rfl,rfl⟩:=bind_some e2;obtain⟨rfl,hk⟩:=zK h h5;obtain⟨vk,R7,U7,R8,U8,h7,e4,rfl,rfl⟩:=bind_some e3;obtain⟨rfl,qk⟩:=jD h hk h7;simp only[zh,p9]at e4 ⊢;obtain⟨tv,R9,U9,R10,U10,h9,e5,rfl,rfl⟩:=bind_some e4;obtain⟨rfl,hv⟩:=zK h h9;obtain⟨vv,R11,U11,R12,U12,h11,e6,rfl,rfl⟩:=bind_some e5;obtain⟨rfl,qv⟩:=jD h hv h11;simp only[zh,p9]at e6 ⊢;split at e6
  ·rename_i hc;obtain⟨c1,c2,c3,c4,c5⟩:=hc;obtain⟨rfl,rfl⟩:=wO e6;have hr:=h.ent r;unfold wv at hr;simp only[c1]at hr;obtain⟨cs,k1,k2,k3⟩:=hr;simp only[zU]at k1;obtain⟨v0,rfl,b,ents,cl,rfl,hF,g1,g2,g3⟩:=k1;have hev:a.eval x=.map (some b):=by
    have:=hx.2.2;simp only[c1]at this;rcases this c2 (.inl trivial) with⟨_,q⟩|⟨q,_⟩
    ·rw[q,k3];rfl
    ·simp[z2C]at q
   obtain⟨kv,hkv⟩:=mt.key vk c3;have hkd:a.eval k=kv:=by refine zhD (S:=S) ?_ hkv;cases vk <;> first|exact qk|(simp only[z6o,zbv,Option.map_none]at hkv;cases hkv)
   have hvd:qa S vv (a.eval v):=qv.rep1 c4;have hf:=mt.find vk kv c3 hkv ents.toList es c5 (UR.mono (λ_ _ q=>q.1) g3) w;have hck:=mt.check vk kv false w c3 hkv;have hget:(getObj b).run P w=.ok (.map ents cl) w:=by simp[getObj,Sem.run,g1]
   have hset:∀o',(setObj b o').run P w=.ok () (w.putObj b o'):=by intro o';simp[setObj,Sem.run,g1,World.putObj]
   have hbM:C.M b:=h.base r b (by rw[hF];simp);have hoth:∀k o',k≠b->(w.putObj b o').heap[k]?=w.heap[k]?:=λk o' hk=>World.putObj_heap_other hk;have hlt:b<w.heap.size:=(pK.1 g1).1;have fin:∀ents' cl' es',z7U S es' ents'.toList->∃Fp',Sim C S Fp' [] (upd st r ⟨.own (.opq (z1G es')),(st r).er,(st r).ec+1⟩) a (w.putObj b (.map ents' cl')):=by
    intro ents' cl' es' he';refine⟨_,h.change r (.own (.opq (z1G es'))) _ _ [b] ?_ (λ_ _ _ q=>q) ?_ h.sbase ?_ ⟨⟨[.map (some b)],?_,by simp,k3⟩,_,c1⟩ (.inl ⟨_,c1⟩) (pC _) (gB _) ?_ ?_ (by simp) (by simp) (by simp) (by simp)⟩
    ·exact h.below.trans ⟨rfl,rfl,rfl,pC _,by simp[World.putObj],λk hk=>hoth k _ (by rintro rfl;exact hk hbM)⟩
    ·intro b' o' v' hs;have:=h.still b' o' v' hs;unfold yj at this ⊢;rw[hoth b' _ (by rintro rfl;rw[g2]at hs;cases hs)];exact this
    ·intro t' k' ht' hk';exact⟨hoth k' _ (by rintro rfl;exact ht' (h.disj t' r _ hk' (by rw[hF];simp))),(h.free t' k' hk').2.1⟩
    ·simp only[zU];exact⟨_,rfl,b,ents',cl',rfl,rfl,World.putObj_heap_same hlt,g2,he'⟩
    ·intro t' k' ht' hk' hk2;simp only[pD,pX,or_false]at hk';subst hk';exact ht' (h.disj t' r _ hk2 (by rw[hF];simp))
    ·intro k' hk';simp only[pD,pX,or_false]at hk';subst hk';exact hbM
   have run:(Instr.mapUpdate t (.map (some b)) kv (a.eval v)).run P w=(do
     match z4t kv ents.toList 0 with
     | some (i,_)=>do
      let key <-Instr.keyThatStays (((ents[i]?).map (·.key)).getD kv) kv
      setObj b (.map (ents.modify i λe=>{ e with key,val:=a.eval v }) cl)
     | none=>setObj b (.map (ents.push { key:=kv,val:=a.eval v,born:=cl }) (cl+1)):Sem Unit).run P w:=by
    unfold Instr.mapUpdate;rw[Sem.run_bind,run_underlying mt.und,Result.andThen_ok];simp only[Sem.run_bind,hget,Result.andThen_ok,hck,hf];cases z4t kv ents.toList 0 <;> rfl
   simp only[zh];have good:∀w',(Instr.mapUpdate t (.map (some b)) kv (a.eval v)).run P w=.ok () w'->∀es' Fp',Sim C S Fp' [] (upd st r ⟨.own (.opq (z1G es')),(st r).er,(st r).ec+1⟩) a w'->qO P C o a w (upd st r ⟨.own (.opq (z1G es')),(st r).er,(st r).ec+1⟩):=by intro w' hw es' Fp' hs;refine zf9 (w':=w') ?_ hd hs;rcases ho with ho|ho <;> simp[execOp,ho,hev,hkd,hw]
   rcases zdl hkv (i:=0) g3 with⟨q1,q2⟩|⟨j,y,v',q1,q2,q3,q4,q5,q6⟩
   ·have he':z7U S (zq6 es vk vv) (ents.push { key:=kv,val:=a.eval v,born:=cl }).toList:=by simp only[zq6,q1,Array.toList_push];exact z8V g3 ⟨⟨hkv,hvd⟩,trivial⟩
    obtain⟨Fp',hs⟩:=fin _ (cl+1) _ he';exact good _ (by rw[run,q2];exact hset _) _ _ hs
   ·have hkey:(ents[j]?).map (·.key)=some kv:=by simp only[nG]at q6;rw[<-mJ];exact q6
    have he':z7U S (zq6 es vk vv) (ents.modify j λe=>{ e with key:=kv,val:=a.eval v }).toList:=by simp only[zq6,q1];rw[Array.toList_modify];exact zh6 g3 λ_ _=>⟨hkv,hvd⟩
    obtain⟨Fp',hs⟩:=fin _ cl _ he';refine good _ ?_ _ _ hs;rw[run,q2];simp only[hkey,gA,Instr.keyThatStays,mt.bits vk kv c3 hkv,if_true,Sem.run_bind,Sem.run_pure,Result.andThen_ok,hset]
  ·exact(z7 e6).elim
 ·exact(z7 e1).elim
end
section
variable {P:Program}{C:Ctx}{S:zo}{Fp:Nat->List Nat}{X:List Nat}{st:St}{a:Act}{w:World}{t kt et:Nat}{ok:A->Bool}{z:A}
def zkN (n:Fr)(dst:Option Nat):SM Unit:=wrT n dst (.own (.opq (z1G [])))
theorem zkM (h:Sim C S Fp [] st a w)  (ho:o.op=.makeMap t none)    (e:zkN C.n o.dst st=some (u,R,U)):qO P C o a w (zh U st):=by
 have h2:=h.alloc (by simp) (.map #[] 0);have hc:zU S (w.alloc (.map #[] 0)).heap (.opq (z1G [])) [.map (some w.heap.size)] [w.heap.size]:=by simp only[zU];exact⟨_,rfl,w.heap.size,#[],0,rfl,rfl,heap_alloc_new w _,λo=>h.free_new (pC _) o,trivial⟩
 obtain⟨Fp'',hs⟩:=Kc (F:=[w.heap.size]) (X:=[]) h2 e hc (by simp);refine zr (v:=.map (some w.heap.size)) ?_ hs;simp[execOp,ho,Instr.makeMap]
def zoy (n:Fr)(dst:Option Nat)(es:List (A×A))(x:Operand):SM Unit:=do
 let tx <-opnd x;let y <-peek tx
 if y=.opq (z1G es) then wrT n dst (.d (.atom (.int .i64 (es.length:Nat)))) else zu
theorem zox (mt:zmq P t kt et ok z)(h:Sim C S Fp [] st a w)   {x:Operand}(ho:o.op=.call ⟨.builtin .len,⟨[x]⟩,⟨[t]⟩⟩)    (e:zoy C.n o.dst es x st=some (u,R,U)):qO P C o a w (zh U st):=by
 unfold zoy at e;obtain⟨tx,R1,U1,R2,U2,h1,e1,rfl,rfl⟩:=bind_some e;obtain⟨rfl,hx⟩:=zK h h1;obtain⟨y,R3,U3,R4,U4,h3,e2,rfl,rfl⟩:=bind_some e1;obtain⟨rfl,qx⟩:=z19 h hx h3;simp only[zh,p9]at e2 ⊢;split at e2
 ·rename_i hc;subst hc;obtain⟨F,b,ents,cl,ev,_,g1,_,g3⟩:=zdd qx;have hl:es.length=ents.size:=by simpa using zdF g3
  obtain⟨Fp',hs⟩:=wP h e2 (x:=.d _) (zD.2 ⟨rfl,rfl⟩);refine zr ?_ hs;have hg:(getObj b).run P w=.ok (.map ents cl) w:=by simp[getObj,Sem.run,g1]
  simp[execOp,ho,resolve,invoke,builtin,Builtin.len_,ev,run_underlying mt.und,hg,goInt,hl]
 ·exact(z7 e2).elim
end
def zqi (n:Fr)(dst:Option Nat)(es:List (A×A))(ok:A->Bool)(z:A)(x k:Operand)(two:Bool):HM Unit :=
 yg (opnd x) >>= λtx=>zbt tx >>= λy=>yg (opnd k) >>= λtk=>z4f tk >>= λvk=>
 XW (y=.opq (z1G es)/\ok vk=true/\∀p∈es,ok p.1=true) (eqA (match z1g vk es 0 with
   | some (_,v)=>if two=true then .tup [v,.atom (.bool true)] else v
   | none=>if two=true then .tup [z,.atom (.bool false)] else z) >>= λr=>yg (wrT n dst (.d r)))
theorem zrv (n:Fr)(dst:Option Nat)(es:List (A×A))(ok:A->Bool)(z:A)(x k:Operand)(two:Bool):Snd (zoG n dst es ok z x k two) (zqi n dst es ok z x k two) :=
 zj (zn _) λ_=>zj (z5k _) λ_=>zj (zn _) λ_=>zj (W1 _) λ_=>vL (z3a (ye _ λr=>wrT n dst (.d r)).symm (zj (zbo _) λ_=>zn _))
def zz4 (es es':List (A×A))(ok:A->Bool)(x k v:Operand):HM Unit:=yg (opnd x) >>= λtx=>
 match tx with
 | .als r [] er ec=>yg (rdE r) >>= λe=>yg (opnd k) >>= λtk=>z4f tk >>= λvk=>yg (opnd v) >>= λtv=>z4f tv >>= λvv=>XW (e.t=.own (.opq (z1G es))/\e.er=er/\ok vk=true/\vv.isD=true/\∀p∈es,ok p.1=true) (XW (zq6 es vk vv=es') (yg (wrE r ⟨.own (.opq (z1G es')),e.er,e.ec+1⟩)))
 | _=>zV
theorem zpW (es es':List (A×A))(ok:A->Bool)(x k v:Operand):Snd (ztD es ok x k v) (zz4 es es' ok x k v):=by
 refine zj (zn _) λtx=>?_;cases tx with
 | als r p er ec=>
  cases p with
  | nil=>refine zj (zn _) λe=>zj (zn _) λtk=>zj (W1 _) λvk=>zj (zn _) λtv=>zj (W1 _) λvv=>vL ?_;exact z6D λhq=>by rw[hq];exact zn _
  | cons _ _=>exact zw _
 | _=>exact zw _
def zvA (n:Fr)(dst:Option Nat)(es:List (A×A))(x:Operand):HM Unit:=yg (opnd x) >>= λtx=>zbt tx >>= λy=>XW (y=.opq (z1G es)) (eqA (.atom (.int .i64 (es.length:Nat))) >>= λr=>yg (wrT n dst (.d r)))
theorem zv4 (n:Fr)(dst:Option Nat)(es:List (A×A))(x:Operand):Snd (zoy n dst es x) (zvA n dst es x) :=
 zj (zn _) λ_=>zj (z5k _) λ_=>vL (z3a (ye _ λr=>wrT n dst (.d r)).symm (zj (zbo _) λ_=>zn _))
def ztP (P:Program)(d:Nat):XH P:={
 e:=λn o=>match o.op with|.makeMap _ none=>if o.dst=some d then some (zkN n o.dst) else none|_=>none
 h:=λn o=>match o.op with|.makeMap _ none=>if o.dst=some d then some (yg (zkN n o.dst)) else none|_=>none
 ok:=by
  refine⟨?_,?_⟩
  ·intro C S Fp st a w o m u R U e h h2;dsimp only at e;split at e
   ·rename_i ho;split at e
    ·cases e;exact zkM h ho h2
    ·cases e
   ·cases e
  ·intro n o m e;dsimp only at e;split at e
   ·split at e
    ·cases e;exact λst st' a R U=>Loc.wrT _ _ _ st st' a R U
    ·cases e
   ·cases e
 none:=by
  intro n o e
  skip
  split at e
  ·split at e
   ·cases e
   ·rename_i hd;rw[if_neg hd]
  ·rfl
 some:=by
  intro n o m e
  skip
  split at e
  ·split at e
   ·rename_i hd;cases e;exact⟨_,by rw[if_pos hd],zn _⟩
   ·cases e
  ·cases e }
variable {z:A}
def zjc {t kt et:Nat}{ok:A->Bool}  (mt:zmq P t kt et ok z)(d:Nat)(es:List (A×A)):XH P:={
 e:=λn o=>match o.op with|.lookup t' x k two=>if o.dst=some d/\t'=t then some (zoG n o.dst es ok z x k two) else none|_=>none
 h:=λn o=>match o.op with|.lookup t' x k two=>if o.dst=some d/\t'=t then some (zqi n o.dst es ok z x k two) else none|_=>none
 ok:=by
  refine⟨?_,?_⟩
  ·intro C S Fp st a w o m u R U e h h2;dsimp only at e;split at e
   ·rename_i t' x k two ho;split at e
    ·rename_i hd;obtain⟨_,rfl⟩:=hd;cases e;exact zoF mt h ho h2
    ·cases e
   ·cases e
  ·intro n o m e;dsimp only at e;split at e
   ·split at e
    ·cases e;refine Loc.bind (Loc.opnd _) λ_=>Loc.bind (Loc.peek _) λ_=>Loc.bind (Loc.opnd _) λ_=>Loc.bind (Loc.val _) λ_=>Loc.ite (Loc.wrT _ _ _) Loc.fail
    ·cases e
   ·cases e
 none:=by
  intro n o e
  skip
  split at e
  ·split at e
   ·cases e
   ·rename_i hd;rw[if_neg hd]
  ·rfl
 some:=by
  intro n o m e
  skip
  split at e
  ·split at e
   ·rename_i hd;cases e;exact⟨_,by rw[if_pos hd],zrv _ _ _ _ _ _ _ _⟩
   ·cases e
  ·cases e }
def zyZ {t kt et:Nat}{ok:A->Bool}  (mt:zmq P t kt et ok z)(d:Nat)(es:List (A×A)):XH P:={
 e:=λn o=>match o.op with|.call ⟨.builtin .len,⟨[x]⟩,⟨[t']⟩⟩=>if o.dst=some d/\t'=t then some (zoy n o.dst es x) else none|_=>none
 h:=λn o=>match o.op with|.call ⟨.builtin .len,⟨[x]⟩,⟨[t']⟩⟩=>if o.dst=some d/\t'=t then some (zvA n o.dst es x) else none|_=>none
 ok:=by
  refine⟨?_,?_⟩
  ·intro C S Fp st a w o m u R U e h h2;dsimp only at e;split at e
   ·rename_i x t' ho;split at e
    ·rename_i hd;obtain⟨_,rfl⟩:=hd;cases e;exact zox mt h ho h2
    ·cases e
   ·cases e
  ·intro n o m e;dsimp only at e;split at e
   ·split at e
    ·cases e;exact Loc.bind (Loc.opnd _) λ_=>Loc.bind (Loc.peek _) λ_=>Loc.ite (Loc.wrT _ _ _) Loc.fail
    ·cases e
   ·cases e
 none:=by
  intro n o e
  skip
  split at e
  ·split at e
   ·cases e
   ·rename_i hd;rw[if_neg hd]
  ·rfl
 some:=by
  intro n o m e
  skip
  split at e
  ·split at e
   ·rename_i hd;cases e;exact⟨_,by rw[if_pos hd],zv4 _ _ _ _⟩
   ·cases e
  ·cases e }
def zAB {t kt et:Nat}{ok:A->Bool}  (mt:zmq P t kt et ok z)(q:Nat)(es es':List (A×A)):XH P:={
 e:=λn o=>match o.op with
  | .mapUpdate t' (.tmp x) k v=>if x=q/\t'=t/\o.dst=none then some (ztD es ok (.tmp x) k v) else none
  | .insert t' (.tmp x) k v=>if x=q/\t'=t/\o.dst=none then some (ztD es ok (.tmp x) k v) else none
  | _=>none
 h:=λn o=>match o.op with
  | .mapUpdate t' (.tmp x) k v=>if x=q/\t'=t/\o.dst=none then some (zz4 es es' ok (.tmp x) k v) else none
  | .insert t' (.tmp x) k v=>if x=q/\t'=t/\o.dst=none then some (zz4 es es' ok (.tmp x) k v) else none
  | _=>none
 ok:=by
  have loc:∀x k v,Loc (ztD es ok x k v):=by
   intro x k v;refine Loc.bind (Loc.opnd _) λtx=>?_;split
   ·exact Loc.bind (Loc.rdE _) λ_=>Loc.bind (Loc.opnd _) λ_=>Loc.bind (Loc.val _) λ_=>Loc.bind (Loc.opnd _) λ_=>Loc.bind (Loc.val _) λ_=>Loc.ite (Loc.wrE _ _) Loc.fail
   ·exact Loc.fail
  refine⟨?_,?_⟩
  ·intro C S Fp st a w o m u R U e h h2;dsimp only at e;split at e
   ·rename_i t' x k v ho;split at e
    ·rename_i hd;obtain⟨_,rfl,hd⟩:=hd;cases e;exact zjm mt h (.inl ho) hd h2
    ·cases e
   ·rename_i t' x k v ho;split at e
    ·rename_i hd;obtain⟨_,rfl,hd⟩:=hd;cases e;exact zjm mt h (.inr ho) hd h2
    ·cases e
   ·cases e
  ·intro n o m e;dsimp only at e;split at e
   ·split at e
    ·cases e;exact loc _ _ _
    ·cases e
   ·split at e
    ·cases e;exact loc _ _ _
    ·cases e
   ·cases e
 none:=by
  intro n o e
  skip
  split at e
  ·split at e
   ·cases e
   ·rename_i hd;rw[if_neg hd]
  ·split at e
   ·cases e
   ·rename_i hd;rw[if_neg hd]
  ·rfl
 some:=by
  intro n o m e
  skip
  split at e
  ·split at e
   ·rename_i hd;cases e;exact⟨_,by rw[if_pos hd],zpW _ _ _ _ _ _⟩
   ·cases e
  ·split at e
   ·rename_i hd;cases e;exact⟨_,by rw[if_pos hd],zpW _ _ _ _ _ _⟩
   ·cases e
  ·cases e }
variable {K V:Type}
def z0J [BEq K]:List (K×V)->K->Option V
 | [],_=>none
 | p::l,x=>if p.1==x then some p.2 else z0J l x
def z9S [BEq K]:List (K×V)->K->V->List (K×V)
 | [],x,v=>[(x,v)]
 | p::l,x,v=>if p.1==x then(x,v)::l else p::z9S l x v
class zAz {K:Type} [BEq K] (f:K->A):Prop where
 eq:∀x y,(z6o (f x)=z6o (f y))↔(x==y)=true
def WT (f:K->A)(g:V->A)(l:List (K×V)):List (A×A):=l.map λp=>(f p.1,g p.2)
theorem zhN {f:K->A}{g:V->A}(x:K):∀(l:List (K×V)) (i j:Nat) (y:A),z1g (f x) (WT f g l) i=some (j,y)->i<=j
 | [],_,_,_,e=>by cases e
 | p::l,i,j,y,e=>by
  simp only[WT,gM,z1g]at e;split at e
  ·cases e;exact pC _
  ·exact Nat.le_of_succ_le (zhN x l (i+1) j y e)
section
variable {K V:Type}[BEq K]{f:K->A}{g:V->A}[hk:zAz f]
theorem zdm (x:K):∀(l:List (K×V)) (i:Nat),(z1g (f x) (WT f g l) i).map (·.2)=(z0J l x).map g
 | [],_=>rfl
 | p::l,i=>by
  simp only[WT,gM,z1g,z0J];by_cases h:(p.1==x)=true
  ·rw[if_pos ((hk.eq _ _).2 h),if_pos h];rfl
  ·rw[if_neg (λq=>h ((hk.eq _ _).1 q)),if_neg h];exact zdm x l (i+1)
theorem zkl (x:K)(v:V):∀(l:List (K×V)) (i:Nat),(match z1g (f x) (WT f g l) i with|some (j,_)=>(WT f g l).set (j - i) (f x,g v)|none=>WT f g l++[(f x,g v)])=WT f g (z9S l x v)
 | [],_=>rfl
 | p::l,i=>by
  simp only[WT,gM,z1g,z9S];by_cases h:(p.1==x)=true
  ·rw[if_pos ((hk.eq _ _).2 h),if_pos h];simp[WT]
  ·rw[if_neg (λq=>h ((hk.eq _ _).1 q)),if_neg h];have ih:=zkl x v l (i+1);simp only[gM];simp only[WT]at ih;cases hf:z1g (f x) (l.map λp=>(f p.1,g p.2)) (i+1) with
   | none=>simp only[hf]at ih ⊢;simp only[gQ,ih]
   | some q=>obtain⟨j,y⟩:=q;have hle:=zhN (f:=f) (g:=g) x l (i+1) j y hf;simp only[hf]at ih ⊢;rw[show j - i=(j - (i+1))+1 by omega,rZ,ih]
theorem zkj (x:K)(v:V)(l:List (K×V)):zq6 (WT f g l) (f x) (g v)=WT f g (z9S l x v):=by have:=zkl (f:=f) (g:=g) x v l 0;simpa only[nG,zq6] using this
theorem zBv {z0:V}  (hz:g z0=z)(x:K)(l:List (K×V)):(match z1g (f x) (WT f g l) 0 with
      | some (_,v)=>if false=true then A.tup [v,.atom (.bool true)] else v
      | none=>if false=true then A.tup [z,.atom (.bool false)] else z)=g ((z0J l x).getD z0):=by
  have:=zdm (f:=f) (g:=g) x l 0;cases hf:z1g (f x) (WT f g l) 0 with
  | none=>rw[hf]at this;cases hm:z0J l x with|none=>simp[hz]|some y=>simp[hm]at this
  | some q=>obtain⟨j,y⟩:=q;rw[hf]at this;cases hm:z0J l x with|none=>simp[hm]at this|some y'=>simp[hm]at this;simp[this]
theorem zDd {z0:V}  (hz:g z0=z)(x:K)(l:List (K×V)):(match z1g (f x) (WT f g l) 0 with
      | some (_,v)=>if true=true then A.tup [v,.atom (.bool true)] else v
      | none=>if true=true then A.tup [z,.atom (.bool false)] else z)=.tup [g ((z0J l x).getD z0),.atom (.bool (z0J l x).isSome)]:=by
  have:=zdm (f:=f) (g:=g) x l 0;cases hf:z1g (f x) (WT f g l) 0 with
  | none=>rw[hf]at this;cases hm:z0J l x with|none=>simp[hz]|some y=>simp[hm]at this
  | some q=>obtain⟨j,y⟩:=q;rw[hf]at this;cases hm:z0J l x with|none=>simp[hm]at this|some y'=>simp[hm]at this;simp[this]
end
theorem zfg {f:K->A}{g:V->A}{ok:A->Bool}(h:∀x,ok (f x)=true)(l:List (K×V)):∀p∈WT f g l,ok p.1=true:=by intro p hp;obtain⟨q,_,rfl⟩:=pW.1 hp;exact h _
theorem zsz (f:K->A)(g:V->A)(l:List (K×V)):A.atom (.int .i64 (((WT f g l).length:Nat):Int))=.atom (.int .i64 ((l.length:Nat):Int)):=by simp[WT]
def zlD:List IntKind->List Value->Bool
 | [],[]=>true
 | k::ks,.int k' _::vs=>k' == k&&zlD ks vs
 | _,_=>false
def z9R (ks:List IntKind):A->Bool
 | .agg fs=>match zbv.keyLs fs with|some l=>zlD ks l|none=>false
 | _=>false
variable {ks:List IntKind}
theorem z0m {a:A}(h:z9R ks a=true):∃l,zbv a=some l/\zlD ks l=true/\z6o a=some (.agg l.toArray):=by
 unfold z9R at h;split at h
 ·rename_i fs;cases e:zbv.keyLs fs with
  | none=>simp[e]at h
  | some l=>simp only[e]at h;exact⟨l,by simp only[zbv,e],h,by simp only[z6o,zbv,e,gH,y8]⟩
 ·cases h
theorem z8R:∀{ks:List IntKind} {l:List Value},zlD ks l=true->l.length=ks.length
 | [],[],_=>rfl
 | k::ks,v::l,h=>by
  cases v <;> simp only[zlD]at h <;> first|(cases h;done)|skip
  simp only[pJ]at h;simp[z8R h.2]
 | [],_::_,h=>by cases h
 | _::_,[],h=>by cases h
theorem zlC:∀{ks:List IntKind} {l m:List Value},zlD ks l=true->zlD ks m=true->∃r,w7 l m=some r/\(r=true↔m=l)
 | [],[],[],_,_=>⟨true,rfl,by simp⟩
 | k::ks,v::l,u::m,h1,h2=>by
  cases v <;> simp only[zlD]at h1 <;> first|(cases h1;done)|skip
  cases u <;> simp only[zlD]at h2 <;> first|(cases h2;done)|skip
  simp only[pJ,beq_iff_eq]at h1 h2;obtain⟨rfl,h1⟩:=h1;obtain⟨rfl,h2⟩:=h2;obtain⟨r,q1,q2⟩:=zlC h1 h2;rename_i a _ b;refine⟨(a==b)&&r,by simp[w7,q1],?_⟩;simp only[pJ,beq_iff_eq,List.cons.injEq,Value.int.injEq,true_and,q2];constructor
  ·rintro⟨rfl,rfl⟩;exact⟨rfl,rfl⟩
  ·rintro⟨rfl,rfl⟩;exact⟨rfl,rfl⟩
 | [],_::_,_,h,_=>by cases h
 | [],[],_::_,_,h=>by cases h
 | _::_,[],_,h,_=>by cases h
 | _::_,_::_,[],_,h=>by cases h
section
variable {P:Program}{t kt et:Nat}{z:A}
theorem zow {i:Go.Ex.EI}(hu:P.underlying t=some (.map kt et))(d:TypeDesc)(hk:P.underlying kt=some d)(hx:Go.Ex.zqF P kt i)(he:zqF P kt ks.length)(hn:i.size=ks.length)(hz:∃zv,(∀w,(zeroValue et).run P w=.ok zv w)/\∀S,qa S z zv)(zd:z.isD=true):zmq P t kt et (z9R ks) z:={
 und:=hu
 zero:=hz
 zd:=zd
 key:=λa h=>by obtain⟨l,_,_,h3⟩:=z0m h;exact⟨_,h3⟩
 check:=λa kv e w h hv=>by obtain⟨l,_,h2,h3⟩:=z0m h;rw[h3]at hv;cases hv;exact hx.key l e w (by rw[hn];exact z8R h2)
 bits:=λa kv h hv=>by
  obtain⟨l,_,h2,h3⟩:=z0m h;rw[h3]at hv;cases hv;have:∀{ks:List IntKind} {l:List Value},zlD ks l=true->(l.zip l).all (λ(x,y)=>Instr.sameBits 9999 x y)=true:=by
   intro ks;induction ks with
   | nil=>intro l h;cases l <;> first|rfl|cases h
   | cons k ks ih=>
    intro l h;cases l with
    | nil=>rfl
    | cons v l=>
     cases v <;> simp only[zlD]at h <;> first|(cases h;done)|skip
     simp only[pJ]at h;simp only[List.zip_cons_cons,List.all_cons,pJ];exact⟨by simp[Instr.sameBits],ih h.2⟩
  simp only[Instr.sameBits,beq_self_eq_true,rD];exact this h2
 find:=λa kv h hv ents es hes hall w=>by
  obtain⟨l,_,h2,h3⟩:=z0m h;rw[h3]at hv;cases hv;have gen:∀(ents:List MapEntry) (es:List (A×A)) (i:Nat),(∀p∈es,z9R ks p.1=true)->UR (λp (e:MapEntry)=>z6o p.1=some e.key) es ents->(Instr.findAsking kt (.agg l.toArray) ents i).run P w=.ok (z4t (.agg l.toArray) ents i) w:=by
   intro ents;induction ents with
   | nil=>intro es i _ _;simp[Instr.findAsking,z4t]
   | cons e ents ih=>
    intro es i h1 h2';cases es with
    | nil=>exact h2'.elim
    | cons p es=>
     obtain⟨m,_,g2,g3⟩:=z0m (h1 p (by simp));have hk2:e.key=.agg m.toArray:=by have:z6o p.1=some e.key:=h2'.1;rw[g3]at this;exact(Option.some.inj this).symm
     obtain⟨r,r1,r2⟩:=zlC h2 g2;have hrun:=he.run l m r w (z8R h2) (z8R g2) r1;simp only[Instr.findAsking,z4t,Sem.run_bind,show(Op.equal kt (Value.agg l.toArray) e.key).run P w=.ok r w by rw[hk2];exact hrun,Result.andThen_ok];by_cases hlm:m=l
     ·have hr:=r2.2 hlm;subst hlm;rw[hr];simp[hk2]
     ·have hr:r=false:=by
       cases r
       ·rfl
       ·exact absurd (r2.1 rfl) hlm
      have hne:¬e.key=Value.agg l.toArray:=by rw[hk2];intro q;exact hlm (by simpa using q)
      simp only[hr,gG,if_false,if_neg hne];exact ih es (i+1) (λp hp=>h1 p (by simp[hp])) h2'.2
  cases ents with
  | nil=>simp[Instr.findKey,run_underlying hk,Instr.findNow,z4t]
  | cons e ents=>
   have hn:Instr.findNow d (.agg l.toArray) (e::ents) 0=none:=by simp only[Instr.findNow];cases d <;> rfl
   simp only[Instr.findKey,Sem.run_bind,run_underlying hk,Result.andThen_ok,hn];exact gen (e::ents) es 0 hes hall }
end
theorem zgR {t:Nat}{f:TypeInfo}  (h:P.info? t=some f)(hz:f.zero=some v)(w:World):(zeroValue t).run P w=.ok v w:=by simp[zeroValue,typeInfo,h,hz]
def zfx (P:Program)(f:A)  (enc:β->Bool->Value->List A)(F:∀{σ:Type},(σ->β->Option (σ×Bool))->σ->Option σ):Prop :=
 ∀(σ:Type) (yv:Value) (Y:σ->z8W) (y:σ->β->Option (σ×Bool)),(∀s x s' b,y s x=some (s',b)->∀v,Yr P (.atom yv) (enc x b v) [(yv,.opq (Y s).q)] (.atom (.bool b)) [.opq (Y s').q]) ->
  ∀s s',F y s=some s'->Yr P f [.atom yv] [(yv,.opq (Y s).q)] (.tup []) [.opq (Y s').q]
def yOf {σ τ β:Type}(step:σ->β->Option (LR σ τ)):LR σ τ->β->Option (LR σ τ×Bool)
 | .next s,x=>match step s x with|some (.next s')=>some (.next s',true)|some (.done t)=>some (.done t,false)|none=>none
 | .done _,_=>none
def zvK:LR σ τ->Bool
 | .next _=>true
 | .done _=>false
variable {b:Bool}
theorem zmz {σ τ β:Type}{step:σ->β->Option (LR σ τ)}{l l':LR σ τ}{x:β}  (h:yOf step l x=some (l',b)):∃s,l=.next s/\step s x=some l'/\b=zvK l':=by
 cases l with
 | done t=>cases h
 | next s=>
  simp only[yOf]at h;cases hs:step s x with
  | none=>simp[hs]at h
  | some r=>
   cases r with
   | next s'=>simp only[hs,Option.some.injEq,Prod.mk.injEq]at h;obtain⟨rfl,rfl⟩:=h;exact⟨s,rfl,hs,rfl⟩
   | done t=>simp only[hs,Option.some.injEq,Prod.mk.injEq]at h;obtain⟨rfl,rfl⟩:=h;exact⟨s,rfl,hs,rfl⟩
variable {caps:List A}{assign body:Code}{ps:List Nat}{g:Operand}
section
variable {σ τ β:Type}
def zjA (stF:σ->St)(stD:τ->St):LR σ τ->St
 | .next s=>stF s
 | .done t=>stD t
def zj6 (jc:τ->Code):LR σ τ->Option Code
 | .next _=>none
 | .done t=>some (jc t)
def z9E (rec:Loop)(jc:τ->Code)(l:LR σ τ):Loop:={ rec with state:=if(zj6 jc l).isNone then .ready else .done,pending:=zj6 jc l }
theorem AWP.iterF {P:Program}{n:Fr}{st:St}{Q:Exit->St->Prop}{g:Operand}{ps:List Nat}{assign body:Code}{K:Nat}{caps:List A}(live:List Nat)(stF:σ->St)(stD:τ->St)(jc:τ->Code)(enc:β->Bool->Value->List A){F:∀{σ:Type},(σ->β->Option (σ×Bool))->σ->Option σ}
  (step:σ->β->Option (LR σ τ)) (s0:σ) (lr:LR σ τ)
  (hg:zzQ st g=some (.fn K caps)) (hnd:live.Nodup) (h0:Own.canon live st=stF s0)
  (hcan:∀l,(∀t,(zjA stF stD l t).t.plain=true)/\∀t,t∉live->(zjA stF stD l t).t=.gone)
  (hps:∀p∈ps,p<n.size/\p∉live/\pinned n.pin p=false) (hlen:∀x b v,ps.length=(enc x b v).length)
  (hit:zfx P (.fn K caps) enc F) (hF:F (yOf step) (.next s0)=some lr)
  (hround:∀(tv:Nat->Value) (s:σ) (x:β) (v:Value) (r:LR σ τ),step s x=some r->AWP P ⟨n.size,live.map (λt=>(t,tv t))++n.pin⟩ assign (zeI (stF s) ps (enc x (zvK r) v)) (λe st1=>e=.normal/\AWP P ⟨n.size,live.map (λt=>(t,tv t))++n.pin⟩ body st1 (λex st2=>zle ex=some (zj6 jc r)/\Own.canon live st2=zjA stF stD r)))
  (hend:zBx P n (zjA stF stD lr) Q (zj6 jc lr)):AWP P n (.rangeFunc g ps.toArray assign body) st Q:=by
 intro rd mm df w0 S0 M S Fp a w hc hs;obtain⟨us,hev,hreps⟩:∃us:List Value,a.eval g=.func (.func K) #[] us.toArray/\qa S (.fn K caps) (a.eval g):=by
  unfold zzQ at hg;split at hg
  ·rename_i t;split at hg
   ·rename_i x ht;simp only[Option.some.injEq]at hg;subst hg;have q:=hs.ent t;unfold wv at q;simp only[ht]at q;have q1:qa S (.fn K caps) (Act.tv a t):=q.1;obtain⟨cs,c1,c2⟩:=q1;have c1':=c1;simp only[Rep]at c1;obtain⟨us,_,_,rfl⟩:=c1;exact⟨us,c2,⟨_,c1',c2⟩⟩
   ·cases hg
  ·cases hg
 obtain⟨Fp0,hs0,hd0⟩:=hs.canonD (hc.post hs) live;rw[h0]at hs0;refine wpIn_rangeFunc ?_;intro fn hfn;obtain⟨df',wA,dq,en1,en2,en3⟩:=zw2 (P:=P) hc hs0 hd0 fn ps.toArray assign body;generalize (df'.map zs6).take (df'.length - df.length)=mk at en1 en2;obtain⟨rec,hrec⟩:∃q:Loop,q={ state:=.ready,pending:=none,fn,tmps:=a.tmps,params:=ps.toArray,assign,body,defers:=dq }:=⟨_,rfl⟩;rw[<-hrec]at en1;have hs1:=en2.newObj (.loop rec);have hl:(wA.alloc (.loop rec)).heap[wA.heap.size]?=some (.loop rec):=World.alloc_heap_new wA _;have hfr:∀t k,k∈Fp0 t->k<wA.heap.size:=λt k hk=>(en2.free t k hk).1;have hlF:∀t,wA.heap.size∉Fp0 t:=λt hk=>by have:=hfr t _ hk;omega
 have hSl:∀o,S wA.heap.size o=none:=by
  intro o;cases hq:S wA.heap.size o with
  | none=>rfl
  | some v=>have:=en2.still_lt hq;omega
 have hrec0:∀s,z9E rec jc (LR.next s:LR σ τ)=rec:=by intro s;rw[hrec];rfl
 have hY:∀(l:LR σ τ) (x:β) (l':LR σ τ) (b:Bool),yOf step l x=some (l',b)->∀v,Yr P (.atom (.func (.yield wA.heap.size) #[] #[])) (enc x b v) [(.func (.yield wA.heap.size) #[] #[],.opq (ziI wA.heap.size (z9E rec jc l) (K1 a.tmps) (zjA stF stD l) (hcan l).1 0))] (.atom (.bool b))
   [.opq (ziI wA.heap.size (z9E rec jc l') (K1 a.tmps) (zjA stF stD l') (hcan l').1 0)]:=by
  intro l x l' b hy v;obtain⟨s,rfl,hst,rfl⟩:=zmz hy;have htm:(z9E rec jc (LR.next s:LR σ τ)).tmps=a.tmps:=by rw[hrec0,hrec]
  have hb:zvK l'=(zj6 jc l').isNone:=by cases l' <;> rfl
  have r:=zo1 (P:=P) (n:=⟨n.size,live.map (λt=>(t,K1 a.tmps t))++n.pin⟩) (l:=wA.heap.size) (rec:=z9E rec jc (LR.next s:LR σ τ)) (ps:=ps) (ys:=enc x (zvK l') v) (st0:=stF s) (st1:=zjA stF stD l') (i:=0) (i2:=0) (live:=live) (jc:=zj6 jc l') (hcan (.next s)).1 (hcan l').1
   (by rw[hrec0,hrec]) (by rw[hrec0,hrec]) (by rw[htm];exact hs.size)
   (by
    intro j u hj;rw[htm];rcases pA.1 hj with hj|hj
    ·obtain⟨t,ht,he⟩:=pW.1 hj;cases he;rfl
    ·exact hs.pin j u hj)
   (λt ht=>by rw[htm];exact pA.2 (.inl (pW.2 ⟨t,ht,rfl⟩))) hnd
   (λp hp=>by
    obtain⟨p1,p2,p3⟩:=hps p hp;refine⟨p1,(hcan (.next s)).2 p p2,?_⟩;have gen:∀l:List Nat,p∉l->pinned (l.map (λt=>(t,K1 a.tmps t))++n.pin) p=false:=by
     intro l;induction l with
     | nil=>intro _;exact p3
     | cons t l ih=>intro hl;simp only[pD,not_or]at hl;simp only[gM,gQ,pinned,ih hl.2,Bool.or_false];simpa using nX hl.1
    exact gen live p2) (hlen x _ v)
   (by have:=hround (K1 a.tmps) s x v l' hst;rw[hrec0,hrec];exact this)
  have e:({ z9E rec jc (LR.next s:LR σ τ) with state:=if(zj6 jc l').isNone then .ready else .done,pending:=zj6 jc l' }:Loop)=z9E rec jc l':=rfl;rw[e]at r;simp only[htm]at r;rw[<-hb]at r;exact r
 have hL:=hit _ _ (λl=>(ziI wA.heap.size (z9E rec jc l) (K1 a.tmps) (zjA stF stD l) (hcan l).1 0).single rfl) (yOf step) hY _ _ hF S (wA.alloc (.loop rec)) (a.eval g) [.func (.yield wA.heap.size) #[] #[]] (wA.heap.size::live.flatMap Fp0) hs1.still hreps ⟨xY.2 ⟨rfl,rfl⟩,trivial⟩
  ⟨_,[],rfl,zky ⟨rfl,by rw[hrec0];exact hl,hSl,Fp0,(λt=>hs1.ent t),en2.disj,hlF,(λk=>by
   simp only[pD,gY];constructor
   ·rintro(rfl|⟨t,_,ht⟩)
    ·exact .inl rfl
    ·exact .inr ⟨t,ht⟩
   ·rintro(rfl|⟨t,ht⟩)
    ·exact .inl rfl
    ·refine .inr ⟨t,?_,ht⟩;apply gO;intro hn;have q:=en2.ent t;unfold wv at q;have hg:=(hcan (.next s0)).2 t hn;simp only[zjA]at hg;simp only[hg]at q;rw[q]at ht;simp at ht)⟩ (zhp en2 hnd hlF),rfl⟩ (zhp en2 hnd hlF)
 rcases hL with⟨k,cs,fn',a1,a2,a3,a4,a5⟩|⟨L,q,a1,_⟩
 rotate_left
 ·rw[hev]at a1;cases a1
 refine⟨wA.heap.size,mk,wA.alloc (.loop rec),{ target:=.fn (.func k) cs,args:=#[.func (.yield wA.heap.size) #[] #[]] },wA.alloc (.loop rec),k,#[.func (.yield wA.heap.size) #[] #[]]++cs,wA.alloc (.loop rec),en1,?_,λ_ _=>trivial,?_,λh=>(by cases h),?_⟩
 ·simp only[resolve,a1];simp[go_sem]
 ·simp only[invoke];exact z3b a2 a3 a4 _ _
 ·refine(z0x a5 rd (mm - 1)).mono ?_;rintro e w' ⟨v',rfl,S',F',G,b1,b2,b3,b4,_,b6,_,b8⟩;obtain⟨G1,G2,hGe,b6,hnil⟩:=b6;have hG2:G2=[]:=hnil;subst hG2;simp only[p9]at hGe;subst hGe;obtain⟨_,c2,c3,Fp',c4,c5,c6,c7⟩:=zlq b6;have hnb:(z9E rec jc lr).state≠.busy:=by simp only[z9E];cases lr <;> simp[zj6]
  have hpend:(z9E rec jc lr).pending=zj6 jc lr:=rfl;refine⟨_,_,run_endLoop c2 hnb,?_⟩;rw[hpend];have hMl:M wA.heap.size:=en2.mine _ en2.below.size;have hMn:∀k,((wA.alloc (.loop rec)).heap.size<=k\/k∈wA.heap.size::live.flatMap Fp0)->M k:=by
   rintro k (hk|hk)
   ·exact hs1.mine k (pE hs1.below.size hk)
   ·rcases pD.1 hk with rfl|hk
    ·exact hMl
    ·obtain⟨t,_,ht⟩:=gY.1 hk;exact en2.base t k ht
  have hout:∀t k,k∈Fp' t->((wA.alloc (.loop rec)).heap.size<=k\/k∈wA.heap.size::live.flatMap Fp0):=λt k hk=>b8 k (pA.2 (.inl ((c7 k).2 (.inr ⟨t,hk⟩))));have hpf:∀o,Sim ⟨n,df',w0,S0,M⟩ S' Fp' [] (zjA stF stD lr) { a with defers:=mk++a.defers } (w'.putObj wA.heap.size o):=by
   intro o;refine { size:=hs.size,pin:=hs.pin,defers:=en2.defers,below:=?_,mine:=hs.mine,still:=?_,sinc:=λb o v q=>b2 _ _ _ (en2.sinc _ _ _ q),sbase:=?_,ent:=?_,disj:=c5,base:=λt k hk=>hMn k (hout t k hk),xn:=by simp,xd:=by simp,xb:=by simp }
   ·exact(hs1.below.trans (b1.mono hMn)).trans ⟨rfl,rfl,rfl,pC _,by simp[World.putObj],λk hk=>World.putObj_heap_other (by rintro rfl;exact hk hMl)⟩
   ·refine⟨?_,b4.gok,b4.blk.of (λ_ _ _ q=>q) λg x e=>World.putObj_heap_other (by rintro rfl;exact b4.blk.ne (c3 0) x e)⟩;intro b i v q;have hne:b≠wA.heap.size:=by rintro rfl;rw[c3]at q;cases q
    have:=b4 b i v q;unfold yj at this ⊢;rw[World.putObj_heap_other hne];exact this
   ·intro b i hb;rcases pH b (wA.alloc (.loop rec)).heap.size with hlt|hge
    ·rw[b3 b i hlt (λhF=>hb (hMn b (.inr hF)))];exact en2.sbase b i hb
    ·exact absurd (hMn b (.inl hge)) hb
   ·intro t;exact(c4 t).frame ((hcan lr).1 t) (λ_ _ _ q=>q) (λk hk=>⟨World.putObj_heap_other (by rintro rfl;exact c6 t hk),((c4 t).owns ((hcan lr).1 t) k hk).2⟩)
  have hdp:∀o,Q8 df M df' Fp' (w'.putObj wA.heap.size o):=by
   intro o;have hlt:∀D∈df',D<wA.heap.size:=λD hD=>(pK.1 (en3.ent D hD)).1;have hno:∀D∈df',¬((wA.alloc (.loop rec)).heap.size<=D\/D∈wA.heap.size::live.flatMap Fp0):=by
    rintro D hD (q|q)
    ·have:=hlt D hD;have h3:(wA.alloc (.loop rec)).heap.size=wA.heap.size+1:=by simp
     omega
    ·rcases pD.1 q with rfl|q
     ·have:=hlt _ hD;omega
     ·obtain⟨t,_,ht⟩:=gY.1 q;exact en3.off D hD t ht
   refine⟨en3.nodup,λD hD=>?_,λD hD t ht=>hno D hD (hout t D ht),en3.old⟩;rw[World.putObj_heap_other (by have:=hlt D hD;omega),b1.block D (hno D hD),World.alloc_old _ (hlt D hD)];exact en3.ent D hD
  cases lr with
  | next s=>exact⟨df',stF s,S',Fp',hpf _,hdp _,hend⟩
  | done t=>exact AWP.go hend hc (hpf _) (hdp _)
end
def z9L (live:List Nat)(l:List (Nat×T)):Bool:=l.all λq=>live.contains q.1&&q.2.plain
theorem zkE:∀(l:List (Nat×T)) (t:Nat),ofL l t=⟨(ofL l t).t,0,0⟩
 | [],t=>rfl
 | p::l,t=>by
  simp only[ofL];split
  ·rfl
  ·exact zkE l t
theorem z9K {live:List Nat}:∀{l:List (Nat×T)},z9L live l=true->(∀t,(ofL l t).t.plain=true)/\∀t,t∉live->(ofL l t).t=.gone
 | [],_=>⟨λ_=>rfl,λ_ _=>rfl⟩
 | p::l,h=>by
  simp only[z9L,List.all_cons,pJ]at h;obtain⟨h1,h2⟩:=z9K (l:=l) (by simpa only[z9L] using h.2);constructor
  ·intro t;simp only[ofL];split
   ·exact h.1.2
   ·exact h1 t
  ·intro t ht;simp only[ofL];split
   ·rename_i e;subst e;exact absurd (nU.1 h.1.1) ht
   ·exact h2 t ht
variable {l:List (Nat×T)}
theorem zac {live:List Nat}  (h:z9L live l=true):Own.canon live (ofL l)=ofL l:=by
 obtain⟨h1,h2⟩:=z9K h;funext t;rw[Qv];by_cases ht:t∈live
 ·rw[if_pos ht];have h3:=h1 t;rw[zkE l t];unfold zj9;cases hx:(ofL l t).t with
  | als r p er ec=>rw[hx]at h3;cases h3
  | ptr r p er ec=>rw[hx]at h3;cases h3
  | _=>rfl
 ·rw[if_neg ht,zkE l t,h2 t ht];rfl
theorem AWP.weak {Q Q':Exit->St->Prop}(h:AWP P n c st Q')(hq:∀e st,Q' e st->∃live l m,Own.canon live st=ofL l/\LeL l m/\Q e (ofL m)):AWP P n c st Q:=by intro rd mm df w0 S0 M S Fp a w hc hs;refine wpIn_mono (h rd mm df w0 S0 M S Fp a w hc hs) ?_;rintro e a' w' ⟨df',st1,S1,Fp1,h1,h2,h3⟩;obtain⟨live,l,m,e1,e2,e3⟩:=hq _ _ h3;obtain⟨Fp2,g1,g2⟩:=Sim.canonD h1 h2 live;rw[e1]at g1;exact⟨df',ofL m,S1,Fp2,e2.or.elim (λe=>e ▸ g1) λh=>g1.le h.ent,g2,e3⟩
def zzr:List (Nat×T)->List Nat->List A->List (Nat×T)
 | l,p::ps,y::ys=>zzr ((p,.d y)::l) ps ys
 | l,_,_=>l
theorem zhm:∀(ps:List Nat) (ys:List A) (l:List (Nat×T)),zeI (ofL l) ps ys=ofL (zzr l ps ys)
 | [],_,l=>by cases l <;> rfl
 | _::_,[],l=>by cases l <;> rfl
 | p::ps,y::ys,l=>zhm ps ys ((p,.d y)::l)
def zD0 (n:Fr)(ps live:List Nat):Bool:=ps.all λp=>decide (p<n.size)&&(!live.contains p && !pinned n.pin p)
section
variable {σ τ β:Type}
def zyI (stF:σ->List (Nat×T))(stD:τ->List (Nat×T)):LR σ τ->List (Nat×T)
 | .next s=>stF s
 | .done t=>stD t
def itQ (live:List Nat)(stF:σ->List (Nat×T))(stD:τ->List (Nat×T))(jc:τ->Code)(r:LR σ τ)(ex:Exit)(st:St):Prop :=
 zle ex=some (zj6 jc r)/\∃l',Own.canon live st=ofL l'/\LeL l' (zyI stF stD r)
theorem z6V {P:Program}{n:Fr}{Q:Exit->St->Prop}  {fs:List Fm}{st0:St}    {K:Nat}{caps:List A}(e:c=.rangeFunc g ps.toArray assign body)(live:List Nat)(stF:σ->List (Nat×T))(stD:τ->List (Nat×T))(jc:τ->Code)(enc:β->Bool->Value->List A){F:∀{σ:Type},(σ->β->Option (σ×Bool))->σ->Option σ}
  (step:σ->β->Option (LR σ τ)) (s0:σ) (lr:LR σ τ) (l0:List (Nat×T)) (hs:Own.canon live st0=ofL l0) (hl:LeL l0 (stF s0)) (hg:zzQ (ofL (stF s0)) g=some (.fn K caps)) (hnd:live.Nodup) (hp:∀s,z9L live (stF s)=true) (hp2:∀t,z9L live (stD t)=true)
  (hps:zD0 n ps live=true) (hlen:∀x b v,ps.length=(enc x b v).length) (hit:zfx P (.fn K caps) enc F) (hF:F (yOf step) (.next s0)=some lr)
  (hround:∀(tv:Nat->Value) (s:σ) (x:β) (v:Value) (r:LR σ τ),step s x=some r->AWP P ⟨n.size,live.map (λt=>(t,tv t))++n.pin⟩ assign (ofL (zzr (stF s) ps (enc x (zvK r) v)))
   (Qf P ⟨n.size,live.map (λt=>(t,tv t))++n.pin⟩ [] (λe st1=>e=.normal/\AWP P ⟨n.size,live.map (λt=>(t,tv t))++n.pin⟩ body st1 (Qf P ⟨n.size,live.map (λt=>(t,tv t))++n.pin⟩ [] (itQ live stF stD jc r)))))
  (hend:zBx P n (ofL (zyI stF stD lr)) (Qf P n fs Q) (zj6 jc lr)):AWP P n c st0 (Qf P n fs Q):=by
 subst e;refine AWP.canon live ?_;rw[hs];refine zsO hl ?_;have hst:∀l:LR σ τ,zjA (λs=>ofL (stF s)) (λt=>ofL (stD t)) l=ofL (zyI stF stD l):=by intro l;cases l <;> rfl
 have hpl:∀l:LR σ τ,z9L live (zyI stF stD l)=true:=by
  intro l;cases l with
  | next s=>exact hp s
  | done t=>exact hp2 t
 refine AWP.iterF live (λs=>ofL (stF s)) (λt=>ofL (stD t)) jc enc step s0 lr hg hnd (zac (hp s0)) (λl=>by rw[hst];exact z9K (hpl l)) ?_ hlen hit hF ?_ (by rw[hst];exact hend)
 ·intro p hp;have:=gJ.1 hps p hp;simp only[pJ,decide_eq_true_eq,rH]at this;exact⟨this.1,λh=>by rw[nU.2 h]at this;simp at this,this.2.2⟩
 ·intro tv s x v r hr;rw[zhm];refine AWP.mono (hround tv s x v r hr) ?_;rintro e st1 ⟨h1,h2⟩;refine⟨h1,AWP.weak h2 ?_⟩;rintro ex st2 ⟨hj,l',q1,q2⟩;refine⟨live,l',_,q1,q2,hj,?_⟩;rw[zac (hpl r),hst]
end
section
variable {P:Program}{tt:TT}{ctr:Ctr}{n:Fr}{Q:Exit->St->Prop}
theorem zwf (X:XH P)(hT:wy P tt)(hC:zF P ctr)(hm:P.follows .mixedOrders=true)(live:List Nat)(k:Nat){c:Code}{fs:List Fm}{st:St}(hs:List H)(ex:Exit)(l':List (Nat×T))(obs:List Ob)
  (e:zbQ X tt ctr n live k c fs st hs=some (.fin ex,ofL l',obs.map Ob.p)) (h:∀st0,canon live st0=ofL l'->Q ex st0):AWP P n c st (Qf P n fs Q):=zgL X hT hC hm live k obs e h
theorem JF {J:St->Prop}:∀{fs:List Fm} {st:St},unw fs=.stop (.back J)->J st->Qf P n fs Q .normal st
 | [],_,e,_=>by cases e
 | .seq z::fs,_,e,h=>by cases e
 | .blk id::fs,_,e,h=>JF (fs:=fs) (by simpa only[unw] using e) h
 | .pre J::fs,_,e,h=>by simp only[unw,Nxt.stop.injEq,zja.back.injEq]at e;subst e;exact h
 | .rnd (m+1) c::fs,_,e,h=>by cases e
 | .rnd 0 _::_,_,e,_=>by cases e
theorem zdB {live:List Nat}   (h0:canon live st0=ofL l)(h:AWP P n c (ofL l) Q):AWP P n c st0 Q:=by refine AWP.canon live ?_;rw[h0];exact h
end
def YOk (P:Program)(yv:Value){σ β:Type}(Y:σ->z8W)(enc:β->Bool->Value->List A)(y:σ->β->Option (σ×Bool)):Prop :=
 ∀s x s' b,y s x=some (s',b)->∀v,Yr P (.atom yv) (enc x b v) [(yv,.opq (Y s).q)] (.atom (.bool b)) [.opq (Y s').q]
theorem z9W {tt:TT}   {body:Code}{nt:Nat}{caps:List A}  {enc:β->Bool->Value->List A}{F:∀{σ:Type},(σ->β->Option (σ×Bool))->σ->Option σ}(hT:wy P tt)(hf:P.funcs[k]?=some fn)(hnm:(fn.name == "runtime.NumGoroutine")=false)(hb:fn.body=some body)
  (hn:nt=fn.ntmps) (hr:fn.results=#[]) (ha:caps.length+1<=fn.ntmps)
  (h:∀(σ:Type) (yv:Value) (Y:σ->z8W) (y:σ->β->Option (σ×Bool)),YOk P yv Y enc y->∀s s',F y s=some s'->∀E:Exit->St->Prop,(∀ex st,(ex=.normal\/ex=.ret)->canon [0] st=ofL [(0,.own (.opq (Y s').q))]->E ex st) ->
   AWP P ⟨nt,[(0,yv)]⟩ body (ofL (zhG 0 (.opq (Y s).q::caps))) (Qf P ⟨nt,[(0,yv)]⟩ [] E)):zfx P (.fn k caps) enc F:=by
 subst hn;intro σ yv Y y hy s s' hs;refine z9V (tt:=tt) (rs:=[]) [0] (args:=[.atom yv]) (caps:=caps) (xs:=[.opq (Y s).q]) (vals:=[yv]) hT hf hnm hb hr (by simpa using ha) (by simp) (by simp) rfl ?_;rw[zc7];refine h σ yv Y y hy s s' hs _ ?_;intro ex st hx hc;refine⟨hx,?_⟩;have h0:=congrFun hc 0;rw[Qv]at h0;simp only[pR,if_true,ofL,Ent.mk.injEq,and_true]at h0;have h1:(st 0).t=.own (.opq (Y s').q):=by
  unfold zj9 at h0;cases hx:(st 0).t with
  | als r p er ec=>simp only[hx]at h0;split at h0 <;> cases h0
  | ptr r p er ec=>simp only[hx]at h0;split at h0 <;> cases h0
  | own a=>simpa only[hx] using h0
  | d a=>simp only[hx]at h0;cases h0
  | gone=>simp only[hx]at h0;cases h0
 have h2:z7L [0] st=some ([.opq (Y s').q],[0],[]):=by simp only[z7L];show SM.bind (rdE 0) _ st=_;unfold SM.bind;simp only[rdE,zh,h1];rfl
 refine⟨[0],[],?_⟩;simp only[zw3,nP];show SM.bind (shutArgs tt []) _ st=_;unfold SM.bind;simp only[shutArgs];simp only[pure,SM.pure,bind,SM.bind,zh,h2];rfl
def zoa (tt:TT)(n:Fr)(ty:Nat)(x:T):HM A :=
 match x with
 | .als r p er ec=>
  match z4T n.pin r with
  | some _=>yg (refT tt n ty (.als r p er ec))
  | none=>zbK tt ty (.als r p er ec)
 | x=>zbK tt ty x
theorem zv1 (tt:TT)(n:Fr)(ty:Nat)(x:T):Snd (refT tt n ty x) (zoa tt n ty x):=by
 cases x with
 | als r p er ec=>
  cases hp:z4T n.pin r with
  | some v=>simp only[zoa,hp];exact zn _
  | none=>simp only[zoa,refT,hp];exact z2t tt ty (.als r p er ec)
 | d a=>exact z2t tt ty (.d a)
 | own a=>exact z2t tt ty (.own a)
 | ptr r p er ec=>exact z2t tt ty (.ptr r p er ec)
 | gone=>exact z2t tt ty .gone
def Ua (tt:TT)(n:Fr):List (Operand×Nat)->HM (List A)
 | []=>pure []
 |(x,t)::as_=>yg (opnd x) >>= λy=>zoa tt n t y >>= λa=>Ua tt n as_ >>= λbs=>pure (a::bs)
theorem Wm (tt:TT)(n:Fr):∀as_,Snd (refArgs tt n as_) (Ua tt n as_)
 | []=>vw _
 |(x,t)::as_=>zj (zn _) λy=>zj (zv1 _ _ _ _) λa=>zj (Wm tt n as_) λbs=>vw _
open Classical in
def zre (yv:Value){σ β:Type}(Y:σ->z8W)(enc:β->Bool->Value->List A)(s:σ)(x:β)(s':σ)(b:Bool)(v:Value)(f:A)(xs:List A)(ls:List (Value×A)):Option (A×List A) :=
 if f=.atom yv/\ls=[(yv,.opq (Y s).q)]/\(∀S vs,UR (qa S) xs vs->UR (qa S) (enc x b v) vs) then some (.atom (.bool b),[.opq (Y s').q]) else none
variable {yv:Value}
theorem zrd {σ β:Type}{Y:σ->z8W}{enc:β->Bool->Value->List A}{y:σ->β->Option (σ×Bool)}(hy:YOk P yv Y enc y){s:σ}{x:β}{s':σ}  (v:Value)(h:y s x=some (s',b)) :
  ∀f xs ls r ys,zre yv Y enc s x s' b v f xs ls=some (r,ys)->Yr P f xs ls r ys:=by
 intro f xs ls r ys e;unfold zre at e;split at e
 ·rename_i hc;obtain⟨rfl,rfl,h3⟩:=hc;simp only[Option.some.injEq,Prod.mk.injEq]at e;obtain⟨rfl,rfl⟩:=e;intro S w fv vs F hS hfv hvs;exact hy s x s' b h v S w fv vs F hS hfv (h3 S vs hvs)
 ·cases e
theorem z9k {σ β:Type}{Y:σ->z8W}{enc:β->Bool->Value->List A}{s:σ}{x:β}{s':σ}   (xs:List A)(h:z3p xs (enc x b v)):zre yv Y enc s x s' b v (.atom yv) xs [(yv,.opq (Y s).q)]=some (.atom (.bool b),[.opq (Y s').q]):=by unfold zre;rw[if_pos ⟨rfl,rfl,h.all⟩]
def zhz (tt:TT)(tab:A->List A->List (Value×A)->Option (A×List A))(r:A)(ys:List A)(n:Fr)(dst:Option Nat)(f:Operand)(as_:List (Operand×Nat))(L:List Nat):HM Unit :=
 Ua tt n [(f,0)] >>= λfs=>Ua tt n as_ >>= λxs=>yg (lentsA n L) >>= λls=>
  match fs with
  | [fa]=>zrV (tab fa xs ls=some (r,ys)) >>= λ_=>yg (backsA L ys >>= λ_=>wrT n dst (mkT r))
  | _=>zV
theorem zjY (tt:TT)(tab:A->List A->List (Value×A)->Option (A×List A))(r:A)(ys:List A)(n:Fr)(dst:Option Nat)(f:Operand)(as_:List (Operand×Nat))(L:List Nat):Snd (lentQ tt tab n dst f as_ L) (zhz tt tab r ys n dst f as_ L):=by
 unfold lentQ zhz;refine zj (Wm _ _ _) λfs=>zj (Wm _ _ _) λxs=>zj (zn _) λls=>?_;rcases fs with _|⟨fa,_|⟨z,l⟩⟩
 ·exact zw _
 ·refine z6D λh=>?_;simp only[h];exact zn _
 ·exact zw _
def z2g (tt:TT)  {σ β:Type}{Y:σ->z8W}{enc:β->Bool->Value->List A}{y:σ->β->Option (σ×Bool)}(hy:YOk P yv Y enc y)(d:Nat){s:σ}{x:β}{s':σ}  (v:Value)(h:y s x=some (s',b)):XH P:={
 e:=z1i tt (zre yv Y enc s x s' b v) d [0]
 h:=λn o=>match o.op with
  | .call ⟨.value f,args,tys⟩=>if o.dst=some d/\args.size=tys.size then some (zhz tt (zre yv Y enc s x s' b v) (.atom (.bool b)) [.opq (Y s').q] n o.dst f (args.toList.zip tys.toList) [0]) else none
  | _=>none
 ok:=zcb (zrd hy v h) d [0]
 none:=by
  intro n o e;unfold z1i at e;split at e
  ·rename_i ho;split at e
   ·cases e
   ·rename_i hd;simp only[ho,if_neg hd]
  ·rename_i hne;split
   ·rename_i ho2;exact absurd ho2 (by intro h;exact hne _ _ _ h)
   ·rfl
 some:=by
  intro n o m e;unfold z1i at e;split at e
  ·rename_i ho;split at e
   ·rename_i hd;cases e;refine⟨_,?_,zjY tt (zre yv Y enc s x s' b v) (.atom (.bool b)) [.opq (Y s').q] n o.dst _ _ [0]⟩;rw[ho];exact if_pos hd
   ·cases e
  ·cases e }
variable {M:Nat->Prop}{df:List Nat}{w0:World}
theorem Sim.pinned {S0:zo}        (h:Sim ⟨n,df,w0,S0,M⟩ S Fp X st a w)(k:Nat):Sim ⟨⟨n.size,(k,Act.tv a k)::n.pin⟩,df,w0,S0,M⟩ S Fp X st a w:={
 size:=h.size
 pin:=λj u hj=>by
  rcases pD.1 hj with e|hj
  ·cases e;rfl
  ·exact h.pin j u hj
 defers:=h.defers
 below:=h.below
 mine:=h.mine
 still:=h.still
 sinc:=h.sinc
 sbase:=h.sbase
 ent:=h.ent
 disj:=h.disj
 base:=h.base
 xn:=h.xn
 xd:=h.xd
 xb:=h.xb }
theorem Sim.unpinned {S0:zo}        (h:Sim ⟨⟨n.size,(k,v)::n.pin⟩,df,w0,S0,M⟩ S Fp X st a w):Sim ⟨n,df,w0,S0,M⟩ S Fp X st a w:={
 size:=h.size
 pin:=λj u hj=>h.pin j u (nF _ hj)
 defers:=h.defers
 below:=h.below
 mine:=h.mine
 still:=h.still
 sinc:=h.sinc
 sbase:=h.sbase
 ent:=h.ent
 disj:=h.disj
 base:=h.base
 xn:=h.xn
 xd:=h.xd
 xb:=h.xb }
theorem AWP.pin (k:Nat)(h:∀v,AWP P ⟨n.size,(k,v)::n.pin⟩ c st Q):AWP P n c st Q:=by intro rd m df w0 S0 M S Fp a w hc hs;refine wpIn_mono (h (Act.tv a k) rd m df w0 S0 M S Fp a w ⟨hc.nodup,hc.df,hc.rd⟩ (hs.pinned k)) ?_;rintro e a' w' ⟨df',st1,S1,Fp1,h1,h2,h3⟩;exact⟨df',st1,S1,Fp1,h1.unpinned,h2,h3⟩
theorem zm5 (e:fs=[])(k:Nat)(h:∀v,AWP P ⟨n.size,(k,v)::n.pin⟩ c st (Qf P ⟨n.size,(k,v)::n.pin⟩ [] Q)):AWP P n c st (Qf P n fs Q):=by subst e;exact AWP.pin k h
def zBg (tt:TT)(n:Fr)(dst:Option Nat)(f:Nat)(caps:List Operand):HM Unit :=
 Ua tt n (caps.map λx=>(x,0)) >>= λxs=>if xs.all z6H=true then yg (wrT n dst (.d (.fn f xs))) else zV
theorem zzi (tt:TT)(n:Fr)(dst:Option Nat)(f:Nat)(caps:List Operand):Snd (mkQ tt n dst f caps) (zBg tt n dst f caps) :=
 zj (Wm _ _ _) λxs=>jP (zn _) (zw _)
def xMk (P:Program)(tt:TT):XH P:={
 e:=ziS tt
 h:=λn o=>match o.op with
  | .makeFunc (.func f) ⟨[]⟩ caps=>some (zBg tt n o.dst f caps.toList)
  | _=>none
 ok:=zpm P tt
 none:=by
  intro n o e;unfold ziS at e;split at e
  ·cases e
  ·rename_i hne;split
   ·rename_i ho2;exact absurd ho2 (by intro h;exact hne _ _ h)
   ·rfl
 some:=by
  intro n o m e;unfold ziS at e;split at e
  ·rename_i ho;cases e;refine⟨_,?_,zzi tt n o.dst _ _⟩;rw[ho]
  ·cases e }
open Classical in
def zrg (f:A)(xs:List A)(ls:List (Value×A))(r:A)(ys:List A)(f':A)(xs':List A)(ls':List (Value×A)):Option (A×List A) :=
 if f'=f/\ls'=ls/\(∀S vs,UR (qa S) xs' vs->UR (qa S) xs vs) then some (r,ys) else none
variable {ls:List (Value×A)}{ys:List A}{f:A}
theorem zrf (h:Yr P f xs ls r ys):∀f' xs' ls' r' ys',zrg f xs ls r ys f' xs' ls'=some (r',ys')->Yr P f' xs' ls' r' ys':=by
 intro f' xs' ls' r' ys' e;unfold zrg at e;split at e
 ·rename_i hc;obtain⟨rfl,rfl,h3⟩:=hc;simp only[Option.some.injEq,Prod.mk.injEq]at e;obtain⟨rfl,rfl⟩:=e;intro S w fv vs F hS hfv hvs;exact h S w fv vs F hS hfv (h3 S vs hvs)
 ·cases e
theorem Ve (xs':List A)(h:z3p xs' xs):zrg f xs ls r ys f xs' ls=some (r,ys):=by unfold zrg;rw[if_pos ⟨rfl,rfl,h.all⟩]
def k8 (tt:TT)(L:List Nat)      (h:Yr P f xs ls r ys)(dd:Nat):XH P:={
 e:=z1i tt (zrg f xs ls r ys) dd L
 h:=λn o=>match o.op with
  | .call ⟨.value g,args,tys⟩=>if o.dst=some dd/\args.size=tys.size then some (zhz tt (zrg f xs ls r ys) r ys n o.dst g (args.toList.zip tys.toList) L) else none
  | _=>none
 ok:=zcb (zrf h) dd L
 none:=by
  intro n o e;unfold z1i at e;split at e
  ·rename_i ho;split at e
   ·cases e
   ·rename_i hd;simp only[ho,if_neg hd]
  ·rename_i hne;split
   ·rename_i ho2;exact absurd ho2 (by intro h;exact hne _ _ _ h)
   ·rfl
 some:=by
  intro n o m e;unfold z1i at e;split at e
  ·rename_i ho;split at e
   ·rename_i hd;cases e;refine⟨_,?_,zjY tt (zrg f xs ls r ys) r ys n o.dst _ _ L⟩;rw[ho];exact if_pos hd
   ·cases e
  ·cases e }
theorem z9P {st:St}:∀{is:List Nat} {ys:List A},is.length=ys.length->(∀p∈is.zip ys,(st p.1).t=.own p.2)->z7L is st=some (ys,is,[])
 | [],[],_,_=>rfl
 | i::is,y::ys,hl,h=>by have h1:(st i).t=.own y:=h (i,y) (by simp);have h2:=z9P (st:=st) (is:=is) (ys:=ys) (by simpa using hl) (λp hp=>h p (by simp[hp]));simp only[z7L];show SM.bind (rdE i) _ st=_;unfold SM.bind;simp only[rdE,zh,h1,bind,SM.bind,h2,pure,SM.pure];simp
 | [],_::_,hl,_=>by simp at hl
 | _::_,[],hl,_=>by simp at hl
theorem zps {live:List Nat}   {y:A}(h:zj9 live st k=.own y):(st k).t=.own y:=by
 unfold zj9 at h;cases hx:(st k).t with
 | als r p er ec=>simp only[hx]at h;split at h <;> cases h
 | ptr r p er ec=>simp only[hx]at h;split at h <;> cases h
 | own a=>simpa only[hx] using h
 | d a=>simp only[hx]at h;cases h
 | gone=>simp only[hx]at h;cases h
theorem zdf {tt:TT}   {body:Code}{nt:Nat}(is:List Nat){args caps xs:List A}{vals:List Value}{ys:List A}(hT:wy P tt)(hf:P.funcs[k]?=some fn)(hnm:(fn.name == "runtime.NumGoroutine")=false)(hb:fn.body=some body)
  (hn:nt=fn.ntmps) (hr:fn.results=#[]) (ha:(args++caps).length<=fn.ntmps) (hnd:is.Nodup) (hbase:is.map (λi=>(args++caps)[i]?)=vals.map (λv=>some (.atom v))) (hl:xs.length=vals.length)
  (h:∀E:Exit->St->Prop,(∀ex st,(ex=.normal\/ex=.ret)->(∀p∈is.zip ys,(st p.1).t=.own p.2)->E ex st) ->
   AWP P ⟨nt,is.zip vals⟩ body (ofL (zhG 0 (z1C (args++caps) is xs))) (Qf P ⟨nt,is.zip vals⟩ [] E)) (hy:is.length=ys.length):Yr P (.fn k caps) args (vals.zip xs) (.tup []) ys:=by
 subst hn;refine z9V (tt:=tt) (rs:=[]) is hT hf hnm hb hr ha hnd hbase hl ?_;rw[zc7];refine h _ ?_;intro ex st hx hc;refine⟨hx,is,[],?_⟩;have h2:=z9P hy hc;simp only[zw3,nP];show SM.bind (shutArgs tt []) _ st=_;unfold SM.bind;simp only[shutArgs];simp only[pure,SM.pure,bind,SM.bind,zh,h2];show(match (match (SM.pure (A.tup [],ys):SM (A×List A)) st with|none=>none|some (b,R',U')=>some (b,is++R',[]++U')) with|none=>none|some (b,R',U')=>some (b,[]++R',[]++U'))=_;simp[SM.pure]
theorem zvm {live:List Nat}   (hc:canon live st=ofL l)  {y:A}(hk:live.contains k=true)(hy:(ofL l k).t=.own y):(st k).t=.own y:=by have:=congrFun hc k;rw[Qv,if_pos (nU.1 hk)]at this;rw[<-this]at hy;exact zps hy
def zqG (live:List Nat)(l:List (Nat×T)):List Nat->List A->Prop
 | i::is,y::ys=>(live.contains i=true/\(ofL l i).t=.own y)/\zqG live l is ys
 | _,_=>True
theorem Jn {live:List Nat}   (hc:canon live st=ofL l):∀{is:List Nat} {ys:List A},zqG live l is ys->∀p∈is.zip ys,(st p.1).t=.own p.2
 | [],_,_,p,hp=>by simp at hp
 | _::_,[],_,p,hp=>by simp at hp
 | i::is,y::ys,h,p,hp=>by
  rcases pD.1 hp with rfl|hp
  ·exact zvm hc h.1.1 h.1.2
  ·exact Jn hc h.2 p hp
theorem zsM {c x y:Code}    (e:c=.seq x y)(E:St->Prop)(h:AWP P n x st (Qf P n [] (λe st1=>e=.normal/\E st1)))(h2:∀st1,E st1->AWP P n y st1 (Qf P n fs Q)):AWP P n c st (Qf P n fs Q):=by subst e;refine AWP.seq (AWP.mono h ?_);rintro e st1 ⟨rfl,q⟩;exact h2 st1 q
theorem zfs {c x y:Code}    (e:c=.seq x y)(k:Nat)(E:St->Prop)(h:∀v,AWP P ⟨n.size,(k,v)::n.pin⟩ x st (Qf P ⟨n.size,(k,v)::n.pin⟩ [] (λe st1=>e=.normal/\E st1)))(h2:∀st1,E st1->AWP P n y st1 (Qf P n fs Q)):AWP P n c st (Qf P n fs Q) :=
 zsM e E (AWP.pin k λv=>h v) h2
section
variable {C:Ctx}{S:zo}{Fp:Nat->List Nat}{st:St}{a:Act}{w:World}
open Classical in
def mvQ (n:Fr)(dst:Option Nat)(s:Nat)(v:Value):SM Unit:=if z4T n.pin s=some v then wrT n dst (.d (.atom v)) else zu
open Classical in
theorem Loc.mvQ (n:Fr)(dst:Option Nat)(s:Nat)(v:Value):Loc (mvQ n dst s v):=by unfold Go.Own.mvQ;exact Loc.ite (Loc.wrT _ _ _) Loc.fail
def zBf (n:Fr)(dst:Option Nat)(s:Nat)(v:Value):HM Unit:=XW (z4T n.pin s=some v) (yg (wrT n dst (.d (.atom v))))
open Classical in
theorem zCF (n:Fr)(dst:Option Nat)(s:Nat)(v:Value):Snd (mvQ n dst s v) (zBf n dst s v):=vL (zn _)
theorem zvu (h:Sim C S Fp [] st a w)  {s:Nat}{v:Value}(hv:v.oneCell'=true)(ho:o.op=.move (.tmp s))    (e:mvQ C.n o.dst s v st=some (u,R,U)):qO P C o a w (zh U st):=by
 unfold mvQ at e;split at e
 ·rename_i hp;have hs:=h.pin s v (ZQ hp);obtain⟨Fp',hs'⟩:=wP h e (x:=.d (.atom v)) (v:=v) (zD.2 ⟨rfl,hv⟩);refine zr ?_ hs';have ev:a.eval (.tmp s)=v:=hs;simp[execOp,ho,ev]
 ·exact(z7 e).elim
def xMv (P:Program)(d s:Nat)(v:Value)(hv:v.oneCell'=true):XH P:={
 e:=λn o=>match o.op with|.move (.tmp t)=>if o.dst=some d/\t=s then some (mvQ n o.dst s v) else none|_=>none
 h:=λn o=>match o.op with|.move (.tmp t)=>if o.dst=some d/\t=s then some (zBf n o.dst s v) else none|_=>none
 ok:=by
  refine⟨?_,?_⟩
  ·intro C S Fp st a w o m u R U e h h2;dsimp only at e;split at e
   ·rename_i t ho;split at e
    ·rename_i hd;obtain⟨_,rfl⟩:=hd;cases e;exact zvu h hv ho h2
    ·cases e
   ·cases e
  ·intro n o m e;dsimp only at e;split at e
   ·split at e
    ·cases e;exact λst st' a R U=>Loc.mvQ _ _ _ _ st st' a R U
    ·cases e
   ·cases e
 none:=by
  intro n o e
  skip
  split at e
  ·split at e
   ·cases e
   ·rename_i hd;rw[if_neg hd]
  ·rfl
 some:=by
  intro n o m e
  skip
  split at e
  ·split at e
   ·rename_i hd;cases e;exact⟨_,by rw[if_pos hd],zCF _ _ _ _⟩
   ·cases e
  ·cases e }
end
theorem zdA (e:fs=[])(k:Nat){y:A}(hk:(st k).t=.own y)(ho:z8P y=true)(h:∀v,v.oneCell'=true->AWP P ⟨n.size,(k,v)::n.pin⟩ c st (Qf P ⟨n.size,(k,v)::n.pin⟩ [] Q)):AWP P n c st (Qf P n fs Q):=by
 subst e;intro rd m df w0 S0 M S Fp a w hc hs;have hone:(Act.tv a k).oneCell'=true:=by have q:=hs.ent k;unfold wv at q;simp only[hk]at q;obtain⟨cs,c1,_,hv⟩:=q;have hcs:=z1b ho c1;rw[hv];exact c1.one1 (z3j ho) _ (by have q:=rB (y8 y cs);rwa[<-hcs]at q)
 refine wpIn_mono (h (Act.tv a k) hone rd m df w0 S0 M S Fp a w ⟨hc.nodup,hc.df,hc.rd⟩ (hs.pinned k)) ?_;rintro e a' w' ⟨df',st1,S1,Fp1,h1,h2,h3⟩;exact⟨df',st1,S1,Fp1,h1.unpinned,h2,h3⟩
def zi3 (P:Program)(t i e off:Nat):Prop:=∃(fs:Array Field) (f:Field),P.underlying t=some (.struct fs)/\fs[i]?=some f/\f.type=e/\f.offset=off
variable {t i e off:Nat}
theorem zlF {fs:Array Field}(h:P.underlying t=some (.struct fs))(f:Field)(h1:fs[i]?=some f)(h2:f.type=e)(h3:f.offset=off):zi3 P t i e off:=⟨fs,f,h,h1,h2,h3⟩
def fldO (tt:TT)(n:Fr)(dst:Option Nat)(i e off:Nat)(x:Operand):SM Unit:=do
 let tx <-opnd x;let vx <-val tx;match vx with
 | .agg fs=>match fs[i]? with
  | some y=>if Ym tt e y=true/\y.isD=true/\A.sizes (fs.take i)=off then wrT n dst (.d y) else zu
  | none=>zu
 | _=>zu
def zBw (tt:TT)(n:Fr)(dst:Option Nat)(i e off:Nat)(x:Operand):HM Unit:=yg (opnd x) >>= λtx=>z4f tx >>= λvx=>
 yg (match vx with
 | .agg fs=>match fs[i]? with
  | some y=>if Ym tt e y=true/\y.isD=true/\A.sizes (fs.take i)=off then wrT n dst (.d y) else zu
  | none=>zu
 | _=>zu)
theorem zzk (tt:TT)(n:Fr)(dst:Option Nat)(i e off:Nat)(x:Operand):Snd (fldO tt n dst i e off x) (zBw tt n dst i e off x) :=
 zj (zn _) λ_=>zj (W1 _) λ_=>zn _
theorem Loc.fldO (tt:TT)(n:Fr)(dst:Option Nat)(i e off:Nat)(x:Operand):Loc (fldO tt n dst i e off x):=by
 unfold Go.Own.fldO;refine Loc.bind (Loc.opnd _) λ_=>Loc.bind (Loc.val _) λ_=>?_;split
 ·split
  ·exact Loc.ite (Loc.wrT _ _ _) Loc.fail
  ·exact Loc.fail
 ·exact Loc.fail
def shrO (n:Fr)(dst:Option Nat)(x y:Operand):SM Unit:=do
 let tx <-opnd x;let vx <-val tx;let ty <-opnd y;let vy <-val ty;match vx,vy with
 | .atom (.int k p),.atom (.int _ q)=>if 0<=q then wrT n dst (.d (.atom (.int k (p.fdiv (2 ^ (min q.toNat k.bits)))))) else zu
 | _,_=>zu
def zB6 (n:Fr)(dst:Option Nat)(x y:Operand):HM Unit:=yg (opnd x) >>= λtx=>z4f tx >>= λvx=>yg (opnd y) >>= λty=>z4f ty >>= λvy=>
 yg (match vx,vy with
 | .atom (.int k p),.atom (.int _ q)=>if 0<=q then wrT n dst (.d (.atom (.int k (p.fdiv (2 ^ (min q.toNat k.bits)))))) else zu
 | _,_=>zu)
theorem zz9 (n:Fr)(dst:Option Nat)(x y:Operand):Snd (shrO n dst x y) (zB6 n dst x y) :=
 zj (zn _) λ_=>zj (W1 _) λ_=>zj (zn _) λ_=>zj (W1 _) λ_=>zn _
theorem Loc.shrO (n:Fr)(dst:Option Nat)(x y:Operand):Loc (shrO n dst x y):=by
 unfold Go.Own.shrO;refine Loc.bind (Loc.opnd _) λ_=>Loc.bind (Loc.val _) λ_=>Loc.bind (Loc.opnd _) λ_=>Loc.bind (Loc.val _) λ_=>?_;split
 ·exact Loc.ite (Loc.wrT _ _ _) Loc.fail
 ·exact Loc.fail
section
variable {C:Ctx}{S:zo}{Fp:Nat->List Nat}{st:St}{a:Act}{w:World}
theorem zvX {P:Program}  (hT:wy P tt)  (hf:zi3 P t i e off)(h:Sim C S Fp [] st a w)  {x:Operand}(ho:o.op=.field t x i)    (e0:fldO tt C.n o.dst i e off x st=some (u,R,U)):qO P C o a w (zh U st):=by
 unfold fldO at e0;obtain⟨tx,R1,U1,R2,U2,h1,e1,rfl,rfl⟩:=bind_some e0;obtain⟨rfl,hx⟩:=zK h h1;obtain⟨vx,R3,U3,R4,U4,h3,e2,rfl,rfl⟩:=bind_some e1;obtain⟨rfl,qx⟩:=jD h hx h3;simp only[zh,p9]at e2 ⊢;split at e2
 ·rename_i fs;cases hy:fs[i]? with
  | none=>simp only[hy]at e2;exact(z7 e2).elim
  | some y=>
   simp only[hy]at e2;split at e2
   ·rename_i hc;obtain⟨c1,c2,c3⟩:=hc;obtain⟨fds,f,f1,f2,f3,f4⟩:=hf;obtain⟨cs,r1,r2⟩:=(qx:qa S (.agg fs) (a.eval x));simp only[Rep]at r1;obtain⟨d1,ci,d2,rfl,hl,hr⟩:=z11 r1 hy;obtain⟨Fp',hs⟩:=wP h e2 (x:=.d y) (qa.repV ⟨ci,hr,rfl⟩);refine zr ?_ hs;have hp:=zha (P:=P) hT c1 (w:=w) (c1:=d1) (c2:=d2) hr.len;rw[hl,c3]at hp;have ex:a.eval x=.agg (d1++ci++d2).toArray:=r2;simp only[execOp,ho,Instr.field,ex,asAgg,Sem.run_bind,Sem.run_pure,Result.andThen_ok,run_underlying f1,f2,f3,f4,hp]
   ·exact(z7 e2).elim
 ·exact(z7 e2).elim
theorem zuX (h:Sim C S Fp [] st a w)  {xt yt:Nat}{x y:Operand}(ho:o.op=.binOp .shr xt x y yt)    (e0:shrO C.n o.dst x y st=some (u,R,U)):qO P C o a w (zh U st):=by
 unfold shrO at e0;obtain⟨tx,R1,U1,R2,U2,h1,e1,rfl,rfl⟩:=bind_some e0;obtain⟨rfl,hx⟩:=zK h h1;obtain⟨vx,R3,U3,R4,U4,h3,e2,rfl,rfl⟩:=bind_some e1;obtain⟨rfl,qx⟩:=jD h hx h3;simp only[zh,p9]at e2 ⊢;obtain⟨ty,R5,U5,R6,U6,h5,e3,rfl,rfl⟩:=bind_some e2;obtain⟨rfl,hy⟩:=zK h h5;obtain⟨vy,R7,U7,R8,U8,h7,e4,rfl,rfl⟩:=bind_some e3;obtain⟨rfl,qy⟩:=jD h hy h7;simp only[zh,p9]at e4 ⊢;split at e4
 ·rename_i k p k' q;split at e4
  ·rename_i hq;obtain⟨ex,_⟩:=zD.1 qx;obtain⟨ey,_⟩:=zD.1 qy;obtain⟨Fp',hs⟩:=wP h e4 (x:=.d _) (zD.2 ⟨rfl,rfl⟩);refine zr ?_ hs;have hn:¬q<0:=by omega
   simp[execOp,ho,ex,ey,eqGuard,Go.binOp,Op.shift,hn]
  ·exact(z7 e4).elim
 ·exact(z7 e4).elim
end
def zCp (hT:wy P tt)  (hf:zi3 P t i e off):XH P:={
 e:=λn o=>match o.op with|.field t' x i'=>if t'=t/\i'=i then some (fldO tt n o.dst i e off x) else none|_=>none
 h:=λn o=>match o.op with|.field t' x i'=>if t'=t/\i'=i then some (zBw tt n o.dst i e off x) else none|_=>none
 ok:=by
  refine⟨?_,?_⟩
  ·intro C S Fp st a w o m u R U e0 h h2;dsimp only at e0;split at e0
   ·rename_i t' x i' ho;split at e0
    ·rename_i hd;obtain⟨rfl,rfl⟩:=hd;cases e0;exact zvX hT hf h ho h2
    ·cases e0
   ·cases e0
  ·intro n o m e0;dsimp only at e0;split at e0
   ·split at e0
    ·cases e0;exact λst st' a R U=>Loc.fldO _ _ _ _ _ _ _ st st' a R U
    ·cases e0
   ·cases e0
 none:=by
  intro n o e0
  skip
  split at e0
  ·split at e0
   ·cases e0
   ·rename_i hd;rw[if_neg hd]
  ·rfl
 some:=by
  intro n o m e0
  skip
  split at e0
  ·split at e0
   ·rename_i hd;cases e0;exact⟨_,by rw[if_pos hd],zzk _ _ _ _ _ _ _⟩
   ·cases e0
  ·cases e0 }
def zAC (P:Program):XH P:={
 e:=λn o=>match o.op with|.binOp .shr _ x y _=>some (shrO n o.dst x y)|_=>none
 h:=λn o=>match o.op with|.binOp .shr _ x y _=>some (zB6 n o.dst x y)|_=>none
 ok:=by
  refine⟨?_,?_⟩
  ·intro C S Fp st a w o m u R U e0 h h2;dsimp only at e0;split at e0
   ·rename_i ho;cases e0;exact zuX h ho h2
   ·cases e0
  ·intro n o m e0;dsimp only at e0;split at e0
   ·cases e0;exact λst st' a R U=>Loc.shrO _ _ _ _ st st' a R U
   ·cases e0
 none:=by
  intro n o e0
  skip
  split at e0
  ·cases e0
  ·rfl
 some:=by
  intro n o m e0
  skip
  split at e0
  ·cases e0;exact⟨_,rfl,zz9 _ _ _ _⟩
  ·cases e0 }
theorem zjD {α ρ:Type}{enc:α->List A}{encR:ρ->A}{F:α->Option ρ}  {inj:∀x y,enc x=enc y->x=y}(h:(spF k enc encR F gives inj).Ok P){x:α}{r:ρ}(hr:F x=some r):V5 P k (enc x) (encR r):=by have:=h x ⟨r,hr⟩;simpa only[spF,hr] using this
instance LeA.oslT (sz:Nat)(xs ys:List A)[h:zck xs ys]:LeA (.osl sz true xs) (.osl sz true ys):={
 rep:=λS cs q=>by simp only[Rep]at q
 conc:=λS hp cs F q=>by
  simp only[zU]at q ⊢;obtain⟨p,c,e,h1,h2,h3,h4,h5⟩:=q;refine⟨p,c,by rw[<-h.len];exact e,λ_=>by rw[<-h.len];exact h1 trivial,by rw[<-h.len];exact h2,h3,h.size _ h4,?_⟩;rcases h5 with⟨q1,q2,q3,q4⟩|⟨b,arr,ty,l,F',e1,e2,e3,e4,e5,e6,e7⟩
  ·exact .inl ⟨z3c (S:=S) h.len q1,q2,q3,q4⟩
  ·exact .inr ⟨b,arr,ty,l,F',e1,e2,e3,by rw[<-h.len];exact e4,h.conc _ _ _ _ e5,e6,e7⟩
 val:=λ_=>rfl
 tup:=λ_ e=>by cases e }
instance {α:Type}(sz:Nat)(f g:α->A)[h:∀x,LeA (f x) (g x)][z:∀x,SzA (f x) (g x)](l:List α):LeA (eOs sz true f l) (eOs sz true g l):=LeA.oslT sz (l.map f) (l.map g)
end Go.Own
end
