/- -/
import Derived.Test.YtedigoohmnbjfaaGreatPartB
import Derived.RangeFuncWrites
import Derived.RangeFuncCalls
import Derived.OrdersIn
import Derived.TacticsIn
import Derived.LoopNIn
import Derived.IntWalk
noncomputable section
set_option linter.unusedVariables false
set_option linter.unusedSimpArgs false
namespace Go.Ex
open Go.Own (A zl y5 Rep yd z5x)
def WZ (P:Program) (t:Nat):EK → Prop
 | .int k=>P.underlying t=some (.int k)
 | .bool=>P.underlying t=some .bool
 | .str=>P.underlying t=some .string
 | .slice e=>P.underlying t=some (.slice e)
 | .ptr e=>P.underlying t=some (.pointer e)
 | .struct fs=>∃ fields,P.underlying t=some (.struct fields) ∧ fields.toList.map (fun f=>(f.offset,f.type))=fs ∧ ∀ f ∈ fields.toList,∃ i,P.info? f.type=some i
 | .array n e=>P.underlying t=some (.array n e)
 | .map k e=>P.underlying t=some (.map k e)
 | .func=>∃ a b c,P.underlying t=some (.func a b c)
 | .iface=>∃ ms,P.underlying t=some (.interface ms)
 | .other=>∃ d,P.underlying t=some d ∧ (match d with | .struct _ | .array _ _=>false | _=>true)=true
structure zgW (P:Program) (t:Nat) (i:EI):Prop where
 guard:P.eqGuardType P.depth t=false
 run:∀ (vs us:List Value) (r:Bool) (w:World),vs.length=i.size → us.length=i.size → zoL i vs=true → yX vs us=some r → (Op.equal t (.agg vs.toArray) (.agg us.toArray)).run P w=.ok r w
 key:∀ (vs:List Value) (e:Bool) (w:World),vs.length=i.size → (Instr.checkKey e 10000 t (.agg vs.toArray)).run P w=.ok () w
structure z9j (P:Program) (t:Nat) (i:EI):Prop where
 info:∃ f,P.info? t=some f ∧ f.size=i.size ∧ f.bytes=i.bytes ∧ ∀ z,i.zero=some z → ∃ v,f.zero=some v ∧ v.cells.toList=z ∧ (∀ u ∈ z,u.oneCell'=true) ∧ z.length=i.size ∧ (if i.kind.isAgg=true then ∃ cs,v=.agg cs else v.oneCell'=true)
 kind:WZ P t i.kind
 eqn:i.eqn=true → zgW P t i
variable {k:EK}
section
variable {P:Program} {N n hi:Nat} {a:Act} {w:World} {Ds:List Nat} {o:Oper}
theorem JL {t:Nat}  (h:WZ P t k) (w:World):(Go.isAgg t).run P w=.ok k.isAgg w:=by
 cases k with
 | struct fs=>obtain ⟨f,h,_⟩:=h; simp [Go.isAgg,run_underlying h,EK.isAgg]
 | func=>obtain ⟨_,_,_,h⟩:=h; simp [Go.isAgg,run_underlying h,EK.isAgg]
 | iface=>obtain ⟨_,h⟩:=h; simp [Go.isAgg,run_underlying h,EK.isAgg]
 | other=>
  obtain ⟨d,h,hd⟩:=h
  cases d <;> first | (simp at hd; done) | simp [Go.isAgg,run_underlying h,EK.isAgg]
 | _=>simp only [WZ] at h; simp [Go.isAgg,run_underlying h,EK.isAgg]
end
open Go.Own (A zl y5 Rep yd z5x)
def mkV (ag:Bool) (cs:List Value):Value:=if ag=true then .agg cs.toArray else cs.headD undef
theorem z0h:∀ {z1 z2 vs:List Value},z75 (z1 ++ z2) vs=true → z75 z1 (vs.take z1.length)=true ∧ z75 z2 (vs.drop z1.length)=true
 | [],z2,vs,h=>⟨rfl,h⟩
 | a :: z1,z2,[],h=>by cases a <;> simp [z75] at h
 | a :: z1,z2,v :: vs,h=>by
  have:z75 (z1 ++ z2) vs=true ∧ (∀ l l',z75 l l'=true → z75 (a :: l) (v :: l')=true):=by
   cases a <;> cases v <;> simp only [List.cons_append,z75,Bool.false_eq_true] at h ⊢ <;> exact ⟨h,fun l l' q=>q⟩
  obtain ⟨h1,h2⟩:=this
  obtain ⟨q1,q2⟩:=z0h h1
  exact ⟨h2 _ _ q1,q2⟩
theorem JZ:∀ {n:Nat} {vs us:List Value} {r:Bool},yX vs us=some r → ∃ r1 r2,yX (vs.take n) (us.take n)=some r1 ∧ yX (vs.drop n) (us.drop n)=some r2 ∧ r=(r1 && r2)
 | 0,vs,us,r,h=>⟨true,r,by simp [yX],by simpa using h,by simp⟩
 | n + 1,[],us,r,h=>by
  cases us with
  | nil=>simp only [yX,Option.some.injEq] at h; subst h; exact ⟨true,true,by simp [yX],by simp [yX],rfl⟩
  | cons u us=>simp [yX] at h
 | n + 1,v :: vs,[],r,h=>by unfold yX at h; split at h <;> simp_all
 | n + 1,v :: vs,u :: us,r,h=>by
  have:∃ b r',yX vs us=some r' ∧ r=(b && r') ∧ ∀ l l' q,yX l l'=some q → yX (v :: l) (u :: l')=some (b && q):=by
   unfold yX at h
   split at h
   ·rename_i h1 _; cases h1
   ·rename_i k a xs k' b ys h1 h2
    cases h1; cases h2
    split at h
    ·rename_i hk
     rw [Option.map_eq_some_iff] at h
     obtain ⟨r',e1,rfl⟩:=h
     exact ⟨_,r',e1,rfl,fun l l' q hq=>by simp [yX,hk,hq]⟩
    ·cases h
   ·rename_i a xs b ys h1 h2
    cases h1; cases h2
    rw [Option.map_eq_some_iff] at h
    obtain ⟨r',e1,rfl⟩:=h
    exact ⟨_,r',e1,rfl,fun l l' q hq=>by simp [yX,hq]⟩
   ·rename_i a xs b ys h1 h2
    cases h1; cases h2
    rw [Option.map_eq_some_iff] at h
    obtain ⟨r',e1,rfl⟩:=h
    exact ⟨_,r',e1,rfl,fun l l' q hq=>by simp [yX,hq]⟩
   ·cases h
  obtain ⟨b,r',h1,rfl,h2⟩:=this
  obtain ⟨r1,r2,q1,q2,rfl⟩:=JZ (n:=n) h1
  exact ⟨b && r1,r2,h2 _ _ _ q1,q2,by rw [Bool.and_assoc]⟩
structure EqP (P:Program) (t:Nat) (z:List Value) (ag:Bool) (dep:Nat):Prop where
 pos:1 ≤ dep
 part:∀ (cs:List Value) (off:Nat) (w:World),off + z.length ≤ cs.length → (Go.part t cs.toArray off).run P w=.ok (mkV ag ((cs.drop off).take z.length)) w
 size:∀ w,(Go.sizeOf t).run P w=.ok z.length w
 eq:∀ d,dep ≤ d → ∀ (vs us:List Value) (r:Bool) (w:World),vs.length=z.length → us.length=z.length → z75 z vs=true → yX vs us=some r → (Op.equalIn d t (mkV ag vs) (mkV ag us)).run P w=.ok r w
 guard:∀ d,dep ≤ d → P.eqGuardType d t=false
 key:∀ d e,dep ≤ d → ∀ (vs:List Value) (w:World),vs.length=z.length → (Instr.checkKey e d t (mkV ag vs)).run P w=.ok () w
variable {z:List Value}{dep d:Nat}{zs:List (List Value × Bool)}{ag:Bool}{vs us:List Value}
section
variable {P:Program} {t:Nat}
theorem Uw {n:Nat} (h:∃ f,P.info? t=some f ∧ f.size=n) (w:World):(Go.sizeOf t).run P w=.ok n w:=by
 obtain ⟨f,f1,f2⟩:=h
 simp [Go.sizeOf,typeInfo,f1,f2]
theorem zfb (hk:WZ P t k) {n:Nat} (hs:∃ f,P.info? t=some f ∧ f.size=n) (h1:k.isAgg=true ∨ n=1) (cs:List Value) (off:Nat) (w:World) (hle:off + n ≤ cs.length):(Go.part t cs.toArray off).run P w=.ok (mkV k.isAgg ((cs.drop off).take n)) w:=by
 have hk':=JL hk w
 unfold Go.part
 simp only [Sem.run_bind,hk',Result.andThen_ok,Sem.run_ite]
 by_cases hag:k.isAgg=true
 ·simp only [hag,if_true,Uw hs,Result.andThen_ok,Sem.run_pure,mkV]
  congr 2
  apply Array.ext_getElem?
  intro j
  simp [List.getElem?_take,List.getElem?_drop]
 ·have hn:n=1:=h1.resolve_left hag
  subst hn
  have hlt:off < cs.length:=by omega
  have:cs.toArray[off]?=some cs[off]:=by simp [hlt]
  simp only [hag,if_false,Bool.false_eq_true,mkV,this,Sem.run_pure]
  congr 1
  rw [List.take_one,List.head?_drop,List.getElem?_eq_getElem hlt]
  rfl
def zfI:EK → Value → Bool
 | .int _,.int _ _=>true
 | .bool,.bool _=>true
 | .str,.string _=>true
 | _,_=>false
theorem z3j (hk:WZ P t k) (hs:∃ f,P.info? t=some f ∧ f.size=1) {z:Value} (hz:zfI k z=true):EqP P t [z] false 1:=by
 have hag:k.isAgg=false:=by cases k <;> first | rfl | (cases z <;> cases hz)
 refine ⟨Nat.le_refl _,fun cs off w h=>?_,fun w=>Uw hs w,?_,?_,?_⟩
 ·have:=zfb hk hs (.inr rfl) cs off w h
  rw [hag] at this
  exact this
 ·intro d hd vs us r w hv hu hf he
  obtain ⟨d,rfl⟩:∃ d',d=d' + 1:=⟨d - 1,by omega⟩
  rcases vs with _ | ⟨v,_ | ⟨_,_⟩⟩ <;> simp at hv
  rcases us with _ | ⟨u,_ | ⟨_,_⟩⟩ <;> simp at hu
  simp only [mkV,Bool.false_eq_true,if_false,List.headD_cons]
  unfold Op.equalIn
  cases k <;> cases z <;> simp only [zfI,Bool.false_eq_true] at hz <;> cases v <;> simp only [z75,Bool.false_eq_true] at hf <;> cases u <;> simp only [yX,reduceCtorEq] at he
  ·split at he
   ·rename_i hkk
    simp only [Option.map_some,Bool.and_true,Option.some.injEq] at he
    subst he
    simp only [WZ] at hk
    simp [Sem.run_bind,run_underlying hk,hkk]
   ·cases he
  ·simp only [Option.map_some,Bool.and_true,Option.some.injEq] at he
   subst he
   simp only [WZ] at hk
   simp [Sem.run_bind,run_underlying hk]
  ·simp only [Option.map_some,Bool.and_true,Option.some.injEq] at he
   subst he
   simp only [WZ] at hk
   simp [Sem.run_bind,run_underlying hk]
 ·intro d hd
  obtain ⟨d,rfl⟩:∃ d',d=d' + 1:=⟨d - 1,by omega⟩
  unfold Program.eqGuardType
  cases k <;> cases z <;> simp only [zfI,Bool.false_eq_true] at hz <;> simp only [WZ] at hk <;> simp [hk]
 ·intro d e hd vs w hv
  obtain ⟨d,rfl⟩:∃ d',d=d' + 1:=⟨d - 1,by omega⟩
  unfold Instr.checkKey
  cases k <;> cases z <;> simp only [zfI,Bool.false_eq_true] at hz <;> simp only [WZ] at hk <;> simp [Sem.run_bind,run_underlying hk]
def y8 (P:Program) (dep:Nat):List Field → Nat → List (List Value × Bool) → Prop
 | [],_,[]=>True
 | f :: fs,off,(z,ag) :: zs=>f.name ≠ "_" ∧ f.offset=off ∧ EqP P f.type z ag dep ∧ y8 P dep fs (off + z.length) zs
 | _,_,_=>False
def Uy (zs:List (List Value × Bool)):List Value:=(zs.map (·.1)).flatten
theorem z89 (hd:dep ≤ d)  (w:World):∀ {fs:List Field} {off:Nat} {zs:List (List Value × Bool)} {r:Bool},y8 P dep fs off zs → off + (Uy zs).length=vs.length → off + (Uy zs).length=us.length → z75 (Uy zs) (vs.drop off)=true → yX (vs.drop off) (us.drop off)=some r →
  Sem.run P (forIn fs ((none,()):Option Bool × Unit) fun f _=>
   if f.name ≠ "_" then do
    let a ← Go.part f.type vs.toArray f.offset
    let b ← Go.part f.type us.toArray f.offset
    let q ← Op.equalIn d f.type a b
    if (!q)=true then pure (ForInStep.done (some false,())) else pure (ForInStep.yield (none,()))
   else pure (ForInStep.yield (none,()))) w=.ok (if r=true then (none,()) else (some false,())) w
 | [],off,[],r,_,h1,h2,hf,he=>by
  have hv:vs.drop off=[]:=List.drop_eq_nil_of_le (by simp [Uy] at h1; omega)
  have hu:us.drop off=[]:=List.drop_eq_nil_of_le (by simp [Uy] at h2; omega)
  rw [hv,hu] at he
  simp only [yX,Option.some.injEq] at he
  subst he
  simp
 | f :: fs,off,(z,ag) :: zs,r,hok,h1,h2,hf,he=>by
  obtain ⟨g1,g2,g3,g4⟩:=hok
  have hz:Uy ((z,ag) :: zs)=z ++ Uy zs:=by simp [Uy]
  rw [hz] at h1 h2 hf
  simp only [List.length_append] at h1 h2
  obtain ⟨f1,f2⟩:=z0h hf
  rw [List.drop_drop] at f2
  obtain ⟨r1,r2,e1,e2,rfl⟩:=JZ (n:=z.length) he
  rw [List.drop_drop,List.drop_drop] at e2
  have p1:=g3.part vs off w (by omega)
  have p2:=g3.part us off w (by omega)
  have p3:=g3.eq d hd _ _ r1 w (by simp; omega) (by simp; omega) f1 e1
  simp only [List.forIn_cons,Sem.run_bind,ne_eq,g1,not_false_eq_true,if_true,g2,p1,p2,p3,Result.andThen_ok]
  cases r1
  ·simp
  ·simp only [Bool.not_true,Bool.false_eq_true,if_false,Sem.run_pure,Result.andThen_ok,Bool.true_and]
   exact z89 hd w g4 (by omega) (by omega) f2 e2
 | [],_,_ :: _,_,h,_,_,_,_=>by simp [y8] at h
 | _ :: _,_,[],_,h,_,_,_,_=>by simp [y8] at h
theorem z5S (hd:dep ≤ d) {e:Bool} {vs:List Value} (w:World):∀ {fs:List Field} {off:Nat} {zs:List (List Value × Bool)},y8 P dep fs off zs → off + (Uy zs).length=vs.length →
  Sem.run P (forIn fs PUnit.unit fun f _=>
   if f.name ≠ "_" then do
    let a ← Go.part f.type vs.toArray f.offset
    Instr.checkKey e d f.type a
    pure (ForInStep.yield PUnit.unit)
   else pure (ForInStep.yield PUnit.unit)) w=.ok PUnit.unit w
 | [],off,[],_,h1=>by simp
 | f :: fs,off,(z,ag) :: zs,hok,h1=>by
  obtain ⟨g1,g2,g3,g4⟩:=hok
  have hz:Uy ((z,ag) :: zs)=z ++ Uy zs:=by simp [Uy]
  rw [hz] at h1
  simp only [List.length_append] at h1
  have p1:=g3.part vs off w (by omega)
  have p3:=g3.key d e hd ((vs.drop off).take z.length) w (by simp; omega)
  simp only [List.forIn_cons,Sem.run_bind,ne_eq,g1,not_false_eq_true,if_true,g2,p1,p3,Result.andThen_ok,Sem.run_pure]
  exact z5S hd w g4 (by omega)
 | [],_,_ :: _,h,_=>by simp [y8] at h
 | _ :: _,_,[],h,_=>by simp [y8] at h
theorem z2p (hd:dep ≤ d):∀ {fs:List Field} {off:Nat} {zs:List (List Value × Bool)},y8 P dep fs off zs → fs.any (fun f=>f.name != "_" && P.eqGuardType d f.type)=false
 | [],_,_,_=>rfl
 | f :: fs,off,(z,ag) :: zs,hok=>by
  obtain ⟨g1,g2,g3,g4⟩:=hok
  simp only [List.any_cons,g3.guard d hd,Bool.and_false,Bool.false_or]
  exact z2p hd g4
 | _ :: _,_,[],h=>by simp [y8] at h
theorem XW {fields:Array Field} (hu:P.underlying t=some (.struct fields)) (hst:P.stoodInHeld t=false)  (hs:∃ f,P.info? t=some f ∧ f.size=(Uy zs).length) {dep:Nat} (h1:1 ≤ dep) (hf:y8 P dep fields.toList 0 zs):EqP P t (Uy zs) true (dep + 1):=by
 have hk:WZ P t (.struct (fields.toList.map fun f=>(f.offset,f.type))) ∨ True:=.inr trivial
 refine ⟨by omega,fun cs off w h=>?_,fun w=>Uw hs w,?_,?_,?_⟩
 ·unfold Go.part Go.isAgg
  simp only [Sem.run_bind,run_underlying hu,Result.andThen_ok,Sem.run_pure,if_true,Uw hs,mkV]
  congr 2
  apply Array.ext_getElem?
  intro j
  simp [List.getElem?_take,List.getElem?_drop]
 ·intro d hd vs us r w hv hu' hfit he
  obtain ⟨d,rfl⟩:∃ d',d=d' + 1:=⟨d - 1,by omega⟩
  simp only [mkV,if_true]
  unfold Op.equalIn
  simp only [Sem.run_bind,run_underlying hu,Result.andThen_ok,program,Sem.run,hst,Bool.false_eq_true,if_false]
  rw [← Array.forIn_toList]
  have:=z89 (P:=P) (d:=d) (dep:=dep) (by omega) (vs:=vs) (us:=us) w (off:=0) (r:=r) hf (by simpa using hv.symm) (by simpa using hu'.symm) (by simpa using hfit) (by simpa using he)
  rw [this]
  cases r <;> simp
 ·intro d hd
  obtain ⟨d,rfl⟩:∃ d',d=d' + 1:=⟨d - 1,by omega⟩
  unfold Program.eqGuardType
  simp only [hu]
  rw [← Array.any_toList]
  exact z2p (by omega) hf
 ·intro d e hd vs w hv
  obtain ⟨d,rfl⟩:∃ d',d=d' + 1:=⟨d - 1,by omega⟩
  simp only [mkV,if_true]
  unfold Instr.checkKey
  simp only [Sem.run_bind,run_underlying hu,Result.andThen_ok]
  rw [← Array.forIn_toList]
  have:=z5S (P:=P) (dep:=dep) (d:=d) (e:=e) (vs:=vs) (by omega) w (off:=0) hf (by simpa using hv.symm)
  rw [this]
  simp
def z7K (n:Nat) (z:List Value):List Value:=(List.replicate n z).flatten
theorem z9B (n:Nat) (z:List Value):(z7K n z).length=n * z.length:=by simp [z7K]
theorem z9O (hd:dep ≤ d) {el:Nat}   (hE:EqP P el z ag dep)  (w:World):∀ {n i:Nat} {r:Bool},i * z.length + n * z.length=vs.length → i * z.length + n * z.length=us.length → z75 (z7K n z) (vs.drop (i * z.length))=true → yX (vs.drop (i * z.length)) (us.drop (i * z.length))=some r →
  Sem.run P (forIn (List.range' i n) ((none,()):Option Bool × Unit) fun j _=>do
    let a ← Go.part el vs.toArray (j * z.length)
    let b ← Go.part el us.toArray (j * z.length)
    let q ← Op.equalIn d el a b
    if (!q)=true then pure (ForInStep.done (some false,())) else pure (ForInStep.yield (none,()))) w=.ok (if r=true then (none,()) else (some false,())) w
 | 0,i,r,h1,h2,hf,he=>by
  have hv:vs.drop (i * z.length)=[]:=List.drop_eq_nil_of_le (by omega)
  have hu:us.drop (i * z.length)=[]:=List.drop_eq_nil_of_le (by omega)
  rw [hv,hu] at he
  simp only [yX,Option.some.injEq] at he
  subst he
  simp
 | n + 1,i,r,h1,h2,hf,he=>by
  have hz:z7K (n + 1) z=z ++ z7K n z:=by simp [z7K,List.replicate_succ]
  rw [hz] at hf
  rw [Nat.add_mul,Nat.one_mul] at h1 h2
  obtain ⟨f1,f2⟩:=z0h hf
  have hi:i * z.length + z.length=(i + 1) * z.length:=by rw [Nat.add_mul,Nat.one_mul]
  rw [List.drop_drop,hi] at f2
  obtain ⟨r1,r2,e1,e2,rfl⟩:=JZ (n:=z.length) he
  rw [List.drop_drop,List.drop_drop,hi] at e2
  have p1:=hE.part vs (i * z.length) w (by omega)
  have p2:=hE.part us (i * z.length) w (by omega)
  have p3:=hE.eq d hd _ _ r1 w (by simp; omega) (by simp; omega) f1 e1
  simp only [List.range'_succ,List.forIn_cons,Sem.run_bind,p1,p2,p3,Result.andThen_ok]
  cases r1
  ·simp
  ·simp only [Bool.not_true,Bool.false_eq_true,if_false,Sem.run_pure,Result.andThen_ok,Bool.true_and]
   exact z9O hd hE w (by omega) (by omega) f2 e2
theorem z80 (hd:dep ≤ d) {e:Bool} {el:Nat}   (hE:EqP P el z ag dep) {vs:List Value} (w:World):∀ {n i:Nat},i * z.length + n * z.length=vs.length →
  Sem.run P (forIn (List.range' i n) PUnit.unit fun j _=>do
    let s ← Go.sizeOf el
    let a ← Go.part el vs.toArray (j * s)
    Instr.checkKey e d el a
    pure (ForInStep.yield PUnit.unit)) w=.ok PUnit.unit w
 | 0,i,h1=>by simp
 | n + 1,i,h1=>by
  rw [Nat.add_mul,Nat.one_mul] at h1
  have hi:i * z.length + z.length=(i + 1) * z.length:=by rw [Nat.add_mul,Nat.one_mul]
  have p1:=hE.part vs (i * z.length) w (by omega)
  have p3:=hE.key d e hd ((vs.drop (i * z.length)).take z.length) w (by simp; omega)
  simp only [List.range'_succ,List.forIn_cons,Sem.run_bind,hE.size,p1,p3,Result.andThen_ok,Sem.run_pure]
  exact z80 hd hE w (by omega)
theorem ZO {n el:Nat} (hu:P.underlying t=some (.array n el))   {dep:Nat} (hE:EqP P el z ag dep) (hs:∃ f,P.info? t=some f ∧ f.size=(z7K n z).length):EqP P t (z7K n z) true (dep + 1):=by
 refine ⟨by omega,fun cs off w h=>?_,fun w=>Uw hs w,?_,?_,?_⟩
 ·unfold Go.part Go.isAgg
  simp only [Sem.run_bind,run_underlying hu,Result.andThen_ok,Sem.run_pure,if_true,Uw hs,mkV]
  congr 2
  apply Array.ext_getElem?
  intro j
  simp [List.getElem?_take,List.getElem?_drop]
 ·intro d hd vs us r w hv hu' hfit he
  obtain ⟨d,rfl⟩:∃ d',d=d' + 1:=⟨d - 1,by omega⟩
  rw [z9B] at hv hu'
  simp only [mkV,if_true]
  unfold Op.equalIn
  simp only [Sem.run_bind,run_underlying hu,Result.andThen_ok,hE.size]
  simp only [Std.Legacy.Range.forIn_eq_forIn_range',Std.Legacy.Range.size,Nat.sub_zero,Nat.add_one_sub_one,Nat.div_one]
  have:=z9O (P:=P) (d:=d) (dep:=dep) (by omega) hE (vs:=vs) (us:=us) w (n:=n) (i:=0) (r:=r) (by simpa using hv.symm) (by simpa using hu'.symm) (by simpa using hfit) (by simpa using he)
  rw [this]
  cases r <;> simp
 ·intro d hd
  obtain ⟨d,rfl⟩:∃ d',d=d' + 1:=⟨d - 1,by omega⟩
  unfold Program.eqGuardType
  simp only [hu]
  exact hE.guard d (by omega)
 ·intro d e hd vs w hv
  obtain ⟨d,rfl⟩:∃ d',d=d' + 1:=⟨d - 1,by omega⟩
  rw [z9B] at hv
  simp only [mkV,if_true]
  unfold Instr.checkKey
  simp only [Sem.run_bind,run_underlying hu,Result.andThen_ok]
  simp only [Std.Legacy.Range.forIn_eq_forIn_range',Std.Legacy.Range.size,Nat.sub_zero,Nat.add_one_sub_one,Nat.div_one]
  have:=z80 (P:=P) (dep:=dep) (d:=d) (e:=e) (vs:=vs) (by omega) hE w (n:=n) (i:=0) (by simpa using hv.symm)
  rw [this]
  simp
theorem EqP.mono {dep dep':Nat} (h:EqP P t z ag dep) (hd:dep ≤ dep'):EqP P t z ag dep' :=
 ⟨Nat.le_trans h.pos hd,h.part,h.size,fun d q=>h.eq d (Nat.le_trans hd q),fun d q=>h.guard d (Nat.le_trans hd q),fun d e q=>h.key d e (Nat.le_trans hd q)⟩
theorem y8.nil {dep off:Nat}:y8 P dep [] off []:=trivial
theorem y8.cons {dep off:Nat} {f:Field} {fs:List Field}    (h1:f.name ≠ "_") (h2:f.offset=off) (h3:EqP P f.type z ag dep) (h4:y8 P dep fs (off + z.length) zs):y8 P dep (f :: fs) off ((z,ag) :: zs):=⟨h1,h2,h3,h4⟩
theorem Z9 {i:EI}  {dep:Nat} (h:EqP P t z true dep) (hz:i.zero=some z) (hsz:i.size=z.length) (h1:dep ≤ P.depth) (h2:dep ≤ 10000):zgW P t i:={
 guard:=h.guard _ h1
 run:=fun vs us r w hv hu hf he=>h.eq _ h2 vs us r w (hv.trans hsz) (hu.trans hsz) (by simpa only [zoL,hz] using hf) he
 key:=fun vs e w hv=>h.key _ e h2 vs w (hv.trans hsz) }
end
theorem WT (h:z.all (·.oneCell')=true):∀ u ∈ z,u.oneCell'=true:=List.all_eq_true.1 h
end Go.Ex

namespace Go.Own
inductive H where
 | a (x:A)
 | l (xs:List A)
 | b (x:Bool)
 | g (gs:List Bool)
 | cut (n:Nat)
 | n (m:Nat) (ks:List Nat)
 | v (m:Nat) (ks:List Nat)
 | u (m:Nat)
 | f
 | op (m:Nat)
 | stp (m:Nat)
def HM (α:Type):=St → List H → Option (α × List Nat × List (Nat × Ent) × List H × List Prop)
def HM.bind {α β:Type} (m:HM α) (f:α → HM β):HM β:=fun st hs=>
 match m st hs with
 | none=>none
 | some (a,R,U,hs',ob)=>
  match f a (ze U st) hs' with
  | none=>none
  | some (b,R',U',hs'',ob')=>some (b,R ++ R',U ++ U',hs'',ob ++ ob')
variable {α:Type}
def HM.pure (a:α):HM α:=fun _ hs=>some (a,[],[],hs,[])
instance:Monad HM:={ pure:=HM.pure,bind:=HM.bind }
def zK:HM α:=fun _ _=>none
def y3 (m:SM α):HM α:=fun st hs=>match m st with | some (a,R,U)=>some (a,R,U,hs,[]) | none=>none
def zi3 (p:Prop):HM Unit:=fun _ hs=>some ((),[],[],hs,[p])
def zfQ:HM (List A):=fun _ hs=>match hs with | .l x :: hs=>some (x,[],[],hs,[]) | _=>none
def zl8:HM (List Bool):=fun _ hs=>match hs with | .g x :: hs=>some (x,[],[],hs,[]) | _=>none
def z3n:List Prop → Prop
 | []=>True
 | p :: ps=>p ∧ z3n ps
theorem yp:∀ {l m:List Prop},z3n (l ++ m) → z3n l ∧ z3n m
 | [],_,h=>⟨trivial,h⟩
 | _ :: _,_,h=>⟨⟨h.1,(yp h.2).1⟩,(yp h.2).2⟩
def Snd (m:SM α) (h:HM α):Prop:=∀ st hs a R U hs' ob,h st hs=some (a,R,U,hs',ob) → z3n ob → m st=some (a,R,U)
theorem zk (m:SM α):Snd m (y3 m):=by
 intro st hs a R U hs' ob e _
 unfold Go.Own.y3 at e
 split at e
 ·rename_i h; simp only [Option.some.injEq,Prod.mk.injEq] at e; obtain ⟨rfl,rfl,rfl,_,_⟩:=e; exact h
 ·cases e
theorem zh {α β:Type} {m:SM α} {h:HM α} {f:α → SM β} {g:α → HM β} (h1:Snd m h) (h2:∀ a,Snd (f a) (g a)):Snd (m >>= f) (h >>= g):=by
 intro st hs b R U hs' ob e ho
 change HM.bind h g st hs=_ at e
 change SM.bind m f st=_
 unfold HM.bind at e
 split at e
 ·cases e
 ·rename_i a R1 U1 hs1 ob1 e1
  split at e
  ·cases e
  ·rename_i b' R2 U2 hs2 ob2 e2
   simp only [Option.some.injEq,Prod.mk.injEq] at e
   obtain ⟨rfl,rfl,rfl,rfl,rfl⟩:=e
   obtain ⟨o1,o2⟩:=yp ho
   unfold SM.bind
   rw [h1 _ _ _ _ _ _ _ e1 o1]
   dsimp only
   rw [h2 _ _ _ _ _ _ _ _ e2 o2]
theorem xZ (a:α):Snd (pure a) (pure a:HM α):=by
 intro st hs b R U hs' ob e _
 change HM.pure a st hs=_ at e
 unfold HM.pure at e
 simp only [Option.some.injEq,Prod.mk.injEq] at e
 obtain ⟨rfl,rfl,rfl,_,_⟩:=e
 rfl
theorem zq (m:SM α):Snd m (zK:HM α):=by intro st hs b R U hs' ob e; cases e
def z9h (x:Option A):HM A:=fun _ hs=>match hs with | .a y :: hs=>some (y,[],[],hs,[x=some y]) | _=>none
theorem z0O (x:Option A):Snd (ofO x) (z9h x):=by
 intro st hs a R U hs' ob e ho
 unfold Go.Own.z9h at e
 split at e
 ·simp only [Option.some.injEq,Prod.mk.injEq] at e
  obtain ⟨rfl,rfl,rfl,_,rfl⟩:=e
  have:x=some _:=ho.1
  subst this
  rfl
 ·cases e
def eqA (x:A):HM A:=fun _ hs=>match hs with | .a y :: hs=>some (y,[],[],hs,[x=y]) | _=>none
theorem z5k (x:A):Snd (pure x) (eqA x):=by
 intro st hs a R U hs' ob e ho
 unfold Go.Own.eqA at e
 split at e
 ·simp only [Option.some.injEq,Prod.mk.injEq] at e
  obtain ⟨rfl,rfl,rfl,_,rfl⟩:=e
  have:x=_:=ho.1
  subst this
  rfl
 ·cases e
def eqL (x:List A):HM (List A):=fun _ hs=>match hs with | .l y :: hs=>some (y,[],[],hs,[x=y]) | _=>none
theorem zar (x:List A):Snd (pure x) (eqL x):=by
 intro st hs a R U hs' ob e ho
 unfold Go.Own.eqL at e
 split at e
 ·simp only [Option.some.injEq,Prod.mk.injEq] at e
  obtain ⟨rfl,rfl,rfl,_,rfl⟩:=e
  have:x=_:=ho.1
  subst this
  rfl
 ·cases e
def zln (x:Bool):HM Bool:=fun _ hs=>match hs with | .b y :: hs=>some (y,[],[],hs,[x=y]) | _=>none
theorem zbA (x:Bool):Snd (pure x) (zln x):=by
 intro st hs a R U hs' ob e ho
 unfold Go.Own.zln at e
 split at e
 ·simp only [Option.some.injEq,Prod.mk.injEq] at e
  obtain ⟨rfl,rfl,rfl,_,rfl⟩:=e
  have:x=_:=ho.1
  subst this
  rfl
 ·cases e
def Zg (p:Prop)  (h:HM α):HM α:=zi3 p >>= fun _=>h
variable {p:Prop}
theorem wd {m m':SM α} {h:HM α} [Decidable p] (h1:Snd m h):Snd (if p then m else m') (Zg p h):=by
 intro st hs b R U hs' ob e ho
 change HM.bind (zi3 p) (fun _=>h) st hs=_ at e
 unfold HM.bind zi3 at e
 dsimp only at e
 split at e
 ·cases e
 ·rename_i b' R2 U2 hs2 ob2 e2
  simp only [Option.some.injEq,Prod.mk.injEq,List.nil_append] at e
  obtain ⟨rfl,rfl,rfl,rfl,rfl⟩:=e
  have:p:=ho.1
  rw [if_pos this]
  exact h1 _ _ _ _ _ _ _ e2 ho.2
theorem z1C {m:SM α} {h:HM α} (h1:p → Snd m h):Snd m (Zg p h):=by
 intro st hs b R U hs' ob e ho
 change HM.bind (zi3 p) (fun _=>h) st hs=_ at e
 unfold HM.bind zi3 at e
 dsimp only at e
 split at e
 ·cases e
 ·rename_i b' R2 U2 hs2 ob2 e2
  simp only [Option.some.injEq,Prod.mk.injEq,List.nil_append] at e
  obtain ⟨rfl,rfl,rfl,rfl,rfl⟩:=e
  exact h1 ho.1 _ _ _ _ _ _ _ e2 ho.2
theorem vU [Decidable p] {m m':SM α} {h h':HM α} (h1:Snd m h) (h2:Snd m' h'):Snd (if p then m else m') (if p then h else h'):=by
 split <;> assumption
theorem Kd {m m':SM α} {h:HM α} (e:m=m') (h1:Snd m' h):Snd m h:=e ▸ h1
def zcP (m:HM α):HM α:=fun st hs=>match m st hs with | some (a,R,_,hs',ob)=>some (a,R,[],hs',ob) | none=>none
theorem zhP {m:SM α} {h:HM α} (h1:Snd m h):Snd (ghost m) (zcP h):=by
 intro st hs b R U hs' ob e ho
 unfold zcP at e
 split at e
 ·rename_i a R1 U1 hs1 ob1 e1
  simp only [Option.some.injEq,Prod.mk.injEq] at e
  obtain ⟨rfl,rfl,rfl,rfl,rfl⟩:=e
  unfold Go.Own.ghost
  rw [h1 _ _ _ _ _ _ _ e1 ho]
 ·cases e
def orH (x y:HM α):HM α:=fun st hs=>match hs with | .f :: hs'=>x st hs' | hs=>y st hs
theorem zr7 {m:SM α} {x y:HM α} (h1:Snd m x) (h2:Snd m y):Snd m (orH x y):=by
 intro st hs a R U hs' ob e ho
 unfold orH at e
 split at e
 ·exact h1 _ _ _ _ _ _ _ e ho
 ·exact h2 _ _ _ _ _ _ _ e ho
def zdD:List Xp → A → HM A
 | [],x=>pure x
 | .deref :: p,.box x=>zdD p x
 | .fld i :: p,.agg fs=>orH (z9h fs[i]? >>= fun y=>zdD p y) (match fs[i]? with | some y=>zdD p y | none=>zK)
 | .idx i :: p,.osl _ _ es=>z9h es[i]? >>= fun y=>zdD p y
 | _,_=>zK
theorem zff (x:α):(ofO (some x):SM α)=pure x:=rfl
theorem zX {α β:Type} (x:α) (f:α → SM β):(pure x >>= f)=f x:=by
 funext st
 change SM.bind (SM.pure x) f st=_
 unfold SM.bind SM.pure
 simp only [List.nil_append]
 show (match f x st with | none=>none | some (b,R',U')=>some (b,R',U'))=f x st
 cases f x st with
 | none=>rfl
 | some q=>rfl
theorem z7Q (e:Option A) (f:A → Option α):(ofO (match e with | some y=>f y | none=>none):SM α)=(ofO e >>= fun y=>ofO (f y)):=by
 funext st
 change _=SM.bind (ofO e) _ st
 cases e with
 | none=>rfl
 | some y=>
  unfold SM.bind ofO
  simp only [ze,List.nil_append]
  cases f y <;> rfl
theorem z8R:∀ (p:List Xp) (x:A),Snd (ofO (we p x)) (zdD p x)
 | [],x=>xZ x
 | .deref :: p,.box x=>z8R p x
 | .fld i :: p,.agg fs=>by
  simp only [we,zdD]
  refine zr7 ?_ ?_
  ·refine Kd (z7Q _ (fun y=>we p y)) ?_
   exact zh (z0O _) fun y=>z8R p y
  ·cases h:fs[i]? with
   | some y=>exact z8R p y
   | none=>exact zq _
 | .idx i :: p,.osl sz t es=>by
  simp only [we,zdD]
  refine Kd (z7Q _ (fun y=>we p y)) ?_
  exact zh (z0O _) fun y=>z8R p y
 | .deref :: p,.atom _ | .deref :: p,.fn _ _ | .deref :: p,.agg _ | .deref :: p,.tup _ | .deref :: p,.sl _ _ _ | .deref :: p,.sptr _ | .deref :: p,.dop _ | .deref :: p,.osl _ _ _ | .deref :: p,.dead _ | .deref :: p,.opq _=>zq _
 | .fld i :: p,.atom _ | .fld i :: p,.fn _ _ | .fld i :: p,.box _ | .fld i :: p,.tup _ | .fld i :: p,.sl _ _ _ | .fld i :: p,.sptr _ | .fld i :: p,.dop _ | .fld i :: p,.osl _ _ _ | .fld i :: p,.dead _ | .fld i :: p,.opq _=>zq _
 | .idx i :: p,.atom _ | .idx i :: p,.fn _ _ | .idx i :: p,.box _ | .idx i :: p,.tup _ | .idx i :: p,.sl _ _ _ | .idx i :: p,.sptr _ | .idx i :: p,.dop _ | .idx i :: p,.agg _ | .idx i :: p,.dead _ | .idx i :: p,.opq _=>zq _
def zaV:List Xp → A → A → HM A
 | [],_,z=>pure z
 | .deref :: p,.box x,z=>zaV p x z >>= fun y=>pure (.box y)
 | .fld i :: p,.agg fs,z=>orH (z9h fs[i]? >>= fun y=>zaV p y z >>= fun w=>eqL (fs.set i w) >>= fun es'=>pure (.agg es')) (match fs[i]? with | some y=>zaV p y z >>= fun w=>pure (.agg (fs.set i w)) | none=>zK)
 | .idx i :: p,.osl sz t es,z=>z9h es[i]? >>= fun y=>zaV p y z >>= fun w=>eqL (es.set i w) >>= fun es'=>pure (.osl sz t es')
 | _,_,_=>zK
variable {U:List (Nat × Ent)}{st:St}{R:List Nat}{hs:List H}{hs':List H}
theorem zdo {x:Option A}   {a:A}    {ob:List Prop} (e:z9h x st hs=some (a,R,U,hs',ob)) (ho:z3n ob):x=some a ∧ R=[] ∧ U=[]:=by
 unfold z9h at e
 split at e
 ·simp only [Option.some.injEq,Prod.mk.injEq] at e
  obtain ⟨rfl,rfl,rfl,_,rfl⟩:=e
  exact ⟨ho.1,rfl,rfl⟩
 ·cases e
theorem zd0 {x:List A}   {a:List A}    {ob:List Prop} (e:eqL x st hs=some (a,R,U,hs',ob)) (ho:z3n ob):x=a ∧ R=[] ∧ U=[]:=by
 unfold eqL at e
 split at e
 ·simp only [Option.some.injEq,Prod.mk.injEq] at e
  obtain ⟨rfl,rfl,rfl,_,rfl⟩:=e
  exact ⟨ho.1,rfl,rfl⟩
 ·cases e
theorem JY {α β:Type} {m:HM α} {f:α → HM β}   {b:β}    {ob:List Prop} (e:(m >>= f) st hs=some (b,R,U,hs',ob)) :
  ∃ a R1 U1 hs1 ob1 R2 U2 ob2,m st hs=some (a,R1,U1,hs1,ob1) ∧ f a (ze U1 st) hs1=some (b,R2,U2,hs',ob2) ∧ R=R1 ++ R2 ∧ U=U1 ++ U2 ∧ ob=ob1 ++ ob2:=by
 change HM.bind m f st hs=_ at e
 unfold HM.bind at e
 split at e
 ·cases e
 ·rename_i a R1 U1 hs1 ob1 e1
  split at e
  ·cases e
  ·rename_i b' R2 U2 hs2 ob2 e2
   simp only [Option.some.injEq,Prod.mk.injEq] at e
   obtain ⟨rfl,rfl,rfl,rfl,rfl⟩:=e
   exact ⟨a,R1,U1,hs1,ob1,R2,U2,ob2,e1,e2,rfl,rfl,rfl⟩
theorem z0g {x b:α}      {ob:List Prop} (e:(pure x:HM α) st hs=some (b,R,U,hs',ob)):x=b ∧ R=[] ∧ U=[] ∧ ob=[]:=by
 change HM.pure x st hs=_ at e
 unfold HM.pure at e
 simp only [Option.some.injEq,Prod.mk.injEq] at e
 obtain ⟨rfl,rfl,rfl,_,rfl⟩:=e
 exact ⟨rfl,rfl,rfl,rfl⟩
theorem z0L:∀ (p:List Xp) (x z:A) {st:St} {hs:List H} {a:A} {R:List Nat} {U:List (Nat × Ent)} {hs':List H} {ob:List Prop},zaV p x z st hs=some (a,R,U,hs',ob) → z3n ob → V0 p x z=a ∧ R=[] ∧ U=[]
 | [],x,z,st,hs,a,R,U,hs',ob,e,_=>by obtain ⟨h1,h2,h3,_⟩:=z0g e; exact ⟨h1,h2,h3⟩
 | .deref :: p,.box x,z,st,hs,a,R,U,hs',ob,e,ho=>by
  simp only [zaV] at e
  obtain ⟨b,R1,U1,hs1,ob1,R2,U2,ob2,e1,e2,rfl,rfl,rfl⟩:=JY e
  obtain ⟨o1,o2⟩:=yp ho
  obtain ⟨h1,rfl,rfl⟩:=z0L p x z e1 o1
  obtain ⟨h2,rfl,rfl,_⟩:=z0g e2
  exact ⟨by rw [V0,h1]; exact h2,rfl,rfl⟩
 | .fld i :: p,.agg fs,z,st,hs,a,R,U,hs',ob,e,ho=>by
  simp only [zaV] at e
  unfold orH at e
  split at e
  ·obtain ⟨b,R1,U1,hs1,ob1,R2,U2,ob2,e1,e2,rfl,rfl,rfl⟩:=JY e
   obtain ⟨o1,o2⟩:=yp ho
   obtain ⟨g1,rfl,rfl⟩:=zdo e1 o1
   obtain ⟨w,R3,U3,hs3,ob3,R4,U4,ob4,e3,e4,rfl,rfl,rfl⟩:=JY e2
   obtain ⟨o3,o4⟩:=yp o2
   obtain ⟨h1,rfl,rfl⟩:=z0L p b z e3 o3
   obtain ⟨es',R5,U5,hs5,ob5,R6,U6,ob6,e5,e6,rfl,rfl,rfl⟩:=JY e4
   obtain ⟨o5,o6⟩:=yp o4
   obtain ⟨g2,rfl,rfl⟩:=zd0 e5 o5
   obtain ⟨h2,rfl,rfl,_⟩:=z0g e6
   refine ⟨?_,rfl,rfl⟩
   rw [V0,g1]
   dsimp only
   rw [h1,g2]
   exact h2
  ·cases hy:fs[i]? with
   | some y=>
    simp only [hy] at e
    obtain ⟨b,R1,U1,hs1,ob1,R2,U2,ob2,e1,e2,rfl,rfl,rfl⟩:=JY e
    obtain ⟨o1,o2⟩:=yp ho
    obtain ⟨h1,rfl,rfl⟩:=z0L p y z e1 o1
    obtain ⟨h2,rfl,rfl,_⟩:=z0g e2
    refine ⟨?_,rfl,rfl⟩
    rw [V0,hy]
    dsimp only
    rw [h1]
    exact h2
   | none=>simp only [hy] at e; cases e
 | .idx i :: p,.osl sz t es,z,st,hs,a,R,U,hs',ob,e,ho=>by
  simp only [zaV] at e
  obtain ⟨b,R1,U1,hs1,ob1,R2,U2,ob2,e1,e2,rfl,rfl,rfl⟩:=JY e
  obtain ⟨o1,o2⟩:=yp ho
  obtain ⟨g1,rfl,rfl⟩:=zdo e1 o1
  obtain ⟨w,R3,U3,hs3,ob3,R4,U4,ob4,e3,e4,rfl,rfl,rfl⟩:=JY e2
  obtain ⟨o3,o4⟩:=yp o2
  obtain ⟨h1,rfl,rfl⟩:=z0L p b z e3 o3
  obtain ⟨es',R5,U5,hs5,ob5,R6,U6,ob6,e5,e6,rfl,rfl,rfl⟩:=JY e4
  obtain ⟨o5,o6⟩:=yp o4
  obtain ⟨g2,rfl,rfl⟩:=zd0 e5 o5
  obtain ⟨h2,rfl,rfl,_⟩:=z0g e6
  refine ⟨?_,rfl,rfl⟩
  rw [V0,g1]
  dsimp only
  rw [h1,g2]
  exact h2
 | .deref :: p,.atom _,_,_,_,_,_,_,_,_,e,_ | .deref :: p,.fn _ _,_,_,_,_,_,_,_,_,e,_ | .deref :: p,.agg _,_,_,_,_,_,_,_,_,e,_ | .deref :: p,.tup _,_,_,_,_,_,_,_,_,e,_ | .deref :: p,.sl _ _ _,_,_,_,_,_,_,_,_,e,_
 | .deref :: p,.sptr _,_,_,_,_,_,_,_,_,e,_ | .deref :: p,.dop _,_,_,_,_,_,_,_,_,e,_ | .deref :: p,.osl _ _ _,_,_,_,_,_,_,_,_,e,_ | .deref :: p,.dead _,_,_,_,_,_,_,_,_,e,_ | .deref :: p,.opq _,_,_,_,_,_,_,_,_,e,_=>by cases e
 | .fld i :: p,.atom _,_,_,_,_,_,_,_,_,e,_ | .fld i :: p,.fn _ _,_,_,_,_,_,_,_,_,e,_ | .fld i :: p,.box _,_,_,_,_,_,_,_,_,e,_ | .fld i :: p,.tup _,_,_,_,_,_,_,_,_,e,_ | .fld i :: p,.sl _ _ _,_,_,_,_,_,_,_,_,e,_
 | .fld i :: p,.sptr _,_,_,_,_,_,_,_,_,e,_ | .fld i :: p,.dop _,_,_,_,_,_,_,_,_,e,_ | .fld i :: p,.osl _ _ _,_,_,_,_,_,_,_,_,e,_ | .fld i :: p,.dead _,_,_,_,_,_,_,_,_,e,_ | .fld i :: p,.opq _,_,_,_,_,_,_,_,_,e,_=>by cases e
 | .idx i :: p,.atom _,_,_,_,_,_,_,_,_,e,_ | .idx i :: p,.fn _ _,_,_,_,_,_,_,_,_,e,_ | .idx i :: p,.agg _,_,_,_,_,_,_,_,_,e,_ | .idx i :: p,.tup _,_,_,_,_,_,_,_,_,e,_ | .idx i :: p,.sl _ _ _,_,_,_,_,_,_,_,_,e,_
 | .idx i :: p,.sptr _,_,_,_,_,_,_,_,_,e,_ | .idx i :: p,.dop _,_,_,_,_,_,_,_,_,e,_ | .idx i :: p,.box _,_,_,_,_,_,_,_,_,e,_ | .idx i :: p,.dead _,_,_,_,_,_,_,_,_,e,_ | .idx i :: p,.opq _,_,_,_,_,_,_,_,_,e,_=>by cases e
theorem zhI (p:List Xp) (x z:A):Snd (pure (V0 p x z)) (zaV p x z):=by
 intro st hs a R U hs' ob e ho
 obtain ⟨rfl,rfl,rfl⟩:=z0L p x z e ho
 rfl
def Ku:A → HM A
 | .osl sz t es=>zfQ >>= fun xs=>Zg (A.lives es=true ∧ A.shuts es=xs) (pure (.sl sz t xs))
 | .agg fs=>shutAs fs >>= fun gs=>pure (.agg gs)
 | .box x=>Ku x >>= fun y=>pure (.sptr y)
 | .dead _ | .opq _ | .tup _=>zK
 | x=>pure x
where shutAs:List A → HM (List A)
 | []=>pure []
 | x :: xs=>Ku x >>= fun y=>shutAs xs >>= fun ys=>pure (y :: ys)
theorem z6C {h:HM α}   {a:α}    {ob:List Prop} (e:Zg p h st hs=some (a,R,U,hs',ob)) (ho:z3n ob):p ∧ ∃ ob',h st hs=some (a,R,U,hs',ob') ∧ z3n ob':=by
 obtain ⟨_,R1,U1,hs1,ob1,R2,U2,ob2,e1,e2,rfl,rfl,rfl⟩:=JY e
 unfold zi3 at e1
 simp only [Option.some.injEq,Prod.mk.injEq] at e1
 obtain ⟨_,rfl,rfl,rfl,rfl⟩:=e1
 exact ⟨ho.1,ob2,e2,ho.2⟩
mutual
theorem z3K:∀ (x:A) {st:St} {hs:List H} {a:A} {R:List Nat} {U:List (Nat × Ent)} {hs':List H} {ob:List Prop},Ku x st hs=some (a,R,U,hs',ob) → z3n ob → x.live=true ∧ x.shut=a ∧ R=[] ∧ U=[]
 | .osl sz t es,st,hs,a,R,U,hs',ob,e,ho=>by
  simp only [Ku] at e
  obtain ⟨xs,R1,U1,hs1,ob1,R2,U2,ob2,e1,e2,rfl,rfl,rfl⟩:=JY e
  obtain ⟨o1,o2⟩:=yp ho
  have hh:R1=[] ∧ U1=[]:=by
   unfold zfQ at e1
   split at e1
   ·simp only [Option.some.injEq,Prod.mk.injEq] at e1; exact ⟨e1.2.1.symm,e1.2.2.1.symm⟩
   ·cases e1
  obtain ⟨rfl,rfl⟩:=hh
  obtain ⟨⟨q1,q2⟩,ob',e3,_⟩:=z6C e2 o2
  obtain ⟨h1,rfl,rfl,_⟩:=z0g e3
  exact ⟨by simp only [A.live]; exact q1,by simp only [A.shut]; rw [q2]; exact h1,rfl,rfl⟩
 | .agg fs,st,hs,a,R,U,hs',ob,e,ho=>by
  simp only [Ku] at e
  obtain ⟨xs,R1,U1,hs1,ob1,R2,U2,ob2,e1,e2,rfl,rfl,rfl⟩:=JY e
  obtain ⟨o1,o2⟩:=yp ho
  obtain ⟨q1,q2,rfl,rfl⟩:=z5A fs e1 o1
  obtain ⟨h1,rfl,rfl,_⟩:=z0g e2
  exact ⟨by simp only [A.live]; exact q1,by simp only [A.shut]; rw [q2]; exact h1,rfl,rfl⟩
 | .box x,st,hs,a,R,U,hs',ob,e,ho=>by
  simp only [Ku] at e
  obtain ⟨xs,R1,U1,hs1,ob1,R2,U2,ob2,e1,e2,rfl,rfl,rfl⟩:=JY e
  obtain ⟨o1,o2⟩:=yp ho
  obtain ⟨q1,q2,rfl,rfl⟩:=z3K x e1 o1
  obtain ⟨h1,rfl,rfl,_⟩:=z0g e2
  exact ⟨by simp only [A.live]; exact q1,by simp only [A.shut]; rw [q2]; exact h1,rfl,rfl⟩
 | .dead _,_,_,_,_,_,_,_,e,_=>by cases e
 | .opq _,_,_,_,_,_,_,_,e,_=>by cases e
 | .tup _,_,_,_,_,_,_,_,e,_=>by cases e
 | .atom v,_,_,_,_,_,_,_,e,_=>by simp only [Ku] at e; obtain ⟨h1,rfl,rfl,_⟩:=z0g e; exact ⟨rfl,h1,rfl,rfl⟩
 | .fn _ _,_,_,_,_,_,_,_,e,_=>by simp only [Ku] at e; obtain ⟨h1,rfl,rfl,_⟩:=z0g e; exact ⟨rfl,h1,rfl,rfl⟩
 | .sl _ _ _,_,_,_,_,_,_,_,e,_=>by simp only [Ku] at e; obtain ⟨h1,rfl,rfl,_⟩:=z0g e; exact ⟨rfl,h1,rfl,rfl⟩
 | .sptr _,_,_,_,_,_,_,_,e,_=>by simp only [Ku] at e; obtain ⟨h1,rfl,rfl,_⟩:=z0g e; exact ⟨rfl,h1,rfl,rfl⟩
 | .dop _,_,_,_,_,_,_,_,e,_=>by simp only [Ku] at e; obtain ⟨h1,rfl,rfl,_⟩:=z0g e; exact ⟨rfl,h1,rfl,rfl⟩
theorem z5A:∀ (x:List A) {st:St} {hs:List H} {a:List A} {R:List Nat} {U:List (Nat × Ent)} {hs':List H} {ob:List Prop},Ku.shutAs x st hs=some (a,R,U,hs',ob) → z3n ob → A.lives x=true ∧ A.shuts x=a ∧ R=[] ∧ U=[]
 | [],_,_,_,_,_,_,_,e,_=>by simp only [Ku.shutAs] at e; obtain ⟨h1,rfl,rfl,_⟩:=z0g e; exact ⟨rfl,h1,rfl,rfl⟩
 | x :: xs,st,hs,a,R,U,hs',ob,e,ho=>by
  simp only [Ku.shutAs] at e
  obtain ⟨y,R1,U1,hs1,ob1,R2,U2,ob2,e1,e2,rfl,rfl,rfl⟩:=JY e
  obtain ⟨o1,o2⟩:=yp ho
  obtain ⟨q1,q2,rfl,rfl⟩:=z3K x e1 o1
  obtain ⟨ys,R3,U3,hs3,ob3,R4,U4,ob4,e3,e4,rfl,rfl,rfl⟩:=JY e2
  obtain ⟨o3,o4⟩:=yp o2
  obtain ⟨q3,q4,rfl,rfl⟩:=z5A xs e3 o3
  obtain ⟨h1,rfl,rfl,_⟩:=z0g e4
  exact ⟨by simp only [A.lives,Bool.and_eq_true]; exact ⟨q1,q3⟩,by simp only [A.shuts]; rw [q2,q4]; exact h1,rfl,rfl⟩
end
theorem z2H {p c q:Prop} [Decidable p] [Decidable c] {m m':SM α} {h:HM α} (hpq:c → q → p) (h1:Snd m h):Snd (if p then m else m') (if c then Zg q h else zK):=by
 by_cases hc:c
 ·rw [if_pos hc]
  exact z1C fun hq=>Kd (if_pos (hpq hc hq)) h1
 ·rw [if_neg hc]
  exact zq _
def z94 (r:Nat) (p:List Xp) (er ec:Nat):HM A:=y3 (rdE r) >>= fun e=>
 match e.t with
 | .own x=>if e.er=er ∧ (p=[] ∨ e.ec=ec) then zdD p x else zK
 | .d x=>if e.er=er ∧ p=[] then pure x else zK
 | _=>zK
theorem z5D (r:Nat) (p:List Xp) (er ec:Nat):Snd (look r p er ec) (z94 r p er ec):=by
 refine zh (zk _) fun e=>?_
 obtain ⟨t,a,b⟩:=e
 cases t with
 | own x=>exact vU (z8R _ _) (zq _)
 | d x=>exact vU (xZ _) (zq _)
 | _=>exact zq _
def z5O (r:Nat) (p:List Xp) (er ec:Nat):HM A:=y3 (rdE r) >>= fun e=>
 match e.t with
 | .own x=>if e.er=er ∧ e.ec=ec then zdD p x else zK
 | _=>zK
theorem z6t (r:Nat) (p:List Xp) (er ec:Nat):Snd (lookP r p er ec) (z5O r p er ec):=by
 refine zh (zk _) fun e=>?_
 obtain ⟨t,a,b⟩:=e
 cases t with
 | own x=>exact vU (z8R _ _) (zq _)
 | _=>exact zq _
def z0t:T → HM A
 | .d a=>pure a
 | .als r p er ec=>z94 r p er ec >>= fun y=>if y.isD=true then pure y else zK
 | _=>zK
theorem Zy (x:T):Snd (val x) (z0t x):=by
 cases x with
 | d a=>exact xZ _
 | als r p er ec=>exact zh (z5D _ _ _ _) fun y=>vU (xZ _) (zq _)
 | _=>exact zq _
def z8E:T → HM A
 | .d a=>pure a
 | .als r p er ec=>z94 r p er ec >>= fun y=>
  if y.isD=true then pure y else if y.plain=true then y3 (rdE r) >>= fun e=>
   match e.t with
   | .own x=>
    if p=[] then y3 (wrE r ⟨.gone,e.er + 1,e.ec + 1⟩) >>= fun _=>pure y
    else zaV p x (.dead y.size) >>= fun z=>y3 (wrE r ⟨.own z,e.er,e.ec + 1⟩) >>= fun _=>pure y
   | _=>zK
  else zK
 | _=>zK
theorem z5B (x:T):Snd (take x) (z8E x):=by
 cases x with
 | d a=>exact xZ _
 | als r p er ec=>
  refine zh (z5D _ _ _ _) fun y=>vU (xZ _) (vU (zh (zk _) fun e=>?_) (zq _))
  obtain ⟨t,a,b⟩:=e
  cases t with
  | own x=>
   refine vU (sdLift' _ _) ?_
   refine Kd (m':=pure (V0 p x (.dead y.size)) >>= fun z=>wrE r ⟨.own z,a,b + 1⟩ >>= fun _=>pure y) (zX _ _).symm ?_
   exact zh (zhI _ _ _) fun z=>sdLift' _ _
  | _=>exact zq _
 | _=>exact zq _
where sdLift' {β:Type} (m:SM Unit) (y:β):Snd (m >>= fun _=>pure y) (y3 m >>= fun _=>pure y):=zh (zk m) fun _=>xZ y
def z0H (tt:TT) (t:Nat) (x:T):HM A:=z8E x >>= fun y=>pure (WB tt t y)
theorem z08 (tt:TT) (t:Nat) (x:T):Snd (takeC tt t x) (z0H tt t x):=zh (z5B x) fun _=>xZ _
def z3Y:T → HM (A ⊕ (Nat × List Xp × Nat × Nat))
 | .d (.sptr y)=>pure (.inl y)
 | .ptr r p er ec=>pure (.inr (r,p,er,ec))
 | .als r p er ec=>y3 (rdE r) >>= fun e=>z94 r p er ec >>= fun y=>
  match y with
  | .box _=>pure (.inr (r,p ++ [.deref],e.er,e.ec))
  | .sptr z=>pure (.inl z)
  | _=>zK
 | _=>zK
theorem z3L (x:T):Snd (ptrOf x) (z3Y x):=by
 cases x with
 | d a=>cases a <;> first | exact xZ _ | exact zq _
 | ptr r p er ec=>exact xZ _
 | als r p er ec=>
  refine zh (zk _) fun e=>zh (z5D _ _ _ _) fun y=>?_
  cases y <;> first | exact xZ _ | exact zq _
 | _=>exact zq _
def z5o:T → HM A
 | .d a=>pure a
 | .als r p er ec=>z94 r p er ec
 | _=>zK
theorem z0N (x:T):Snd (peek x) (z5o x):=by
 cases x with
 | d a=>exact xZ _
 | als r p er ec=>exact z5D _ _ _ _
 | _=>exact zq _
def zcl (tt:TT) (n:Fr) (dst:Option Nat) (t:Nat) (x:T):HM Unit:=z3Y x >>= fun q=>
 match q with
 | .inl y=>if jQ tt t y=true ∧ y.isD=true then y3 (wrT n dst (.d y)) else zK
 | .inr (r,p,er,ec)=>z5O r p er ec >>= fun y=>
  if jQ tt t y=true then
   (if y.isD=true then y3 (wrT n dst (.d y)) else y3 (wrT n dst (.als r p er ec)))
  else zK
theorem zbx (tt:TT) (n:Fr) (dst:Option Nat) (t:Nat) (x:T):Snd (loadA tt n dst t x) (zcl tt n dst t x):=by
 refine zh (z3L _) fun q=>?_
 rcases q with y | ⟨r,p,er,ec⟩
 ·exact vU (zk _) (zq _)
 ·exact zh (z6t _ _ _ _) fun y=>vU (vU (zk _) (zk _)) (zq _)
def zbd (tt:TT) (t:Nat) (x v:T):HM Unit:=z3Y x >>= fun q=>
 match q with
 | .inl _=>zK
 | .inr (r,p,er,ec)=>z0H tt t v >>= fun y=>y3 (rdE r) >>= fun e=>
  match e.t with
  | .own x0=>
   if e.er=er ∧ e.ec=ec then zdD p x0 >>= fun y0=>
    if y.size=y0.size ∧ jQ tt t y=true then zaV p x0 y >>= fun z=>y3 (wrE r ⟨.own z,e.er,e.ec + 1⟩) else zK
   else zK
  | _=>zK
theorem zeW (tt:TT) (t:Nat) (x v:T):Snd (storeA tt t x v) (zbd tt t x v):=by
 refine zh (z3L _) fun q=>?_
 rcases q with y | ⟨r,p,er,ec⟩
 ·exact zq _
 ·refine zh (z08 _ _ _) fun y=>zh (zk _) fun e=>?_
  obtain ⟨t',a,b⟩:=e
  cases t' with
  | own x0=>
   refine vU ?_ (zq _)
   refine Kd (m':=ofO (we p x0) >>= fun y0=>if y.size=y0.size ∧ jQ tt t y=true then wrE r ⟨.own (V0 p x0 y),a,b + 1⟩ else zp) ?_ ?_
   ·cases we p x0 with
    | none=>rfl
    | some y0=>exact (zX _ _).symm
   ·refine zh (z8R _ _) fun y0=>vU ?_ (zq _)
    refine Kd (m':=pure (V0 p x0 y) >>= fun z=>wrE r ⟨.own z,a,b + 1⟩) (zX _ _).symm ?_
    exact zh (zhI _ _ _) fun z=>zk _
  | _=>exact zq _
def z4m (tt:TT) (n:Fr) (dst:Option Nat) (t i:Nat) (x:T):HM Unit:=z3Y x >>= fun q=>
 match q with
 | .inl (.agg fs)=>
  match fs[i]? with
  | some y=>if z0j tt t i fs=true then y3 (wrT n dst (.d (.sptr y))) else zK
  | none=>zK
 | .inl _=>zK
 | .inr (r,p,er,ec)=>z5O r p er ec >>= fun y=>
  match y with
  | .agg fs=>if z0j tt t i fs=true ∧ i < fs.length then y3 (wrT n dst (.ptr r (p ++ [.fld i]) er ec)) else zK
  | _=>zK
theorem z7x (tt:TT) (n:Fr) (dst:Option Nat) (t i:Nat) (x:T):Snd (fieldAddrA tt n dst t i x) (z4m tt n dst t i x):=by
 refine zh (z3L _) fun q=>?_
 rcases q with y | ⟨r,p,er,ec⟩
 ·cases y with
  | agg fs=>
   dsimp only
   cases fs[i]? with
   | some y=>exact vU (zk _) (zq _)
   | none=>exact zq _
  | _=>exact zq _
 ·refine zh (z6t _ _ _ _) fun y=>?_
  cases y with
  | agg fs=>exact vU (zk _) (zq _)
  | _=>exact zq _
def ziq (tt:TT) (n:Fr) (dst:Option Nat) (t:Nat) (sz:Nat) (xs:List A) (j:Int):HM Unit :=
 if xo tt t=some sz then Zg (0 ≤ j) (z9h xs[j.toNat]? >>= fun y=>y3 (wrT n dst (.d (.sptr y)))) else zK
theorem zbz (tt:TT) (n:Fr) (dst:Option Nat) (t:Nat) (sz:Nat) (xs:List A) (j:Int) :
  Snd (if xo tt t=some sz ∧ 0 ≤ j then (match xs[j.toNat]? with | some y=>wrT n dst (.d (.sptr y)) | none=>zp) else zp) (ziq tt n dst t sz xs j):=by
 refine z2H (fun h1 h2=>⟨h1,h2⟩) ?_
 refine Kd (m':=ofO xs[j.toNat]? >>= fun y=>wrT n dst (.d (.sptr y))) ?_ (zh (z0O _) fun y=>zk _)
 cases xs[j.toNat]? with
 | none=>rfl
 | some y0=>exact (zX _ _).symm
def z4i (tt:TT) (n:Fr) (dst:Option Nat) (t:Nat) (x:T) (i:A):HM Unit :=
 match i with
 | .atom (.int _ j)=>
  match x with
  | .d (.sl sz _ xs)=>ziq tt n dst t sz xs j
  | .als r p er ec=>y3 (rdE r) >>= fun e=>z94 r p er ec >>= fun y=>
   match y with
   | .osl sz _ es=>if xo tt t=some sz then Zg (0 ≤ j ∧ j.toNat < es.length) (y3 (wrT n dst (.ptr r (p ++ [.idx j.toNat]) e.er e.ec))) else zK
   | .sl sz _ xs=>ziq tt n dst t sz xs j
   | _=>zK
  | _=>zK
 | _=>zK
theorem z7w (tt:TT) (n:Fr) (dst:Option Nat) (t:Nat) (x:T) (i:A):Snd (indexAddrA tt n dst t x i) (z4i tt n dst t x i):=by
 cases i with
 | atom v=>
  cases v with
  | int k j=>
   cases x with
   | d a=>
    cases a with
    | sl sz tg xs=>exact zbz tt n dst t sz xs j
    | _=>exact zq _
   | als r p er ec=>
    refine zh (zk _) fun e=>zh (z5D _ _ _ _) fun y=>?_
    cases y with
    | osl sz tg es=>exact z2H (fun h1 h2=>⟨h1,h2.1,h2.2⟩) (zk _)
    | sl sz tg xs=>exact zbz tt n dst t sz xs j
    | _=>exact zq _
   | _=>exact zq _
  | _=>exact zq _
 | _=>exact zq _
def z1J (tt:TT) (n:Fr) (dst:Option Nat) (t:Nat) (x:T) (i:A):HM Unit :=
 match i with
 | .atom (.int _ j)=>z3Y x >>= fun q=>
  match q with
  | .inl (.agg fs)=>z9h fs[j.toNat]? >>= fun y=>Zg (Zb tt t fs j=true) (y3 (wrT n dst (.d (.sptr y))))
  | .inl _=>zK
  | .inr (r,p,er,ec)=>z5O r p er ec >>= fun y=>
   match y with
   | .agg fs=>Zg (Zb tt t fs j=true ∧ j.toNat < fs.length) (y3 (wrT n dst (.ptr r (p ++ [.fld j.toNat]) er ec)))
   | _=>zK
 | _=>zK
theorem z3N (tt:TT) (n:Fr) (dst:Option Nat) (t:Nat) (x:T) (i:A):Snd (indexArrA tt n dst t x i) (z1J tt n dst t x i):=by
 cases i with
 | atom v=>
  cases v with
  | int k j=>
   refine zh (z3L _) fun q=>?_
   rcases q with y | ⟨r,p,er,ec⟩
   ·cases y with
    | agg fs=>
     refine Kd (m':=ofO fs[j.toNat]? >>= fun y=>if Zb tt t fs j=true then wrT n dst (.d (.sptr y)) else zp) ?_ (zh (z0O _) fun y=>wd (zk _))
     dsimp only
     cases fs[j.toNat]? with
     | none=>rfl
     | some y0=>exact (zX _ _).symm
    | _=>exact zq _
   ·refine zh (z6t _ _ _ _) fun y=>?_
    cases y with
    | agg fs=>exact wd (zk _)
    | _=>exact zq _
  | _=>exact zq _
 | _=>exact zq _
def z3k (tt:TT) (n:Fr) (dst:Option Nat) (t:Nat) (s x:T):HM Unit :=
 match tt t with
 | some ⟨.slice e,_,_,_,_⟩=>
  match tt e with
  | some i=>z5o x >>= fun y=>
   match y with
   | .sl sz _ ys | .osl sz _ ys=>
    if sz=i.size ∧ i.bytes ≤ 4096 ∧ 0 < i.size ∧ i.zero.isSome=true then Zg (A.areD ys=true) (z0H tt t s >>= fun z=>
     match z with
     | .osl sz' tg es=>if sz'=i.size then Zg (es.length + ys.length ≤ lim) (eqL (es ++ ys) >>= fun zs=>y3 (wrT n dst (.own (.osl sz' false zs)))) else zK
     | .sl sz' tg es=>if sz'=i.size ∧ tg=true then Zg (es.length + ys.length ≤ lim ∧ ys ≠ [] ∧ A.areD es=true) (eqL (es ++ ys) >>= fun zs=>y3 (wrT n dst (.own (.osl sz' false zs)))) else zK
     | _=>zK)
    else zK
   | _=>zK
  | none=>zK
 | _=>zK
theorem z7A (tt:TT) (n:Fr) (dst:Option Nat) (t:Nat) (s:T) (i:TI) (sz:Nat) (ys:List A) :
    Snd (if sz=i.size ∧ A.areD ys=true ∧ i.bytes ≤ 4096 ∧ 0 < i.size ∧ i.zero.isSome=true then do
          let z ← takeC tt t s
          match z with
          | .osl sz' tg es=>if sz'=i.size ∧ es.length + ys.length ≤ lim then wrT n dst (.own (.osl sz' false (es ++ ys))) else zp
          | .sl sz' tg es=>if sz'=i.size ∧ es.length + ys.length ≤ lim ∧ tg=true ∧ ys ≠ [] ∧ A.areD es=true then wrT n dst (.own (.osl sz' false (es ++ ys))) else zp
          | _=>zp
        else zp)
      (if sz=i.size ∧ i.bytes ≤ 4096 ∧ 0 < i.size ∧ i.zero.isSome=true then Zg (A.areD ys=true) (z0H tt t s >>= fun z=>
          match z with
          | .osl sz' tg es=>if sz'=i.size then Zg (es.length + ys.length ≤ lim) (eqL (es ++ ys) >>= fun zs=>y3 (wrT n dst (.own (.osl sz' false zs)))) else zK
          | .sl sz' tg es=>if sz'=i.size ∧ tg=true then Zg (es.length + ys.length ≤ lim ∧ ys ≠ [] ∧ A.areD es=true) (eqL (es ++ ys) >>= fun zs=>y3 (wrT n dst (.own (.osl sz' false zs)))) else zK
          | _=>zK)
        else zK):=by
  refine z2H (fun h1 h2=>⟨h1.1,h2,h1.2⟩) (zh (z08 _ _ _) fun z=>?_)
  cases z with
  | osl sz' tg es=>
    refine z2H (fun h1 h2=>⟨h1,h2⟩) ?_
    exact Kd (zX (es ++ ys) fun zs=>wrT n dst (.own (.osl sz' false zs))).symm (zh (zar _) fun _=>zk _)
  | sl sz' tg es=>
    refine z2H (fun h1 h2=>⟨h1.1,h2.1,h1.2,h2.2⟩) ?_
    exact Kd (zX (es ++ ys) fun zs=>wrT n dst (.own (.osl sz' false zs))).symm (zh (zar _) fun _=>zk _)
  | _=>exact zq _
theorem z7z (tt:TT) (n:Fr) (dst:Option Nat) (t:Nat) (s x:T):Snd (appendA tt n dst t s x) (z3k tt n dst t s x):=by
 unfold appendA z3k
 generalize tt t=q
 rcases q with _ | ⟨k,a1,a2,a3,a4⟩
 ·exact zq _
 ·cases k with
  | slice e=>
   dsimp only
   generalize tt e=q
   cases q with
   | none=>exact zq _
   | some i=>
    refine zh (z0N _) fun y=>?_
    cases y with
    | sl sz _ ys=>exact z7A tt n dst t s _ sz ys
    | osl sz _ ys=>exact z7A tt n dst t s _ sz ys
    | _=>exact zq _
  | _=>exact zq _
def z0o (tt:TT) (n:Fr) (dst:Option Nat) (t:Nat) (s x:Operand):HM Unit :=
 match tt t with
 | some ⟨.slice e,_,_,_,_⟩=>
  match tt e with
  | some i=>
   if i.bytes ≤ 4096 ∧ 0 < i.size ∧ i.zero.isSome=true then y3 (opnd x) >>= fun tx=>z8E tx >>= fun y=>y3 (opnd s) >>= fun ts=>z0H tt t ts >>= fun z=>
    match y,z with
    | .osl sz _ ys,.osl sz' tg es=>if sz=i.size ∧ sz'=i.size ∧ A.plains ys=true then Zg (es.length + ys.length ≤ lim) (eqL (es ++ ys) >>= fun zs=>y3 (wrT n dst (.own (.osl sz' false zs)))) else zK
    | _,_=>zK
   else zK
  | none=>zK
 | _=>zK
theorem z7y (tt:TT) (n:Fr) (dst:Option Nat) (t:Nat) (s x:Operand):Snd (appendOwnA tt n dst t s x) (z0o tt n dst t s x):=by
 unfold appendOwnA z0o
 generalize tt t=q
 rcases q with _ | ⟨k,a1,a2,a3,a4⟩
 ·exact zq _
 ·cases k with
  | slice e=>
   dsimp only
   generalize tt e=q
   cases q with
   | none=>exact zq _
   | some i=>
    refine vU (zh (zk _) fun tx=>zh (z5B _) fun y=>zh (zk _) fun ts=>zh (z08 _ _ _) fun z=>?_) (zq _)
    cases y with
    | osl sz tg' ys=>
     cases z with
     | osl sz' tg es=>
      refine z2H (fun h1 h2=>⟨h1.1,h1.2.1,h1.2.2,h2⟩) ?_
      exact Kd (zX (es ++ ys) fun zs=>wrT n dst (.own (.osl sz' false zs))).symm (zh (zar _) fun _=>zk _)
     | _=>exact zq _
    | _=>exact zq _
  | _=>exact zq _
def z5z (tt:TT) (t:Nat):T → HM A
 | .d (.tup _)=>zK
 | .d a=>pure (WB tt t a).shut
 | .als r p er ec=>z94 r p er ec >>= fun y=>
  if y.isD=true then pure y else Ku y >>= fun ys=>y3 (rdE r) >>= fun e=>
    match e.t with
    | .own x=>
     if p=[] then y3 (wrE r ⟨.d ys,e.er,e.ec + 1⟩) >>= fun _=>pure ys
     else zaV p x ys >>= fun z=>y3 (wrE r ⟨.own z,e.er,e.ec + 1⟩) >>= fun _=>pure ys
    | _=>zK
 | _=>zK
theorem zhH (y:A) {f:A → SM α} {g:A → HM α} (h:Snd (f y.shut) (g y.shut)):Snd (if y.live=true then f y.shut else zp) (Ku y >>= g):=by
 intro st hs b R U hs' ob e ho
 obtain ⟨a,R1,U1,hs1,ob1,R2,U2,ob2,e1,e2,rfl,rfl,rfl⟩:=JY e
 obtain ⟨o1,o2⟩:=yp ho
 obtain ⟨q1,rfl,rfl,rfl⟩:=z3K y e1 o1
 rw [if_pos q1]
 exact h _ _ _ _ _ _ _ e2 o2
theorem JJ (tt:TT) (t:Nat) (x:T):Snd (shutT tt t x) (z5z tt t x):=by
 cases x with
 | d a=>cases a <;> first | exact zq _ | exact xZ _
 | als r p er ec=>
  refine zh (z5D _ _ _ _) fun y=>vU (xZ _) ?_
  refine zhH y (f:=fun ys=>do
    let e ← rdE r
    match e.t with
    | .own x=>
     if p=[] then do
      wrE r ⟨.d ys,e.er,e.ec + 1⟩
      pure ys
     else do
      wrE r ⟨.own (V0 p x ys),e.er,e.ec + 1⟩
      pure ys
    | _=>zp) ?_
  refine zh (zk _) fun e=>?_
  obtain ⟨t',a,b⟩:=e
  cases t' with
  | own x=>
   refine vU (zh (zk _) fun _=>xZ _) ?_
   refine Kd (m':=pure (V0 p x y.shut) >>= fun z=>wrE r ⟨.own z,a,b + 1⟩ >>= fun _=>pure y.shut) (zX _ _).symm ?_
   exact zh (zhI _ _ _) fun z=>zh (zk _) fun _=>xZ _
  | _=>exact zq _
 | _=>exact zq _
def qG (tt:TT):List (Operand × Nat) → HM (List A)
 | []=>pure []
 | (x,t) :: as_=>y3 (opnd x) >>= fun y=>z5z tt t y >>= fun a=>qG tt as_ >>= fun bs=>pure (a :: bs)
theorem Ze (tt:TT):∀ as_,Snd (shutArgs tt as_) (qG tt as_)
 | []=>xZ _
 | (x,t) :: as_=>zh (zk _) fun y=>zh (JJ _ _ _) fun a=>zh (Ze tt as_) fun bs=>xZ _
def z44 (tt:TT):List (Bool × Operand × Nat) → HM (List A)
 | []=>pure []
 | (g,x,t) :: as_=>y3 (opnd x) >>= fun y=>(if g=true then z0H tt t y else z5z tt t y) >>= fun a=>z44 tt as_ >>= fun bs=>pure (a :: bs)
theorem z5C (tt:TT):∀ as_,Snd (passArgs tt as_) (z44 tt as_)
 | []=>xZ _
 | (g,x,t) :: as_=>zh (zk _) fun y=>zh (vU (z08 _ _ _) (JJ _ _ _)) fun a=>zh (z5C tt as_) fun bs=>xZ _
def zde (tt:TT) (ctr:Ctr) (n:Fr) (dst:Option Nat) (f:A) (as_:List (Operand × Nat)):HM Unit :=
 match f with
 | .fn k caps=>zl8 >>= fun gs=>Zg (ctr.lend k=none ∧ ctr.gives k=gs) (
  if gs.isEmpty=true then zcP (qG tt as_) >>= fun xs=>z9h (ctr.run k (ctr.norm k (xs ++ caps))) >>= fun r=>
    if r.flat=true then y3 (wrT n dst (.d r))
    else qG tt as_ >>= fun _=>y3 (wrT n dst (mkT r))
  else if gs.length=as_.length then z44 tt (gs.zip as_) >>= fun xs=>z9h (ctr.run k (ctr.norm k (xs ++ caps))) >>= fun r=>y3 (wrT n dst (mkT r))
  else zK)
 | _=>zK
theorem zhQ (tt:TT) (ctr:Ctr) (n:Fr) (dst:Option Nat) (f:A) (as_:List (Operand × Nat)):Snd (callA tt ctr n dst f as_) (zde tt ctr n dst f as_):=by
 cases f with
 | fn k caps=>
  intro st hs b R U hs' ob e ho
  unfold zde at e
  obtain ⟨gs,R1,U1,hs1,ob1,R2,U2,ob2,e1,e2,rfl,rfl,rfl⟩:=JY e
  obtain ⟨o1,o2⟩:=yp ho
  have hh:R1=[] ∧ U1=[]:=by
   unfold zl8 at e1
   split at e1
   ·simp only [Option.some.injEq,Prod.mk.injEq] at e1; exact ⟨e1.2.1.symm,e1.2.2.1.symm⟩
   ·cases e1
  obtain ⟨rfl,rfl⟩:=hh
  obtain ⟨⟨q1,q2⟩,ob',e3,o3⟩:=z6C e2 o2
  subst q2
  simp only [callA,q1]
  revert e3
  have main:∀ {h:HM Unit} {m:SM Unit},Snd m h → h (ze [] st) hs1=some (b,R2,U2,hs',ob') → m st=some (b,[] ++ R2,[] ++ U2):=fun hs e=>hs _ _ _ _ _ _ _ e o3
  intro e3
  refine main ?_ e3
  refine vU ?_ (vU ?_ (zq _))
  ·refine zh (zhP (Ze _ _)) fun xs=>?_
   refine Kd (m':=ofO (ctr.run k (ctr.norm k (xs ++ caps))) >>= fun r=>if r.flat=true then wrT n dst (.d r) else shutArgs tt as_ >>= fun _=>wrT n dst (mkT r)) ?_ (zh (z0O _) fun r=>vU (zk _) (zh (Ze _ _) fun _=>zk _))
   cases ctr.run k (ctr.norm k (xs ++ caps)) with
   | none=>rfl
   | some r=>exact (zX _ _).symm
  ·refine zh (z5C _ _) fun xs=>?_
   refine Kd (m':=ofO (ctr.run k (ctr.norm k (xs ++ caps))) >>= fun r=>wrT n dst (mkT r)) ?_ (zh (z0O _) fun r=>zk _)
   cases ctr.run k (ctr.norm k (xs ++ caps)) with
   | none=>rfl
   | some r=>exact (zX _ _).symm
 | _=>exact zq _
def z9m:List (Operand × Nat) → TT → HM (List A)
 | [],_=>pure []
 | (x,t) :: ps,tt=>y3 (opnd x) >>= fun y=>z0H tt t y >>= fun a=>z9m ps tt >>= fun bs=>pure (a :: bs)
theorem z8P (tt:TT):∀ ps,Snd (takes ps tt) (z9m ps tt)
 | []=>xZ _
 | (x,t) :: ps=>zh (zk _) fun y=>zh (z08 _ _ _) fun a=>zh (z8P tt ps) fun bs=>xZ _
def zll (tt:TT) (n:Fr) (dst:Option Nat) (op:BinOp) (xt:Nat) (vx vy:A):HM Unit :=
 match op with
 | .quo | .rem=>
  match vx,vy with
  | .atom (.int k a),.atom (.int k' b)=>if k=k' then Zg (b ≠ 0) (y3 (wrT n dst (.d (.atom (.int k (match op with | .quo=>k.wrap (a.tdiv b) | _=>a.tmod b)))))) else zK
  | _,_=>zK
 | _=>y3 (ofO (zgP tt op xt vx vy) >>= fun r=>wrT n dst (.d r))
theorem zkq (tt:TT) (n:Fr) (dst:Option Nat) (op:BinOp) (xt:Nat) (vx vy:A):Snd (ofO (zgP tt op xt vx vy) >>= fun r=>wrT n dst (.d r)) (zll tt n dst op xt vx vy):=by
 have main:∀ op,op=.quo ∨ op=.rem → Snd (ofO (zgP tt op xt vx vy) >>= fun r=>wrT n dst (.d r)) (match vx,vy with
  | .atom (.int k a),.atom (.int k' b)=>if k=k' then Zg (b ≠ 0) (y3 (wrT n dst (.d (.atom (.int k (match op with | .quo=>k.wrap (a.tdiv b) | _=>a.tmod b)))))) else zK
  | _,_=>zK):=by
  intro op hop
  cases vx with
  | atom v=>
   cases v with
   | int k a=>
    cases vy with
    | atom u=>
     cases u with
     | int k' b=>
      dsimp only
      by_cases hk:k=k'
      ·rw [if_pos hk]
       refine z1C fun hb=>?_
       refine Kd ?_ (zk _)
       rcases hop with rfl | rfl <;> simp only [zgP,if_pos hk,zcH,if_neg hb] <;> exact zX _ _
      ·rw [if_neg hk]; exact zq _
     | _=>exact zq _
    | _=>exact zq _
   | _=>exact zq _
  | _=>exact zq _
 cases op with
 | quo=>exact main _ (.inl rfl)
 | rem=>exact main _ (.inr rfl)
 | _=>exact zk _
def zkB (n:Fr) (dst:Option Nat) (c x y:Operand):HM Unit:=y3 (opnd c) >>= fun tc=>z0t tc >>= fun vc=>
 match vc with
 | .atom (.bool b)=>zln b >>= fun b=>match b with | true=>y3 (opnd x >>= fun t=>wrT n dst t) | false=>y3 (opnd y >>= fun t=>wrT n dst t)
 | _=>zK
theorem zkl (n:Fr) (dst:Option Nat) (c x y:Operand):Snd (z8V n dst c x y) (zkB n dst c x y):=by
 refine zh (zk _) fun tc=>zh (Zy _) fun vc=>?_
 cases vc with
 | atom v=>
  cases v with
  | bool b=>
   refine Kd (m':=pure b >>= fun b=>match b with | true=>(opnd x >>= fun t=>wrT n dst t) | false=>(opnd y >>= fun t=>wrT n dst t)) ?_ (zh (zbA _) fun b=>?_)
   ·rw [zX]; cases b <;> rfl
   ·cases b <;> exact zk _
  | _=>exact zq _
 | _=>exact zq _
def z7T (n:Fr) (dst:Option Nat) (x:Operand):HM Unit:=y3 (opnd x) >>= fun y=>
 match y with
 | .d (.fn f cs)=>y3 (wrT n dst (.d (.fn f cs)))
 | y=>z3Y y >>= fun q=>
  match q with
  | .inl _=>y3 (wrT n dst y)
  | .inr (r,p,er,ec)=>z5O r p er ec >>= fun _=>y3 (wrT n dst y)
theorem zaq (n:Fr) (dst:Option Nat) (x:Operand):Snd (nilCheckO n dst x) (z7T n dst x):=by
 refine zh (zk _) fun y=>?_
 have main:∀ y:T,Snd (ptrOf y >>= fun q=>match q with
  | .inl _=>wrT n dst y
  | .inr (r,p,er,ec)=>lookP r p er ec >>= fun _=>wrT n dst y) (z3Y y >>= fun q=>
  match q with
  | .inl _=>y3 (wrT n dst y)
  | .inr (r,p,er,ec)=>z5O r p er ec >>= fun _=>y3 (wrT n dst y)):=by
  intro y
  refine zh (z3L _) fun q=>?_
  rcases q with z | ⟨r,p,er,ec⟩
  ·exact zk _
  ·exact zh (z6t _ _ _ _) fun _=>zk _
 cases y with
 | d a=>
  cases a with
  | fn f cs=>exact zk _
  | _=>exact main _
 | _=>exact main _
def z4s (dflt:Nat):Option Operand → HM Nat
 | none=>pure dflt
 | some x=>y3 (opnd x) >>= fun t=>z0t t >>= fun v=>
  match v with
  | .atom (.int _ j)=>Zg (0 ≤ j) (pure j.toNat)
  | _=>zK
theorem z1D (dflt:Nat) (x:Option Operand):Snd (bound dflt x) (z4s dflt x):=by
 cases x with
 | none=>exact xZ _
 | some x=>
  refine zh (zk _) fun t=>zh (Zy _) fun v=>?_
  cases v with
  | atom v=>
   cases v with
   | int k j=>exact wd (xZ _)
   | _=>exact zq _
  | _=>exact zq _
def zgr (tt:TT) (n:Fr) (dst:Option Nat) (t:Nat) (x:Operand) (lo hi mx:Option Operand):HM Unit:=y3 (opnd x) >>= fun y=>
 match y with
 | .d (.sl sz tg xs)=>
  if xo tt t=some sz then z4s 0 lo >>= fun l=>z4s xs.length hi >>= fun h=>
   match mx with
   | none=>Zg (l ≤ h ∧ h ≤ xs.length) (eqA (.sl sz (tg && h == xs.length) ((xs.drop l).take (h - l))) >>= fun z=>y3 (wrT n dst (.d z)))
   | some _=>z4s 0 mx >>= fun m=>if hi.isSome=true then Zg (l ≤ h ∧ h ≤ m ∧ m ≤ xs.length) (eqA (.sl sz (m == h) ((xs.drop l).take (h - l))) >>= fun z=>y3 (wrT n dst (.d z))) else zK
  else zK
 | _=>zK
theorem zhG (tt:TT) (n:Fr) (dst:Option Nat) (t:Nat) (x:Operand) (lo hi mx:Option Operand):Snd (sliceO tt n dst t x lo hi mx) (zgr tt n dst t x lo hi mx):=by
 refine zh (zk _) fun y=>?_
 cases y with
 | d a=>
  cases a with
  | sl sz tg xs=>
   refine vU (zh (z1D _ _) fun l=>zh (z1D _ _) fun h=>?_) (zq _)
   cases mx with
   | none=>
    refine wd ?_
    exact Kd (zX _ fun z=>wrT n dst (.d z)).symm (zh (z5k _) fun _=>zk _)
   | some m=>
    refine zh (z1D _ _) fun m=>z2H (fun h1 h2=>⟨h2.1,h2.2.1,h2.2.2,h1⟩) ?_
    exact Kd (zX _ fun z=>wrT n dst (.d z)).symm (zh (z5k _) fun _=>zk _)
  | _=>exact zq _
 | _=>exact zq _
def z1H (tt:TT) (n:Fr) (dst:Option Nat) (t:Nat) (l c:Operand):HM Unit:=y3 (opnd l) >>= fun tl=>z0t tl >>= fun vl=>y3 (opnd c) >>= fun tc=>z0t tc >>= fun vc=>
 match vl,vc with
 | .atom (.int _ x),.atom (.int _ y)=>
  match tt t with
  | some ⟨.slice e,_,_,_,_⟩=>
   match tt e with
   | some i=>
    match i.zero with
    | some z=>if i.bytes ≤ 4096 then Zg (0 ≤ x ∧ x ≤ y ∧ y ≤ lim) (eqA (.osl i.size (decide (x=y)) (List.replicate x.toNat z)) >>= fun r=>y3 (wrT n dst (.own r))) else zK
    | none=>zK
   | none=>zK
  | _=>zK
 | _,_=>zK
theorem z3M (tt:TT) (n:Fr) (dst:Option Nat) (t:Nat) (l c:Operand):Snd (Zh tt n dst t l c) (z1H tt n dst t l c):=by
 refine zh (zk _) fun tl=>zh (Zy _) fun vl=>zh (zk _) fun tc=>zh (Zy _) fun vc=>?_
 cases vl with
 | atom v=>
  cases v with
  | int k x=>
   cases vc with
   | atom u=>
    cases u with
    | int k' y=>
     dsimp only
     generalize tt t=q
     rcases q with _ | ⟨k,a1,a2,a3,a4⟩
     ·exact zq _
     ·cases k with
      | slice e=>
       dsimp only
       generalize tt e=q
       cases q with
       | none=>exact zq _
       | some i=>
        dsimp only
        cases i.zero with
        | none=>exact zq _
        | some z=>
         refine z2H (fun h1 h2=>⟨h2.1,h2.2.1,h2.2.2,h1⟩) ?_
         exact Kd (zX _ fun z=>wrT n dst (.own z)).symm (zh (z5k _) fun _=>zk _)
      | _=>exact zq _
    | _=>exact zq _
   | _=>exact zq _
  | _=>exact zq _
 | _=>exact zq _
def WN (tt:TT) (n:Fr) (dst:Option Nat) (t len:Nat) (ps:List (Nat × Operand)):HM Unit :=
 match tt t with
 | some ⟨.slice e,_,_,_,_⟩=>
  match tt e with
  | some i=>
   match i.zero with
   | some z=>z9m (ps.map fun p=>(p.2,e)) tt >>= fun xs=>
    if z48 (List.replicate len z) ((ps.map (·.1)).zip xs)=true ∧ len * i.size ≤ 16777216 ∧ len ≤ lim then
     y3 (wrT n dst (.own (.osl i.size true (z0M (List.replicate len z) ((ps.map (·.1)).zip xs)))))
    else zK
   | none=>zK
  | none=>zK
 | _=>zK
theorem JK (tt:TT) (n:Fr) (dst:Option Nat) (t len:Nat) (ps:List (Nat × Operand)):Snd (vC tt n dst t len ps) (WN tt n dst t len ps):=by
 unfold vC WN
 generalize tt t=q
 rcases q with _ | ⟨k,a1,a2,a3,a4⟩
 ·exact zq _
 ·cases k with
  | slice e=>
   dsimp only
   generalize tt e=q
   cases q with
   | none=>exact zq _
   | some i=>
    dsimp only
    cases i.zero with
    | none=>exact zq _
    | some z=>exact zh (z8P _ _) fun xs=>vU (zk _) (zq _)
  | _=>exact zq _
def zdf (tt:TT) (n:Fr) (dst:Option Nat) (t:Nat) (ps:List (Nat × Operand)):HM Unit :=
 match tt t with
 | some i=>
  match i.zero with
  | some (.agg zs)=>z9m (ps.map fun p=>(p.2,0)) tt >>= fun xs=>
   if z48 zs ((ps.map (·.1)).zip xs)=true ∧ z9F tt t zs ((ps.map (·.1)).zip xs)=true ∧ i.kind.isAgg=true ∧ ((Wx tt t 0).isSome=true ∨ z4e i.kind=true) then
    y3 (wrT n dst (mkT (.agg (z0M zs ((ps.map (·.1)).zip xs)))))
   else zK
  | _=>zK
 | none=>zK
theorem zhR (tt:TT) (n:Fr) (dst:Option Nat) (t:Nat) (ps:List (Nat × Operand)):Snd (z2q tt n dst t ps) (zdf tt n dst t ps):=by
 unfold z2q zdf
 generalize tt t=q
 cases q with
 | none=>exact zq _
 | some i=>
  dsimp only
  cases i.zero with
  | none=>exact zq _
  | some z=>
   cases z with
   | agg zs=>exact zh (z8P _ _) fun xs=>vU (zk _) (zq _)
   | _=>exact zq _
def z7s (tt:TT) (ctr:Ctr) (n:Fr) (o:Oper):HM Unit :=
 match o.op with
 | .assign x=>y3 (opnd x) >>= fun y=>
  match y with
  | .ptr r p er ec=>y3 (wrT n o.dst (.ptr r p er ec))
  | y=>z0H tt o.type y >>= fun z=>y3 (wrT n o.dst (mkT z))
 | .binOp op xt x y _=>y3 (opnd x) >>= fun tx=>z0t tx >>= fun vx=>y3 (opnd y) >>= fun ty=>z0t ty >>= fun vy=>zll tt n o.dst op xt vx vy
 | .unOp op _ x=>y3 (opnd x) >>= fun t=>z0t t >>= fun y=>y3 (ofO (unA op y) >>= fun r=>wrT n o.dst (.d r))
 | .convert s t x=>y3 (opnd x) >>= fun y=>z0t y >>= fun v=>
  match v with
  | .atom (.int _ m)=>
   match tt s with
   | some _=>
    match tt t with
    | some ⟨.int k,_,_,_,_⟩=>y3 (wrT n o.dst (.d (.atom (.int k (k.wrap m)))))
    | _=>zK
   | none=>zK
  | _=>zK
 | .pick c x y=>zkB n o.dst c x y
 | .nilCheck x=>z7T n o.dst x
 | .slice t x lo hi mx=>zgr tt n o.dst t x lo hi mx
 | .load t x=>y3 (opnd x) >>= fun y=>zcl tt n o.dst t y
 | .store t x v=>if o.dst=none then y3 (opnd x) >>= fun y=>y3 (opnd v) >>= fun z=>zbd tt t y z else zK
 | .fieldAddr t x i=>y3 (opnd x) >>= fun y=>z4m tt n o.dst t i y
 | .indexAddr t x i=>y3 (opnd x) >>= fun y=>y3 (opnd i) >>= fun ti=>z0t ti >>= fun vi=>
  if (z8k tt t).isSome=true then z1J tt n o.dst t y vi else z4i tt n o.dst t y vi
 | .box t x=>y3 (opnd x) >>= fun y=>z0H tt t y >>= fun z=>
  match z with
  | .tup _=>zK
  | z=>if z.isAgg=true ∨ z.size=1 then y3 (wrT n o.dst (.own (.box z))) else zK
 | .makeSlice t l c=>z1H tt n o.dst t l c
 | .buildSlice t len ps=>WN tt n o.dst t len ps.toList
 | .build t ps=>zdf tt n o.dst t ps.toList
 | .makeFunc (.func f) ⟨[]⟩ caps=>qG tt (caps.toList.map fun x=>(x,0)) >>= fun xs=>if xs.all z1G=true then y3 (wrT n o.dst (.d (.fn f xs))) else zK
 | .call ⟨.builtin .len,⟨[x]⟩,⟨[t]⟩⟩=>y3 (opnd x) >>= fun y=>z5o y >>= fun z=>y3 (ofO (lenOf z)) >>= fun m=>if vK tt t=true then eqA (.atom (.int .i64 m)) >>= fun r=>y3 (wrT n o.dst (.d r)) else zK
 | .call ⟨.builtin .cap,⟨[x]⟩,⟨[t]⟩⟩=>y3 (opnd x) >>= fun y=>z5o y >>= fun z=>y3 (ofO (zda z)) >>= fun m=>if vK tt t=true then eqA (.atom (.int .i64 m)) >>= fun r=>y3 (wrT n o.dst (.d r)) else zK
 | .call ⟨.builtin .append,⟨[s,x]⟩,⟨[t,t']⟩⟩=>if t=t' then y3 (opnd s) >>= fun ts=>y3 (opnd x) >>= fun tx=>z5o tx >>= fun y=>
   match y with
   | .osl _ _ ys=>zln (A.areD ys) >>= fun b=>match b with | true=>z3k tt n o.dst t ts tx | false=>z0o tt n o.dst t s x
   | _=>z3k tt n o.dst t ts tx
  else zK
 | .call ⟨.value f,args,tys⟩=>if args.size=tys.size then y3 (opnd f) >>= fun tf=>z0t tf >>= fun vf=>zde tt ctr n o.dst vf (args.toList.zip tys.toList) else zK
 | _=>y3 (stepO tt ctr n o)
theorem zkp (tt:TT) (n:Fr) (dst:Option Nat) (s t:Nat) (v:A):Snd (match v with
  | .atom (.int _ m)=>
   match tt s with
   | some _=>
    match tt t with
    | some ⟨.int k,_,_,_,_⟩=>wrT n dst (.d (.atom (.int k (k.wrap m))))
    | _=>zp
   | none=>zp
  | _=>zp:SM Unit) (match v with
  | .atom (.int _ m)=>
   match tt s with
   | some _=>
    match tt t with
    | some ⟨.int k,_,_,_,_⟩=>y3 (wrT n dst (.d (.atom (.int k (k.wrap m)))))
    | _=>zK
   | none=>zK
  | _=>zK):=by
 cases v with
 | atom u=>
  cases u with
  | int k m=>
   dsimp only
   generalize tt s=q
   cases q with
   | none=>exact zq _
   | some _=>
    dsimp only
    generalize tt t=q
    rcases q with _ | ⟨k,a1,a2,a3,a4⟩
    ·exact zq _
    ·cases k <;> first | exact zk _ | exact zq _
  | _=>exact zq _
 | _=>exact zq _
theorem z8Q (tt:TT) (ctr:Ctr) (n:Fr) (o:Oper):Snd (stepO tt ctr n o) (z7s tt ctr n o):=by
 unfold stepO z7s
 cases ho:o.op with
 | move x=>exact sdLift' ho
 | assign x=>
  refine zh (zk _) fun y=>?_
  cases y with
  | ptr r p er ec=>exact zk _
  | _=>exact zh (z08 _ _ _) fun z=>zk _
 | binOp op xt x y yt=>exact zh (zk _) fun tx=>zh (Zy _) fun vx=>zh (zk _) fun ty=>zh (Zy _) fun vy=>zkq _ _ _ _ _ _ _
 | unOp op xt x=>exact zh (zk _) fun t=>zh (Zy _) fun y=>zk _
 | convert s t x=>exact zh (zk _) fun y=>zh (Zy _) fun v=>zkp _ _ _ _ _ _
 | pick c x y=>exact zkl _ _ _ _ _
 | extract x i=>exact sdLift' ho
 | nilCheck x=>exact zaq _ _ _
 | slice t x lo hi mx=>exact zhG _ _ _ _ _ _ _ _
 | load t x=>exact zh (zk _) fun y=>zbx _ _ _ _ _
 | store t x v=>exact vU (zh (zk _) fun y=>zh (zk _) fun z=>zeW _ _ _ _) (zq _)
 | fieldAddr t x i=>exact zh (zk _) fun y=>z7x _ _ _ _ _ _
 | indexAddr t x i=>exact zh (zk _) fun y=>zh (zk _) fun ti=>zh (Zy _) fun vi=>vU (z3N _ _ _ _ _ _) (z7w _ _ _ _ _ _)
 | alloc t=>exact sdLift' ho
 | box t x=>
  refine zh (zk _) fun y=>zh (z08 _ _ _) fun z=>?_
  cases z <;> first | exact zq _ | exact vU (zk _) (zq _)
 | makeSlice t l c=>exact z3M _ _ _ _ _ _
 | buildSlice t len ps=>exact JK _ _ _ _ _ _
 | build t ps=>exact zhR _ _ _ _ _
 | makeFunc fn first caps=>
  cases fn with
  | func f=>
   obtain ⟨l⟩:=first
   cases l with
   | nil=>exact zh (Ze _ _) fun xs=>vU (zk _) (zq _)
   | cons _ _=>exact sdLift' ho
  | _=>exact sdLift' ho
 | call c=>
  obtain ⟨callee,⟨args⟩,⟨tys⟩⟩:=c
  cases callee with
  | value f=>exact vU (zh (zk _) fun tf=>zh (Zy _) fun vf=>zhQ _ _ _ _ _ _) (zq _)
  | invoke r m=>exact sdLift' ho
  | builtin b=>
   cases b with
   | len=>
    rcases args with _ | ⟨x,_ | ⟨y,l⟩⟩ <;> rcases tys with _ | ⟨t,_ | ⟨t',l'⟩⟩ <;> first | exact sdLift' ho | exact zh (zk _) fun y=>zh (z0N _) fun z=>zh (zk _) fun m=>vU (Kd (zX _ fun r=>wrT n o.dst (.d r)).symm (zh (z5k _) fun r=>zk _)) (zq _)
   | cap=>
    rcases args with _ | ⟨x,_ | ⟨y,l⟩⟩ <;> rcases tys with _ | ⟨t,_ | ⟨t',l'⟩⟩ <;> first | exact sdLift' ho | exact zh (zk _) fun y=>zh (z0N _) fun z=>zh (zk _) fun m=>vU (Kd (zX _ fun r=>wrT n o.dst (.d r)).symm (zh (z5k _) fun r=>zk _)) (zq _)
   | append=>
    rcases args with _ | ⟨x,_ | ⟨y,_ | ⟨z,l⟩⟩⟩ <;> rcases tys with _ | ⟨t,_ | ⟨t',_ | ⟨t'',l'⟩⟩⟩ <;> first | exact sdLift' ho | skip
    refine vU (zh (zk _) fun ts=>zh (zk _) fun tx=>zh (z0N _) fun w=>?_) (zq _)
    cases w with
    | osl sz tg ys=>
     dsimp only
     refine Kd (m':=pure (A.areD ys) >>= fun b=>match b with | true=>appendA tt n o.dst t ts tx | false=>appendOwnA tt n o.dst t x y) ?_ (zh (zbA _) fun b=>?_)
     ·rw [zX]
      cases A.areD ys <;> rfl
     ·cases b
      ·exact z7y _ _ _ _ _ _
      ·exact z7z _ _ _ _ _ _
    | _=>exact z7z _ _ _ _ _ _
   | _=>exact sdLift' ho
 | _=>exact sdLift' ho
where sdLift' {op:Op} {tt:TT} {ctr:Ctr} {n:Fr} {o:Oper} {m:SM Unit} (ho:o.op=op) (e:stepO tt ctr n o=m:=by first | rfl | (unfold stepO; simp only [ho])):Snd m (y3 (stepO tt ctr n o)):=e ▸ zk _
def zoB (mx:Bool):A → A → Option A
 | .atom (.int k a),.atom (.int k' b)=>if k=k' then some (.atom (.int k (if mx=true then (if a < b then b else a) else (if b < a then b else a)))) else none
 | _,_=>none
def minO (n:Fr) (dst:Option Nat) (mx:Bool) (x y:Operand):SM Unit:=do
 let tx ← opnd x
 let vx ← val tx
 let ty ← opnd y
 let vy ← val ty
 let r ← ofO (zoB mx vx vy)
 wrT n dst (.d r)
def cutO (tt:TT) (n:Fr) (dst:Option Nat) (t:Nat) (x hi:Operand):SM Unit:=do
 let y ← opnd x
 let z ← take y
 match z with
 | .osl sz _ es=>
  if xo tt t=some sz then (bound es.length (some hi) >>= fun h=>if h ≤ es.length then wrT n dst (.own (.osl sz false (es.take h))) else zp)
  else zp
 | _=>zp
variable {P:Program}{u:Unit}{S:zl}{o:Oper}{tt:TT}{xs:List A}{t:Nat}{x y:Operand}
section
variable {C:Ctx} {S:zl} {Fp:Nat → List Nat} {X:List Nat} {st:St} {a:Act} {w:World}
theorem zgG (h:Sim C S Fp [] st a w)  {mx:Bool} {x y:Operand} {t1 t2:Nat} (ho:o.op=.call ⟨.builtin (if mx=true then .max else .min),⟨[x,y]⟩,⟨[t1,t2]⟩⟩)    (e:minO C.n o.dst mx x y st=some (u,R,U)):vF P C o a w (ze U st):=by
 unfold minO at e
 obtain ⟨tx,R1,U1,R2,U2,h1,e1,rfl,rfl⟩:=bind_some e
 obtain ⟨rfl,hx⟩:=zC h h1
 obtain ⟨vx,R3,U3,R4,U4,h3,e2,rfl,rfl⟩:=bind_some e1
 obtain ⟨rfl,qx⟩:=vM h hx h3
 simp only [ze,List.nil_append] at e2 ⊢
 obtain ⟨ty,R5,U5,R6,U6,h5,e3,rfl,rfl⟩:=bind_some e2
 obtain ⟨rfl,hy⟩:=zC h h5
 obtain ⟨vy,R7,U7,R8,U8,h7,e4,rfl,rfl⟩:=bind_some e3
 obtain ⟨rfl,qy⟩:=vM h hy h7
 simp only [ze,List.nil_append] at e4 ⊢
 obtain ⟨r,R9,U9,R10,U10,h9,e5,rfl,rfl⟩:=bind_some e4
 obtain ⟨hr,rfl,rfl⟩:=uk h9
 simp only [ze,List.nil_append] at e5 ⊢
 unfold zoB at hr
 split at hr
 ·split at hr
  ·rename_i hk
   simp only [Option.some.injEq] at hr
   subst hr hk
   obtain ⟨ex,_⟩:=zy.1 qx
   obtain ⟨ey,_⟩:=zy.1 qy
   obtain ⟨Fp',hs⟩:=xL h e5 (x:=.d _) (zy.2 ⟨rfl,rfl⟩)
   refine zn ?_ hs
   cases mx
   ·simp [execOp,ho,resolve,invoke,builtin,ex,ey,Builtin.min_,Builtin.min2]
   ·simp [execOp,ho,resolve,invoke,builtin,ex,ey,Builtin.max_,Builtin.max2]
  ·cases hr
 ·cases hr
theorem z5V {h:Array Obj}  {cs:List Value} {F:List Nat} (q:zM S h xs cs F) (k:Nat):∃ F',zM S h (xs.take k) (cs.take (A.sizes (xs.take k))) F' ∧ (∀ b ∈ F',b ∈ F) ∧ (F.Nodup → F'.Nodup):=by
 induction xs generalizing cs F k with
 | nil=>
  simp only [zM] at q
  obtain ⟨rfl,rfl⟩:=q
  exact ⟨[],by simp [zM],by simp,by simp⟩
 | cons x xs ih=>
  cases k with
  | zero=>exact ⟨[],by simp [zM,A.sizes],by simp,by simp⟩
  | succ k=>
   simp only [zM] at q
   obtain ⟨c1,c2,F1,F2,rfl,rfl,q1,q2⟩:=q
   obtain ⟨F',g1,g2,g3⟩:=ih q2 k
   refine ⟨F1 ++ F',?_,?_,?_⟩
   ·simp only [List.take_succ_cons,zM,A.sizes]
    refine ⟨c1,c2.take (A.sizes (xs.take k)),F1,F',?_,rfl,q1,g1⟩
    rw [List.take_append,q1.len,List.take_of_length_le (by rw [q1.len]; omega)]
    simp
   ·intro b hb
    rcases List.mem_append.1 hb with hb | hb
    ·simp [hb]
    ·simp [g2 b hb]
   ·intro hn
    rw [List.nodup_append] at hn ⊢
    refine ⟨hn.1,g3 hn.2.1,?_⟩
    intro k hk k' hk'
    exact hn.2.2 k hk k' (g2 k' hk')
theorem zlf {P:Program}  (hT:xq P tt) (h:Sim C S Fp [] st a w)   {x hi:Operand} (ho:o.op=.slice t x none (some hi) none)    (e:cutO tt C.n o.dst t x hi st=some (u,R,U)):vF P C o a w (ze U st):=by
 unfold cutO at e
 obtain ⟨y,R1,U1,R2,U2,h1,e1,rfl,rfl⟩:=bind_some e
 obtain ⟨rfl,hx⟩:=zC h h1
 simp only [ze,List.nil_append] at e1 ⊢
 obtain ⟨z,R3,U3,R4,U4,h3,e2,rfl,rfl⟩:=bind_some e1
 obtain ⟨Fp',F,g1,g2⟩:=z1y h hx h3
 rw [zw]
 cases z with
 | osl sz tg es=>
  simp only at e2
  split at e2
  ·rename_i hel
   obtain ⟨hh,R5,U5,R6,U6,h5,e3,rfl,rfl⟩:=bind_some e2
   obtain ⟨rfl,b2⟩:=Km g1 h5
   simp only [ze,List.nil_append] at e3 ⊢
   split at e3
   ·rename_i hle
    obtain ⟨el,he,hsz⟩:=wB hT hel w
    obtain ⟨cs,k1,k2,k3⟩:∃ cs,zJ S w.heap (.osl sz tg es) cs F ∧ F.Nodup ∧ a.eval x=zS (.osl sz tg es) cs:=by
     rcases g2 with ⟨q,_⟩ | q
     ·simp only [xe,wT,Rep,false_and,exists_false] at q
     ·exact q
    simp only [zJ] at k1
    obtain ⟨p,c,rfl,t1,t2,t3,t4,t5⟩:=k1
    have ev:a.eval x=.slice p es.length c:=k3
    have hrun:=Yp (P:=P) (w:=w) he hsz (p:=p) (len:=es.length) (c:=c) (lo:=none) (mx:=none) (.inl ⟨rfl,rfl⟩) (Kn b2) (.inl ⟨rfl,rfl⟩) (Nat.zero_le _) (by omega) (Nat.le_refl c) (by simp)
    have hp:(if c=0 then p else p.map (·.add (0 * sz)))=p:=by
     split
     ·rfl
     ·cases p <;> simp [Addr.add]
    rw [hp] at hrun
    have hlen:(es.take hh).length=hh:=by simp; omega
    have ht4:∀ x ∈ es.take hh,x.size=sz:=fun x hx=>t4 x (List.mem_of_mem_take hx)
    obtain ⟨F2,cs2,m1,m2,m3,m4⟩:∃ F2 cs2,zJ S w.heap (.osl sz false (es.take hh)) cs2 F2 ∧ F2.Nodup ∧ (∀ k ∈ F2,k ∈ F) ∧ zS (.osl sz false (es.take hh)) cs2=.slice p hh c:=by
     rcases t5 with ⟨rfl,rfl,rfl,rfl⟩ | ⟨b,arr,ty,l,F',rfl,e1,e2,e3,e4,rfl,e5⟩
     ·have:hh=0:=by simp at hle; omega
      subst this
      refine ⟨[],[.slice none 0 0],?_,by simp,by simp,rfl⟩
      simp only [zJ]
      exact ⟨none,0,by simp,by simp,by simp,Nat.zero_le _,by simp,.inl (by simp)⟩
     ·obtain ⟨F3,q1,q2,q3⟩:=z5V e4 hh
      have hn:=List.nodup_cons.1 k2
      refine ⟨b :: F3,[.slice (some ⟨b,0,none⟩) hh c],?_,List.nodup_cons.2 ⟨fun q=>hn.1 (q2 b q),q3 hn.2⟩,?_,rfl⟩
      ·simp only [zJ]
       refine ⟨some ⟨b,0,none⟩,c,by rw [hlen],by simp,by rw [hlen]; omega,t3,ht4,.inr ⟨b,arr,ty,_,F3,rfl,e1,e2,?_,q1,rfl,e5⟩⟩
       rw [← e3,List.take_take,A.sizes_const ht4,hlen]
       congr 1
       have:=Nat.mul_le_mul_right sz hle
       omega
      ·intro k hk
       rcases List.mem_cons.1 hk with rfl | hk
       ·simp
       ·simp [q2 k hk]
    have g1':Sim C S Fp' (F2 ++ []) (ze U3 st) a w:=g1.mem g1.below (fun _ _ _ h=>h) g1.still.cell g1.sbase (fun t' k hk=>⟨rfl,(g1.free t' k hk).2.1⟩) (by simpa using m2) (fun t' k hk=>g1.xd t' k (by simp at hk ⊢; exact m3 k hk)) (fun k hk=>g1.xb k (by simp at hk ⊢; exact m3 k hk))
    obtain ⟨Fp'',hs⟩:=Vn g1' e3 m1 m2
    rw [m4] at hs
    refine zn ?_ hs
    simp only [Nat.sub_zero] at hrun
    simp only [Option.map_some] at hrun
    simp [execOp,ho,ev,hrun]
   ·exact (z7 e3).elim
  ·exact (z7 e2).elim
 | _=>exact (z7 e2).elim
end
variable {w:World}
theorem zeZ (hT:xq P tt)  {y:A} (hf:jQ tt t y=true) {w:World} {c1 cs c2:List Value} (hl:cs.length=y.size) :
  (part t (c1 ++ cs ++ c2).toArray c1.length).run P w=.ok (zS y cs) w:=by
 unfold jQ at hf
 split at hf
 ·rename_i i hi
  simp only [Bool.and_eq_true,beq_iff_eq,Bool.or_eq_true] at hf
  obtain ⟨⟨h1,h2⟩,h3⟩:=hf
  have hk:=JL (hT t i hi).kind w
  unfold part
  simp only [Sem.run_bind,hk,Result.andThen_ok,Sem.run_ite]
  by_cases ha:i.kind.isAgg=true
  ·rw [if_pos ha]
   rw [h1] at ha
   cases y <;> simp [A.isAgg] at ha
   simp only [qR hT hi,Result.andThen_ok,h2,← hl,Sem.run_pure,zS]
   congr 2
   simp [List.extract_eq_take_drop]
  ·rw [if_neg ha]
   have h4:i.size=1:=by simpa [ha] using h3
   have hlen:cs.length=1:=by omega
   obtain ⟨c,rfl⟩:=List.length_eq_one_iff.1 hlen
   rw [h1] at ha
   have:((c1 ++ [c] ++ c2).toArray)[c1.length]?=some c:=by simp
   rw [this]
   cases y <;> simp_all [A.isAgg,zS]
 ·cases hf
def zgR (tt:TT) (t:Nat):Option (Nat × Nat) :=
 match tt t with
 | some ⟨.array n e,_,_,_,_⟩=>some (n,e)
 | _=>none
def indexO (tt:TT) (n:Fr) (dst:Option Nat) (t:Nat) (x i:Operand):SM Unit:=do
 let tx ← opnd x
 let vx ← val tx
 let ti ← opnd i
 let vi ← val ti
 match vx,vi with
 | .agg fs,.atom (.int _ j)=>
  match zgR tt t with
  | some (m,e)=>match fs[j.toNat]? with
   | some y=>if 0 ≤ j ∧ j < (m:Int) ∧ jQ tt e y=true ∧ y.isD=true ∧ (fs.take j.toNat).all (fun z=>z.size == y.size)=true then wrT n dst (.d y) else zp
   | none=>zp
  | none=>zp
 | _,_=>zp
variable {Fp:Nat → List Nat}{a:Act}{C:Ctx}
theorem z9Q {P:Program}  (hT:xq P tt)      {w:World} (h:Sim C S Fp [] st a w)   {x i:Operand} (ho:o.op=.index t x i)    (e:indexO tt C.n o.dst t x i st=some (u,R,U)):vF P C o a w (ze U st):=by
 unfold indexO at e
 obtain ⟨tx,R1,U1,R2,U2,h1,e1,rfl,rfl⟩:=bind_some e
 obtain ⟨rfl,hx⟩:=zC h h1
 obtain ⟨vx,R3,U3,R4,U4,h3,e2,rfl,rfl⟩:=bind_some e1
 obtain ⟨rfl,qx⟩:=vM h hx h3
 simp only [ze,List.nil_append] at e2 ⊢
 obtain ⟨ty,R5,U5,R6,U6,h5,e3,rfl,rfl⟩:=bind_some e2
 obtain ⟨rfl,hy⟩:=zC h h5
 obtain ⟨vy,R7,U7,R8,U8,h7,e4,rfl,rfl⟩:=bind_some e3
 obtain ⟨rfl,qy⟩:=vM h hy h7
 simp only [ze,List.nil_append] at e4 ⊢
 split at e4
 ·rename_i fs k j
  cases ha:zgR tt t with
  | none=>simp only [ha] at e4; exact (z7 e4).elim
  | some q=>
   obtain ⟨m,el⟩:=q
   simp only [ha] at e4
   cases hf:fs[j.toNat]? with
   | none=>simp only [hf] at e4; exact (z7 e4).elim
   | some y=>
    simp only [hf] at e4
    split at e4
    ·rename_i hc
     obtain ⟨c1,c2,c3,c4,c5⟩:=hc
     have hk:P.underlying t=some (.array m el):=by
      unfold zgR at ha
      split at ha
      ·rename_i ht; cases ha; exact (hT _ _ ht).kind
      ·cases ha
     obtain ⟨i',hi⟩:∃ i',tt el=some i':=by
      unfold jQ at c3
      split at c3
      ·exact ⟨_,by assumption⟩
      ·cases c3
     obtain ⟨cs,r1,r2⟩:=(qx:wT S (.agg fs) (a.eval x))
     simp only [Rep] at r1
     obtain ⟨d1,ci,d2,rfl,hl,hr⟩:=Kf r1 hf
     have ei:=(zy.1 qy).1
     have hsz:i'.size=y.size:=by
      unfold jQ at c3
      rw [hi] at c3
      simp only [Bool.and_eq_true,beq_iff_eq] at c3
      exact c3.1.2
     have hoff:d1.length=j.toNat * i'.size:=by
      rw [hl,A.sizes_const (sz:=y.size) (fun z hz=>by simpa using List.all_eq_true.1 c5 z hz),List.length_take,hsz]
      congr 1
      have:=(List.getElem?_eq_some_iff.1 hf).1
      omega
     obtain ⟨Fp',hs⟩:=xL h e4 (x:=.d y) (wT.repV ⟨ci,hr,rfl⟩)
     refine zn ?_ hs
     have hp:=zeZ (P:=P) hT c3 (w:=w) (c1:=d1) (c2:=d2) hr.len
     rw [hoff] at hp
     have ex:a.eval x=.agg (d1 ++ ci ++ d2).toArray:=r2
     simp only [execOp,ho,Instr.index,asIntOf,ei,ex,Sem.run_bind,Sem.run_pure,Result.andThen_ok,run_underlying hk,c1,c2,and_self,if_true,qR hT hi,hp]
    ·exact (z7 e4).elim
 ·exact (z7 e4).elim
def zj5 (tt:TT) (n:Fr) (o:Oper):Option (SM Unit) :=
 match o.op with
 | .call ⟨.builtin .min,⟨[x,y]⟩,⟨[_,_]⟩⟩=>some (minO n o.dst false x y)
 | .call ⟨.builtin .max,⟨[x,y]⟩,⟨[_,_]⟩⟩=>some (minO n o.dst true x y)
 | .index t x i=>some (indexO tt n o.dst t x i)
 | _=>none
theorem Loc.indexO (tt:TT) (n:Fr) (dst:Option Nat) (t:Nat) (x i:Operand):Loc (indexO tt n dst t x i):=by
 unfold Go.Own.indexO
 refine Loc.bind (Loc.opnd _) fun _=>Loc.bind (Loc.val _) fun _=>Loc.bind (Loc.opnd _) fun _=>Loc.bind (Loc.val _) fun _=>?_
 split
 ·split
  ·split
   ·exact Loc.ite (Loc.wrT _ _ _) Loc.fail
   ·exact Loc.fail
  ·exact Loc.fail
 ·exact Loc.fail
theorem Loc.minO (n:Fr) (dst:Option Nat) (mx:Bool) (x y:Operand):Loc (minO n dst mx x y):=by
 unfold Go.Own.minO
 exact Loc.bind (Loc.opnd _) fun _=>Loc.bind (Loc.val _) fun _=>Loc.bind (Loc.opnd _) fun _=>Loc.bind (Loc.val _) fun _=>Loc.bind (Loc.ofO _) fun _=>Loc.wrT _ _ _
theorem Loc.cutO (tt:TT) (n:Fr) (dst:Option Nat) (t:Nat) (x hi:Operand):Loc (cutO tt n dst t x hi):=by
 unfold Go.Own.cutO
 refine Loc.bind (Loc.opnd _) fun _=>Loc.bind (Loc.take _) fun z=>?_
 cases z with
 | osl sz tg es=>exact Loc.ite (Loc.bind (Loc.bound _ _) fun _=>Loc.ite (Loc.wrT _ _ _) Loc.fail) Loc.fail
 | _=>exact Loc.fail
theorem ziA (hT:xq P tt):z4V P (zj5 tt):=by
 refine ⟨?_,?_⟩
 ·intro C S Fp st a w o m u R U e h h2
  unfold zj5 at e
  split at e
  ·rename_i ho; cases e; exact zgG (mx:=false) h ho h2
  ·rename_i ho; cases e; exact zgG (mx:=true) h ho h2
  ·rename_i ho; cases e; exact z9Q hT h ho h2
  ·cases e
 ·intro n o m e
  unfold zj5 at e
  split at e
  ·cases e; exact fun st st' a R U=>Loc.minO _ _ _ _ _ st st' a R U
  ·cases e; exact fun st st' a R U=>Loc.minO _ _ _ _ _ st st' a R U
  ·cases e; exact fun st st' a R U=>Loc.indexO _ _ _ _ _ _ st st' a R U
  ·cases e
def z5U (tt:TT) (d:Nat) (n:Fr) (o:Oper):Option (SM Unit) :=
 match o.op with
 | .slice t x none (some hi) none=>if o.dst=some d then some (cutO tt n o.dst t x hi) else none
 | _=>none
theorem zcY (hT:xq P tt) (d:Nat):z4V P (z5U tt d):=by
 refine ⟨?_,?_⟩
 ·intro C S Fp st a w o m u R U e h h2
  unfold z5U at e
  split at e
  ·rename_i ho
   split at e
   ·cases e; exact zlf hT h ho h2
   ·cases e
  ·cases e
 ·intro n o m e
  unfold z5U at e
  split at e
  ·split at e
   ·cases e; exact fun st st' a R U=>Loc.cutO _ _ _ _ _ _ st st' a R U
   ·cases e
  ·cases e
structure XH (P:Program) where
 e:Fr → Oper → Option (SM Unit)
 h:Fr → Oper → Option (HM Unit)
 ok:z4V P e
 none:∀ n o,e n o=none → h n o=none
 some:∀ n o m,e n o=some m → ∃ q,h n o=some q ∧ Snd m q
def XH.or (x y:XH P):XH P:={
 e:=fun n o=>match x.e n o with | .some m=>.some m | .none=>y.e n o
 h:=fun n o=>match x.h n o with | .some m=>.some m | .none=>y.h n o
 ok:=by
  refine ⟨?_,?_⟩
  ·intro C S Fp st a w o m u R U e
   cases hx:x.e C.n o with
   | some m'=>simp only [hx] at e; cases e; exact x.ok.1 C S Fp st a w o _ u R U hx
   | none=>simp only [hx] at e; exact y.ok.1 C S Fp st a w o _ u R U e
  ·intro n o m e
   cases hx:x.e n o with
   | some m'=>simp only [hx] at e; cases e; exact x.ok.2 n o _ hx
   | none=>simp only [hx] at e; exact y.ok.2 n o _ e
 none:=by
  intro n o e
  cases hx:x.e n o with
  | some m'=>simp only [hx] at e; cases e
  | none=>simp only [hx] at e; simp only [x.none n o hx]; exact y.none n o e
 some:=by
  intro n o m e
  cases hx:x.e n o with
  | some m'=>
   simp only [hx] at e; cases e
   obtain ⟨q,h1,h2⟩:=x.some n o _ hx
   exact ⟨q,by simp only [h1],h2⟩
  | none=>
   simp only [hx] at e
   obtain ⟨q,h1,h2⟩:=y.some n o _ e
   exact ⟨q,by simp only [x.none n o hx]; exact h1,h2⟩ }
def zoA (n:Fr) (dst:Option Nat) (mx:Bool) (x y:Operand):HM Unit:=y3 (opnd x) >>= fun tx=>z0t tx >>= fun vx=>y3 (opnd y) >>= fun ty=>z0t ty >>= fun vy=>y3 (ofO (zoB mx vx vy) >>= fun r=>wrT n dst (.d r))
theorem zkm (n:Fr) (dst:Option Nat) (mx:Bool) (x y:Operand):Snd (minO n dst mx x y) (zoA n dst mx x y) :=
 zh (zk _) fun _=>zh (Zy _) fun _=>zh (zk _) fun _=>zh (Zy _) fun _=>zk _
def zqG (tt:TT) (n:Fr) (dst:Option Nat) (t:Nat) (x hi:Operand):HM Unit:=y3 (opnd x) >>= fun y=>z8E y >>= fun z=>
 match z with
 | .osl sz _ es=>if xo tt t=some sz then z4s es.length (some hi) >>= fun h=>Zg (h ≤ es.length) (eqL (es.take h) >>= fun xs=>y3 (wrT n dst (.own (.osl sz false xs)))) else zK
 | _=>zK
theorem zom (tt:TT) (n:Fr) (dst:Option Nat) (t:Nat) (x hi:Operand):Snd (cutO tt n dst t x hi) (zqG tt n dst t x hi):=by
 refine zh (zk _) fun y=>zh (z5B _) fun z=>?_
 cases z with
 | osl sz tg es=>
  refine vU (zh (z1D _ _) fun h=>wd ?_) (zq _)
  exact Kd (zX _ fun xs=>wrT n dst (.own (.osl sz false xs))).symm (zh (zar _) fun _=>zk _)
 | _=>exact zq _
def zgL (tt:TT) (n:Fr) (dst:Option Nat) (t:Nat) (x i:Operand):HM Unit:=y3 (opnd x) >>= fun tx=>z0t tx >>= fun vx=>y3 (opnd i) >>= fun ti=>z0t ti >>= fun vi=>
 y3 (match vx,vi with
 | .agg fs,.atom (.int _ j)=>
  match zgR tt t with
  | some (m,e)=>match fs[j.toNat]? with
   | some y=>if 0 ≤ j ∧ j < (m:Int) ∧ jQ tt e y=true ∧ y.isD=true ∧ (fs.take j.toNat).all (fun z=>z.size == y.size)=true then wrT n dst (.d y) else zp
   | none=>zp
  | none=>zp
 | _,_=>zp)
theorem zhO (tt:TT) (n:Fr) (dst:Option Nat) (t:Nat) (x i:Operand):Snd (indexO tt n dst t x i) (zgL tt n dst t x i) :=
 zh (zk _) fun _=>zh (Zy _) fun _=>zh (zk _) fun _=>zh (Zy _) fun _=>zk _
def xB (hT:xq P tt):XH P:={
 e:=zj5 tt
 h:=fun n o=>match o.op with
  | .call ⟨.builtin .min,⟨[x,y]⟩,⟨[_,_]⟩⟩=>some (zoA n o.dst false x y)
  | .call ⟨.builtin .max,⟨[x,y]⟩,⟨[_,_]⟩⟩=>some (zoA n o.dst true x y)
  | .index t x i=>some (zgL tt n o.dst t x i)
  | _=>none
 ok:=ziA hT
 none:=by
  intro n o e
  unfold zj5 at e
  split at e
  ·cases e
  ·cases e
  ·cases e
  ·rfl
 some:=by
  intro n o m e
  unfold zj5 at e
  split at e
  ·rename_i ho; cases e; exact ⟨_,by simp only [ho],zkm _ _ _ _ _⟩
  ·rename_i ho; cases e; exact ⟨_,by simp only [ho],zkm _ _ _ _ _⟩
  ·rename_i ho; cases e; exact ⟨_,by simp only [ho],zhO _ _ _ _ _ _⟩
  ·cases e }
def zpI (hT:xq P tt) (d:Nat):XH P:={
 e:=z5U tt d
 h:=fun n o=>match o.op with
  | .slice t x none (some hi) none=>if o.dst=some d then some (zqG tt n o.dst t x hi) else none
  | _=>none
 ok:=zcY hT d
 none:=by
  intro n o e
  unfold z5U at e
  split at e
  ·rename_i ho
   split at e
   ·cases e
   ·rename_i hd; simp only [ho,if_neg hd]
  ·rfl
 some:=by
  intro n o m e
  unfold z5U at e
  split at e
  ·rename_i ho
   split at e
   ·rename_i hd; cases e; exact ⟨_,by simp only [ho,if_pos hd],zom _ _ _ _ _ _⟩
   ·cases e
  ·cases e }
theorem zcO {ks:List Nat} {m:SM Unit} (hm:∀ S Fp st,Sim C S Fp [] st a w → ∀ u R U,m st=some (u,R,U) → vF P C o a w (ze U st)) (h:Sim C S Fp [] st a w) {u:Unit} {R:List Nat} {U:List (Nat × Ent)}
  (e:(shutArgs (fun _=>none) (ks.map fun k=>(.tmp k,0)) >>= fun _=>m) st=some (u,R,U)):vF P C o a w (ze U st):=by
 obtain ⟨xs,R1,U1,R2,U2,h1,e1,rfl,rfl⟩:=bind_some e
 obtain ⟨S1,Fp1,g1,_⟩:=wk h h1
 rw [zw]
 exact hm _ _ _ g1 _ _ _ e1
def zqy (d:Nat ⊕ Nat) (o:Oper):Bool :=
 match d with
 | .inl d=>o.dst == some d
 | .inr p=>match o.op with | .store _ (.tmp q) _=>q == p | _=>false
def z4n (tt:TT) (d:Nat ⊕ Nat) (ks:List Nat) (n:Fr) (o:Oper):Option (SM Unit) :=
 if zqy d o=true then some (shutArgs (fun _=>none) (ks.map fun k=>(.tmp k,0)) >>= fun _=>stepO tt Kw n o) else none
def UN (hT:xq P tt) (d:Nat ⊕ Nat) (ks:List Nat):XH P:={
 e:=z4n tt d ks
 h:=fun n o=>if zqy d o=true then some (qG (fun _=>none) (ks.map fun k=>(.tmp k,0)) >>= fun _=>z7s tt Kw n o) else none
 ok:=by
  refine ⟨?_,?_⟩
  ·intro C S Fp st a w o m u R U e h h2
   unfold z4n at e
   split at e
   ·cases e
    exact zcO (fun S Fp st h u R U e=>z6l hT (z9b P) h e) h h2
   ·cases e
  ·intro n o m e
   unfold z4n at e
   split at e
   ·cases e
    exact fun st st' a R U=>Loc.bind (Loc.shutArgs _ _) (fun _=>Loc.stepO _ _ _ _) st st' a R U
   ·cases e
 none:=by
  intro n o e
  unfold z4n at e
  split at e
  ·cases e
  ·rename_i hd; rw [if_neg hd]
 some:=by
  intro n o m e
  unfold z4n at e
  split at e
  ·rename_i hd; cases e
   exact ⟨_,by rw [if_pos hd],zh (Ze _ _) fun _=>z8Q _ _ _ _⟩
  ·cases e }
def z9p (X:XH P) (tt:TT) (ctr:Ctr) (n:Fr) (o:Oper):HM Unit :=
 match X.h n o with
 | some q=>q
 | none=>z7s tt (ctr.withE X.e) n o
theorem zbu (X:XH P) (tt:TT) (ctr:Ctr) (n:Fr) (o:Oper):Snd (stepX tt (ctr.withE X.e) n o) (z9p X tt ctr n o):=by
 unfold stepX z9p
 cases he:X.e n o with
 | none=>
  rw [X.none n o he]
  exact Kd (by simp only [he]) (z8Q _ _ _ _)
 | some m=>
  obtain ⟨q,h1,h2⟩:=X.some n o m he
  rw [h1]
  exact Kd (by simp only [he]) h2
def z8M (X:XH P) (tt:TT) (ctr:Ctr) (n:Fr) (ops:Array Oper) (o:Oper):HM Unit :=
 match o.guard with
 | none=>z9p X tt ctr n o
 | some (j,want)=>
  match (ops[j]?).bind (·.dst) with
  | some g=>y3 (rdE g) >>= fun e=>
   match e.t with
   | .d (.atom (.bool b))=>zln b >>= fun b=>if b=want then z9p X tt ctr n o else y3 (wrT n o.dst (.d (.tup [])))
   | .d (.tup [])=>y3 (wrT n o.dst (.d (.tup [])))
   | _=>zK
  | none=>zK
def zgD:List H → List H
 | .op 0 :: hs=>hs
 | .op (m + 1) :: hs=>.op m :: hs
 | hs=>hs
def z9q (X:XH P) (tt:TT) (ctr:Ctr) (n:Fr) (ops:Array Oper) (o:Oper):HM Unit:=fun st hs=>z8M X tt ctr n ops o st (zgD hs)
theorem zeX (X:XH P) (tt:TT) (ctr:Ctr) (n:Fr) (ops:Array Oper) (o:Oper):Snd (stepG tt (ctr.withE X.e) n ops o) (z8M X tt ctr n ops o):=by
 unfold stepG z8M
 cases o.guard with
 | none=>exact zbu _ _ _ _ _
 | some q=>
  obtain ⟨j,want⟩:=q
  dsimp only
  cases (ops[j]?).bind (·.dst) with
  | none=>exact zq _
  | some g=>
   refine zh (zk _) fun e=>?_
   obtain ⟨t,a,b⟩:=e
   cases t with
   | d x=>
    cases x with
    | atom v=>
     cases v with
     | bool b=>
      refine Kd (m':=pure b >>= fun b=>if b=want then stepX tt (ctr.withE X.e) n o else wrT n o.dst (.d (.tup []))) (zX _ _).symm ?_
      exact zh (zbA _) fun b=>vU (zbu _ _ _ _ _) (zk _)
     | _=>exact zq _
    | tup l=>
     cases l with
     | nil=>exact zk _
     | cons _ _=>exact zq _
    | _=>exact zq _
   | _=>exact zq _
theorem zbv (X:XH P) (tt:TT) (ctr:Ctr) (n:Fr) (ops:Array Oper) (o:Oper):Snd (stepG tt (ctr.withE X.e) n ops o) (z9q X tt ctr n ops o) :=
 fun st hs a R U hs' ob e ho=>zeX X tt ctr n ops o st (zgD hs) a R U hs' ob e ho
abbrev Lg:=List (List Nat × List Nat)
def zap (X:XH P) (tt:TT) (ctr:Ctr) (n:Fr) (ops:Array Oper):List Oper → St → List H → Option (St × List H × List Prop × Lg)
 | [],st,hs=>some (st,hs,[],[])
 | o :: os,st,hs=>
  match z9q X tt ctr n ops o st hs with
  | none=>none
  | some (_,R,U,hs',ob)=>
   match zap X tt ctr n ops os (ze U st) hs' with
   | none=>none
   | some (st',hs'',ob',lg)=>some (st',hs'',ob ++ ob',(R,U.map (·.1)) :: lg)
variable {ops:Array Oper}
section
variable {P:Program} {X:XH P} {tt:TT} {ctr:Ctr} {n:Fr}
theorem z3f {K:St → Prop}:∀ (l:List Oper) (st:St) (hs:List H) {st':St} {hs':List H} {ob:List Prop} {lg:Lg},zap X tt ctr n ops l st hs=some (st',hs',ob,lg) → z3n ob → K st' → zdA tt (ctr.withE X.e) n ops l st K
 | [],st,hs,st',hs',ob,lg,e,ho,hk=>by
  simp only [zap,Option.some.injEq,Prod.mk.injEq] at e
  obtain ⟨rfl,_⟩:=e
  exact hk
 | o :: os,st,hs,st',hs',ob,lg,e,ho,hk=>by
  simp only [zap] at e
  cases e1:z9q X tt ctr n ops o st hs with
  | none=>simp only [e1] at e; cases e
  | some q=>
   obtain ⟨u,R,U,hs1,ob1⟩:=q
   simp only [e1] at e
   cases e2:zap X tt ctr n ops os (ze U st) hs1 with
   | none=>simp only [e2] at e; cases e
   | some q=>
    obtain ⟨st2,hs2,ob2,lg2⟩:=q
    simp only [e2,Option.some.injEq,Prod.mk.injEq] at e
    obtain ⟨rfl,rfl,rfl,rfl⟩:=e
    obtain ⟨o1,o2⟩:=yp ho
    simp only [zdA,z5n]
    rw [zbv X tt ctr n ops o _ _ _ _ _ _ _ e1 o1]
    exact z3f os _ _ e2 o2 hk
theorem z7u {K:St → Prop}:∀ (l:List Oper) (st:St) (hs:List H) (logs:Lg) {st':St} {hs':List H} {ob:List Prop} {lg:Lg},zap X tt ctr n ops l st hs=some (st',hs',ob,lg) → z3n ob → z4o ops.toList (logs ++ lg)=true → K st' → z8d tt (ctr.withE X.e) n ops l st logs K
 | [],st,hs,logs,st',hs',ob,lg,e,ho,hd,hk=>by
  simp only [zap,Option.some.injEq,Prod.mk.injEq] at e
  obtain ⟨rfl,_,_,rfl⟩:=e
  exact ⟨by simpa using hd,hk⟩
 | o :: os,st,hs,logs,st',hs',ob,lg,e,ho,hd,hk=>by
  simp only [zap] at e
  cases e1:z9q X tt ctr n ops o st hs with
  | none=>simp only [e1] at e; cases e
  | some q=>
   obtain ⟨u,R,U,hs1,ob1⟩:=q
   simp only [e1] at e
   cases e2:zap X tt ctr n ops os (ze U st) hs1 with
   | none=>simp only [e2] at e; cases e
   | some q=>
    obtain ⟨st2,hs2,ob2,lg2⟩:=q
    simp only [e2,Option.some.injEq,Prod.mk.injEq] at e
    obtain ⟨rfl,rfl,rfl,rfl⟩:=e
    obtain ⟨o1,o2⟩:=yp ho
    simp only [z8d,z5n]
    rw [zbv X tt ctr n ops o _ _ _ _ _ _ _ e1 o1]
    exact z7u os _ _ _ e2 o2 (by simpa using hd) hk
end
inductive Fm where
 | seq (y:Code)
 | blk (id:Nat)
 | pre (J:St → Prop)
 | rnd (m:Nat) (c:Code)
def zja (P:Program) (n:Fr) (c:Code):Nat → St → (Exit → St → Prop) → Prop
 | 0,_,_=>False
 | m + 1,st,Q=>AWP P n c st (z5g (fun st'=>zja P n c m st' Q) Q)
variable {Q:Exit → St → Prop}{c:Code}{n:Fr}
theorem zja.loop:∀ (m:Nat) (st:St),zja P n c m st Q → AWP P n (.loop c) st Q:=by
 intro m st h rd mm df w0 S0 M S Fp a w hc hs
 refine wpIn_loop_rounds m ?_
 have gen:∀ (m:Nat) (st:St) (df':List Nat) (S:zl) (Fp:Nat → List Nat) (a:Act) (w:World),zja P n c m st Q → Sim ⟨n,df',w0,S0,M⟩ S Fp [] st a w → Xs df M df' Fp w → Code.roundsIn (fen rd) mm P c (zdF n df w0 S0 M Q) m a w:=by
  intro m
  induction m with
  | zero=>intro st df' S Fp a w h _ _; exact h.elim
  | succ m ih=>
   intro st df' S Fp a w h hs hd
   refine wpIn_mono (AWP.go h hc hs hd) ?_
   intro e a' w' hp
   cases e with
   | normal=>
    obtain ⟨df2,st2,S2,Fp2,h1,h2,h3⟩:=hp
    exact ih st2 df2 S2 Fp2 a' w' h3 h1 h2
   | _=>exact hp.next fun _ q=>q
 exact gen m st df S Fp a w h hs (hc.post hs)
def Qf (P:Program) (n:Fr):List Fm → (Exit → St → Prop) → Exit → St → Prop
 | [],Q=>Q
 | .seq y :: fs,Q=>z5g (fun st=>AWP P n y st (Qf P n fs Q)) (Qf P n fs Q)
 | .blk id :: fs,Q=>QG id (Qf P n fs Q)
 | .pre J :: fs,Q=>z5g J (Qf P n fs Q)
 | .rnd m c :: fs,Q=>z5g (fun st=>zja P n c m st (Qf P n fs Q)) (Qf P n fs Q)
inductive zb0 where
 | fin (e:Exit)
 | back (J:St → Prop)
 | at (c:Code) (fs:List Fm)
def zb0.sem (P:Program) (n:Fr) (Q:Exit → St → Prop):zb0 → St → Prop
 | .fin e,st=>Q e st
 | .back J,st=>J st
 | .at c fs,st=>AWP P n c st (Qf P n fs Q)
inductive Nxt where
 | go (y:Code) (fs:List Fm)
 | stop (s:zb0)
 | none
def unw:List Fm → Nxt
 | []=>.stop (.fin .normal)
 | .seq y :: fs=>.go y fs
 | .blk _ :: fs=>unw fs
 | .pre J :: _=>.stop (.back J)
 | .rnd (m + 1) c :: fs=>.go c (.rnd m c :: fs)
 | .rnd 0 _ :: _=>.none
def z8o (id:Nat):List Fm → Option (List Fm)
 | []=>none
 | .blk i :: fs=>if id=i then some fs else z8o id fs
 | .seq _ :: fs=>z8o id fs
 | .pre _ :: fs=>z8o id fs
 | .rnd _ _ :: fs=>z8o id fs
abbrev zdE:=Option (zb0 × St × List H × List Prop)
def zj7 (ob:List Prop):zdE → zdE
 | none=>none
 | some (s,st,hs,ob')=>some (s,st,hs,ob ++ ob')
def goN (rec:Code → List Fm → St → List H → zdE) (x:Nxt) (st:St) (hs:List H):zdE :=
 match x with
 | .go y fs=>rec y fs st hs
 | .stop s=>some (s,st,hs,[])
 | .none=>none
def zeV (k:Nat):SM Unit:=do
 let y ← opnd (.tmp k)
 let q ← ptrOf y
 match q with
 | .inr (r,p,er,ec)=>do
  let _ ← lookP r p er ec
  let _ ← shutT (fun _=>none) 0 (.als r p er ec)
  pure ()
 | .inl _=>zp
def zeT (k:Nat):SM Unit:=do
 let e ← rdE k
 match e.t with
 | .own (.osl sz t es)=>if A.lives es=true then wrE k ⟨.own (.osl sz t (A.shuts es)),e.er,e.ec + 1⟩ else zp
 | _=>zp
def zfK:T → Bool
 | .own (.osl _ _ _)=>true
 | _=>false
def sealX (k:Nat):SM Unit:=do
 let e ← rdE k
 if zfK e.t=true then zeT k else zeV k
def z9t:List Nat → SM Unit
 | []=>pure ()
 | k :: ks=>do
  sealX k
  z9t ks
def zgu (k:Nat):HM Unit :=
 y3 (opnd (.tmp k)) >>= fun y=>y3 (ptrOf y) >>= fun q=>
 match q with
 | .inr (r,p,er,ec)=>y3 (lookP r p er ec) >>= fun _=>z5z (fun _=>none) 0 (.als r p er ec) >>= fun _=>pure ()
 | .inl _=>zK
def zgt (k:Nat):HM Unit :=
 y3 (rdE k) >>= fun e=>
 match e.t with
 | .own (.osl sz t es)=>zfQ >>= fun es'=>Zg (A.lives es=true ∧ A.shuts es=es') (y3 (wrE k ⟨.own (.osl sz t es'),e.er,e.ec + 1⟩))
 | _=>zK
def zgs (k:Nat):HM Unit:=y3 (rdE k) >>= fun e=>if zfK e.t=true then zgt k else zgu k
def z6s:List Nat → HM Unit
 | []=>pure ()
 | k :: ks=>zgs k >>= fun _=>z6s ks
theorem zhL (k:Nat):Snd (zeV k) (zgu k) :=
 zh (zk _) fun y=>zh (zk _) fun q=>by
  cases q with
  | inl _=>exact zq _
  | inr q=>
   obtain ⟨r,p,er,ec⟩:=q
   exact zh (zk _) fun _=>zh (JJ _ _ _) fun _=>xZ _
theorem zhK (k:Nat):Snd (zeT k) (zgt k):=by
 refine zh (zk _) fun e=>?_
 obtain ⟨t,er,ec⟩:=e
 cases t with
 | own x=>
  cases x with
  | osl sz tg es=>
   intro st hs b R U hs' ob e ho
   obtain ⟨es',R1,U1,hs1,ob1,R2,U2,ob2,e1,e2,rfl,rfl,rfl⟩:=JY e
   unfold zfQ at e1
   split at e1
   ·simp only [Option.some.injEq,Prod.mk.injEq] at e1
    obtain ⟨rfl,rfl,rfl,_,rfl⟩:=e1
    obtain ⟨⟨q1,q2⟩,ob',e3,o3⟩:=z6C e2 (yp ho).2
    subst q2
    dsimp only
    rw [if_pos q1]
    exact zk _ _ _ _ _ _ _ _ e3 o3
   ·cases e1
  | _=>exact zq _
 | _=>exact zq _
theorem zhJ (k:Nat):Snd (sealX k) (zgs k):=zh (zk _) fun e=>vU (zhK k) (zhL k)
theorem z9u:∀ ks,Snd (z9t ks) (z6s ks)
 | []=>xZ _
 | k :: ks=>zh (zhJ k) fun _=>z9u ks
variable {k:Nat}
theorem zeS (h:Sim C S Fp [] st a w)     (e:zeT k st=some (u,R,U)):∃ S' Fp',Sim C S' Fp' [] (ze U st) a w:=by
 unfold zeT at e
 obtain ⟨en,R1,U1,R2,U2,h1,e1,rfl,rfl⟩:=bind_some e
 obtain ⟨rfl,rfl,rfl⟩:=y7 h1
 simp only [ze,List.nil_append] at e1 ⊢
 have hno:∀ x,(st k).t=x → zfK x=false → False:=by
  intro x hx hn
  rw [hx] at e1
  cases x with
  | own y=>cases y <;> first | exact z7 e1 | (simp [zfK] at hn)
  | _=>exact z7 e1
 have hyes:∃ sz t es,(st k).t=.own (.osl sz t es):=by
  cases hx:(st k).t with
  | own y=>cases y <;> first | exact ⟨_,_,_,rfl⟩ | exact (hno _ hx rfl).elim
  | _=>exact (hno _ hx rfl).elim
 obtain ⟨sz,t,es,ht⟩:=hyes
 rw [ht] at e1
 dsimp only at e1
 split at e1
 ·rename_i hl
  obtain ⟨rfl,rfl⟩:=xH e1
  have hr:=h.ent k
  unfold xm at hr
  simp only [ht] at hr
  obtain ⟨cs,q,q1,q2⟩:=hr
  simp only [zJ] at q
  obtain ⟨p,c,rfl,d1,d2,d3,d4,d5⟩:=q
  simp only [List.append_nil,ze]
  rcases d5 with ⟨rfl,rfl,rfl,hF0⟩ | ⟨b,arr,ty,l,F1,rfl,e1,e2,e3,e4,hF0,e5⟩
  ·exact ⟨S,Jp Fp k [],h.change k (.own (.osl sz t (A.shuts []))) _ _ [] h.below (fun _ _ _ q=>q) h.still.cell h.sbase (fun t' k' hk hk'=>⟨rfl,(h.free t' k' hk').2.1⟩)
    ⟨⟨_,by simp only [zJ]; exact ⟨none,0,rfl,fun _=>rfl,Nat.le_refl _,Nat.zero_le _,by simp [A.shuts],.inl (by simp [A.shuts])⟩,by simp,by rw [q2]; rfl⟩,_,ht⟩ (.inl ⟨_,ht⟩) (Nat.le_refl _) (Nat.lt_succ_self _) (by simp) (by simp) h.xn (fun t k _ hk=>h.xd t k hk) (by simp) h.xb⟩
  ·have hF7:∀ q ∈ F1,q ∈ Fp k:=fun q hq=>by rw [hF0]; exact List.mem_cons_of_mem _ hq
   obtain ⟨m1,m2,m3,m4⟩:=JS h hF7
   have hrs:=zM.shut (S':=zY S w.heap F1) m1 e4 hl (fun k hk o=>by unfold zY; rw [if_pos hk])
   have hlen:(A.shuts es).length=es.length:=by simp [A.shuts_eq]
   have hb:b ∉ F1:=by rw [hF0] at q1; exact (List.nodup_cons.1 q1).1
   have hbk:b ∈ Fp k:=by rw [hF0]; exact List.mem_cons_self
   refine ⟨zY S w.heap F1,Jp Fp k [b],h.change k (.own (.osl sz t (A.shuts es))) _ _ [b] h.below m1 m2 m3 ?_ ⟨⟨_,?_,by simp,by rw [q2]; rfl⟩,_,ht⟩ (.inl ⟨_,ht⟩) (Nat.le_refl _) (Nat.lt_succ_self _) ?_ ?_ h.xn (fun t k _ hk=>h.xd t k hk) (by simp) h.xb⟩
   ·intro t' k' hk hk'
    refine ⟨rfl,fun o=>?_⟩
    rw [m4 k' (fun hF=>hk (h.disj t' k k' hk' (hF7 k' hF)))]
    exact (h.free t' k' hk').2.1 o
   ·simp only [zJ]
    refine ⟨some ⟨b,0,none⟩,c,by rw [hlen],fun ht=>by rw [hlen]; exact d1 ht,by rw [hlen]; exact d2,d3,?_,.inr ⟨b,arr,ty,_,[],rfl,e1,e2,by rw [hlen]; exact e3,yd.concs _ hrs,rfl,?_⟩⟩
    ·intro x hx
     rw [A.shuts_eq] at hx
     obtain ⟨y,hy,rfl⟩:=List.mem_map.1 hx
     rw [A.size_shut]
     exact d4 y hy
    ·intro o
     rw [m4 b hb]
     exact e5 o
   ·intro t' k' hk hk' hk2
    simp only [List.mem_cons,List.not_mem_nil,or_false] at hk'
    subst hk'
    exact hk (h.disj t' k _ hk2 hbk)
   ·intro k' hk'
    simp only [List.mem_cons,List.not_mem_nil,or_false] at hk'
    subst hk'
    exact h.base k _ hbk
 ·exact (z7 e1).elim
theorem zeU (h:Sim C S Fp [] st a w)     (e:zeV k st=some (u,R,U)):∃ S' Fp',Sim C S' Fp' [] (ze U st) a w:=by
 unfold zeV at e
 obtain ⟨y,R1,U1,R2,U2,h1,e1,rfl,rfl⟩:=bind_some e
 obtain ⟨rfl,hx⟩:=zC h h1
 obtain ⟨q,R3,U3,R4,U4,h3,e2,rfl,rfl⟩:=bind_some e1
 obtain ⟨rfl,hq⟩:=Kh h hx h3
 simp only [ze,List.nil_append] at e2 ⊢
 split at e2
 ·rename_i r p er ec
  obtain ⟨z,R7,U7,R8,U8,h7,e4,rfl,rfl⟩:=bind_some e2
  obtain ⟨rfl,x0,k1,k2,k3,k4⟩:=Kk h7
  simp only [ze,List.nil_append] at e4 ⊢
  obtain ⟨z2,R9,U9,R10,U10,h9,e5,rfl,rfl⟩:=bind_some e4
  obtain ⟨_,_,rfl⟩:=zr e5
  obtain ⟨b,o',arr,ty,csy,Fy,cs,ev,o1,f2,f3,f4,f5,f6,f7,f8,f9,f10,f11,_⟩:=z3X h hq k1 k2 k3 k4
  have hals:TOk S w.heap st (Act.tv a) (.als r p er ec) (zS z csy):=⟨by omega,by omega,by
   simp only [k1]
   exact fun _ _=>.inr ⟨o1,z,b,o',csy,k4,f11,f4.len,z6q f2 f3,rfl⟩⟩
  obtain ⟨S',Fp',g1,_⟩:=z0K h hals h9
  exact ⟨S',Fp',by simpa using g1⟩
 ·exact (z7 e2).elim
theorem zeR (h:Sim C S Fp [] st a w)     (e:sealX k st=some (u,R,U)):∃ S' Fp',Sim C S' Fp' [] (ze U st) a w:=by
 unfold sealX at e
 obtain ⟨en,R1,U1,R2,U2,h1,e1,rfl,rfl⟩:=bind_some e
 obtain ⟨rfl,rfl,rfl⟩:=y7 h1
 simp only [ze,List.nil_append] at e1 ⊢
 split at e1
 ·exact zeS h e1
 ·exact zeU h e1
theorem z7v:∀ {ks:List Nat} {S:zl} {Fp:Nat → List Nat} {st:St},Sim C S Fp [] st a w → ∀ {u:Unit} {R:List Nat} {U:List (Nat × Ent)},z9t ks st=some (u,R,U) → ∃ S' Fp',Sim C S' Fp' [] (ze U st) a w
 | [],S,Fp,st,h,u,R,U,e=>by
  obtain ⟨_,rfl,rfl⟩:=zr e
  exact ⟨S,Fp,h⟩
 | k :: ks,S,Fp,st,h,u,R,U,e=>by
  simp only [z9t] at e
  obtain ⟨_,R1,U1,R2,U2,h1,e1,rfl,rfl⟩:=bind_some e
  obtain ⟨S1,Fp1,g1⟩:=zeR h h1
  rw [zw]
  exact z7v g1 e1
def zr0:List H → List H
 | .n (m + 1) ks :: hs=>.n m ks :: hs
 | .v (m + 1) ks :: hs=>.v m ks :: hs
 | .stp (m + 1) :: hs=>.stp m :: hs
 | hs=>hs
def z6p (rec:Code → List Fm → St → List H → zdE) (X:XH P) (tt:TT) (ctr:Ctr) (n:Fr) (c:Code) (fs:List Fm) (st:St) (hs:List H):zdE :=
  match c with
  | .skip=>goN rec (unw fs) st hs
  | .label _=>goN rec (unw fs) st hs
  | .ret=>some (.fin .ret,st,hs,[])
   | .exit id=>match z8o id fs with | some fs'=>goN rec (unw fs') st hs | none=>some (.fin (.exit id),st,hs,[])
  | .region _ ops d=>
   match zap X tt ctr n ops ops.toList st hs with
   | some (st',hs',ob,lg)=>if d=false ∨ z4o ops.toList lg=true then zj7 ob (goN rec (unw fs) st' hs') else none
   | none=>none
  | .seq x y=>
   match hs with
   | .cut 0 :: hs'=>some (.at (.seq x y) fs,st,hs',[])
   | .cut (m + 1) :: hs'=>rec x (.seq y :: fs) st (.cut m :: hs')
   | hs=>rec x (.seq y :: fs) st hs
  | .cond o x y=>
   match z8e st o with
   | some b=>
    match hs with
    | .b b' :: hs'=>zj7 [b=b'] (rec (match b' with | true=>x | false=>y) fs st hs')
    | _=>none
   | none=>none
  | .block id c=>rec c (.blk id :: fs) st hs
  | .loop c=>
   match hs with
   | .u m :: hs'=>rec c (.rnd m c :: fs) st hs'
   | hs=>some (.at (.loop c) fs,st,hs,[])
  | c=>some (.at c fs,st,hs,[])
def zbG (X:XH P) (tt:TT) (ctr:Ctr) (n:Fr):Nat → Code → List Fm → St → List H → zdE
 | 0,_,_,_,_=>none
 | k + 1,c,fs,st,hs=>
  match hs with
  | .n 0 ks :: hs=>
   match qG (fun _=>none) (ks.map fun i=>(.tmp i,0)) st hs with
   | some (_,_,U,hs',ob)=>zj7 ob (zbG X tt ctr n k c fs (ze U st) hs')
   | none=>none
  | .v 0 ks :: hs=>
   match z6s ks st hs with
   | some (_,_,U,hs',ob)=>zj7 ob (zbG X tt ctr n k c fs (ze U st) hs')
   | none=>none
  | .stp 0 :: hs=>some (.at c fs,st,hs,[])
  | hs=>z6p (zbG X tt ctr n k) X tt ctr n c fs st (zr0 hs)
variable {fs:List Fm}{rec:Code → List Fm → St → List H → zdE}
section
variable {P:Program} {tt:TT} {ctr:Ctr} {n:Fr} {Q:Exit → St → Prop}
theorem z7m {k:Nat}  (hrec:∀ c fs st hs s st' hs' ob,rec c fs st hs=some (s,st',hs',ob) → z3n ob → s.sem P n Q st' → AWP P n c st (Qf P n fs Q)) :
  ∀ (fs:List Fm) {st:St} {hs:List H} {s:zb0} {st':St} {hs':List H} {ob:List Prop},goN rec (unw fs) st hs=some (s,st',hs',ob) → z3n ob → s.sem P n Q st' → Qf P n fs Q .normal st
 | [],st,hs,s,st',hs',ob,e,ho,h=>by
  simp only [unw,goN,Option.some.injEq,Prod.mk.injEq] at e
  obtain ⟨rfl,rfl,_⟩:=e
  exact h
 | .seq y :: fs,st,hs,s,st',hs',ob,e,ho,h=>by
  simp only [unw,goN] at e
  exact hrec _ _ _ _ _ _ _ _ e ho h
 | .blk id :: fs,st,hs,s,st',hs',ob,e,ho,h=>by
  simp only [unw] at e
  exact z7m (k:=k) hrec fs e ho h
 | .pre J :: fs,st,hs,s,st',hs',ob,e,ho,h=>by
  simp only [unw,goN,Option.some.injEq,Prod.mk.injEq] at e
  obtain ⟨rfl,rfl,_⟩:=e
  exact h
 | .rnd (m + 1) c :: fs,st,hs,s,st',hs',ob,e,ho,h=>by
  simp only [unw,goN] at e
  exact hrec _ _ _ _ _ _ _ _ e ho h
 | .rnd 0 c :: fs,st,hs,s,st',hs',ob,e,ho,h=>by
  simp only [unw,goN] at e
  cases e
theorem z3A {id:Nat}  : ∀ (fs:List Fm) {fs':List Fm},z8o id fs=some fs' → Qf P n fs' Q .normal st → Qf P n fs Q (.exit id) st
 | [],fs',e,h=>by cases e
 | .blk i :: fs,fs',e,h=>by
  simp only [z8o] at e
  simp only [Qf,QG]
  split at e
  ·rename_i hi
   simp only [Option.some.injEq] at e
   subst e
   rw [if_pos hi]
   exact h
  ·rename_i hi
   rw [if_neg hi]
   exact z3A fs e h
 | .seq y :: fs,fs',e,h=>z3A fs (by simpa only [z8o] using e) h
 | .pre J :: fs,fs',e,h=>z3A fs (by simpa only [z8o] using e) h
 | .rnd _ _ :: fs,fs',e,h=>z3A fs (by simpa only [z8o] using e) h
theorem z7L:∀ (fs:List Fm),Q .ret st → Qf P n fs Q .ret st
 | [],h=>h
 | .seq _ :: fs,h=>z7L fs h
 | .blk _ :: fs,h=>z7L fs h
 | .pre _ :: fs,h=>z7L fs h
 | .rnd _ _ :: fs,h=>z7L fs h
theorem z3W {id:Nat}  : ∀ (fs:List Fm),z8o id fs=none → Q (.exit id) st → Qf P n fs Q (.exit id) st
 | [],_,h=>h
 | .blk i :: fs,e,h=>by
  simp only [z8o] at e
  simp only [Qf,QG]
  split at e
  ·cases e
  ·rename_i hi
   rw [if_neg hi]
   exact z3W fs e h
 | .seq y :: fs,e,h=>z3W fs (by simpa only [z8o] using e) h
 | .pre J :: fs,e,h=>z3W fs (by simpa only [z8o] using e) h
 | .rnd _ _ :: fs,e,h=>z3W fs (by simpa only [z8o] using e) h
theorem z11 {ob:List Prop} {x:zdE} {s:zb0}   {ob':List Prop} (e:zj7 ob x=some (s,st,hs,ob')):∃ ob2,x=some (s,st,hs,ob2) ∧ ob'=ob ++ ob2:=by
 cases x with
 | none=>cases e
 | some q=>
  obtain ⟨s1,st1,hs1,ob1⟩:=q
  simp only [zj7,Option.some.injEq,Prod.mk.injEq] at e
  obtain ⟨rfl,rfl,rfl,rfl⟩:=e
  exact ⟨ob1,rfl,rfl⟩
theorem AWP.label {l:Nat}   (h:Q .normal st):AWP P n (.label l) st Q:=fun _ _ _ _ _ _ _ _ _ _ hc hs=>wpIn_label (hc.fin hs h)
theorem zeB (X:XH P) (hT:xq P tt) (hC:zB P ctr) (hm:P.follows .mixedOrders=true)  (ih:∀ c fs st hs s st' hs' ob,rec c fs st hs=some (s,st',hs',ob) → z3n ob → s.sem P n Q st' → AWP P n c st (Qf P n fs Q)) (c:Code) (fs:List Fm) (st:St) (hs:List H) (s:zb0) (st':St) (hs':List H) (ob:List Prop)
  (e:z6p rec X tt ctr n c fs st hs=some (s,st',hs',ob)) (ho:z3n ob) (h:s.sem P n Q st'):AWP P n c st (Qf P n fs Q):=by
 cases c with
 | skip=>exact AWP.skip (z7m (k:=0) ih fs e ho h)
 | label l=>exact AWP.label (z7m (k:=0) ih fs e ho h)
 | ret=>
  simp only [z6p,Option.some.injEq,Prod.mk.injEq] at e
  obtain ⟨rfl,rfl,_⟩:=e
  exact AWP.ret (z7L fs h)
 | exit id=>
  simp only [z6p] at e
  cases hx:z8o id fs with
  | none=>
   simp only [hx,Option.some.injEq,Prod.mk.injEq] at e
   obtain ⟨rfl,rfl,_⟩:=e
   exact AWP.exit (z3W fs hx h)
  | some fs'=>
   simp only [hx] at e
   exact AWP.exit (z3A fs hx (z7m (k:=0) ih fs' e ho h))
 | region id ops d=>
  simp only [z6p] at e
  cases hx:zap X tt ctr n ops ops.toList st hs with
  | none=>simp only [hx] at e; cases e
  | some q=>
   obtain ⟨st1,hs1,ob1,lg⟩:=q
   simp only [hx] at e
   by_cases hd:d=false ∨ z4o ops.toList lg=true
   ·rw [if_pos hd] at e
    obtain ⟨ob2,e2,rfl⟩:=z11 e
    obtain ⟨o1,o2⟩:=yp ho
    have hq:=z7m (k:=0) ih fs e2 o2 h
    cases d with
    | false=>exact AWP.region hT (hC.withE X.ok) (z3f _ _ _ hx o1 hq)
    | true=>exact AWP.drawn hT (hC.withE X.ok) hm (z7u _ _ _ [] hx o1 (by simpa using hd) hq)
   ·rw [if_neg hd] at e; cases e
 | seq x y=>
  have gen:∀ hs,rec x (.seq y :: fs) st hs=some (s,st',hs',ob) → AWP P n (.seq x y) st (Qf P n fs Q):=fun hs e=>AWP.seq (ih _ _ _ _ _ _ _ _ e ho h)
  rcases hs with _ | ⟨q,hs⟩
  ·exact gen _ e
  ·cases q with
   | cut m=>
    cases m with
    | zero=>
     simp only [z6p,Option.some.injEq,Prod.mk.injEq] at e
     obtain ⟨rfl,rfl,_⟩:=e
     exact h
    | succ m=>exact gen _ e
   | _=>exact gen _ e
 | cond o x y=>
  simp only [z6p] at e
  cases hb:z8e st o with
  | none=>simp only [hb] at e; cases e
  | some b=>
   simp only [hb] at e
   rcases hs with _ | ⟨q,hs⟩
   ·cases e
   ·cases q with
    | b b'=>
     obtain ⟨ob2,e2,rfl⟩:=z11 e
     have h1:b=b':=ho.1
     subst h1
     cases b with
     | true=>exact AWP.condT hb (ih _ _ _ _ _ _ _ _ e2 ho.2 h)
     | false=>exact AWP.condF hb (ih _ _ _ _ _ _ _ _ e2 ho.2 h)
    | _=>cases e
 | block id c=>exact AWP.block (ih _ _ _ _ _ _ _ _ e ho h)
 | loop c=>
  have gen:some (zb0.at (.loop c) fs,st,hs,([]:List Prop))=some (s,st',hs',ob) → AWP P n (.loop c) st (Qf P n fs Q):=by
   intro e
   simp only [Option.some.injEq,Prod.mk.injEq] at e
   obtain ⟨rfl,rfl,_⟩:=e
   exact h
  rcases hs with _ | ⟨q,hs⟩
  ·exact gen e
  ·cases q with
   | u m=>exact zja.loop (m + 1) st (ih _ _ _ _ _ _ _ _ e ho h)
   | _=>exact gen e
 | _=>
  simp only [z6p,Option.some.injEq,Prod.mk.injEq] at e
  obtain ⟨rfl,rfl,_⟩:=e
  exact h
theorem z3R (X:XH P) (hT:xq P tt) (hC:zB P ctr) (hm:P.follows .mixedOrders=true):∀ (k:Nat) (c:Code) (fs:List Fm) (st:St) (hs:List H) (s:zb0) (st':St) (hs':List H) (ob:List Prop),
  zbG X tt ctr n k c fs st hs=some (s,st',hs',ob) → z3n ob → s.sem P n Q st' → AWP P n c st (Qf P n fs Q):=by
 intro k
 induction k with
 | zero=>intro c fs st hs s st' hs' ob e; cases e
 | succ k ih=>
  intro c fs st hs s st' hs' ob e ho h
  have gen:∀ hs,z6p (zbG X tt ctr n k) X tt ctr n c fs st hs=some (s,st',hs',ob) → AWP P n c st (Qf P n fs Q):=fun hs e=>zeB X hT hC hm ih c fs st hs s st' hs' ob e ho h
  rcases hs with _ | ⟨q,hs⟩
  ·exact gen _ e
  ·cases q with
   | v m ks=>
    cases m with
    | zero=>
     simp only [zbG] at e
     cases hx:z6s ks st hs with
     | none=>simp only [hx] at e; cases e
     | some q=>
      obtain ⟨xs,R,U,hs1,ob1⟩:=q
      simp only [hx] at e
      obtain ⟨ob2,e2,rfl⟩:=z11 e
      obtain ⟨o1,o2⟩:=yp ho
      have h1:=z9u _ _ _ _ _ _ _ _ hx o1
      have h2:=ih c fs _ _ _ _ _ _ e2 o2 h
      intro rd m df w0 S0 M S Fp a w hc hs
      obtain ⟨S',Fp',g1⟩:=z7v hs h1
      exact h2 rd m df w0 S0 M S' Fp' a w hc g1
    | succ m=>exact gen _ e
   | n m ks=>
    cases m with
    | zero=>
     simp only [zbG] at e
     cases hx:qG (fun _=>none) (ks.map fun i=>(.tmp i,0)) st hs with
     | none=>simp only [hx] at e; cases e
     | some q=>
      obtain ⟨xs,R,U,hs1,ob1⟩:=q
      simp only [hx] at e
      obtain ⟨ob2,e2,rfl⟩:=z11 e
      obtain ⟨o1,o2⟩:=yp ho
      have h1:=Ze (fun _=>none) _ _ _ _ _ _ _ _ hx o1
      have h2:=ih c fs _ _ _ _ _ _ e2 o2 h
      intro rd m df w0 S0 M S Fp a w hc hs
      obtain ⟨S',Fp',g1,_⟩:=wk hs h1
      exact h2 rd m df w0 S0 M S' Fp' a w hc g1
    | succ m=>exact gen _ e
   | stp m=>
    cases m with
    | zero=>
     simp only [zbG,Option.some.injEq,Prod.mk.injEq] at e
     obtain ⟨rfl,rfl,_⟩:=e
     exact h
    | succ m=>exact gen _ e
   | _=>exact gen _ e
structure Ob where
 p:Prop
 h:p
def ob (h:p):Ob:=⟨p,h⟩
theorem z5M:∀ (l:List Ob),z3n (l.map Ob.p)
 | []=>trivial
 | o :: l=>⟨o.h,z5M l⟩
def z5F (X:XH P) (tt:TT) (ctr:Ctr) (n:Fr) (live:List Nat) (k:Nat) (c:Code) (fs:List Fm) (st:St) (hs:List H):Option (zb0 × St × List Prop) :=
 match zbG X tt ctr n k c fs st hs with
 | some (s,st',[],ob)=>some (s,canon live st',ob)
 | _=>none
theorem z9g (X:XH P) (hT:xq P tt) (hC:zB P ctr) (hm:P.follows .mixedOrders=true) (live:List Nat) (k:Nat) {c:Code} {fs:List Fm} {st:St} {hs:List H} {s:zb0} {st':St} (obs:List Ob)
  (e:z5F X tt ctr n live k c fs st hs=some (s,st',obs.map Ob.p)) (h:∀ st0,canon live st0=st' → s.sem P n Q st0):AWP P n c st (Qf P n fs Q):=by
 unfold z5F at e
 split at e
 ·rename_i s1 st1 ob1 e1
  simp only [Option.some.injEq,Prod.mk.injEq] at e
  obtain ⟨rfl,h1,rfl⟩:=e
  exact z3R X hT hC hm k c fs st hs _ _ _ _ e1 (z5M obs) (h _ h1)
 ·cases e
def sub:List Nat → Code → Code
 | [],c=>c
 | 0 :: p,.seq x _=>sub p x
 | 1 :: p,.seq _ y=>sub p y
 | 2 :: p,.seq x _=>sub p x
 | 0 :: p,.cond _ x _=>sub p x
 | 1 :: p,.cond _ _ y=>sub p y
 | _ :: p,.block _ c=>sub p c
 | _ :: p,.loop c=>sub p c
 | _ :: p,.scope c=>sub p c
 | 0 :: p,.rangeFunc _ _ c _=>sub p c
 | 1 :: p,.rangeFunc _ _ _ c=>sub p c
 | _ :: _,c=>c
def frs:List Nat → List (St → Prop) → Code → List Fm → List Fm
 | [],_,_,fs=>fs
 | 0 :: p,Js,.seq x y,fs=>frs p Js x (.seq y :: fs)
 | 1 :: p,Js,.seq _ y,fs=>frs p Js y fs
 | 2 :: p,J :: Js,.seq x _,fs=>frs p Js x (.pre J :: fs)
 | 0 :: p,Js,.cond _ x _,fs=>frs p Js x fs
 | 1 :: p,Js,.cond _ _ y,fs=>frs p Js y fs
 | _ :: p,Js,.block id c,fs=>frs p Js c (.blk id :: fs)
 | (m + 3) :: p,Js,.loop c,fs=>frs p Js c (.rnd m c :: fs)
 | _ :: p,J :: Js,.loop c,fs=>frs p Js c (.pre J :: fs)
 | _ :: p,Js,.scope c,fs=>frs p Js c fs
 | 0 :: p,Js,.rangeFunc _ _ c _,_=>frs p Js c []
 | 1 :: p,Js,.rangeFunc _ _ _ c,_=>frs p Js c []
 | _ :: _,_,_,fs=>fs
end
class LeA (x y:A):Prop where
 rep:∀ S cs,Rep S x cs → Rep S y cs
 conc:∀ S h cs F,zJ S h x cs F → zJ S h y cs F
 val:∀ cs,zS x cs=zS y cs
 tup:∀ fs,x=.tup fs → y=x
class z74 (xs ys:List A):Prop where
 rep:∀ S cs,yd S xs cs → yd S ys cs
 conc:∀ S h cs F,zM S h xs cs F → zM S h ys cs F
 len:xs.length=ys.length
 size:∀ sz,(∀ x ∈ xs,x.size=sz) → ∀ y ∈ ys,y.size=sz
instance (priority:=2000) LeA.refl (x:A):LeA x x:=⟨fun _ _ h=>h,fun _ _ _ _ h=>h,fun _=>rfl,fun _ _=>rfl⟩
instance (priority:=2000) z74.refl (x:List A):z74 x x:=⟨fun _ _ h=>h,fun _ _ _ _ h=>h,rfl,fun _ h=>h⟩
theorem z1E {S:zl} {xs ys:List A} (hl:xs.length=ys.length) (h:xs=[]):ys=[]:=by
 subst h; exact List.length_eq_zero_iff.1 hl.symm
instance LeA.osl (sz:Nat) (t:Bool) (xs ys:List A) [h:z74 xs ys]:LeA (.osl sz t xs) (.osl sz false ys):={
 rep:=fun S cs q=>by simp only [Rep] at q
 conc:=fun S hp cs F q=>by
  simp only [zJ] at q ⊢
  obtain ⟨p,c,e,h1,h2,h3,h4,h5⟩:=q
  refine ⟨p,c,by rw [← h.len]; exact e,by simp,by rw [← h.len]; exact h2,h3,h.size _ h4,?_⟩
  rcases h5 with ⟨q1,q2,q3,q4⟩ | ⟨b,arr,ty,l,F',e1,e2,e3,e4,e5,e6,e7⟩
  ·exact .inl ⟨z1E (S:=S) h.len q1,q2,q3,q4⟩
  ·exact .inr ⟨b,arr,ty,l,F',e1,e2,e3,by rw [← h.len]; exact e4,h.conc _ _ _ _ e5,e6,e7⟩
 val:=fun _=>rfl
 tup:=fun _ e=>by cases e }
instance LeA.sl (sz:Nat) (t:Bool) (xs ys:List A) [h:z74 xs ys]:LeA (.sl sz t xs) (.sl sz false ys):={
 rep:=fun S cs q=>by
  simp only [Rep] at q ⊢
  obtain ⟨p,c,e,h1,h2,h3,h4⟩:=q
  refine ⟨p,c,by rw [← h.len]; exact e,by simp,by rw [← h.len]; exact h2,h.size _ h3,?_⟩
  rcases h4 with q | ⟨b,o,l,q1,q2,q3⟩
  ·exact .inl (z1E (S:=S) h.len q)
  ·exact .inr ⟨b,o,l,q1,h.rep _ _ q2,q3⟩
 conc:=fun S hp cs F q=>by
  simp only [zJ] at q ⊢
  refine ⟨?_,q.2⟩
  have q:=q.1
  simp only [Rep] at q ⊢
  obtain ⟨p,c,e,h1,h2,h3,h4⟩:=q
  refine ⟨p,c,by rw [← h.len]; exact e,by simp,by rw [← h.len]; exact h2,h.size _ h3,?_⟩
  rcases h4 with q | ⟨b,o,l,q1,q2,q3⟩
  ·exact .inl (z1E (S:=S) h.len q)
  ·exact .inr ⟨b,o,l,q1,h.rep _ _ q2,q3⟩
 val:=fun _=>rfl
 tup:=fun _ e=>by cases e }
instance LeA.agg (xs ys:List A) [h:z74 xs ys]:LeA (.agg xs) (.agg ys):={
 rep:=fun S cs q=>by simp only [Rep] at q ⊢; exact h.rep _ _ q
 conc:=fun S hp cs F q=>by simp only [zJ] at q ⊢; exact h.conc _ _ _ _ q
 val:=fun _=>rfl
 tup:=fun _ e=>by cases e }
instance LeA.box (x y:A) [h:LeA x y]:LeA (.box x) (.box y):={
 rep:=fun S cs q=>by simp only [Rep] at q
 conc:=fun S hp cs F q=>by
  simp only [zJ] at q ⊢
  obtain ⟨b,ty,l,F',e1,e2,e3,e4,e5⟩:=q
  exact ⟨b,ty,l,F',e1,e2,h.conc _ _ _ _ e3,e4,e5⟩
 val:=fun _=>rfl
 tup:=fun _ e=>by cases e }
class SzA (x y:A):Prop where
 eq:x.size=y.size
instance (priority:=2000) SzA.refl (x:A):SzA x x:=⟨rfl⟩
class zj8 (x y:List A):Prop where
 eq:A.sizes x=A.sizes y
instance zj8.nil:zj8 [] []:=⟨rfl⟩
instance zj8.cons (x y:A) (xs ys:List A) [h:SzA x y] [k:zj8 xs ys]:zj8 (x :: xs) (y :: ys):=⟨by simp only [A.sizes,h.eq,k.eq]⟩
instance SzA.agg (xs ys:List A) [h:zj8 xs ys]:SzA (.agg xs) (.agg ys):=⟨by simp only [A.size,h.eq]⟩
instance z74.nil:z74 [] []:=z74.refl []
instance z74.cons (x y:A) (xs ys:List A) [h:LeA x y] [z:SzA x y] [k:z74 xs ys]:z74 (x :: xs) (y :: ys):={
 rep:=fun S cs q=>by
  simp only [yd] at q ⊢
  obtain ⟨c1,c2,e,q1,q2⟩:=q
  exact ⟨c1,c2,e,h.rep _ _ q1,k.rep _ _ q2⟩
 conc:=fun S hp cs F q=>by
  simp only [zM] at q ⊢
  obtain ⟨c1,c2,F1,F2,e,e2,q1,q2⟩:=q
  exact ⟨c1,c2,F1,F2,e,e2,h.conc _ _ _ _ q1,k.conc _ _ _ _ q2⟩
 len:=by simp [k.len]
 size:=fun sz q=>by
  intro y' hy
  rcases List.mem_cons.1 hy with rfl | hy
  ·rw [← z.eq]; exact q x (by simp)
  ·exact k.size sz (fun x hx=>q x (by simp [hx])) y' hy }
theorem zkV {f g:α → A} (h:∀ x,LeA (f x) (g x)) (z:∀ x,SzA (f x) (g x)):∀ l:List α,z74 (l.map f) (l.map g)
 | []=>z74.nil
 | x :: l=>@z74.cons _ _ _ _ (h x) (z x) (zkV h z l)
instance z74.map {α:Type} (f g:α → A) [h:∀ x,LeA (f x) (g x)] [z:∀ x,SzA (f x) (g x)] (l:List α):z74 (l.map f) (l.map g):=zkV h z l
variable {v:Value}
theorem LeA.repV {x y:A} (h:LeA x y)   (q:xe S x v):xe S y v:=by
 by_cases ht:∃ fs,x=.tup fs
 ·obtain ⟨fs,rfl⟩:=ht
  rw [h.tup fs rfl]; exact q
 ·have q1:wT S x v:=by cases x <;> simp only [xe] at q <;> first | exact q | exact absurd ⟨_,rfl⟩ ht
  obtain ⟨cs,c1,c2⟩:=q1
  exact wT.repV ⟨cs,h.rep _ _ c1,by rw [← h.val]; exact c2⟩
class LeV (x y:A):Prop where
 has:∀ S h v F,Has S h x v F → Has S h y v F
instance (priority:=2000) LeV.refl (x:A):LeV x x:=⟨fun _ _ _ _ h=>h⟩
instance LeV.one (x y:A) [h:LeA x y]:LeV x y:=⟨fun S hp v F q=>by
 rcases q with ⟨q,e⟩ | ⟨cs,q1,q2,q3⟩
 ·exact .inl ⟨h.repV q,e⟩
 ·exact .inr ⟨cs,h.conc _ _ _ _ q1,q2,by rw [← h.val]; exact q3⟩⟩
class z0s (xs ys:List A):Prop where
 all:∀ S vs,Xc (wT S) xs vs → Xc (wT S) ys vs
instance z0s.nil:z0s [] []:=⟨fun _ _ h=>h⟩
instance z0s.cons (x y:A) (xs ys:List A) [h:LeA x y] [k:z0s xs ys]:z0s (x :: xs) (y :: ys):=⟨fun S vs q=>by
 cases vs with
 | nil=>exact q.elim
 | cons v vs=>
  refine ⟨?_,k.all S vs q.2⟩
  obtain ⟨cs,c1,c2⟩:=q.1
  exact ⟨cs,h.rep _ _ c1,by rw [← h.val]; exact c2⟩⟩
instance LeV.tup (xs ys:List A) [k:z0s xs ys]:LeV (.tup xs) (.tup ys):=⟨fun S hp v F q=>by
 rcases q with ⟨q,e⟩ | ⟨cs,q1,q2,q3⟩
 ·simp only [xe] at q
  obtain ⟨vs,e2,q⟩:=q
  exact .inl ⟨by simp only [xe]; exact ⟨vs,e2,k.all _ _ q⟩,e⟩
 ·simp only [zJ] at q1⟩
def LeT:T → T → Prop
 | .own x,y=>∃ z,y=.own z ∧ LeA x z
 | .d x,y=>∃ z,y=.d z ∧ LeA x z
 | .als r p er ec,y=>p=[] ∧ y=.als r [] er ec
 | .gone,y=>y=.gone
 | _,_=>False
class z73 (l m:List (Nat × T)):Prop where
 ent:∀ t,(ofL l t).er=(ofL m t).er ∧ (ofL l t).ec=(ofL m t).ec ∧ LeT (ofL l t).t (ofL m t).t
instance z73.nil:z73 [] []:=⟨fun t=>⟨rfl,rfl,rfl⟩⟩
theorem z73.cons' {x y:T} {l m:List (Nat × T)} (h:LeT x y) (hl:z73 l m):z73 ((k,x) :: l) ((k,y) :: m):=⟨fun t=>by
 simp only [ofL]
 split
 ·exact ⟨rfl,rfl,h⟩
 ·exact hl.ent t⟩
instance z73.own (k:Nat) (x y:A) (l m:List (Nat × T)) [h:LeA x y] [hl:z73 l m]:z73 ((k,.own x) :: l) ((k,.own y) :: m):=z73.cons' ⟨y,rfl,h⟩ hl
instance z73.d (k:Nat) (x y:A) (l m:List (Nat × T)) [h:LeA x y] [hl:z73 l m]:z73 ((k,.d x) :: l) ((k,.d y) :: m):=z73.cons' ⟨y,rfl,h⟩ hl
instance z73.als (k r er ec:Nat) (l m:List (Nat × T)) [hl:z73 l m]:z73 ((k,.als r [] er ec) :: l) ((k,.als r [] er ec) :: m):=z73.cons' ⟨rfl,rfl⟩ hl
class LeL (l m:List (Nat × T)):Prop where
 or:l=m ∨ z73 l m
instance (priority:=2000) LeL.refl (l:List (Nat × T)):LeL l l:=⟨.inl rfl⟩
instance LeL.of0 (l m:List (Nat × T)) [h:z73 l m]:LeL l m:=⟨.inr h⟩
variable {X:List Nat}
theorem Sim.le {st st':St}   (h:Sim C S Fp X st a w) (hl:∀ t,(st t).er=(st' t).er ∧ (st t).ec=(st' t).ec ∧ LeT (st t).t (st' t).t):Sim C S Fp X st' a w:={
 size:=h.size
 pin:=h.pin
 defers:=h.defers
 below:=h.below
 mine:=h.mine
 still:=h.still
 sinc:=h.sinc
 sbase:=h.sbase
 disj:=h.disj
 base:=h.base
 xn:=h.xn
 xd:=h.xd
 xb:=h.xb
 ent:=fun t=>by
  have q:=h.ent t
  obtain ⟨_,_,l3⟩:=hl t
  unfold xm at q ⊢
  cases ht:(st t).t with
  | gone=>
   simp only [ht,LeT] at l3 q
   simp only [l3]; exact q
  | d x=>
   simp only [ht,LeT] at l3 q
   obtain ⟨z,e,l3⟩:=l3
   simp only [e]; exact ⟨l3.repV q.1,q.2⟩
  | own x=>
   simp only [ht,LeT] at l3 q
   obtain ⟨z,e,l3⟩:=l3
   simp only [e]
   obtain ⟨cs,q1,q2,q3⟩:=q
   exact ⟨cs,l3.conc _ _ _ _ q1,q2,by rw [← l3.val]; exact q3⟩
  | als r p er ec=>
   simp only [ht,LeT] at l3 q
   obtain ⟨rfl,e⟩:=l3
   simp only [e]
   refine ⟨q.1,?_⟩
   obtain ⟨q1,q2,q3⟩:=q.2
   obtain ⟨r1,r2,r3⟩:=hl r
   unfold Zc
   refine ⟨by rw [← r1]; exact q1,by rw [← r2]; exact q2,?_⟩
   cases hr:(st r).t with
   | own x=>
    simp only [hr,LeT] at q3 r3
    obtain ⟨z,e2,_⟩:=r3
    simp only [e2]
    intro g1 g2
    rcases q3 (by rw [r1]; exact g1) (.inl trivial) with g | g
    ·exact .inl g
    ·simp [JQ] at g
   | d x=>
    simp only [hr,LeT] at q3 r3
    obtain ⟨z,e2,_⟩:=r3
    simp only [e2]
    intro g1 _
    exact q3 (by rw [r1]; exact g1) trivial
   | gone=>simp only [hr,LeT] at r3; simp only [r3]
   | als u p e1 e2=>simp only [hr,LeT] at r3; simp only [r3.2]
   | ptr u p e1 e2=>simp only [hr,LeT] at r3
  | ptr r p er ec=>simp only [ht,LeT] at l3 }
variable {rs:List (Nat × Option Nat)}{st0:St}{r:A}{fn:Func}{keep:Bool}
section
variable {P:Program} {tt:TT} {ctr:Ctr} {n:Fr} {Q:Exit → St → Prop}
theorem ziR {l m:List (Nat × T)} (h:LeL l m) (k:AWP P n c (ofL m) Q):AWP P n c (ofL l) Q :=
 h.or.elim (fun e=>e ▸ k) fun h=>fun rd mm df w0 S0 M S Fp a w hc hs=>k rd mm df w0 S0 M S Fp a w hc (hs.le h.ent)
theorem zgh {X:Type} {c c':Code} {fs:List Fm}  (e:c=.loop c') (live:List Nat) (Inv:X → Prop) (mu:X → Nat) (stOf:X → List (Nat × T)) (x0:X) (l0:List (Nat × T)) (hs:canon live st0=ofL l0) (hl:LeL l0 (stOf x0)) (h0:Inv x0)
  (round:∀ x,Inv x → ∀ J:St → Prop,(∀ st' l' x',Inv x' → mu x' < mu x → canon live st'=ofL l' → LeL l' (stOf x') → J st') → AWP P n c' (ofL (stOf x)) (Qf P n (.pre J :: fs) Q)):AWP P n c st0 (Qf P n fs Q):=by
 subst e
 refine AWP.loop live (fun k st=>∃ x l,Inv x ∧ mu x=k ∧ st=ofL l ∧ LeL l (stOf x)) (mu x0) ⟨x0,l0,h0,rfl,hs,hl⟩ ?_
 rintro k st ⟨x,l,hx,rfl,rfl,hl⟩
 refine ziR hl ?_
 exact round x hx _ fun st' l' x' h1 h2 h3 h4=>⟨_,h2,x',l',h1,rfl,h3,h4⟩
theorem zgi {X:Type} {c x y:Code}   (e:c=.seq x y) (live live0:List Nat) (l0:List (Nat × T)) (hs:canon live0 st0=ofL l0) (Inv:X → Prop) (stJ:X → List (Nat × T)) (h1:∀ z,Inv z → AWP P n y (ofL (stJ z)) (Qf P n fs Q))
  (h2:∀ J:St → Prop,(∀ st' l' z,Inv z → canon live st'=ofL l' → LeL l' (stJ z) → J st') → AWP P n x (ofL l0) (Qf P n (.pre J :: fs) Q)):AWP P n c st0 (Qf P n fs Q):=by
 subst e
 refine AWP.canon live0 ?_
 rw [hs]
 refine AWP.nextC live fun K hK=>h2 K fun st' l' z hz he hl=>hK st' ?_
 rw [he]
 exact ziR hl (h1 z hz)
def zbK (tt:TT) (keep:Bool) (rs:List (Nat × Option Nat)):SM A :=
 match keep,rs with
 | true,[(t,none)]=>zj4 tt true [t]
 | _,rs=>zks tt rs
def zf5 (tt:TT) (keep:Bool) (rs:List (Nat × Option Nat)):HM A :=
 match keep,rs with
 | true,[(t,none)]=>y3 (zj4 tt true [t])
 | _,rs=>qG tt (rs.map fun r=>(.tmp r.1,0)) >>= fun xs=>
  match ZM tt rs xs with
  | some [y]=>pure y
  | some ys=>pure (.tup ys)
  | none=>zK
theorem zgw (tt:TT) (rs:List (Nat × Option Nat)):Snd (zks tt rs) (qG tt (rs.map fun r=>(.tmp r.1,0)) >>= fun xs=>
  match ZM tt rs xs with
  | some [y]=>pure y
  | some ys=>pure (.tup ys)
  | none=>zK):=by
 refine zh (Ze _ _) fun xs=>?_
 cases ZM tt rs xs with
 | none=>exact zq _
 | some ys=>rcases ys with _ | ⟨y,_ | ⟨z,l⟩⟩ <;> exact xZ _
theorem zki (tt:TT) (keep:Bool) (rs:List (Nat × Option Nat)):Snd (zbK tt keep rs) (zf5 tt keep rs):=by
 cases keep with
 | false=>rcases rs with _ | ⟨⟨t,_ | ty⟩,_ | ⟨q,l⟩⟩ <;> exact zgw _ _
 | true=>rcases rs with _ | ⟨⟨t,_ | ty⟩,_ | ⟨q,l⟩⟩ <;> first | exact zk _ | exact zgw _ _
theorem zga {n:Fr}  {body:Code} {keep:Bool} {rs:List (Nat × Option Nat)} {ls:List A} {r:A} (hT:xq P tt) (hf:P.funcs[k]?=some fn) (hnm:(fn.name == "runtime.NumGoroutine")=false) (hb:fn.body=some body)
  (hn:n=⟨fn.ntmps,[]⟩) (hr:fn.results=(rs.map z7n).toArray) (ha:ls.length ≤ fn.ntmps)
  (h:∀ E:St → Prop,(∀ st x R U,zbK tt keep rs st=some (x,R,U) → LeV x r → E st) → AWP P n body (ofL (z9P 0 ls)) (Qf P n [] (zaW E))):Y5 P k ls r:=by
 have h':=h (fun st=>∃ x R U,zbK tt keep rs st=some (x,R,U) ∧ LeV x r) fun st x R U h1 h2=>⟨x,R,U,h1,h2⟩
 refine ⟨⟨fn,hf,hnm,by rw [hb]; rfl⟩,?_⟩
 intro S w vs F hS hq hF
 have h2:AWP P n body (ini ls) (fun ex st=>(ex=.normal ∨ ex=.ret) ∧ ∃ x R U,zbK tt keep rs st=some (x,R,U) ∧ LeV x r):=by
  rw [z5Q]
  refine AWP.mono h' ?_
  intro e st q
  cases e with
  | normal=>exact ⟨.inl rfl,q⟩
  | ret=>exact ⟨.inr rfl,q⟩
  | _=>exact q.elim
 refine z1N (R:=fun w e w'=>∃ v' S' F',e=.returned v' ∧ Xb (fun k=>w.heap.size ≤ k ∨ k ∈ F) w w' ∧ (∀ b o u,S b o=some u → S' b o=some u) ∧ (∀ b o,b < w.heap.size → b ∉ F → S' b o=S b o) ∧ yn S' w' ∧ Has S' w'.heap r v' F' ∧ F'.Nodup ∧
   ∀ k ∈ F',w.heap.size ≤ k ∨ k ∈ F) hf hb (by rw [hn]) (by rw [hn]; simp) ha hS hq hF h2 ?_
 rintro ex st' ⟨hx,x,R,U,h3,h4⟩
 refine ⟨hx,?_⟩
 intro df S' Fp' a' w' h1
 have gcase:zks tt rs st'=some (x,R,U) → ∃ v,(results fn a'.tmps).run P w'=.ok v w' ∧ ∃ v' S' F',Ending.returned v=.returned v' ∧ Xb (fun k=>w.heap.size ≤ k ∨ k ∈ F) w w' ∧ (∀ b o u,S b o=some u → S' b o=some u) ∧ (∀ b o,b < w.heap.size → b ∉ F → S' b o=S b o) ∧ yn S' w' ∧ Has S' w'.heap r v' F' ∧ F'.Nodup ∧
   ∀ k ∈ F',w.heap.size ≤ k ∨ k ∈ F:=by
  intro he
  obtain ⟨v,S2,hres,g1,g2,g3,g4⟩:=zhX (P:=P) hT hr h1 he
  refine ⟨_,hres,_,S2,[],rfl,h1.below,fun b o u hu=>g1 _ _ _ (h1.sinc _ _ _ hu),?_,g3,h4.has _ _ _ _ (.inl ⟨g4,rfl⟩),by simp,by simp⟩
  intro b o hb' hbF
  exact g2 b o (by rintro (hq | hq) <;> first | omega | exact hbF hq)
 cases keep with
 | false=>exact gcase (by rcases rs with _ | ⟨⟨t,_ | ty⟩,_ | ⟨q,l⟩⟩ <;> exact h3)
 | true=>
  rcases rs with _ | ⟨⟨t,_ | ty⟩,_ | ⟨q,l⟩⟩
  ·exact gcase h3
  ·have h3':zj4 tt true [t] st'=some (x,R,U):=h3
   obtain ⟨hl,S2,F',g1,g2,g3,g4,g5,g6⟩:=zhY h1 h3'
   refine ⟨_,z8S (P:=P) (ts:=[t]) hr hl a' w',_,S2,F',rfl,h1.below,fun b o u hu=>g1 _ _ _ (h1.sinc _ _ _ hu),?_,g3,h4.has _ _ _ _ g4,g5,g6⟩
   intro b o hb' hbF
   exact g2 b o (by rintro (hq | hq) <;> first | omega | exact hbF hq)
  ·exact gcase h3
  ·exact gcase h3
  ·exact gcase h3
def zj3 (X:XH P) (tt:TT) (ctr:Ctr) (n:Fr) (keep:Bool) (rs:List (Nat × Option Nat)) (k:Nat) (c:Code) (fs:List Fm) (st:St) (hs:List H):Option (A × List Prop) :=
 match zbG X tt ctr n k c fs st hs with
 | some (.fin .normal,st',hs',ob)=>match zf5 tt keep rs st' hs' with | some (x,_,_,[],ob')=>some (x,ob ++ ob') | _=>none
 | some (.fin .ret,st',hs',ob)=>match zf5 tt keep rs st' hs' with | some (x,_,_,[],ob')=>some (x,ob ++ ob') | _=>none
 | _=>none
theorem zgQ (X:XH P) (hT:xq P tt) (hC:zB P ctr) (hm:P.follows .mixedOrders=true) {E:St → Prop}    (hE:∀ st x R U,zbK tt keep rs st=some (x,R,U) → LeV x r → E st) (k:Nat) {c:Code} {fs:List Fm} {st:St} {hs:List H} {x:A} (obs:List Ob)
  (e:zj3 X tt ctr n keep rs k c fs st hs=some (x,obs.map Ob.p)) (hle:LeV x r):AWP P n c st (Qf P n fs (zaW E)):=by
 unfold zj3 at e
 have fin:∀ {st' hs' ob},(match zf5 tt keep rs st' hs' with | some (x,_,_,[],ob')=>some (x,ob ++ ob') | _=>none)=some (x,obs.map Ob.p) → z3n ob ∧ E st':=by
  intro st' hs' ob e
  split at e
  ·rename_i x1 R U ob' he
   simp only [Option.some.injEq,Prod.mk.injEq] at e
   obtain ⟨rfl,e2⟩:=e
   have ha:=z5M obs
   rw [← e2] at ha
   obtain ⟨o1,o2⟩:=yp ha
   exact ⟨o1,hE _ _ _ _ (zki tt keep rs _ _ _ _ _ _ _ he o2) hle⟩
  ·cases e
 split at e
 ·rename_i st' hs' ob' he
  obtain ⟨h1,h2⟩:=fin e
  exact z3R X hT hC hm k c fs st hs _ _ _ _ he h1 h2
 ·rename_i st' hs' ob' he
  obtain ⟨h1,h2⟩:=fin e
  exact z3R X hT hC hm k c fs st hs _ _ _ _ he h1 h2
 ·cases e
end
abbrev w64 (x:Int):Int:=IntKind.i64.wrap x
def idx (l:List α):Int → Option α
 | .ofNat n=>l[n]?
 | .negSucc _=>none
inductive LR (σ τ:Type) where
 | next (s:σ)
 | done (t:τ)
variable {σ τ:Type}
def z0d (step:σ → Option (LR σ τ)) (n:Nat):σ → Option τ :=
 Nat.rec (fun _=>none) (fun _ ih s=>match step s with | none=>none | some (.next s')=>ih s' | some (.done t)=>some t) n
def V1:Nat:=18446744073709551616
def loop (step:σ → Option (LR σ τ)) (s:σ):Option τ:=z0d step V1 s
def znW (step:σ → Option (LR σ τ)) (m:Nat) (t:τ):LR σ τ → Prop
 | .next s'=>z0d step m s'=some t
 | .done t'=>t'=t
theorem zoD {step:σ → Option (LR σ τ)} {n:Nat} {s:σ} {t:τ} (h:z0d step n s=some t):∃ m lr,n=m + 1 ∧ step s=some lr ∧ znW step m t lr:=by
 cases n with
 | zero=>cases h
 | succ m=>
  have h':(match step s with | none=>none | some (.next s')=>z0d step m s' | some (.done t)=>some t)=some t:=h
  cases hs:step s with
  | none=>simp [hs] at h'
  | some lr=>
   refine ⟨m,lr,rfl,rfl,?_⟩
   cases lr with
   | next s'=>simp only [hs] at h'; exact h'
   | done t'=>simp only [hs,Option.some.injEq] at h'; exact h'
theorem zf {α β:Type} {x:Option α} {f:α → Option β} {r:β} (h:Option.bind x f=some r):∃ u,x=some u ∧ f u=some r:=by
 cases x with
 | none=>cases h
 | some u=>exact ⟨u,rfl,h⟩
theorem zL {c:Bool} {x y:Option α} {r:α} (h:(bif c then x else y)=some r):(c=true ∧ x=some r) ∨ (c=false ∧ y=some r):=by
 cases c
 ·exact .inr ⟨rfl,h⟩
 ·exact .inl ⟨rfl,h⟩
def gd (p:Prop) [Decidable p] (x:Option α):Option α:=if p then x else none
theorem gdE [Decidable p] {x:Option α} {r:α} (h:gd p x=some r):p ∧ x=some r:=by
 unfold gd at h
 by_cases hp:p
 ·rw [if_pos hp] at h; exact ⟨hp,h⟩
 ·rw [if_neg hp] at h; cases h
theorem zb {a b:α} (h:some a=some b):a=b:=by cases h; rfl
variable {gives:List Bool}{β:Type}{i:Int}
section
variable {α:Type}
def eI (k:IntKind) (x:Int):A:=.atom (.int k x)
def eB (b:Bool):A:=.atom (.bool b)
def eSl (sz:Nat) (t:Bool) (f:α → A) (l:List α):A:=.sl sz t (l.map f)
def eOs (sz:Nat) (t:Bool) (f:α → A) (l:List α):A:=.osl sz t (l.map f)
def eBx (f:α → A) (x:α):A:=.box (f x)
def eSp (f:α → A) (x:α):A:=.sptr (f x)
def zaY (k:Nat) (_:Unit):A:=.fn k []
def Qk (k:Nat) (f:α → A) (x:α):A:=.fn k [f x]
def zrP (k:Nat) (f:α → A) (g:β → A) (x:α × β):A:=.fn k [f x.1,g x.2]
def zoM (f:α → A) (g:β → A) (x:α × β):A:=.agg [f x.1,g x.2]
def zrO {β γ:Type} (f:α → A) (g:β → A) (h:γ → A) (x:α × β × γ):A:=.agg [f x.1,g x.2.1,h x.2.2]
class z0v (f:α → A):Prop where
 isD:∀ x,(f x).isD=true
class zpD (f:α → A):Prop where
 no:∀ x,(f x).isD=false
class Xr (f:α → A) (g:outParam (α → A)):Prop where
 lo:∀ x,(f x).loose=g x
class z2u (f:α → A) (g:outParam (α → A)):Prop where
 live:∀ x,(f x).live=true
 sh:∀ x,(f x).shut=g x
class vL (f:α → A):Prop where
 inj:∀ x y,f x=f y → x=y
instance (k:IntKind):z0v (eI k):=⟨fun _=>rfl⟩
instance:z0v eB:=⟨fun _=>rfl⟩
instance (sz:Nat) (t:Bool) (f:α → A):z0v (eSl sz t f):=⟨fun _=>rfl⟩
instance (k:Nat):Xr (zaY k) (zaY k):=⟨fun _=>rfl⟩
instance (k:Nat) (f f':α → A) [h:Xr f f']:Xr (Qk k f) (Qk k f'):=⟨fun x=>by simp only [Qk,A.loose,A.looses,h.lo]⟩
instance (k:Nat):vL (zaY k):=⟨fun _ _ _=>rfl⟩
instance (k:Nat) (f:α → A) [h:vL f]:vL (Qk k f):=⟨fun a b e=>by simp only [Qk,A.fn.injEq,List.cons.injEq,true_and,and_true] at e; exact h.inj _ _ e⟩
instance (sz:Nat) (t:Bool) (f:α → A):zpD (eOs sz t f):=⟨fun _=>rfl⟩
instance (k:IntKind):Xr (eI k) (eI k):=⟨fun _=>rfl⟩
instance:Xr eB eB:=⟨fun _=>rfl⟩
instance (sz:Nat) (t:Bool) (f g:α → A) [h:Xr f g]:Xr (eSl sz t f) (eSl sz false g):=⟨fun l=>by simp only [eSl,A.loose,z5N,h.lo]⟩
instance (sz:Nat) (t:Bool) (f g:α → A) [h:Xr f g]:Xr (eOs sz t f) (eOs sz false g):=⟨fun l=>by simp only [eOs,A.loose,z5N,h.lo]⟩
instance (f g:α → A) [h:Xr f g]:Xr (eSp f) (eSp g):=⟨fun l=>by simp only [eSp,A.loose,h.lo]⟩
instance (k:IntKind):z2u (eI k) (eI k):=⟨fun _=>rfl,fun _=>rfl⟩
instance:z2u eB eB:=⟨fun _=>rfl,fun _=>rfl⟩
instance (sz:Nat) (t:Bool) (f:α → A):z2u (eSl sz t f) (eSl sz t f):=⟨fun _=>rfl,fun _=>rfl⟩
instance (sz:Nat) (t:Bool) (f g:α → A) [h:z2u f g]:z2u (eOs sz t f) (eSl sz t g):=⟨fun l=>by simp only [eOs,A.live]; exact z4a f l h.live,fun l=>by simp only [eOs,eSl,A.shut,z3J,h.sh]⟩
instance (k:IntKind):vL (eI k):=⟨fun a b h=>by simpa [eI] using h⟩
instance:vL eB:=⟨fun a b h=>by simpa [eB] using h⟩
theorem zce {f:α → β} (hf:∀ a b,f a=f b → a=b):∀ {l l':List α},l.map f=l'.map f → l=l'
 | [],[],_=>rfl
 | [],_ :: _,h=>by simp at h
 | _ :: _,[],h=>by simp at h
 | a :: l,b :: l',h=>by
  simp only [List.map_cons,List.cons.injEq] at h
  rw [hf _ _ h.1,zce hf h.2]
instance (sz:Nat) (t:Bool) (f:α → A) [h:vL f]:vL (eSl sz t f):=⟨fun a b e=>by simp only [eSl,A.sl.injEq,true_and] at e; exact zce h.inj e⟩
instance (sz:Nat) (t:Bool) (f:α → A) [h:vL f]:vL (eOs sz t f):=⟨fun a b e=>by simp only [eOs,A.osl.injEq,true_and] at e; exact zce h.inj e⟩
instance (f:α → A) [h:vL f]:vL (eSp f):=⟨fun a b e=>by simp only [eSp,A.sptr.injEq] at e; exact h.inj _ _ e⟩
instance (sz sz':Nat) (t t':Bool) (f g:α → A) (l l':List α):SzA (eSl sz t f l) (eSl sz' t' g l'):=⟨rfl⟩
instance (sz:Nat) (t:Bool) (f g:α → A) [h:∀ x,LeA (f x) (g x)] [z:∀ x,SzA (f x) (g x)] (l:List α):LeA (eSl sz t f l) (eSl sz false g l):=LeA.sl sz t (l.map f) (l.map g)
instance (sz:Nat) (t:Bool) (f g:α → A) [h:∀ x,LeA (f x) (g x)] [z:∀ x,SzA (f x) (g x)] (l:List α):LeA (eOs sz t f l) (eOs sz false g l):=LeA.osl sz t (l.map f) (l.map g)
theorem i0 {l:List α}  {u:α} (h:idx l i=some u):0 ≤ i:=by
 cases i with
 | ofNat n=>exact Int.natCast_nonneg n
 | negSucc n=>cases h
theorem iE {l:List α}  {u:α} (h:idx l i=some u):l[i.toNat]?=some u:=by
 cases i with
 | ofNat n=>exact h
 | negSucc n=>cases h
theorem iM (f:α → A) {l:List α}  {u:α} (h:idx l i=some u):(l.map f)[i.toNat]?=some (f u):=by rw [List.getElem?_map,iE h]; rfl
theorem iL (f:α → A) {l:List α}  {u:α} (h:idx l i=some u):0 ≤ i ∧ i.toNat < (l.map f).length:=⟨i0 h,by rw [List.length_map]; exact (List.getElem?_eq_some_iff.1 (iE h)).1⟩
theorem arJ {fs:List A} {j:Int} (h0:Zb tt t fs 0=true) (hj:0 ≤ j):Zb tt t fs j=true:=by
 unfold Zb at h0 ⊢
 split at h0
 ·simp only [Int.le_refl,decide_true,Bool.and_true,Bool.and_eq_true] at h0
  simp only [hj,decide_true,Bool.and_true,Bool.and_eq_true]
  exact h0
 ·cases h0
theorem sM (f:α → A) (l:List α) (i:Int) (v:α):(l.map f).set i.toNat (f v)=(l.set i.toNat v).map f:=by rw [List.map_set]
theorem dM (f:α → A) [h:z0v f] (l:List α):A.areD (l.map f)=true:=z6Z f l h.isD
theorem d1 (f:α → A) [h:z0v f] (x:α):A.areD [f x]=true:=by simp [A.areD,h.isD]
theorem o1 (f:α → A) [h:zpD f] (x:α):A.areD [f x]=false:=by simp [A.areD,h.no]
theorem shM (f g:α → A) [h:z2u f g] (l:List α):A.lives (l.map f)=true ∧ A.shuts (l.map f)=l.map g:=⟨z4a f l h.live,by rw [z3J]; simp only [h.sh]⟩
theorem aM (f:α → A) (l m:List α):l.map f ++ m.map f=(l ++ m).map f:=by rw [List.map_append]
theorem aL (f g:α → A) {l m:List α} (h:l.length + m.length ≤ 4294967296):(l.map f).length + (m.map g).length ≤ lim:=by simpa [lim] using h
theorem aN (f g:α → A) [z0v g] {l m:List α} (h:l.length + m.length ≤ 4294967296) (hm:m ≠ []):(l.map g).length + (m.map f).length ≤ lim ∧ m.map f ≠ [] ∧ A.areD (l.map g)=true:=⟨by simpa [lim] using h,by simpa using hm,dM g l⟩
theorem rM (sz:Nat) (f:α → A) (n:Int) (z:α):A.osl sz (decide (n=n)) (List.replicate n.toNat (f z))=eOs sz true f (List.replicate n.toNat z):=by simp [eOs]
theorem rL {n:Int} (h:0 ≤ n ∧ n ≤ 4294967296):0 ≤ n ∧ n ≤ n ∧ n ≤ ((lim:Nat):Int):=⟨h.1,Int.le_refl _,h.2⟩
theorem lnM (f:α → A) (l:List α):A.atom (.int .i64 (((l.map f).length:Nat):Int))=.atom (.int .i64 ((l.length:Nat):Int)):=by rw [List.length_map]
theorem oC (f:α → A) [h:zpD f] (x:α) (l:List α):A.areD ((x :: l).map f)=false:=by simp [A.areD,h.no]
theorem aM0 (f:α → A) (m:List α):([]:List A) ++ m.map f=m.map f:=rfl
theorem slB {a b:Int} {r:Prop} (h:0 ≤ a ∧ a ≤ b ∧ r):0 ≤ b:=Int.le_trans h.1 h.2.1
theorem slC {a b m:Int} {r:Prop} (h:0 ≤ a ∧ a ≤ b ∧ r ∧ b ≤ m):0 ≤ m:=by omega
theorem zkf (f:α → A) {l:List α} {b:Int} (h:(0:Int) ≤ 0 ∧ 0 ≤ b ∧ b ≤ ((l.length:Nat):Int)):0 ≤ b.toNat ∧ b.toNat ≤ (l.map f).length:=by simp; omega
theorem zke (f:α → A) {l:List α} {b m:Int} (h:(0:Int) ≤ 0 ∧ 0 ≤ b ∧ m ≤ ((l.length:Nat):Int) ∧ b ≤ m):0 ≤ b.toNat ∧ b.toNat ≤ m.toNat ∧ m.toNat ≤ (l.map f).length:=by simp; omega
theorem zqd (sz:Nat) (f:α → A) (l:List α) (a b:Nat):A.sl sz (b == b) (((l.map f).drop a).take (b - a))=eSl sz true f ((l.drop a).take (b - a)):=by simp [eSl]
def mx (a b:Int):Int:=if a < b then b else a
theorem cuB (f:α → A) {l:List α} {b:Int} (h:0 ≤ b ∧ b ≤ ((l.length:Nat):Int)):b.toNat ≤ (l.map f).length:=by simp; omega
theorem cuM (f:α → A) (l:List α) (b:Int):(l.map f).take b.toNat=(l.take b.toNat).map f:=by rw [List.map_take]
theorem slM (sz:Nat) (t:Bool) (f:α → A) (l:List α) (a b:Nat):A.sl sz t (((l.map f).drop a).take (b - a))=eSl sz t f ((l.drop a).take (b - a)):=by simp [eSl]
def spF (k:Nat) {α ρ:Type} (enc:α → List A) (encR:ρ → A) (F:α → Option ρ) (gives:List Bool) (inj:∀ x y,enc x=enc y → x=y):zO:={
 α:=α
 k:=k
 raw:=false
 gives:=gives
 enc:=enc
 pre:=fun x=>∃ r,F x=some r
 f:=fun x=>match F x with | some r=>encR r | none=>.dead 0
 inj:=by
  intro x y h _ _
  rw [inj x y h] }
theorem z1M {c:Ctr}  {α ρ:Type} {enc:α → List A} {encR:ρ → A} {F:α → Option ρ}  {inj:∀ x y,enc x=enc y → x=y} (h:c.Has (spF k enc encR F gives inj)) {x:α} {r:ρ} (hr:F x=some r) {as_:List A} (ha:as_.map A.loose=enc x) :
  c.run k (c.norm k as_)=some (encR r):=by
 have h1:=h.run x ⟨r,hr⟩
 have h2:c.raw k=false:=h.raw
 unfold Ctr.norm
 rw [h2]
 simp only [Bool.false_eq_true,if_false]
 rw [ha]
 refine Eq.trans h1 ?_
 simp only [spF,hr]
theorem z1L {c:Ctr}  {α ρ:Type} {enc:α → List A} {encR:ρ → A} {F:α → Option ρ}  {inj:∀ x y,enc x=enc y → x=y} (h:c.Has (spF k enc encR F gives inj)):c.lend k=none ∧ c.gives k=gives:=⟨h.lend,h.gives⟩
theorem zD {α ρ:Type} {enc:α → List A} {encR:ρ → A} {F:α → Option ρ}  {inj:∀ x y,enc x=enc y → x=y} (h:∀ x r,F x=some r → Y5 P k (enc x) (encR r)):(spF k enc encR F gives inj).Ok P:=by
 rintro x ⟨r,hr⟩
 have:=h x r hr
 simpa only [spF,hr] using this
theorem loN:([]:List A).map A.loose=[]:=rfl
theorem loC (f:α → A) {g:α → A} [h:Xr f g] (x:α) {as_ bs:List A} (k:as_.map A.loose=bs):(f x :: as_).map A.loose=g x :: bs:=by simp only [List.map_cons,h.lo,k]
end
section
variable {P:Program} {tt:TT} {ctr:Ctr} {n:Fr} {Q:Exit → St → Prop}
theorem zgj (X:XH P) (hT:xq P tt) (hC:zB P ctr) (hm:P.follows .mixedOrders=true) (live:List Nat) (k:Nat) {c:Code} {fs:List Fm} {st:St} (hs:List H) (c':Code) (fs':List Fm) (l':List (Nat × T)) (obs:List Ob)
  (e:z5F X tt ctr n live k c fs st hs=some (.at c' fs',ofL l',obs.map Ob.p)) (h:∀ st0,canon live st0=ofL l' → AWP P n c' st0 (Qf P n fs' Q)):AWP P n c st (Qf P n fs Q):=z9g X hT hC hm live k obs e h
theorem zdm (X:XH P) (hT:xq P tt) (hC:zB P ctr) (hm:P.follows .mixedOrders=true) (live:List Nat) (k:Nat) {c:Code} {fs:List Fm} {st:St} (hs:List H) (J:St → Prop) (l':List (Nat × T)) (obs:List Ob)
  (e:z5F X tt ctr n live k c fs st hs=some (.back J,ofL l',obs.map Ob.p)) (h:∀ st0,canon live st0=ofL l' → J st0):AWP P n c st (Qf P n fs Q):=z9g X hT hC hm live k obs e h
end
open Classical
def z5p:A → Option (List Value)
 | .atom (.int k x)=>some [.int k x]
 | .atom (.string s)=>some [.string s]
 | .agg fs=>keyLs fs
 | _=>none
where keyLs:List A → Option (List Value)
 | []=>some []
 | a :: as_=>match z5p a,keyLs as_ with | some x,some y=>some (x ++ y) | _,_=>none
def z1o (a:A):Option Value:=(z5p a).map (zS a)
mutual
theorem z9N:∀ {a:A} {cs l:List Value},Rep S a cs → z5p a=some l → cs=l
 | .atom v,cs,l,h,e=>by
  cases v <;> simp only [z5p] at e <;> first | (cases e; done) | skip
  all_goals
   simp only [Rep] at h
   cases e
   exact h.1
 | .agg fs,cs,l,h,e=>by
  simp only [Rep] at h
  simp only [z5p] at e
  exact z7Z h e
 | .fn _ _,_,_,_,e=>by cases e
 | .tup _,_,_,_,e=>by cases e
 | .sl _ _ _,_,_,_,e=>by cases e
 | .sptr _,_,_,_,e=>by cases e
 | .dop _,_,_,_,e=>by cases e
 | .osl _ _ _,_,_,_,e=>by cases e
 | .box _,_,_,_,e=>by cases e
 | .dead _,_,_,_,e=>by cases e
 | .opq _,_,_,_,e=>by cases e
theorem z7Z:∀ {as_:List A} {cs l:List Value},yd S as_ cs → z5p.keyLs as_=some l → cs=l
 | [],cs,l,h,e=>by
  simp only [yd] at h
  simp only [z5p.keyLs] at e
  cases e
  exact h
 | a :: as_,cs,l,h,e=>by
  simp only [yd] at h
  obtain ⟨c1,c2,rfl,h1,h2⟩:=h
  simp only [z5p.keyLs] at e
  cases e1:z5p a with
  | none=>simp only [e1] at e; cases e
  | some x=>
   cases e2:z5p.keyLs as_ with
   | none=>simp only [e1,e2] at e; cases e
   | some y=>
    simp only [e1,e2] at e
    cases e
    rw [z9N h1 e1,z7Z h2 e2]
end
theorem z9M {a:A} {v kv:Value} (h:wT S a v) (e:z1o a=some kv):v=kv:=by
 obtain ⟨cs,h1,rfl⟩:=h
 unfold z1o at e
 obtain ⟨l,e1,rfl⟩:=Option.map_eq_some_iff.1 e
 rw [z9N h1 e1]
def z2t (S:zl) (es:List (A × A)) (ents:List MapEntry):Prop:=Xc (fun p (e:MapEntry)=>z1o p.1=some e.key ∧ wT S p.2 e.val) es ents
def QE (es:List (A × A)):Opq:={
 holds:=fun S h u F=>∃ b ents cl,u=.map (some b) ∧ F=[b] ∧ h[b]?=some (.map ents cl) ∧ (∀ o,S b o=none) ∧ z2t S es ents.toList
 one:=fun ⟨_,_,_,e,_⟩=>.inl (by rw [e]; rfl)
 frame:=fun hS hF ⟨b,ents,cl,e1,e2,e3,e4,e5⟩=>by
  subst e2
  obtain ⟨g1,g2⟩:=hF b (by simp)
  exact ⟨b,ents,cl,e1,rfl,g1.trans e3,g2,Xc.mono (fun _ _ q=>⟨q.1,q.2.mono hS⟩) e5⟩
 own:=fun ⟨b,ents,cl,e1,e2,e3,e4,e5⟩ k hk=>by
  subst e2
  simp only [List.mem_cons,List.not_mem_nil,or_false] at hk
  subst hk
  exact ⟨(Array.getElem?_eq_some_iff.1 e3).1,e4⟩
 idx:=0 }
def Qe (k:A):List (A × A) → Nat → Option (Nat × A)
 | [],_=>none
 | p :: es,i=>if z1o p.1=z1o k then some (i,p.2) else Qe k es (i + 1)
def z0i (k:Value):List MapEntry → Nat → Option (Nat × Value)
 | [],_=>none
 | e :: es,i=>if e.key=k then some (i,e.val) else z0i k es (i + 1)
variable {kv:Value}
theorem z6L {k:A}  (hk:z1o k=some kv):∀ {es:List (A × A)} {ents:List MapEntry} {i:Nat},z2t S es ents →
  (Qe k es i=none ∧ z0i kv ents i=none) ∨ ∃ j y v,Qe k es i=some (j,y) ∧ z0i kv ents i=some (j,v) ∧ wT S y v ∧ i ≤ j ∧ j < i + es.length ∧ (ents[j - i]?).map (·.key)=some kv
 | [],[],i,_=>.inl ⟨rfl,rfl⟩
 | p :: es,e :: ents,i,h=>by
  simp only [Qe,z0i]
  by_cases hp:z1o p.1=z1o k
  ·have he:e.key=kv:=by
    have:=h.1.1.symm.trans (hp.trans hk)
    simpa using this
   rw [if_pos hp,if_pos he]
   exact .inr ⟨i,p.2,e.val,rfl,rfl,h.1.2,Nat.le_refl _,by simp,by simp [he]⟩
  ·have he:¬ e.key=kv:=fun q=>hp (by rw [h.1.1,hk,q])
   rw [if_neg hp,if_neg he]
   rcases z6L hk (i:=i + 1) h.2 with q | ⟨j,y,v,q1,q2,q3,q4,q5,q6⟩
   ·exact .inl q
   ·refine .inr ⟨j,y,v,q1,q2,q3,by omega,by simp only [List.length_cons]; omega,?_⟩
    rw [show j - i=(j - (i + 1)) + 1 by omega,List.getElem?_cons_succ]
    exact q6
 | [],_ :: _,_,h=>h.elim
 | _ :: _,[],_,h=>h.elim
structure zdy (P:Program) (t kt et:Nat) (ok:A → Bool) (z:A):Prop where
 und:P.underlying t=some (.map kt et)
 zero:∃ zv,(∀ w,(zeroValue et).run P w=.ok zv w) ∧ ∀ S,wT S z zv
 check:∀ a kv e w,ok a=true → z1o a=some kv → (Instr.checkKey e 10000 kt kv).run P w=.ok () w
 find:∀ a kv,ok a=true → z1o a=some kv → ∀ (ents:List MapEntry) (es:List (A × A)),(∀ p ∈ es,ok p.1=true) → Xc (fun p (e:MapEntry)=>z1o p.1=some e.key) es ents → ∀ w,(Instr.findKey kt kv ents).run P w=.ok (z0i kv ents 0) w
 bits:∀ a kv,ok a=true → z1o a=some kv → Instr.sameBits 10000 kv kv=true
 key:∀ a,ok a=true → ∃ kv,z1o a=some kv
 zd:z.isD=true
variable {es:List (A × A)}
section
variable {P:Program} {C:Ctx} {S:zl} {Fp:Nat → List Nat} {X:List Nat} {st:St} {a:Act} {w:World} {t kt et:Nat} {ok:A → Bool} {z:A}
def zfw (n:Fr) (dst:Option Nat) (es:List (A × A)) (ok:A → Bool) (z:A) (x k:Operand) (two:Bool):SM Unit:=do
 let tx ← opnd x
 let y ← peek tx
 let tk ← opnd k
 let vk ← val tk
 if y=.opq (QE es) ∧ ok vk=true ∧ ∀ p ∈ es,ok p.1=true then
  wrT n dst (.d (match Qe vk es 0 with
   | some (_,v)=>if two=true then .tup [v,.atom (.bool true)] else v
   | none=>if two=true then .tup [z,.atom (.bool false)] else z))
 else zp
theorem z6D {q:Opq}  (h:xe S (.opq q) v ∨ ∃ cs F,zJ S w.heap (.opq q) cs F ∧ v=zS (.opq q) cs):∃ F,q.holds S w.heap v F:=by
 rcases h with h | ⟨cs,F,h1,h2⟩
 ·simp only [xe,wT,Rep,false_and,exists_false] at h
 ·simp only [zJ] at h1
  obtain ⟨u,rfl,h1⟩:=h1
  exact ⟨F,by rw [h2]; exact h1⟩
theorem zfu (mt:zdy P t kt et ok z)  {ents:Array MapEntry} {cl b:Nat} (hb:w.heap[b]?=some (.map ents cl)) (he:z2t S es ents.toList) (hok:∀ p ∈ es,ok p.1=true) {vk:A}  (hv:ok vk=true) (hk:z1o vk=some kv) (two:Bool) :
    ∃ v,(Instr.lookup t (.map (some b)) kv two).run P w=.ok v w ∧ xe S (match Qe vk es 0 with
      | some (_,v)=>if two=true then .tup [v,.atom (.bool true)] else v
      | none=>if two=true then .tup [z,.atom (.bool false)] else z) v:=by
  obtain ⟨zv,z1,z2⟩:=mt.zero
  have hf:=mt.find vk kv hv hk ents.toList es hok (Xc.mono (fun _ _ q=>q.1) he) w
  have hc:=mt.check vk kv ents.isEmpty w hv hk
  have run:(Instr.lookup t (.map (some b)) kv two).run P w=(do
        let (v,b) ← match z0i kv ents.toList 0 with
          | some (_,v)=>pure (v,true)
          | none=>pure (← zeroValue et,false)
        pure (if two then .tuple #[v,.bool b] else v):Sem Value).run P w:=by
    unfold Instr.lookup
    rw [Sem.run_bind,run_underlying mt.und,Result.andThen_ok]
    have hg:(getObj b).run P w=.ok (.map ents cl) w:=by simp [getObj,Sem.run,hb]
    simp only [Sem.run_bind,hg,Result.andThen_ok,Sem.run_pure,hc,hf]
    cases z0i kv ents.toList 0 <;> rfl
  rcases z6L hk (i:=0) he with ⟨q1,q2⟩ | ⟨j,y,v,q1,q2,q3,_⟩
  · rw [q1]
    refine ⟨if two=true then .tuple #[zv,.bool false] else zv,?_,?_⟩
    · rw [run,q2]; simp [z1]
    · cases two
      · exact (z2 S).repV
      · simp only [if_true,xe]
        exact ⟨[zv,.bool false],rfl,z2 S,yW.2 ⟨rfl,rfl⟩,trivial⟩
  · rw [q1]
    refine ⟨if two=true then .tuple #[v,.bool true] else v,?_,?_⟩
    · rw [run,q2]; simp
    · cases two
      · exact q3.repV
      · simp only [if_true,xe]
        exact ⟨[v,.bool true],rfl,q3,yW.2 ⟨rfl,rfl⟩,trivial⟩
theorem zfv (mt:zdy P t kt et ok z) (h:Sim C S Fp [] st a w)   {x k:Operand} {two:Bool} (ho:o.op=.lookup t x k two)    (e:zfw C.n o.dst es ok z x k two st=some (u,R,U)):vF P C o a w (ze U st):=by
 unfold zfw at e
 obtain ⟨tx,R1,U1,R2,U2,h1,e1,rfl,rfl⟩:=bind_some e
 obtain ⟨rfl,hx⟩:=zC h h1
 obtain ⟨y,R3,U3,R4,U4,h3,e2,rfl,rfl⟩:=bind_some e1
 obtain ⟨rfl,qx⟩:=Q8 h hx h3
 simp only [ze,List.nil_append] at e2 ⊢
 obtain ⟨tk,R5,U5,R6,U6,h5,e3,rfl,rfl⟩:=bind_some e2
 obtain ⟨rfl,hk⟩:=zC h h5
 obtain ⟨vk,R7,U7,R8,U8,h7,e4,rfl,rfl⟩:=bind_some e3
 obtain ⟨rfl,qk⟩:=vM h hk h7
 simp only [ze,List.nil_append] at e4 ⊢
 split at e4
 ·rename_i hc
  obtain ⟨rfl,c2,c3⟩:=hc
  obtain ⟨F,b,ents,cl,ev,_,g1,_,g3⟩:=z6D qx
  obtain ⟨kv,hkv⟩:=mt.key vk c2
  have hkd:a.eval k=kv:=by
   refine z9M (S:=S) ?_ hkv
   cases vk <;> first | exact qk | (simp only [z1o,z5p,Option.map_none] at hkv; cases hkv)
  obtain ⟨v,r1,r2⟩:=zfu mt g1 g3 c3 c2 hkv two
  obtain ⟨Fp',hs⟩:=xL h e4 (x:=.d _) r2
  exact zn (by simp [execOp,ho,ev,hkd,r1]) hs
 ·exact (z7 e4).elim
def zgB (es:List (A × A)) (k v:A):List (A × A) :=
 match Qe k es 0 with
 | some (j,_)=>es.set j (k,v)
 | none=>es ++ [(k,v)]
def zj2 (es:List (A × A)) (ok:A → Bool) (x k v:Operand):SM Unit:=do
 let tx ← opnd x
 match tx with
 | .als r [] er ec=>do
  let e ← rdE r
  let tk ← opnd k
  let vk ← val tk
  let tv ← opnd v
  let vv ← val tv
  if e.t=.own (.opq (QE es)) ∧ e.er=er ∧ ok vk=true ∧ vv.isD=true ∧ ∀ p ∈ es,ok p.1=true then
   wrE r ⟨.own (.opq (QE (zgB es vk vv))),e.er,e.ec + 1⟩
  else zp
 | _=>zp
theorem z9s:∀ {es:List (A × A)} {ents:List MapEntry} {j:Nat} {p:A × A} {f:MapEntry → MapEntry},z2t S es ents → (∀ e,ents[j]?=some e → z1o p.1=some (f e).key ∧ wT S p.2 (f e).val) → z2t S (es.set j p) (ents.modify j f)
 | [],[],j,p,f,_,_=>by simp only [List.set_nil,List.modify_nil]; exact trivial
 | q :: es,e :: ents,0,p,f,h,hf=>by
  have:=hf e (by simp)
  simp only [List.set_cons_zero,List.modify_zero_cons]
  exact ⟨this,h.2⟩
 | q :: es,e :: ents,j + 1,p,f,h,hf=>by
  simp only [List.set_cons_succ,List.modify_succ_cons]
  exact ⟨h.1,z9s h.2 (fun e' he'=>hf e' (by simpa using he'))⟩
 | [],_ :: _,_,_,_,h,_=>h.elim
 | _ :: _,[],_,_,_,h,_=>h.elim
theorem zb6 (mt:zdy P t kt et ok z) (h:Sim C S Fp [] st a w)   {x k v:Operand} (ho:o.op=.mapUpdate t x k v ∨ o.op=.insert t x k v) (hd:o.dst=none)    (e:zj2 es ok x k v st=some (u,R,U)):vF P C o a w (ze U st):=by
 unfold zj2 at e
 obtain ⟨tx,R1,U1,R2,U2,h1,e1,rfl,rfl⟩:=bind_some e
 obtain ⟨rfl,hx⟩:=zC h h1
 simp only [ze,List.nil_append] at e1 ⊢
 split at e1
 ·rename_i r er ec
  obtain ⟨en,R3,U3,R4,U4,h3,e2,rfl,rfl⟩:=bind_some e1
  obtain ⟨rfl,rfl,rfl⟩:=y7 h3
  simp only [ze,List.nil_append] at e2 ⊢
  obtain ⟨tk,R5,U5,R6,U6,h5,e3,rfl,rfl⟩:=bind_some e2
  obtain ⟨rfl,hk⟩:=zC h h5
  obtain ⟨vk,R7,U7,R8,U8,h7,e4,rfl,rfl⟩:=bind_some e3
  obtain ⟨rfl,qk⟩:=vM h hk h7
  simp only [ze,List.nil_append] at e4 ⊢
  obtain ⟨tv,R9,U9,R10,U10,h9,e5,rfl,rfl⟩:=bind_some e4
  obtain ⟨rfl,hv⟩:=zC h h9
  obtain ⟨vv,R11,U11,R12,U12,h11,e6,rfl,rfl⟩:=bind_some e5
  obtain ⟨rfl,qv⟩:=vM h hv h11
  simp only [ze,List.nil_append] at e6 ⊢
  split at e6
  ·rename_i hc
   obtain ⟨c1,c2,c3,c4,c5⟩:=hc
   obtain ⟨rfl,rfl⟩:=xH e6
   have hr:=h.ent r
   unfold xm at hr
   simp only [c1] at hr
   obtain ⟨cs,k1,k2,k3⟩:=hr
   simp only [zJ] at k1
   obtain ⟨v0,rfl,b,ents,cl,rfl,hF,g1,g2,g3⟩:=k1
   have hev:a.eval x=.map (some b):=by
    have:=hx.2.2
    simp only [c1] at this
    rcases this c2 (.inl trivial) with ⟨_,q⟩ | ⟨q,_⟩
    ·rw [q,k3]; rfl
    ·simp [JQ] at q
   obtain ⟨kv,hkv⟩:=mt.key vk c3
   have hkd:a.eval k=kv:=by
    refine z9M (S:=S) ?_ hkv
    cases vk <;> first | exact qk | (simp only [z1o,z5p,Option.map_none] at hkv; cases hkv)
   have hvd:wT S vv (a.eval v):=qv.rep1 c4
   have hf:=mt.find vk kv c3 hkv ents.toList es c5 (Xc.mono (fun _ _ q=>q.1) g3) w
   have hck:=mt.check vk kv false w c3 hkv
   have hget:(getObj b).run P w=.ok (.map ents cl) w:=by simp [getObj,Sem.run,g1]
   have hset:∀ o',(setObj b o').run P w=.ok () (w.putObj b o'):=by intro o'; simp [setObj,Sem.run,g1,World.putObj]
   have hbM:C.M b:=h.base r b (by rw [hF]; simp)
   have hoth:∀ k o',k ≠ b → (w.putObj b o').heap[k]?=w.heap[k]?:=fun k o' hk=>World.putObj_heap_other hk
   have hlt:b < w.heap.size:=(Array.getElem?_eq_some_iff.1 g1).1
   have fin:∀ ents' cl' es',z2t S es' ents'.toList → ∃ Fp',Sim C S Fp' [] (upd st r ⟨.own (.opq (QE es')),(st r).er,(st r).ec + 1⟩) a (w.putObj b (.map ents' cl')):=by
    intro ents' cl' es' he'
    refine ⟨_,h.change r (.own (.opq (QE es'))) _ _ [b] ?_ (fun _ _ _ q=>q) ?_ h.sbase ?_ ⟨⟨[.map (some b)],?_,by simp,k3⟩,_,c1⟩ (.inl ⟨_,c1⟩) (Nat.le_refl _) (Nat.lt_succ_self _) ?_ ?_ (by simp) (by simp) (by simp) (by simp)⟩
    ·exact h.below.trans ⟨rfl,rfl,rfl,Nat.le_refl _,by simp [World.putObj],fun k hk=>hoth k _ (by rintro rfl; exact hk hbM)⟩
    ·intro b' o' v' hs
     have:=h.still b' o' v' hs
     unfold y5 at this ⊢
     rw [hoth b' _ (by rintro rfl; rw [g2] at hs; cases hs)]
     exact this
    ·intro t' k' ht' hk'
     exact ⟨hoth k' _ (by rintro rfl; exact ht' (h.disj t' r _ hk' (by rw [hF]; simp))),(h.free t' k' hk').2.1⟩
    ·simp only [zJ]
     exact ⟨_,rfl,b,ents',cl',rfl,rfl,World.putObj_heap_same hlt,g2,he'⟩
    ·intro t' k' ht' hk' hk2
     simp only [List.mem_cons,List.not_mem_nil,or_false] at hk'
     subst hk'
     exact ht' (h.disj t' r _ hk2 (by rw [hF]; simp))
    ·intro k' hk'
     simp only [List.mem_cons,List.not_mem_nil,or_false] at hk'
     subst hk'
     exact hbM
   have run:(Instr.mapUpdate t (.map (some b)) kv (a.eval v)).run P w=(do
     match z0i kv ents.toList 0 with
     | some (i,_)=>do
      let key ← Instr.keyThatStays (((ents[i]?).map (·.key)).getD kv) kv
      setObj b (.map (ents.modify i fun e=>{ e with key,val:=a.eval v }) cl)
     | none=>setObj b (.map (ents.push { key:=kv,val:=a.eval v,born:=cl }) (cl + 1)):Sem Unit).run P w:=by
    unfold Instr.mapUpdate
    rw [Sem.run_bind,run_underlying mt.und,Result.andThen_ok]
    simp only [Sem.run_bind,hget,Result.andThen_ok,hck,hf]
    cases z0i kv ents.toList 0 <;> rfl
   simp only [ze]
   have good:∀ w',(Instr.mapUpdate t (.map (some b)) kv (a.eval v)).run P w=.ok () w' → ∀ es' Fp',Sim C S Fp' [] (upd st r ⟨.own (.opq (QE es')),(st r).er,(st r).ec + 1⟩) a w' → vF P C o a w (upd st r ⟨.own (.opq (QE es')),(st r).er,(st r).ec + 1⟩):=by
    intro w' hw es' Fp' hs
    refine z85 (w':=w') ?_ hd hs
    rcases ho with ho | ho <;> simp [execOp,ho,hev,hkd,hw]
   rcases z6L hkv (i:=0) g3 with ⟨q1,q2⟩ | ⟨j,y,v',q1,q2,q3,q4,q5,q6⟩
   ·have he':z2t S (zgB es vk vv) (ents.push { key:=kv,val:=a.eval v,born:=cl }).toList:=by
     simp only [zgB,q1,Array.toList_push]
     exact z3l g3 ⟨⟨hkv,hvd⟩,trivial⟩
    obtain ⟨Fp',hs⟩:=fin _ (cl + 1) _ he'
    exact good _ (by rw [run,q2]; exact hset _) _ _ hs
   ·have hkey:(ents[j]?).map (·.key)=some kv:=by
     simp only [Nat.sub_zero] at q6
     rw [← Array.getElem?_toList]; exact q6
    have he':z2t S (zgB es vk vv) (ents.modify j fun e=>{ e with key:=kv,val:=a.eval v }).toList:=by
     simp only [zgB,q1]
     rw [Array.toList_modify]
     exact z9s g3 fun _ _=>⟨hkv,hvd⟩
    obtain ⟨Fp',hs⟩:=fin _ cl _ he'
    refine good _ ?_ _ _ hs
    rw [run,q2]
    simp only [hkey,Option.getD_some,Instr.keyThatStays,mt.bits vk kv c3 hkv,if_true,Sem.run_bind,Sem.run_pure,Result.andThen_ok,hset]
  ·exact (z7 e6).elim
 ·exact (z7 e1).elim
end
section
variable {P:Program} {C:Ctx} {S:zl} {Fp:Nat → List Nat} {X:List Nat} {st:St} {a:Act} {w:World} {t kt et:Nat} {ok:A → Bool} {z:A}
def zcd (n:Fr) (dst:Option Nat):SM Unit:=wrT n dst (.own (.opq (QE [])))
theorem zcc (h:Sim C S Fp [] st a w)  (ho:o.op=.makeMap t none)    (e:zcd C.n o.dst st=some (u,R,U)):vF P C o a w (ze U st):=by
 have h2:=h.alloc (by simp) (.map #[] 0)
 have hc:zJ S (w.alloc (.map #[] 0)).heap (.opq (QE [])) [.map (some w.heap.size)] [w.heap.size]:=by
  simp only [zJ]
  exact ⟨_,rfl,w.heap.size,#[],0,rfl,rfl,heap_alloc_new w _,fun o=>h.free_new (Nat.le_refl _) o,trivial⟩
 obtain ⟨Fp'',hs⟩:=Vn (F:=[w.heap.size]) (X:=[]) h2 e hc (by simp)
 refine zn (v:=.map (some w.heap.size)) ?_ hs
 simp [execOp,ho,Instr.makeMap]
def zfo (n:Fr) (dst:Option Nat) (es:List (A × A)) (x:Operand):SM Unit:=do
 let tx ← opnd x
 let y ← peek tx
 if y=.opq (QE es) then wrT n dst (.d (.atom (.int .i64 (es.length:Nat)))) else zp
theorem zfn (mt:zdy P t kt et ok z) (h:Sim C S Fp [] st a w)   {x:Operand} (ho:o.op=.call ⟨.builtin .len,⟨[x]⟩,⟨[t]⟩⟩)    (e:zfo C.n o.dst es x st=some (u,R,U)):vF P C o a w (ze U st):=by
 unfold zfo at e
 obtain ⟨tx,R1,U1,R2,U2,h1,e1,rfl,rfl⟩:=bind_some e
 obtain ⟨rfl,hx⟩:=zC h h1
 obtain ⟨y,R3,U3,R4,U4,h3,e2,rfl,rfl⟩:=bind_some e1
 obtain ⟨rfl,qx⟩:=Q8 h hx h3
 simp only [ze,List.nil_append] at e2 ⊢
 split at e2
 ·rename_i hc
  subst hc
  obtain ⟨F,b,ents,cl,ev,_,g1,_,g3⟩:=z6D qx
  have hl:es.length=ents.size:=by simpa using z72 g3
  obtain ⟨Fp',hs⟩:=xL h e2 (x:=.d _) (zy.2 ⟨rfl,rfl⟩)
  refine zn ?_ hs
  have hg:(getObj b).run P w=.ok (.map ents cl) w:=by simp [getObj,Sem.run,g1]
  simp [execOp,ho,resolve,invoke,builtin,Builtin.len_,ev,run_underlying mt.und,hg,goInt,hl]
 ·exact (z7 e2).elim
end
def zgH (n:Fr) (dst:Option Nat) (es:List (A × A)) (ok:A → Bool) (z:A) (x k:Operand) (two:Bool):HM Unit :=
 y3 (opnd x) >>= fun tx=>z5o tx >>= fun y=>y3 (opnd k) >>= fun tk=>z0t tk >>= fun vk=>
 Zg (y=.opq (QE es) ∧ ok vk=true ∧ ∀ p ∈ es,ok p.1=true) (eqA (match Qe vk es 0 with
   | some (_,v)=>if two=true then .tup [v,.atom (.bool true)] else v
   | none=>if two=true then .tup [z,.atom (.bool false)] else z) >>= fun r=>y3 (wrT n dst (.d r)))
theorem zhM (n:Fr) (dst:Option Nat) (es:List (A × A)) (ok:A → Bool) (z:A) (x k:Operand) (two:Bool):Snd (zfw n dst es ok z x k two) (zgH n dst es ok z x k two) :=
 zh (zk _) fun _=>zh (z0N _) fun _=>zh (zk _) fun _=>zh (Zy _) fun _=>wd (Kd (zX _ fun r=>wrT n dst (.d r)).symm (zh (z5k _) fun _=>zk _))
def zo6 (es es':List (A × A)) (ok:A → Bool) (x k v:Operand):HM Unit:=y3 (opnd x) >>= fun tx=>
 match tx with
 | .als r [] er ec=>y3 (rdE r) >>= fun e=>y3 (opnd k) >>= fun tk=>z0t tk >>= fun vk=>y3 (opnd v) >>= fun tv=>z0t tv >>= fun vv=>
  Zg (e.t=.own (.opq (QE es)) ∧ e.er=er ∧ ok vk=true ∧ vv.isD=true ∧ ∀ p ∈ es,ok p.1=true) (Zg (zgB es vk vv=es') (y3 (wrE r ⟨.own (.opq (QE es')),e.er,e.ec + 1⟩)))
 | _=>zK
theorem zgv (es es':List (A × A)) (ok:A → Bool) (x k v:Operand):Snd (zj2 es ok x k v) (zo6 es es' ok x k v):=by
 refine zh (zk _) fun tx=>?_
 cases tx with
 | als r p er ec=>
  cases p with
  | nil=>
   refine zh (zk _) fun e=>zh (zk _) fun tk=>zh (Zy _) fun vk=>zh (zk _) fun tv=>zh (Zy _) fun vv=>wd ?_
   exact z1C fun hq=>by rw [hq]; exact zk _
  | cons _ _=>exact zq _
 | _=>exact zq _
def zkR (n:Fr) (dst:Option Nat) (es:List (A × A)) (x:Operand):HM Unit:=y3 (opnd x) >>= fun tx=>z5o tx >>= fun y=>Zg (y=.opq (QE es)) (eqA (.atom (.int .i64 (es.length:Nat))) >>= fun r=>y3 (wrT n dst (.d r)))
theorem zkn (n:Fr) (dst:Option Nat) (es:List (A × A)) (x:Operand):Snd (zfo n dst es x) (zkR n dst es x) :=
 zh (zk _) fun _=>zh (z0N _) fun _=>wd (Kd (zX _ fun r=>wrT n dst (.d r)).symm (zh (z5k _) fun _=>zk _))
def zjc (P:Program) (d:Nat):XH P:={
 e:=fun n o=>match o.op with | .makeMap _ none=>if o.dst=some d then some (zcd n o.dst) else none | _=>none
 h:=fun n o=>match o.op with | .makeMap _ none=>if o.dst=some d then some (y3 (zcd n o.dst)) else none | _=>none
 ok:=by
  refine ⟨?_,?_⟩
  ·intro C S Fp st a w o m u R U e h h2
   dsimp only at e
   split at e
   ·rename_i ho
    split at e
    ·cases e; exact zcc h ho h2
    ·cases e
   ·cases e
  ·intro n o m e
   dsimp only at e
   split at e
   ·split at e
    ·cases e; exact fun st st' a R U=>Loc.wrT _ _ _ st st' a R U
    ·cases e
   ·cases e
 none:=by
  intro n o e
  skip
  split at e
  ·split at e
   ·cases e
   ·rename_i hd; rw [if_neg hd]
  ·rfl
 some:=by
  intro n o m e
  skip
  split at e
  ·split at e
   ·rename_i hd; cases e; exact ⟨_,by rw [if_pos hd],zk _⟩
   ·cases e
  ·cases e }
variable {z:A}
def zb1 {t kt et:Nat} {ok:A → Bool}  (mt:zdy P t kt et ok z) (d:Nat) (es:List (A × A)):XH P:={
 e:=fun n o=>match o.op with | .lookup t' x k two=>if o.dst=some d ∧ t'=t then some (zfw n o.dst es ok z x k two) else none | _=>none
 h:=fun n o=>match o.op with | .lookup t' x k two=>if o.dst=some d ∧ t'=t then some (zgH n o.dst es ok z x k two) else none | _=>none
 ok:=by
  refine ⟨?_,?_⟩
  ·intro C S Fp st a w o m u R U e h h2
   dsimp only at e
   split at e
   ·rename_i t' x k two ho
    split at e
    ·rename_i hd
     obtain ⟨_,rfl⟩:=hd
     cases e; exact zfv mt h ho h2
    ·cases e
   ·cases e
  ·intro n o m e
   dsimp only at e
   split at e
   ·split at e
    ·cases e
     refine Loc.bind (Loc.opnd _) fun _=>Loc.bind (Loc.peek _) fun _=>Loc.bind (Loc.opnd _) fun _=>Loc.bind (Loc.val _) fun _=>Loc.ite (Loc.wrT _ _ _) Loc.fail
    ·cases e
   ·cases e
 none:=by
  intro n o e
  skip
  split at e
  ·split at e
   ·cases e
   ·rename_i hd; rw [if_neg hd]
  ·rfl
 some:=by
  intro n o m e
  skip
  split at e
  ·split at e
   ·rename_i hd; cases e; exact ⟨_,by rw [if_pos hd],zhM _ _ _ _ _ _ _ _⟩
   ·cases e
  ·cases e }
def zo0 {t kt et:Nat} {ok:A → Bool}  (mt:zdy P t kt et ok z) (d:Nat) (es:List (A × A)):XH P:={
 e:=fun n o=>match o.op with | .call ⟨.builtin .len,⟨[x]⟩,⟨[t']⟩⟩=>if o.dst=some d ∧ t'=t then some (zfo n o.dst es x) else none | _=>none
 h:=fun n o=>match o.op with | .call ⟨.builtin .len,⟨[x]⟩,⟨[t']⟩⟩=>if o.dst=some d ∧ t'=t then some (zkR n o.dst es x) else none | _=>none
 ok:=by
  refine ⟨?_,?_⟩
  ·intro C S Fp st a w o m u R U e h h2
   dsimp only at e
   split at e
   ·rename_i x t' ho
    split at e
    ·rename_i hd
     obtain ⟨_,rfl⟩:=hd
     cases e; exact zfn mt h ho h2
    ·cases e
   ·cases e
  ·intro n o m e
   dsimp only at e
   split at e
   ·split at e
    ·cases e
     exact Loc.bind (Loc.opnd _) fun _=>Loc.bind (Loc.peek _) fun _=>Loc.ite (Loc.wrT _ _ _) Loc.fail
    ·cases e
   ·cases e
 none:=by
  intro n o e
  skip
  split at e
  ·split at e
   ·cases e
   ·rename_i hd; rw [if_neg hd]
  ·rfl
 some:=by
  intro n o m e
  skip
  split at e
  ·split at e
   ·rename_i hd; cases e; exact ⟨_,by rw [if_pos hd],zkn _ _ _ _⟩
   ·cases e
  ·cases e }
def zpF {t kt et:Nat} {ok:A → Bool}  (mt:zdy P t kt et ok z) (q:Nat) (es es':List (A × A)):XH P:={
 e:=fun n o=>match o.op with
  | .mapUpdate t' (.tmp x) k v=>if x=q ∧ t'=t ∧ o.dst=none then some (zj2 es ok (.tmp x) k v) else none
  | .insert t' (.tmp x) k v=>if x=q ∧ t'=t ∧ o.dst=none then some (zj2 es ok (.tmp x) k v) else none
  | _=>none
 h:=fun n o=>match o.op with
  | .mapUpdate t' (.tmp x) k v=>if x=q ∧ t'=t ∧ o.dst=none then some (zo6 es es' ok (.tmp x) k v) else none
  | .insert t' (.tmp x) k v=>if x=q ∧ t'=t ∧ o.dst=none then some (zo6 es es' ok (.tmp x) k v) else none
  | _=>none
 ok:=by
  have loc:∀ x k v,Loc (zj2 es ok x k v):=by
   intro x k v
   refine Loc.bind (Loc.opnd _) fun tx=>?_
   split
   ·exact Loc.bind (Loc.rdE _) fun _=>Loc.bind (Loc.opnd _) fun _=>Loc.bind (Loc.val _) fun _=>Loc.bind (Loc.opnd _) fun _=>Loc.bind (Loc.val _) fun _=>Loc.ite (Loc.wrE _ _) Loc.fail
   ·exact Loc.fail
  refine ⟨?_,?_⟩
  ·intro C S Fp st a w o m u R U e h h2
   dsimp only at e
   split at e
   ·rename_i t' x k v ho
    split at e
    ·rename_i hd
     obtain ⟨_,rfl,hd⟩:=hd
     cases e; exact zb6 mt h (.inl ho) hd h2
    ·cases e
   ·rename_i t' x k v ho
    split at e
    ·rename_i hd
     obtain ⟨_,rfl,hd⟩:=hd
     cases e; exact zb6 mt h (.inr ho) hd h2
    ·cases e
   ·cases e
  ·intro n o m e
   dsimp only at e
   split at e
   ·split at e
    ·cases e; exact loc _ _ _
    ·cases e
   ·split at e
    ·cases e; exact loc _ _ _
    ·cases e
   ·cases e
 none:=by
  intro n o e
  skip
  split at e
  ·split at e
   ·cases e
   ·rename_i hd; rw [if_neg hd]
  ·split at e
   ·cases e
   ·rename_i hd; rw [if_neg hd]
  ·rfl
 some:=by
  intro n o m e
  skip
  split at e
  ·split at e
   ·rename_i hd; cases e; exact ⟨_,by rw [if_pos hd],zgv _ _ _ _ _ _⟩
   ·cases e
  ·split at e
   ·rename_i hd; cases e; exact ⟨_,by rw [if_pos hd],zgv _ _ _ _ _ _⟩
   ·cases e
  ·cases e }
variable {K V:Type}
def z8p [BEq K]:List (K × V) → K → Option V
 | [],_=>none
 | p :: l,x=>if p.1 == x then some p.2 else z8p l x
def zdC [BEq K]:List (K × V) → K → V → List (K × V)
 | [],x,v=>[(x,v)]
 | p :: l,x,v=>if p.1 == x then (x,v) :: l else p :: zdC l x v
class zpE {K:Type} [BEq K] (f:K → A):Prop where
 eq:∀ x y,(z1o (f x)=z1o (f y)) ↔ (x == y)=true
def ZP (f:K → A) (g:V → A) (l:List (K × V)):List (A × A):=l.map fun p=>(f p.1,g p.2)
theorem z9V {f:K → A} {g:V → A} (x:K):∀ (l:List (K × V)) (i j:Nat) (y:A),Qe (f x) (ZP f g l) i=some (j,y) → i ≤ j
 | [],_,_,_,e=>by cases e
 | p :: l,i,j,y,e=>by
  simp only [ZP,List.map_cons,Qe] at e
  split at e
  ·cases e; exact Nat.le_refl _
  ·exact Nat.le_of_succ_le (z9V x l (i + 1) j y e)
section
variable {K V:Type} [BEq K] {f:K → A} {g:V → A} [hk:zpE f]
theorem z6M (x:K):∀ (l:List (K × V)) (i:Nat),(Qe (f x) (ZP f g l) i).map (·.2)=(z8p l x).map g
 | [],_=>rfl
 | p :: l,i=>by
  simp only [ZP,List.map_cons,Qe,z8p]
  by_cases h:(p.1 == x)=true
  ·rw [if_pos ((hk.eq _ _).2 h),if_pos h]; rfl
  ·rw [if_neg (fun q=>h ((hk.eq _ _).1 q)),if_neg h]; exact z6M x l (i + 1)
theorem zbQ (x:K) (v:V):∀ (l:List (K × V)) (i:Nat),(match Qe (f x) (ZP f g l) i with | some (j,_)=>(ZP f g l).set (j - i) (f x,g v) | none=>ZP f g l ++ [(f x,g v)])=ZP f g (zdC l x v)
 | [],_=>rfl
 | p :: l,i=>by
  simp only [ZP,List.map_cons,Qe,zdC]
  by_cases h:(p.1 == x)=true
  ·rw [if_pos ((hk.eq _ _).2 h),if_pos h]
   simp [ZP]
  ·rw [if_neg (fun q=>h ((hk.eq _ _).1 q)),if_neg h]
   have ih:=zbQ x v l (i + 1)
   simp only [List.map_cons]
   simp only [ZP] at ih
   cases hf:Qe (f x) (l.map fun p=>(f p.1,g p.2)) (i + 1) with
   | none=>
    simp only [hf] at ih ⊢
    simp only [List.cons_append,ih]
   | some q=>
    obtain ⟨j,y⟩:=q
    have hle:=z9V (f:=f) (g:=g) x l (i + 1) j y hf
    simp only [hf] at ih ⊢
    rw [show j - i=(j - (i + 1)) + 1 by omega,List.set_cons_succ,ih]
theorem zbO (x:K) (v:V) (l:List (K × V)):zgB (ZP f g l) (f x) (g v)=ZP f g (zdC l x v):=by
 have:=zbQ (f:=f) (g:=g) x v l 0
 simpa only [Nat.sub_zero,zgB] using this
theorem zqD {z0:V}  (hz:g z0=z) (x:K) (l:List (K × V)):(match Qe (f x) (ZP f g l) 0 with
      | some (_,v)=>if false=true then A.tup [v,.atom (.bool true)] else v
      | none=>if false=true then A.tup [z,.atom (.bool false)] else z)=g ((z8p l x).getD z0):=by
  have:=z6M (f:=f) (g:=g) x l 0
  cases hf:Qe (f x) (ZP f g l) 0 with
  | none=>rw [hf] at this; cases hm:z8p l x with | none=>simp [hz] | some y=>simp [hm] at this
  | some q=>obtain ⟨j,y⟩:=q; rw [hf] at this; cases hm:z8p l x with | none=>simp [hm] at this | some y'=>simp [hm] at this; simp [this]
theorem zrN {z0:V}  (hz:g z0=z) (x:K) (l:List (K × V)):(match Qe (f x) (ZP f g l) 0 with
      | some (_,v)=>if true=true then A.tup [v,.atom (.bool true)] else v
      | none=>if true=true then A.tup [z,.atom (.bool false)] else z)=.tup [g ((z8p l x).getD z0),.atom (.bool (z8p l x).isSome)]:=by
  have:=z6M (f:=f) (g:=g) x l 0
  cases hf:Qe (f x) (ZP f g l) 0 with
  | none=>rw [hf] at this; cases hm:z8p l x with | none=>simp [hz] | some y=>simp [hm] at this
  | some q=>obtain ⟨j,y⟩:=q; rw [hf] at this; cases hm:z8p l x with | none=>simp [hm] at this | some y'=>simp [hm] at this; simp [this]
end
theorem z8b {f:K → A} {g:V → A} {ok:A → Bool} (h:∀ x,ok (f x)=true) (l:List (K × V)):∀ p ∈ ZP f g l,ok p.1=true:=by
 intro p hp
 obtain ⟨q,_,rfl⟩:=List.mem_map.1 hp
 exact h _
theorem ziB (f:K → A) (g:V → A) (l:List (K × V)):A.atom (.int .i64 (((ZP f g l).length:Nat):Int))=.atom (.int .i64 ((l.length:Nat):Int)):=by simp [ZP]
def zcX:List IntKind → List Value → Bool
 | [],[]=>true
 | k :: ks,.int k' _ :: vs=>k' == k && zcX ks vs
 | _,_=>false
def z49 (ks:List IntKind):A → Bool
 | .agg fs=>match z5p.keyLs fs with | some l=>zcX ks l | none=>false
 | _=>false
variable {ks:List IntKind}
theorem Up {a:A} (h:z49 ks a=true):∃ l,z5p a=some l ∧ zcX ks l=true ∧ z1o a=some (.agg l.toArray):=by
 unfold z49 at h
 split at h
 ·rename_i fs
  cases e:z5p.keyLs fs with
  | none=>simp [e] at h
  | some l=>
   simp only [e] at h
   exact ⟨l,by simp only [z5p,e],h,by simp only [z1o,z5p,e,Option.map_some,zS]⟩
 ·cases h
theorem z3i:∀ {ks:List IntKind} {l:List Value},zcX ks l=true → l.length=ks.length
 | [],[],_=>rfl
 | k :: ks,v :: l,h=>by
  cases v <;> simp only [zcX] at h <;> first | (cases h; done) | skip
  simp only [Bool.and_eq_true] at h
  simp [z3i h.2]
 | [],_ :: _,h=>by cases h
 | _ :: _,[],h=>by cases h
theorem zcW:∀ {ks:List IntKind} {l m:List Value},zcX ks l=true → zcX ks m=true → ∃ r,yX l m=some r ∧ (r=true ↔ m=l)
 | [],[],[],_,_=>⟨true,rfl,by simp⟩
 | k :: ks,v :: l,u :: m,h1,h2=>by
  cases v <;> simp only [zcX] at h1 <;> first | (cases h1; done) | skip
  cases u <;> simp only [zcX] at h2 <;> first | (cases h2; done) | skip
  simp only [Bool.and_eq_true,beq_iff_eq] at h1 h2
  obtain ⟨rfl,h1⟩:=h1
  obtain ⟨rfl,h2⟩:=h2
  obtain ⟨r,q1,q2⟩:=zcW h1 h2
  rename_i a _ b
  refine ⟨(a == b) && r,by simp [yX,q1],?_⟩
  simp only [Bool.and_eq_true,beq_iff_eq,List.cons.injEq,Value.int.injEq,true_and,q2]
  constructor
  ·rintro ⟨rfl,rfl⟩; exact ⟨rfl,rfl⟩
  ·rintro ⟨rfl,rfl⟩; exact ⟨rfl,rfl⟩
 | [],_ :: _,_,h,_=>by cases h
 | [],[],_ :: _,_,h=>by cases h
 | _ :: _,[],_,h,_=>by cases h
 | _ :: _,_ :: _,[],_,h=>by cases h
section
variable {P:Program} {t kt et:Nat} {z:A}
theorem zfm {i:Go.Ex.EI} (hu:P.underlying t=some (.map kt et)) (d:TypeDesc) (hk:P.underlying kt=some d) (hx:Go.Ex.zgW P kt i) (he:zgW P kt ks.length) (hn:i.size=ks.length) (hz:∃ zv,(∀ w,(zeroValue et).run P w=.ok zv w) ∧ ∀ S,wT S z zv) (zd:z.isD=true):zdy P t kt et (z49 ks) z:={
 und:=hu
 zero:=hz
 zd:=zd
 key:=fun a h=>by obtain ⟨l,_,_,h3⟩:=Up h; exact ⟨_,h3⟩
 check:=fun a kv e w h hv=>by
  obtain ⟨l,_,h2,h3⟩:=Up h
  rw [h3] at hv
  cases hv
  exact hx.key l e w (by rw [hn]; exact z3i h2)
 bits:=fun a kv h hv=>by
  obtain ⟨l,_,h2,h3⟩:=Up h
  rw [h3] at hv
  cases hv
  have:∀ {ks:List IntKind} {l:List Value},zcX ks l=true → (l.zip l).all (fun (x,y)=>Instr.sameBits 9999 x y)=true:=by
   intro ks
   induction ks with
   | nil=>intro l h; cases l <;> first | rfl | cases h
   | cons k ks ih=>
    intro l h
    cases l with
    | nil=>rfl
    | cons v l=>
     cases v <;> simp only [zcX] at h <;> first | (cases h; done) | skip
     simp only [Bool.and_eq_true] at h
     simp only [List.zip_cons_cons,List.all_cons,Bool.and_eq_true]
     exact ⟨by simp [Instr.sameBits],ih h.2⟩
  simp only [Instr.sameBits,beq_self_eq_true,Bool.true_and]
  exact this h2
 find:=fun a kv h hv ents es hes hall w=>by
  obtain ⟨l,_,h2,h3⟩:=Up h
  rw [h3] at hv
  cases hv
  have gen:∀ (ents:List MapEntry) (es:List (A × A)) (i:Nat),(∀ p ∈ es,z49 ks p.1=true) → Xc (fun p (e:MapEntry)=>z1o p.1=some e.key) es ents → (Instr.findAsking kt (.agg l.toArray) ents i).run P w=.ok (z0i (.agg l.toArray) ents i) w:=by
   intro ents
   induction ents with
   | nil=>intro es i _ _; simp [Instr.findAsking,z0i]
   | cons e ents ih=>
    intro es i h1 h2'
    cases es with
    | nil=>exact h2'.elim
    | cons p es=>
     obtain ⟨m,_,g2,g3⟩:=Up (h1 p (by simp))
     have hk2:e.key=.agg m.toArray:=by
      have:z1o p.1=some e.key:=h2'.1
      rw [g3] at this
      exact (Option.some.inj this).symm
     obtain ⟨r,r1,r2⟩:=zcW h2 g2
     have hrun:=he.run l m r w (z3i h2) (z3i g2) r1
     simp only [Instr.findAsking,z0i,Sem.run_bind,show (Op.equal kt (Value.agg l.toArray) e.key).run P w=.ok r w by rw [hk2]; exact hrun,Result.andThen_ok]
     by_cases hlm:m=l
     ·have hr:=r2.2 hlm
      subst hlm
      rw [hr]; simp [hk2]
     ·have hr:r=false:=by
       cases r
       ·rfl
       ·exact absurd (r2.1 rfl) hlm
      have hne:¬ e.key=Value.agg l.toArray:=by rw [hk2]; intro q; exact hlm (by simpa using q)
      simp only [hr,Bool.false_eq_true,if_false,if_neg hne]
      exact ih es (i + 1) (fun p hp=>h1 p (by simp [hp])) h2'.2
  cases ents with
  | nil=>simp [Instr.findKey,run_underlying hk,Instr.findNow,z0i]
  | cons e ents=>
   have hn:Instr.findNow d (.agg l.toArray) (e :: ents) 0=none:=by
    simp only [Instr.findNow]
    cases d <;> rfl
   simp only [Instr.findKey,Sem.run_bind,run_underlying hk,Result.andThen_ok,hn]
   exact gen (e :: ents) es 0 hes hall }
end
theorem z9k {f:TypeInfo}  (h:P.info? t=some f) (hz:f.zero=some v) (w:World):(zeroValue t).run P w=.ok v w:=by simp [zeroValue,typeInfo,h,hz]
def z8n (P:Program) (f:A)  (enc:β → Bool → Value → List A) (F:∀ {σ:Type},(σ → β → Option (σ × Bool)) → σ → Option σ):Prop :=
 ∀ (σ:Type) (yv:Value) (Y:σ → z3m) (y:σ → β → Option (σ × Bool)),(∀ s x s' b,y s x=some (s',b) → ∀ v,qK P (.atom yv) (enc x b v) [(yv,.opq (Y s).q)] (.atom (.bool b)) [.opq (Y s').q]) →
  ∀ s s',F y s=some s' → qK P f [.atom yv] [(yv,.opq (Y s).q)] (.tup []) [.opq (Y s').q]
def yOf {σ τ β:Type} (step:σ → β → Option (LR σ τ)):LR σ τ → β → Option (LR σ τ × Bool)
 | .next s,x=>match step s x with | some (.next s')=>some (.next s',true) | some (.done t)=>some (.done t,false) | none=>none
 | .done _,_=>none
def zkX:LR σ τ → Bool
 | .next _=>true
 | .done _=>false
variable {b:Bool}
theorem zdG {σ τ β:Type} {step:σ → β → Option (LR σ τ)} {l l':LR σ τ} {x:β}  (h:yOf step l x=some (l',b)):∃ s,l=.next s ∧ step s x=some l' ∧ b=zkX l':=by
 cases l with
 | done t=>cases h
 | next s=>
  simp only [yOf] at h
  cases hs:step s x with
  | none=>simp [hs] at h
  | some r=>
   cases r with
   | next s'=>simp only [hs,Option.some.injEq,Prod.mk.injEq] at h; obtain ⟨rfl,rfl⟩:=h; exact ⟨s,rfl,hs,rfl⟩
   | done t=>simp only [hs,Option.some.injEq,Prod.mk.injEq] at h; obtain ⟨rfl,rfl⟩:=h; exact ⟨s,rfl,hs,rfl⟩
variable {caps:List A}{assign body:Code}{ps:List Nat}{g:Operand}
section
variable {σ τ β:Type}
def zbh (stF:σ → St) (stD:τ → St):LR σ τ → St
 | .next s=>stF s
 | .done t=>stD t
def zaX (jc:τ → Code):LR σ τ → Option Code
 | .next _=>none
 | .done t=>some (jc t)
def z3U (rec:Loop) (jc:τ → Code) (l:LR σ τ):Loop:={ rec with state:=if (zaX jc l).isNone then .ready else .done,pending:=zaX jc l }
theorem AWP.iterF {P:Program} {n:Fr} {st:St} {Q:Exit → St → Prop} {g:Operand} {ps:List Nat} {assign body:Code} {K:Nat} {caps:List A} (live:List Nat) (stF:σ → St) (stD:τ → St) (jc:τ → Code) (enc:β → Bool → Value → List A) {F:∀ {σ:Type},(σ → β → Option (σ × Bool)) → σ → Option σ}
  (step:σ → β → Option (LR σ τ)) (s0:σ) (lr:LR σ τ)
  (hg:zoP st g=some (.fn K caps)) (hnd:live.Nodup) (h0:Own.canon live st=stF s0)
  (hcan:∀ l,(∀ t,(zbh stF stD l t).t.plain=true) ∧ ∀ t,t ∉ live → (zbh stF stD l t).t=.gone)
  (hps:∀ p ∈ ps,p < n.size ∧ p ∉ live ∧ pinned n.pin p=false) (hlen:∀ x b v,ps.length=(enc x b v).length)
  (hit:z8n P (.fn K caps) enc F) (hF:F (yOf step) (.next s0)=some lr)
  (hround:∀ (tv:Nat → Value) (s:σ) (x:β) (v:Value) (r:LR σ τ),step s x=some r → AWP P ⟨n.size,live.map (fun t=>(t,tv t)) ++ n.pin⟩ assign (z7O (stF s) ps (enc x (zkX r) v)) (fun e st1=>e=.normal ∧ AWP P ⟨n.size,live.map (fun t=>(t,tv t)) ++ n.pin⟩ body st1 (fun ex st2=>zcA ex=some (zaX jc r) ∧ Own.canon live st2=zbh stF stD r)))
  (hend:zqE P n (zbh stF stD lr) Q (zaX jc lr)):AWP P n (.rangeFunc g ps.toArray assign body) st Q:=by
 intro rd mm df w0 S0 M S Fp a w hc hs
 obtain ⟨us,hev,hreps⟩:∃ us:List Value,a.eval g=.func (.func K) #[] us.toArray ∧ wT S (.fn K caps) (a.eval g):=by
  unfold zoP at hg
  split at hg
  ·rename_i t
   split at hg
   ·rename_i x ht
    simp only [Option.some.injEq] at hg
    subst hg
    have q:=hs.ent t
    unfold xm at q
    simp only [ht] at q
    have q1:wT S (.fn K caps) (Act.tv a t):=q.1
    obtain ⟨cs,c1,c2⟩:=q1
    have c1':=c1
    simp only [Rep] at c1
    obtain ⟨us,_,_,rfl⟩:=c1
    exact ⟨us,c2,⟨_,c1',c2⟩⟩
   ·cases hg
  ·cases hg
 obtain ⟨Fp0,hs0,hd0⟩:=hs.canonD (hc.post hs) live
 rw [h0] at hs0
 refine wpIn_rangeFunc ?_
 intro fn hfn
 obtain ⟨df',wA,dq,en1,en2,en3⟩:=zlb (P:=P) hc hs0 hd0 fn ps.toArray assign body
 generalize (df'.map zid).take (df'.length - df.length)=mk at en1 en2
 obtain ⟨rec,hrec⟩:∃ q:Loop,q={ state:=.ready,pending:=none,fn,tmps:=a.tmps,params:=ps.toArray,assign,body,defers:=dq }:=⟨_,rfl⟩
 rw [← hrec] at en1
 have hs1:=en2.newObj (.loop rec)
 have hl:(wA.alloc (.loop rec)).heap[wA.heap.size]?=some (.loop rec):=World.alloc_heap_new wA _
 have hfr:∀ t k,k ∈ Fp0 t → k < wA.heap.size:=fun t k hk=>(en2.free t k hk).1
 have hlF:∀ t,wA.heap.size ∉ Fp0 t:=fun t hk=>by have:=hfr t _ hk; omega
 have hSl:∀ o,S wA.heap.size o=none:=by
  intro o
  cases hq:S wA.heap.size o with
  | none=>rfl
  | some v=>have:=en2.still_lt hq; omega
 have hrec0:∀ s,z3U rec jc (LR.next s:LR σ τ)=rec:=by intro s; rw [hrec]; rfl
 have hY:∀ (l:LR σ τ) (x:β) (l':LR σ τ) (b:Bool),yOf step l x=some (l',b) → ∀ v,qK P (.atom (.func (.yield wA.heap.size) #[] #[])) (enc x b v) [(.func (.yield wA.heap.size) #[] #[],.opq (zaC wA.heap.size (z3U rec jc l) (Vc a.tmps) (zbh stF stD l) (hcan l).1 0))] (.atom (.bool b))
   [.opq (zaC wA.heap.size (z3U rec jc l') (Vc a.tmps) (zbh stF stD l') (hcan l').1 0)]:=by
  intro l x l' b hy v
  obtain ⟨s,rfl,hst,rfl⟩:=zdG hy
  have htm:(z3U rec jc (LR.next s:LR σ τ)).tmps=a.tmps:=by rw [hrec0,hrec]
  have hb:zkX l'=(zaX jc l').isNone:=by cases l' <;> rfl
  have r:=zf2 (P:=P) (n:=⟨n.size,live.map (fun t=>(t,Vc a.tmps t)) ++ n.pin⟩) (l:=wA.heap.size) (rec:=z3U rec jc (LR.next s:LR σ τ)) (ps:=ps) (ys:=enc x (zkX l') v) (st0:=stF s) (st1:=zbh stF stD l') (i:=0) (i2:=0) (live:=live) (jc:=zaX jc l') (hcan (.next s)).1 (hcan l').1
   (by rw [hrec0,hrec]) (by rw [hrec0,hrec]) (by rw [htm]; exact hs.size)
   (by
    intro j u hj
    rw [htm]
    rcases List.mem_append.1 hj with hj | hj
    ·obtain ⟨t,ht,he⟩:=List.mem_map.1 hj
     cases he
     rfl
    ·exact hs.pin j u hj)
   (fun t ht=>by rw [htm]; exact List.mem_append.2 (.inl (List.mem_map.2 ⟨t,ht,rfl⟩))) hnd
   (fun p hp=>by
    obtain ⟨p1,p2,p3⟩:=hps p hp
    refine ⟨p1,(hcan (.next s)).2 p p2,?_⟩
    have gen:∀ l:List Nat,p ∉ l → pinned (l.map (fun t=>(t,Vc a.tmps t)) ++ n.pin) p=false:=by
     intro l
     induction l with
     | nil=>intro _; exact p3
     | cons t l ih=>
      intro hl
      simp only [List.mem_cons,not_or] at hl
      simp only [List.map_cons,List.cons_append,pinned,ih hl.2,Bool.or_false]
      simpa using Ne.symm hl.1
    exact gen live p2) (hlen x _ v)
   (by
    have:=hround (Vc a.tmps) s x v l' hst
    rw [hrec0,hrec]
    exact this)
  have e:({ z3U rec jc (LR.next s:LR σ τ) with state:=if (zaX jc l').isNone then .ready else .done,pending:=zaX jc l' }:Loop)=z3U rec jc l':=rfl
  rw [e] at r
  simp only [htm] at r
  rw [← hb] at r
  exact r
 have hL:=hit _ _ (fun l=>(zaC wA.heap.size (z3U rec jc l) (Vc a.tmps) (zbh stF stD l) (hcan l).1 0).single rfl) (yOf step) hY _ _ hF S (wA.alloc (.loop rec)) (a.eval g) [.func (.yield wA.heap.size) #[] #[]] (wA.heap.size :: live.flatMap Fp0) hs1.still hreps ⟨yW.2 ⟨rfl,rfl⟩,trivial⟩
  ⟨_,[],rfl,zc1 ⟨rfl,by rw [hrec0]; exact hl,hSl,Fp0,(fun t=>hs1.ent t),en2.disj,hlF,(fun k=>by
   simp only [List.mem_cons,List.mem_flatMap]
   constructor
   ·rintro (rfl | ⟨t,_,ht⟩)
    ·exact .inl rfl
    ·exact .inr ⟨t,ht⟩
   ·rintro (rfl | ⟨t,ht⟩)
    ·exact .inl rfl
    ·refine .inr ⟨t,?_,ht⟩
     apply Classical.byContradiction
     intro hn
     have q:=en2.ent t
     unfold xm at q
     have hg:=(hcan (.next s0)).2 t hn
     simp only [zbh] at hg
     simp only [hg] at q
     rw [q] at ht
     simp at ht)⟩ (z9H en2 hnd hlF),rfl⟩ (z9H en2 hnd hlF)
 rcases hL with ⟨k,cs,fn',a1,a2,a3,a4,a5⟩ | ⟨L,q,a1,_⟩
 rotate_left
 ·rw [hev] at a1; cases a1
 refine ⟨wA.heap.size,mk,wA.alloc (.loop rec),{ target:=.fn (.func k) cs,args:=#[.func (.yield wA.heap.size) #[] #[]] },wA.alloc (.loop rec),k,#[.func (.yield wA.heap.size) #[] #[]] ++ cs,wA.alloc (.loop rec),en1,?_,fun _ _=>trivial,?_,fun h=>(by cases h),?_⟩
 ·simp only [resolve,a1]
  simp [go_sem]
 ·simp only [invoke]
  exact Ke a2 a3 a4 _ _
 ·refine (UB a5 rd (mm - 1)).mono ?_
  rintro e w' ⟨v',rfl,S',F',G,b1,b2,b3,b4,_,b6,_,b8⟩
  obtain ⟨G1,G2,hGe,b6,hnil⟩:=b6
  have hG2:G2=[]:=hnil
  subst hG2
  simp only [List.nil_append] at hGe
  subst hGe
  obtain ⟨_,c2,c3,Fp',c4,c5,c6,c7⟩:=zcM b6
  have hnb:(z3U rec jc lr).state ≠ .busy:=by
   simp only [z3U]
   cases lr <;> simp [zaX]
  have hpend:(z3U rec jc lr).pending=zaX jc lr:=rfl
  refine ⟨_,_,run_endLoop c2 hnb,?_⟩
  rw [hpend]
  have hMl:M wA.heap.size:=en2.mine _ en2.below.size
  have hMn:∀ k,((wA.alloc (.loop rec)).heap.size ≤ k ∨ k ∈ wA.heap.size :: live.flatMap Fp0) → M k:=by
   rintro k (hk | hk)
   ·exact hs1.mine k (Nat.le_trans hs1.below.size hk)
   ·rcases List.mem_cons.1 hk with rfl | hk
    ·exact hMl
    ·obtain ⟨t,_,ht⟩:=List.mem_flatMap.1 hk
     exact en2.base t k ht
  have hout:∀ t k,k ∈ Fp' t → ((wA.alloc (.loop rec)).heap.size ≤ k ∨ k ∈ wA.heap.size :: live.flatMap Fp0):=fun t k hk=>b8 k (List.mem_append.2 (.inl ((c7 k).2 (.inr ⟨t,hk⟩))))
  have hpf:∀ o,Sim ⟨n,df',w0,S0,M⟩ S' Fp' [] (zbh stF stD lr) { a with defers:=mk ++ a.defers } (w'.putObj wA.heap.size o):=by
   intro o
   refine { size:=hs.size,pin:=hs.pin,defers:=en2.defers,below:=?_,mine:=hs.mine,still:=?_,sinc:=fun b o v q=>b2 _ _ _ (en2.sinc _ _ _ q),sbase:=?_,ent:=?_,disj:=c5,base:=fun t k hk=>hMn k (hout t k hk),xn:=by simp,xd:=by simp,xb:=by simp }
   ·exact (hs1.below.trans (b1.mono hMn)).trans ⟨rfl,rfl,rfl,Nat.le_refl _,by simp [World.putObj],fun k hk=>World.putObj_heap_other (by rintro rfl; exact hk hMl)⟩
   ·refine ⟨?_,b4.gok,b4.blk.of (fun _ _ _ q=>q) fun g x e=>World.putObj_heap_other (by rintro rfl; exact b4.blk.ne (c3 0) x e)⟩
    intro b i v q
    have hne:b ≠ wA.heap.size:=by rintro rfl; rw [c3] at q; cases q
    have:=b4 b i v q
    unfold y5 at this ⊢
    rw [World.putObj_heap_other hne]
    exact this
   ·intro b i hb
    rcases Nat.lt_or_ge b (wA.alloc (.loop rec)).heap.size with hlt | hge
    ·rw [b3 b i hlt (fun hF=>hb (hMn b (.inr hF)))]
     exact en2.sbase b i hb
    ·exact absurd (hMn b (.inl hge)) hb
   ·intro t
    exact (c4 t).frame ((hcan lr).1 t) (fun _ _ _ q=>q) (fun k hk=>⟨World.putObj_heap_other (by rintro rfl; exact c6 t hk),((c4 t).owns ((hcan lr).1 t) k hk).2⟩)
  have hdp:∀ o,Xs df M df' Fp' (w'.putObj wA.heap.size o):=by
   intro o
   have hlt:∀ D ∈ df',D < wA.heap.size:=fun D hD=>(Array.getElem?_eq_some_iff.1 (en3.ent D hD)).1
   have hno:∀ D ∈ df',¬ ((wA.alloc (.loop rec)).heap.size ≤ D ∨ D ∈ wA.heap.size :: live.flatMap Fp0):=by
    rintro D hD (q | q)
    ·have:=hlt D hD
     have h3:(wA.alloc (.loop rec)).heap.size=wA.heap.size + 1:=by simp
     omega
    ·rcases List.mem_cons.1 q with rfl | q
     ·have:=hlt _ hD; omega
     ·obtain ⟨t,_,ht⟩:=List.mem_flatMap.1 q
      exact en3.off D hD t ht
   refine ⟨en3.nodup,fun D hD=>?_,fun D hD t ht=>hno D hD (hout t D ht),en3.old⟩
   rw [World.putObj_heap_other (by have:=hlt D hD; omega),b1.block D (hno D hD),World.alloc_old _ (hlt D hD)]
   exact en3.ent D hD
  cases lr with
  | next s=>exact ⟨df',stF s,S',Fp',hpf _,hdp _,hend⟩
  | done t=>exact AWP.go hend hc (hpf _) (hdp _)
end
def z41 (live:List Nat) (l:List (Nat × T)):Bool:=l.all fun q=>live.contains q.1 && q.2.plain
theorem zc6:∀ (l:List (Nat × T)) (t:Nat),ofL l t=⟨(ofL l t).t,0,0⟩
 | [],t=>rfl
 | p :: l,t=>by
  simp only [ofL]
  split
  ·rfl
  ·exact zc6 l t
theorem z40 {live:List Nat}:∀ {l:List (Nat × T)},z41 live l=true → (∀ t,(ofL l t).t.plain=true) ∧ ∀ t,t ∉ live → (ofL l t).t=.gone
 | [],_=>⟨fun _=>rfl,fun _ _=>rfl⟩
 | p :: l,h=>by
  simp only [z41,List.all_cons,Bool.and_eq_true] at h
  obtain ⟨h1,h2⟩:=z40 (l:=l) (by simpa only [z41] using h.2)
  constructor
  ·intro t
   simp only [ofL]
   split
   ·exact h.1.2
   ·exact h1 t
  ·intro t ht
   simp only [ofL]
   split
   ·rename_i e
    subst e
    exact absurd (List.contains_iff_mem.1 h.1.1) ht
   ·exact h2 t ht
variable {l:List (Nat × T)}
theorem z4q {live:List Nat}  (h:z41 live l=true):Own.canon live (ofL l)=ofL l:=by
 obtain ⟨h1,h2⟩:=z40 h
 funext t
 rw [XM]
 by_cases ht:t ∈ live
 ·rw [if_pos ht]
  have h3:=h1 t
  rw [zc6 l t]
  unfold zaZ
  cases hx:(ofL l t).t with
  | als r p er ec=>rw [hx] at h3; cases h3
  | ptr r p er ec=>rw [hx] at h3; cases h3
  | _=>rfl
 ·rw [if_neg ht,zc6 l t,h2 t ht]
  rfl
theorem AWP.weak {Q Q':Exit → St → Prop} (h:AWP P n c st Q') (hq:∀ e st,Q' e st → ∃ live l m,Own.canon live st=ofL l ∧ LeL l m ∧ Q e (ofL m)):AWP P n c st Q:=by
 intro rd mm df w0 S0 M S Fp a w hc hs
 refine wpIn_mono (h rd mm df w0 S0 M S Fp a w hc hs) ?_
 rintro e a' w' ⟨df',st1,S1,Fp1,h1,h2,h3⟩
 obtain ⟨live,l,m,e1,e2,e3⟩:=hq _ _ h3
 obtain ⟨Fp2,g1,g2⟩:=Sim.canonD h1 h2 live
 rw [e1] at g1
 exact ⟨df',ofL m,S1,Fp2,e2.or.elim (fun e=>e ▸ g1) fun h=>g1.le h.ent,g2,e3⟩
def zor:List (Nat × T) → List Nat → List A → List (Nat × T)
 | l,p :: ps,y :: ys=>zor ((p,.d y) :: l) ps ys
 | l,_,_=>l
theorem z9G:∀ (ps:List Nat) (ys:List A) (l:List (Nat × T)),z7O (ofL l) ps ys=ofL (zor l ps ys)
 | [],_,l=>by cases l <;> rfl
 | _ :: _,[],l=>by cases l <;> rfl
 | p :: ps,y :: ys,l=>z9G ps ys ((p,.d y) :: l)
def zrA (n:Fr) (ps live:List Nat):Bool:=ps.all fun p=>decide (p < n.size) && (!live.contains p && !pinned n.pin p)
section
variable {σ τ β:Type}
def znK (stF:σ → List (Nat × T)) (stD:τ → List (Nat × T)):LR σ τ → List (Nat × T)
 | .next s=>stF s
 | .done t=>stD t
def itQ (live:List Nat) (stF:σ → List (Nat × T)) (stD:τ → List (Nat × T)) (jc:τ → Code) (r:LR σ τ) (ex:Exit) (st:St):Prop :=
 zcA ex=some (zaX jc r) ∧ ∃ l',Own.canon live st=ofL l' ∧ LeL l' (znK stF stD r)
theorem z1V {P:Program} {n:Fr} {Q:Exit → St → Prop}  {fs:List Fm} {st0:St}    {K:Nat} {caps:List A} (e:c=.rangeFunc g ps.toArray assign body) (live:List Nat) (stF:σ → List (Nat × T)) (stD:τ → List (Nat × T)) (jc:τ → Code) (enc:β → Bool → Value → List A) {F:∀ {σ:Type},(σ → β → Option (σ × Bool)) → σ → Option σ}
  (step:σ → β → Option (LR σ τ)) (s0:σ) (lr:LR σ τ) (l0:List (Nat × T)) (hs:Own.canon live st0=ofL l0) (hl:LeL l0 (stF s0)) (hg:zoP (ofL (stF s0)) g=some (.fn K caps)) (hnd:live.Nodup) (hp:∀ s,z41 live (stF s)=true) (hp2:∀ t,z41 live (stD t)=true)
  (hps:zrA n ps live=true) (hlen:∀ x b v,ps.length=(enc x b v).length) (hit:z8n P (.fn K caps) enc F) (hF:F (yOf step) (.next s0)=some lr)
  (hround:∀ (tv:Nat → Value) (s:σ) (x:β) (v:Value) (r:LR σ τ),step s x=some r → AWP P ⟨n.size,live.map (fun t=>(t,tv t)) ++ n.pin⟩ assign (ofL (zor (stF s) ps (enc x (zkX r) v)))
   (Qf P ⟨n.size,live.map (fun t=>(t,tv t)) ++ n.pin⟩ [] (fun e st1=>e=.normal ∧ AWP P ⟨n.size,live.map (fun t=>(t,tv t)) ++ n.pin⟩ body st1 (Qf P ⟨n.size,live.map (fun t=>(t,tv t)) ++ n.pin⟩ [] (itQ live stF stD jc r)))))
  (hend:zqE P n (ofL (znK stF stD lr)) (Qf P n fs Q) (zaX jc lr)):AWP P n c st0 (Qf P n fs Q):=by
 subst e
 refine AWP.canon live ?_
 rw [hs]
 refine ziR hl ?_
 have hst:∀ l:LR σ τ,zbh (fun s=>ofL (stF s)) (fun t=>ofL (stD t)) l=ofL (znK stF stD l):=by intro l; cases l <;> rfl
 have hpl:∀ l:LR σ τ,z41 live (znK stF stD l)=true:=by
  intro l
  cases l with
  | next s=>exact hp s
  | done t=>exact hp2 t
 refine AWP.iterF live (fun s=>ofL (stF s)) (fun t=>ofL (stD t)) jc enc step s0 lr hg hnd (z4q (hp s0)) (fun l=>by rw [hst]; exact z40 (hpl l)) ?_ hlen hit hF ?_ (by rw [hst]; exact hend)
 ·intro p hp
  have:=List.all_eq_true.1 hps p hp
  simp only [Bool.and_eq_true,decide_eq_true_eq,Bool.not_eq_true'] at this
  exact ⟨this.1,fun h=>by rw [List.contains_iff_mem.2 h] at this; simp at this,this.2.2⟩
 ·intro tv s x v r hr
  rw [z9G]
  refine AWP.mono (hround tv s x v r hr) ?_
  rintro e st1 ⟨h1,h2⟩
  refine ⟨h1,AWP.weak h2 ?_⟩
  rintro ex st2 ⟨hj,l',q1,q2⟩
  refine ⟨live,l',_,q1,q2,hj,?_⟩
  rw [z4q (hpl r),hst]
end
section
variable {P:Program} {tt:TT} {ctr:Ctr} {n:Fr} {Q:Exit → St → Prop}
theorem zlm (X:XH P) (hT:xq P tt) (hC:zB P ctr) (hm:P.follows .mixedOrders=true) (live:List Nat) (k:Nat) {c:Code} {fs:List Fm} {st:St} (hs:List H) (ex:Exit) (l':List (Nat × T)) (obs:List Ob)
  (e:z5F X tt ctr n live k c fs st hs=some (.fin ex,ofL l',obs.map Ob.p)) (h:∀ st0,canon live st0=ofL l' → Q ex st0):AWP P n c st (Qf P n fs Q):=z9g X hT hC hm live k obs e h
theorem WS {J:St → Prop}:∀ {fs:List Fm} {st:St},unw fs=.stop (.back J) → J st → Qf P n fs Q .normal st
 | [],_,e,_=>by cases e
 | .seq z :: fs,_,e,h=>by cases e
 | .blk id :: fs,_,e,h=>WS (fs:=fs) (by simpa only [unw] using e) h
 | .pre J :: fs,_,e,h=>by
  simp only [unw,Nxt.stop.injEq,zb0.back.injEq] at e
  subst e
  exact h
 | .rnd (m + 1) c :: fs,_,e,h=>by cases e
 | .rnd 0 _ :: _,_,e,_=>by cases e
theorem z6Y {live:List Nat}   (h0:canon live st0=ofL l) (h:AWP P n c (ofL l) Q):AWP P n c st0 Q:=by
 refine AWP.canon live ?_
 rw [h0]
 exact h
end
def YOk (P:Program) (yv:Value) {σ β:Type} (Y:σ → z3m) (enc:β → Bool → Value → List A) (y:σ → β → Option (σ × Bool)):Prop :=
 ∀ s x s' b,y s x=some (s',b) → ∀ v,qK P (.atom yv) (enc x b v) [(yv,.opq (Y s).q)] (.atom (.bool b)) [.opq (Y s').q]
theorem z4d {tt:TT}   {body:Code} {nt:Nat} {caps:List A}  {enc:β → Bool → Value → List A} {F:∀ {σ:Type},(σ → β → Option (σ × Bool)) → σ → Option σ} (hT:xq P tt) (hf:P.funcs[k]?=some fn) (hnm:(fn.name == "runtime.NumGoroutine")=false) (hb:fn.body=some body)
  (hn:nt=fn.ntmps) (hr:fn.results=#[]) (ha:caps.length + 1 ≤ fn.ntmps)
  (h:∀ (σ:Type) (yv:Value) (Y:σ → z3m) (y:σ → β → Option (σ × Bool)),YOk P yv Y enc y → ∀ s s',F y s=some s' → ∀ E:Exit → St → Prop,(∀ ex st,(ex=.normal ∨ ex=.ret) → canon [0] st=ofL [(0,.own (.opq (Y s').q))] → E ex st) →
   AWP P ⟨nt,[(0,yv)]⟩ body (ofL (z9P 0 (.opq (Y s).q :: caps))) (Qf P ⟨nt,[(0,yv)]⟩ [] E)):z8n P (.fn k caps) enc F:=by
 subst hn
 intro σ yv Y y hy s s' hs
 refine z4c (tt:=tt) (rs:=[]) [0] (args:=[.atom yv]) (caps:=caps) (xs:=[.opq (Y s).q]) (vals:=[yv]) hT hf hnm hb hr (by simpa using ha) (by simp) (by simp) rfl ?_
 rw [z5Q]
 refine h σ yv Y y hy s s' hs _ ?_
 intro ex st hx hc
 refine ⟨hx,?_⟩
 have h0:=congrFun hc 0
 rw [XM] at h0
 simp only [List.mem_singleton,if_true,ofL,Ent.mk.injEq,and_true] at h0
 have h1:(st 0).t=.own (.opq (Y s').q):=by
  unfold zaZ at h0
  cases hx:(st 0).t with
  | als r p er ec=>simp only [hx] at h0; split at h0 <;> cases h0
  | ptr r p er ec=>simp only [hx] at h0; split at h0 <;> cases h0
  | own a=>simpa only [hx] using h0
  | d a=>simp only [hx] at h0; cases h0
  | gone=>simp only [hx] at h0; cases h0
 have h2:z2i [0] st=some ([.opq (Y s').q],[0],[]):=by
  simp only [z2i]
  show SM.bind (rdE 0) _ st=_
  unfold SM.bind
  simp only [rdE,ze,h1]
  rfl
 refine ⟨[0],[],?_⟩
 simp only [zlc,List.map_nil]
 show SM.bind (shutArgs tt []) _ st=_
 unfold SM.bind
 simp only [shutArgs]
 simp only [pure,SM.pure,bind,SM.bind,ze,h2]
 rfl
def zf7 (tt:TT) (n:Fr) (ty:Nat) (x:T):HM A :=
 match x with
 | .als r p er ec=>
  match z0u n.pin r with
  | some _=>y3 (refT tt n ty (.als r p er ec))
  | none=>z5z tt ty (.als r p er ec)
 | x=>z5z tt ty x
theorem zkk (tt:TT) (n:Fr) (ty:Nat) (x:T):Snd (refT tt n ty x) (zf7 tt n ty x):=by
 cases x with
 | als r p er ec=>
  cases hp:z0u n.pin r with
  | some v=>simp only [zf7,hp]; exact zk _
  | none=>simp only [zf7,refT,hp]; exact JJ tt ty (.als r p er ec)
 | d a=>exact JJ tt ty (.d a)
 | own a=>exact JJ tt ty (.own a)
 | ptr r p er ec=>exact JJ tt ty (.ptr r p er ec)
 | gone=>exact JJ tt ty .gone
def YP (tt:TT) (n:Fr):List (Operand × Nat) → HM (List A)
 | []=>pure []
 | (x,t) :: as_=>y3 (opnd x) >>= fun y=>zf7 tt n t y >>= fun a=>YP tt n as_ >>= fun bs=>pure (a :: bs)
theorem Zz (tt:TT) (n:Fr):∀ as_,Snd (refArgs tt n as_) (YP tt n as_)
 | []=>xZ _
 | (x,t) :: as_=>zh (zk _) fun y=>zh (zkk _ _ _ _) fun a=>zh (Zz tt n as_) fun bs=>xZ _
open Classical in
def zhv (yv:Value) {σ β:Type} (Y:σ → z3m) (enc:β → Bool → Value → List A) (s:σ) (x:β) (s':σ) (b:Bool) (v:Value) (f:A) (xs:List A) (ls:List (Value × A)):Option (A × List A) :=
 if f=.atom yv ∧ ls=[(yv,.opq (Y s).q)] ∧ (∀ S vs,Xc (wT S) xs vs → Xc (wT S) (enc x b v) vs) then some (.atom (.bool b),[.opq (Y s').q]) else none
variable {yv:Value}
theorem zhu {σ β:Type} {Y:σ → z3m} {enc:β → Bool → Value → List A} {y:σ → β → Option (σ × Bool)} (hy:YOk P yv Y enc y) {s:σ} {x:β} {s':σ}  (v:Value) (h:y s x=some (s',b)) :
  ∀ f xs ls r ys,zhv yv Y enc s x s' b v f xs ls=some (r,ys) → qK P f xs ls r ys:=by
 intro f xs ls r ys e
 unfold zhv at e
 split at e
 ·rename_i hc
  obtain ⟨rfl,rfl,h3⟩:=hc
  simp only [Option.some.injEq,Prod.mk.injEq] at e
  obtain ⟨rfl,rfl⟩:=e
  intro S w fv vs F hS hfv hvs
  exact hy s x s' b h v S w fv vs F hS hfv (h3 S vs hvs)
 ·cases e
theorem z3E {σ β:Type} {Y:σ → z3m} {enc:β → Bool → Value → List A} {s:σ} {x:β} {s':σ}   (xs:List A) (h:z0s xs (enc x b v)):zhv yv Y enc s x s' b v (.atom yv) xs [(yv,.opq (Y s).q)]=some (.atom (.bool b),[.opq (Y s').q]):=by
 unfold zhv
 rw [if_pos ⟨rfl,rfl,h.all⟩]
def z9K (tt:TT) (tab:A → List A → List (Value × A) → Option (A × List A)) (r:A) (ys:List A) (n:Fr) (dst:Option Nat) (f:Operand) (as_:List (Operand × Nat)) (L:List Nat):HM Unit :=
 YP tt n [(f,0)] >>= fun fs=>YP tt n as_ >>= fun xs=>y3 (lentsA n L) >>= fun ls=>
  match fs with
  | [fa]=>zi3 (tab fa xs ls=some (r,ys)) >>= fun _=>y3 (backsA L ys >>= fun _=>wrT n dst (mkT r))
  | _=>zK
theorem zby (tt:TT) (tab:A → List A → List (Value × A) → Option (A × List A)) (r:A) (ys:List A) (n:Fr) (dst:Option Nat) (f:Operand) (as_:List (Operand × Nat)) (L:List Nat):Snd (lentQ tt tab n dst f as_ L) (z9K tt tab r ys n dst f as_ L):=by
 unfold lentQ z9K
 refine zh (Zz _ _ _) fun fs=>zh (Zz _ _ _) fun xs=>zh (zk _) fun ls=>?_
 rcases fs with _ | ⟨fa,_ | ⟨z,l⟩⟩
 ·exact zq _
 ·refine z1C fun h=>?_
  simp only [h]
  exact zk _
 ·exact zq _
def Jl (tt:TT)  {σ β:Type} {Y:σ → z3m} {enc:β → Bool → Value → List A} {y:σ → β → Option (σ × Bool)} (hy:YOk P yv Y enc y) (d:Nat) {s:σ} {x:β} {s':σ}  (v:Value) (h:y s x=some (s',b)):XH P:={
 e:=Qh tt (zhv yv Y enc s x s' b v) d [0]
 h:=fun n o=>match o.op with
  | .call ⟨.value f,args,tys⟩=>if o.dst=some d ∧ args.size=tys.size then some (z9K tt (zhv yv Y enc s x s' b v) (.atom (.bool b)) [.opq (Y s').q] n o.dst f (args.toList.zip tys.toList) [0]) else none
  | _=>none
 ok:=z5T (zhu hy v h) d [0]
 none:=by
  intro n o e
  unfold Qh at e
  split at e
  ·rename_i ho
   split at e
   ·cases e
   ·rename_i hd; simp only [ho,if_neg hd]
  ·rename_i hne
   split
   ·rename_i ho2; exact absurd ho2 (by intro h; exact hne _ _ _ h)
   ·rfl
 some:=by
  intro n o m e
  unfold Qh at e
  split at e
  ·rename_i ho
   split at e
   ·rename_i hd; cases e
    refine ⟨_,?_,zby tt (zhv yv Y enc s x s' b v) (.atom (.bool b)) [.opq (Y s').q] n o.dst _ _ [0]⟩
    rw [ho]
    exact if_pos hd
   ·cases e
  ·cases e }
variable {M:Nat → Prop}{df:List Nat}{w0:World}
theorem Sim.pinned {S0:zl}        (h:Sim ⟨n,df,w0,S0,M⟩ S Fp X st a w) (k:Nat):Sim ⟨⟨n.size,(k,Act.tv a k) :: n.pin⟩,df,w0,S0,M⟩ S Fp X st a w:={
 size:=h.size
 pin:=fun j u hj=>by
  rcases List.mem_cons.1 hj with e | hj
  ·cases e; rfl
  ·exact h.pin j u hj
 defers:=h.defers
 below:=h.below
 mine:=h.mine
 still:=h.still
 sinc:=h.sinc
 sbase:=h.sbase
 ent:=h.ent
 disj:=h.disj
 base:=h.base
 xn:=h.xn
 xd:=h.xd
 xb:=h.xb }
theorem Sim.unpinned {S0:zl}        (h:Sim ⟨⟨n.size,(k,v) :: n.pin⟩,df,w0,S0,M⟩ S Fp X st a w):Sim ⟨n,df,w0,S0,M⟩ S Fp X st a w:={
 size:=h.size
 pin:=fun j u hj=>h.pin j u (List.mem_cons_of_mem _ hj)
 defers:=h.defers
 below:=h.below
 mine:=h.mine
 still:=h.still
 sinc:=h.sinc
 sbase:=h.sbase
 ent:=h.ent
 disj:=h.disj
 base:=h.base
 xn:=h.xn
 xd:=h.xd
 xb:=h.xb }
theorem AWP.pin (k:Nat) (h:∀ v,AWP P ⟨n.size,(k,v) :: n.pin⟩ c st Q):AWP P n c st Q:=by
 intro rd m df w0 S0 M S Fp a w hc hs
 refine wpIn_mono (h (Act.tv a k) rd m df w0 S0 M S Fp a w ⟨hc.nodup,hc.df,hc.rd⟩ (hs.pinned k)) ?_
 rintro e a' w' ⟨df',st1,S1,Fp1,h1,h2,h3⟩
 exact ⟨df',st1,S1,Fp1,h1.unpinned,h2,h3⟩
theorem zdl (e:fs=[]) (k:Nat) (h:∀ v,AWP P ⟨n.size,(k,v) :: n.pin⟩ c st (Qf P ⟨n.size,(k,v) :: n.pin⟩ [] Q)):AWP P n c st (Qf P n fs Q):=by
 subst e
 exact AWP.pin k h
def zqp (tt:TT) (n:Fr) (dst:Option Nat) (f:Nat) (caps:List Operand):HM Unit :=
 YP tt n (caps.map fun x=>(x,0)) >>= fun xs=>if xs.all z1G=true then y3 (wrT n dst (.d (.fn f xs))) else zK
theorem zoj (tt:TT) (n:Fr) (dst:Option Nat) (f:Nat) (caps:List Operand):Snd (mkQ tt n dst f caps) (zqp tt n dst f caps) :=
 zh (Zz _ _ _) fun xs=>vU (zk _) (zq _)
def xMk (P:Program) (tt:TT):XH P:={
 e:=zaL tt
 h:=fun n o=>match o.op with
  | .makeFunc (.func f) ⟨[]⟩ caps=>some (zqp tt n o.dst f caps.toList)
  | _=>none
 ok:=zg3 P tt
 none:=by
  intro n o e
  unfold zaL at e
  split at e
  ·cases e
  ·rename_i hne
   split
   ·rename_i ho2; exact absurd ho2 (by intro h; exact hne _ _ h)
   ·rfl
 some:=by
  intro n o m e
  unfold zaL at e
  split at e
  ·rename_i ho; cases e
   refine ⟨_,?_,zoj tt n o.dst _ _⟩
   rw [ho]
  ·cases e }
open Classical in
def zhx (f:A) (xs:List A) (ls:List (Value × A)) (r:A) (ys:List A) (f':A) (xs':List A) (ls':List (Value × A)):Option (A × List A) :=
 if f'=f ∧ ls'=ls ∧ (∀ S vs,Xc (wT S) xs' vs → Xc (wT S) xs vs) then some (r,ys) else none
variable {ls:List (Value × A)}{ys:List A}{f:A}
theorem zhw (h:qK P f xs ls r ys):∀ f' xs' ls' r' ys',zhx f xs ls r ys f' xs' ls'=some (r',ys') → qK P f' xs' ls' r' ys':=by
 intro f' xs' ls' r' ys' e
 unfold zhx at e
 split at e
 ·rename_i hc
  obtain ⟨rfl,rfl,h3⟩:=hc
  simp only [Option.some.injEq,Prod.mk.injEq] at e
  obtain ⟨rfl,rfl⟩:=e
  intro S w fv vs F hS hfv hvs
  exact h S w fv vs F hS hfv (h3 S vs hvs)
 ·cases e
theorem VD (xs':List A) (h:z0s xs' xs):zhx f xs ls r ys f xs' ls=some (r,ys):=by
 unfold zhx
 rw [if_pos ⟨rfl,rfl,h.all⟩]
def Y1 (tt:TT) (L:List Nat)      (h:qK P f xs ls r ys) (dd:Nat):XH P:={
 e:=Qh tt (zhx f xs ls r ys) dd L
 h:=fun n o=>match o.op with
  | .call ⟨.value g,args,tys⟩=>if o.dst=some dd ∧ args.size=tys.size then some (z9K tt (zhx f xs ls r ys) r ys n o.dst g (args.toList.zip tys.toList) L) else none
  | _=>none
 ok:=z5T (zhw h) dd L
 none:=by
  intro n o e
  unfold Qh at e
  split at e
  ·rename_i ho
   split at e
   ·cases e
   ·rename_i hd; simp only [ho,if_neg hd]
  ·rename_i hne
   split
   ·rename_i ho2; exact absurd ho2 (by intro h; exact hne _ _ _ h)
   ·rfl
 some:=by
  intro n o m e
  unfold Qh at e
  split at e
  ·rename_i ho
   split at e
   ·rename_i hd; cases e
    refine ⟨_,?_,zby tt (zhx f xs ls r ys) r ys n o.dst _ _ L⟩
    rw [ho]
    exact if_pos hd
   ·cases e
  ·cases e }
theorem z47 {st:St}:∀ {is:List Nat} {ys:List A},is.length=ys.length → (∀ p ∈ is.zip ys,(st p.1).t=.own p.2) → z2i is st=some (ys,is,[])
 | [],[],_,_=>rfl
 | i :: is,y :: ys,hl,h=>by
  have h1:(st i).t=.own y:=h (i,y) (by simp)
  have h2:=z47 (st:=st) (is:=is) (ys:=ys) (by simpa using hl) (fun p hp=>h p (by simp [hp]))
  simp only [z2i]
  show SM.bind (rdE i) _ st=_
  unfold SM.bind
  simp only [rdE,ze,h1,bind,SM.bind,h2,pure,SM.pure]
  simp
 | [],_ :: _,hl,_=>by simp at hl
 | _ :: _,[],hl,_=>by simp at hl
theorem zg9 {live:List Nat}   {y:A} (h:zaZ live st k=.own y):(st k).t=.own y:=by
 unfold zaZ at h
 cases hx:(st k).t with
 | als r p er ec=>simp only [hx] at h; split at h <;> cases h
 | ptr r p er ec=>simp only [hx] at h; split at h <;> cases h
 | own a=>simpa only [hx] using h
 | d a=>simp only [hx] at h; cases h
 | gone=>simp only [hx] at h; cases h
theorem z6F {tt:TT}   {body:Code} {nt:Nat} (is:List Nat) {args caps xs:List A} {vals:List Value} {ys:List A} (hT:xq P tt) (hf:P.funcs[k]?=some fn) (hnm:(fn.name == "runtime.NumGoroutine")=false) (hb:fn.body=some body)
  (hn:nt=fn.ntmps) (hr:fn.results=#[]) (ha:(args ++ caps).length ≤ fn.ntmps) (hnd:is.Nodup) (hbase:is.map (fun i=>(args ++ caps)[i]?)=vals.map (fun v=>some (.atom v))) (hl:xs.length=vals.length)
  (h:∀ E:Exit → St → Prop,(∀ ex st,(ex=.normal ∨ ex=.ret) → (∀ p ∈ is.zip ys,(st p.1).t=.own p.2) → E ex st) →
   AWP P ⟨nt,is.zip vals⟩ body (ofL (z9P 0 (QC (args ++ caps) is xs))) (Qf P ⟨nt,is.zip vals⟩ [] E)) (hy:is.length=ys.length):qK P (.fn k caps) args (vals.zip xs) (.tup []) ys:=by
 subst hn
 refine z4c (tt:=tt) (rs:=[]) is hT hf hnm hb hr ha hnd hbase hl ?_
 rw [z5Q]
 refine h _ ?_
 intro ex st hx hc
 refine ⟨hx,is,[],?_⟩
 have h2:=z47 hy hc
 simp only [zlc,List.map_nil]
 show SM.bind (shutArgs tt []) _ st=_
 unfold SM.bind
 simp only [shutArgs]
 simp only [pure,SM.pure,bind,SM.bind,ze,h2]
 show (match (match (SM.pure (A.tup [],ys):SM (A × List A)) st with | none=>none | some (b,R',U')=>some (b,is ++ R',[] ++ U')) with | none=>none | some (b,R',U')=>some (b,[] ++ R',[] ++ U'))=_
 simp [SM.pure]
theorem zkF {live:List Nat}   (hc:canon live st=ofL l)  {y:A} (hk:live.contains k=true) (hy:(ofL l k).t=.own y):(st k).t=.own y:=by
 have:=congrFun hc k
 rw [XM,if_pos (List.contains_iff_mem.1 hk)] at this
 rw [← this] at hy
 exact zg9 hy
def zgX (live:List Nat) (l:List (Nat × T)):List Nat → List A → Prop
 | i :: is,y :: ys=>(live.contains i=true ∧ (ofL l i).t=.own y) ∧ zgX live l is ys
 | _,_=>True
theorem Wy {live:List Nat}   (hc:canon live st=ofL l):∀ {is:List Nat} {ys:List A},zgX live l is ys → ∀ p ∈ is.zip ys,(st p.1).t=.own p.2
 | [],_,_,p,hp=>by simp at hp
 | _ :: _,[],_,p,hp=>by simp at hp
 | i :: is,y :: ys,h,p,hp=>by
  rcases List.mem_cons.1 hp with rfl | hp
  ·exact zkF hc h.1.1 h.1.2
  ·exact Wy hc h.2 p hp
theorem ziP {c x y:Code}    (e:c=.seq x y) (E:St → Prop) (h:AWP P n x st (Qf P n [] (fun e st1=>e=.normal ∧ E st1))) (h2:∀ st1,E st1 → AWP P n y st1 (Qf P n fs Q)):AWP P n c st (Qf P n fs Q):=by
 subst e
 refine AWP.seq (AWP.mono h ?_)
 rintro e st1 ⟨rfl,q⟩
 exact h2 st1 q
theorem z8j {c x y:Code}    (e:c=.seq x y) (k:Nat) (E:St → Prop) (h:∀ v,AWP P ⟨n.size,(k,v) :: n.pin⟩ x st (Qf P ⟨n.size,(k,v) :: n.pin⟩ [] (fun e st1=>e=.normal ∧ E st1))) (h2:∀ st1,E st1 → AWP P n y st1 (Qf P n fs Q)):AWP P n c st (Qf P n fs Q) :=
 ziP e E (AWP.pin k fun v=>h v) h2
section
variable {C:Ctx} {S:zl} {Fp:Nat → List Nat} {st:St} {a:Act} {w:World}
open Classical in
def mvQ (n:Fr) (dst:Option Nat) (s:Nat) (v:Value):SM Unit:=if z0u n.pin s=some v then wrT n dst (.d (.atom v)) else zp
open Classical in
theorem Loc.mvQ (n:Fr) (dst:Option Nat) (s:Nat) (v:Value):Loc (mvQ n dst s v):=by
 unfold Go.Own.mvQ
 exact Loc.ite (Loc.wrT _ _ _) Loc.fail
def zqo (n:Fr) (dst:Option Nat) (s:Nat) (v:Value):HM Unit:=Zg (z0u n.pin s=some v) (y3 (wrT n dst (.d (.atom v))))
open Classical in
theorem zrc (n:Fr) (dst:Option Nat) (s:Nat) (v:Value):Snd (mvQ n dst s v) (zqo n dst s v):=wd (zk _)
theorem zkM (h:Sim C S Fp [] st a w)  {s:Nat} {v:Value} (hv:v.oneCell'=true) (ho:o.op=.move (.tmp s))    (e:mvQ C.n o.dst s v st=some (u,R,U)):vF P C o a w (ze U st):=by
 unfold mvQ at e
 split at e
 ·rename_i hp
  have hs:=h.pin s v (qa hp)
  obtain ⟨Fp',hs'⟩:=xL h e (x:=.d (.atom v)) (v:=v) (zy.2 ⟨rfl,hv⟩)
  refine zn ?_ hs'
  have ev:a.eval (.tmp s)=v:=hs
  simp [execOp,ho,ev]
 ·exact (z7 e).elim
def xMv (P:Program) (d s:Nat) (v:Value) (hv:v.oneCell'=true):XH P:={
 e:=fun n o=>match o.op with | .move (.tmp t)=>if o.dst=some d ∧ t=s then some (mvQ n o.dst s v) else none | _=>none
 h:=fun n o=>match o.op with | .move (.tmp t)=>if o.dst=some d ∧ t=s then some (zqo n o.dst s v) else none | _=>none
 ok:=by
  refine ⟨?_,?_⟩
  ·intro C S Fp st a w o m u R U e h h2
   dsimp only at e
   split at e
   ·rename_i t ho
    split at e
    ·rename_i hd
     obtain ⟨_,rfl⟩:=hd
     cases e; exact zkM h hv ho h2
    ·cases e
   ·cases e
  ·intro n o m e
   dsimp only at e
   split at e
   ·split at e
    ·cases e
     exact fun st st' a R U=>Loc.mvQ _ _ _ _ st st' a R U
    ·cases e
   ·cases e
 none:=by
  intro n o e
  skip
  split at e
  ·split at e
   ·cases e
   ·rename_i hd; rw [if_neg hd]
  ·rfl
 some:=by
  intro n o m e
  skip
  split at e
  ·split at e
   ·rename_i hd; cases e; exact ⟨_,by rw [if_pos hd],zrc _ _ _ _⟩
   ·cases e
  ·cases e }
end
theorem z6X (e:fs=[]) (k:Nat) {y:A} (hk:(st k).t=.own y) (ho:z3h y=true) (h:∀ v,v.oneCell'=true → AWP P ⟨n.size,(k,v) :: n.pin⟩ c st (Qf P ⟨n.size,(k,v) :: n.pin⟩ [] Q)):AWP P n c st (Qf P n fs Q):=by
 subst e
 intro rd m df w0 S0 M S Fp a w hc hs
 have hone:(Act.tv a k).oneCell'=true:=by
  have q:=hs.ent k
  unfold xm at q
  simp only [hk] at q
  obtain ⟨cs,c1,_,hv⟩:=q
  have hcs:=Qa ho c1
  rw [hv]
  exact c1.one1 (Kj ho) _ (by have q:=List.mem_singleton_self (zS y cs); rwa [← hcs] at q)
 refine wpIn_mono (h (Act.tv a k) hone rd m df w0 S0 M S Fp a w ⟨hc.nodup,hc.df,hc.rd⟩ (hs.pinned k)) ?_
 rintro e a' w' ⟨df',st1,S1,Fp1,h1,h2,h3⟩
 exact ⟨df',st1,S1,Fp1,h1.unpinned,h2,h3⟩
def shrO (n:Fr) (dst:Option Nat) (x y:Operand):SM Unit:=do
 let tx ← opnd x
 let vx ← val tx
 let ty ← opnd y
 let vy ← val ty
 match vx,vy with
 | .atom (.int k p),.atom (.int _ q)=>if 0 ≤ q then wrT n dst (.d (.atom (.int k (p.fdiv (2 ^ (min q.toNat k.bits)))))) else zp
 | _,_=>zp
def zqe (n:Fr) (dst:Option Nat) (x y:Operand):HM Unit:=y3 (opnd x) >>= fun tx=>z0t tx >>= fun vx=>y3 (opnd y) >>= fun ty=>z0t ty >>= fun vy=>
 y3 (match vx,vy with
 | .atom (.int k p),.atom (.int _ q)=>if 0 ≤ q then wrT n dst (.d (.atom (.int k (p.fdiv (2 ^ (min q.toNat k.bits)))))) else zp
 | _,_=>zp)
theorem zoa (n:Fr) (dst:Option Nat) (x y:Operand):Snd (shrO n dst x y) (zqe n dst x y) :=
 zh (zk _) fun _=>zh (Zy _) fun _=>zh (zk _) fun _=>zh (Zy _) fun _=>zk _
theorem Loc.shrO (n:Fr) (dst:Option Nat) (x y:Operand):Loc (shrO n dst x y):=by
 unfold Go.Own.shrO
 refine Loc.bind (Loc.opnd _) fun _=>Loc.bind (Loc.val _) fun _=>Loc.bind (Loc.opnd _) fun _=>Loc.bind (Loc.val _) fun _=>?_
 split
 ·exact Loc.ite (Loc.wrT _ _ _) Loc.fail
 ·exact Loc.fail
section
variable {C:Ctx} {S:zl} {Fp:Nat → List Nat} {st:St} {a:Act} {w:World}
theorem zkg (h:Sim C S Fp [] st a w)  {xt yt:Nat} {x y:Operand} (ho:o.op=.binOp .shr xt x y yt)    (e0:shrO C.n o.dst x y st=some (u,R,U)):vF P C o a w (ze U st):=by
 unfold shrO at e0
 obtain ⟨tx,R1,U1,R2,U2,h1,e1,rfl,rfl⟩:=bind_some e0
 obtain ⟨rfl,hx⟩:=zC h h1
 obtain ⟨vx,R3,U3,R4,U4,h3,e2,rfl,rfl⟩:=bind_some e1
 obtain ⟨rfl,qx⟩:=vM h hx h3
 simp only [ze,List.nil_append] at e2 ⊢
 obtain ⟨ty,R5,U5,R6,U6,h5,e3,rfl,rfl⟩:=bind_some e2
 obtain ⟨rfl,hy⟩:=zC h h5
 obtain ⟨vy,R7,U7,R8,U8,h7,e4,rfl,rfl⟩:=bind_some e3
 obtain ⟨rfl,qy⟩:=vM h hy h7
 simp only [ze,List.nil_append] at e4 ⊢
 split at e4
 ·rename_i k p k' q
  split at e4
  ·rename_i hq
   obtain ⟨ex,_⟩:=zy.1 qx
   obtain ⟨ey,_⟩:=zy.1 qy
   obtain ⟨Fp',hs⟩:=xL h e4 (x:=.d _) (zy.2 ⟨rfl,rfl⟩)
   refine zn ?_ hs
   have hn:¬ q < 0:=by omega
   simp [execOp,ho,ex,ey,eqGuard,Go.binOp,Op.shift,hn]
  ·exact (z7 e4).elim
 ·exact (z7 e4).elim
end
def zpG (P:Program):XH P:={
 e:=fun n o=>match o.op with | .binOp .shr _ x y _=>some (shrO n o.dst x y) | _=>none
 h:=fun n o=>match o.op with | .binOp .shr _ x y _=>some (zqe n o.dst x y) | _=>none
 ok:=by
  refine ⟨?_,?_⟩
  ·intro C S Fp st a w o m u R U e0 h h2
   dsimp only at e0
   split at e0
   ·rename_i ho; cases e0; exact zkg h ho h2
   ·cases e0
  ·intro n o m e0
   dsimp only at e0
   split at e0
   ·cases e0
    exact fun st st' a R U=>Loc.shrO _ _ _ _ st st' a R U
   ·cases e0
 none:=by
  intro n o e0
  skip
  split at e0
  ·cases e0
  ·rfl
 some:=by
  intro n o m e0
  skip
  split at e0
  ·cases e0; exact ⟨_,rfl,zoa _ _ _ _⟩
  ·cases e0 }
end Go.Own
end
