/- -/
import Derived.Test.YtedigoohmnbjfaaGreatPartB
import Derived.Test.YtedigoohmnbjfaaGreatProg
import Derived.Test.YtedigoohmnbjfaaGreatPartD
import Derived.Test.YtedigoohmnbjfaaGreatChecked
import Derived.Lib.AppendZerosOnto
import Derived.Lib.SliceRun
import Derived.WalkKit
import Derived.Lib.Walk
import Derived.Recover
import Derived.Defers
import Derived.Tactics2
import Derived.Test.YtedigoohmnbjfaaGreatPartC
import Derived.Shelf.SlSortCmp.NoneTotal
import Derived.Ground.SlsfProg
set_option linter.unusedVariables false
set_option linter.defProp false
set_option linter.unusedSimpArgs false
namespace Go.Ex
open Go.Proofs.Tryz
open Go.Proofs
def i32:EI:=⟨.slice 51,1,24,some [.slice none 0 0],false⟩
def q3:EqP prog 3 [.int .i64 0] false 1:=z13 (k:=.int .i64) underlying3 ⟨_,(by kernel_rfl:prog.info? 3=some Tryz.t3),rfl⟩ rfl
def q36:EqP prog 36 (z69 3 [.int .i64 0]) true 2:=Zj underlying36 q3 ⟨_,(by kernel_rfl:prog.info? 36=some t36),rfl⟩
def q33:EqP prog 33 [.int .i64 0] false 1:=z13 (k:=.int .i64) underlying33 ⟨_,(by kernel_rfl:prog.info? 33=some t33),rfl⟩ rfl
def q45:EqP prog 45 (z69 3 [.int .i64 0]) true 2:=Zj underlying45 q33 ⟨_,(by kernel_rfl:prog.info? 45=some Tryz.t45),rfl⟩
def i64:EI:=⟨.func,1,8,some [.nilFunc],false⟩
def q5:EqP prog 5 [.int .u8 0] false 1:=z13 (k:=.int .u8) underlying5 ⟨_,(by kernel_rfl:prog.info? 5=some Tryz.t5),rfl⟩ rfl
def q97:EqP prog 97 (z69 4 [.int .u8 0]) true 2:=Zj underlying97 q5 ⟨_,(by kernel_rfl:prog.info? 97=some t97),rfl⟩
def q98:EqP prog 98 (V5 [([.int .i64 0],false),([.int .i64 0],false)]) true 2:=X2 underlying98 (by kernel_rfl) ⟨_,(by kernel_rfl:prog.info? 98=some t98),rfl⟩ (by decide) (y9.cons (by decide) rfl (q3.mono (by decide)) (y9.cons (by decide) rfl (q3.mono (by decide)) (y9.nil)))
def q99:EqP prog 99 (V5 [([.int .i64 0],false),([.int .i64 0],false)]) true 2:=X2 underlying99 (by kernel_rfl) ⟨_,(by kernel_rfl:prog.info? 99=some t99),rfl⟩ (by decide) (y9.cons (by decide) rfl (q3.mono (by decide)) (y9.cons (by decide) rfl (q3.mono (by decide)) (y9.nil)))
def zoX:EqP prog 120 (z69 5 [.int .i64 0]) true 2:=Zj underlying120 q33 ⟨_,(by kernel_rfl:prog.info? 120=some t120),rfl⟩
def q21:EqP prog 21 [.int .i32 0] false 1:=z13 (k:=.int .i32) underlying21 ⟨_,(by kernel_rfl:prog.info? 21=some t21),rfl⟩ rfl
def zpe:EqP prog 161 (z69 16 [.int .i32 0]) true 2:=Zj underlying161 q21 ⟨_,(by kernel_rfl:prog.info? 161=some t161),rfl⟩
def zoW:EqP prog 162 (z69 16 [.int .i32 0]) true 2:=Zj underlying162 q21 ⟨_,(by kernel_rfl:prog.info? 162=some t162),rfl⟩
def zpd:EqP prog 216 (V5 [([.int .i64 0],false),([.int .i64 0],false),([.int .i64 0],false)]) true 2:=X2 underlying216 (by kernel_rfl) ⟨_,(by kernel_rfl:prog.info? 216=some t216),rfl⟩ (by decide) (y9.cons (by decide) rfl (q3.mono (by decide)) (y9.cons (by decide) rfl (q3.mono (by decide)) (y9.cons (by decide) rfl (q3.mono (by decide)) (y9.nil))))
def zoV:EqP prog 217 (V5 [([.int .i64 0],false),([.int .i64 0],false),([.int .i64 0],false)]) true 2:=X2 underlying217 (by kernel_rfl) ⟨_,(by kernel_rfl:prog.info? 217=some t217),rfl⟩ (by decide) (y9.cons (by decide) rfl (q3.mono (by decide)) (y9.cons (by decide) rfl (q3.mono (by decide)) (y9.cons (by decide) rfl (q3.mono (by decide)) (y9.nil))))
def zlM:EqP prog 227 (z69 2 [.int .i64 0]) true 2:=Zj underlying227 q3 ⟨_,(by kernel_rfl:prog.info? 227=some t227),rfl⟩
def zpc:EqP prog 255 (z69 16 [.int .i64 0,.int .i64 0]) true 3:=Zj underlying255 zlM ⟨_,(by kernel_rfl:prog.info? 255=some t255),rfl⟩
def zlL:EqP prog 256 (z69 16 [.int .i64 0,.int .i64 0]) true 3:=Zj underlying256 zlM ⟨_,(by kernel_rfl:prog.info? 256=some t256),rfl⟩
def zpb:EqP prog 258 (V5 [([.int .i64 0],false),([.int .i64 0,.int .i64 0,.int .i64 0,.int .i64 0,.int .i64 0,.int .i64 0,.int .i64 0,.int .i64 0,.int .i64 0,.int .i64 0,.int .i64 0,.int .i64 0,.int .i64 0,.int .i64 0,.int .i64 0,.int .i64 0,.int .i64 0,.int .i64 0,.int .i64 0,.int .i64 0,.int .i64 0,.int .i64 0,.int .i64 0,.int .i64 0,.int .i64 0,.int .i64 0,.int .i64 0,.int .i64 0,.int .i64 0,.int .i64 0,.int .i64 0,.int .i64 0],true)]) true 4:=X2 underlying258 (by kernel_rfl) ⟨_,(by kernel_rfl:prog.info? 258=some t258),rfl⟩ (by decide) (y9.cons (by decide) rfl (q3.mono (by decide)) (y9.cons (by decide) rfl (zlL.mono (by decide)) (y9.nil)))
def znH:EqP prog 259 (V5 [([.int .i64 0],false),([.int .i64 0,.int .i64 0,.int .i64 0,.int .i64 0,.int .i64 0,.int .i64 0,.int .i64 0,.int .i64 0,.int .i64 0,.int .i64 0,.int .i64 0,.int .i64 0,.int .i64 0,.int .i64 0,.int .i64 0,.int .i64 0,.int .i64 0,.int .i64 0,.int .i64 0,.int .i64 0,.int .i64 0,.int .i64 0,.int .i64 0,.int .i64 0,.int .i64 0,.int .i64 0,.int .i64 0,.int .i64 0,.int .i64 0,.int .i64 0,.int .i64 0,.int .i64 0],true)]) true 4:=X2 underlying259 (by kernel_rfl) ⟨_,(by kernel_rfl:prog.info? 259=some t259),rfl⟩ (by decide) (y9.cons (by decide) rfl (q3.mono (by decide)) (y9.cons (by decide) rfl (zlL.mono (by decide)) (y9.nil)))
end Go.Ex

namespace Go.Own
open Go.Proofs.Tryz
open Go.Proofs
def zl8:Value->Bool
 | .int _ _=>true
 | _=>false
def z6M:∀{z vs us:List Value} {r:Bool},z.all zl8=true->z.length=vs.length->yX vs us=some r->Go.Ex.z5t z vs=true/\Go.Ex.yX vs us=some r
 | [],[],us,r,_,_,h=>by
  cases us with
  | nil=>simp only[yX,Option.some.injEq]at h;subst h;exact⟨rfl,rfl⟩
  | cons u us=>simp[yX]at h
 | a::z,v::vs,us,r,hz,hl,h=>by
  have q:∃k x u' k' y,v=.int k x/\us=.int k' y::u'/\k=k':=by
   cases us with
   | nil=>cases v <;> simp[yX]at h
   | cons u us=>cases v <;> cases u <;> simp[yX]at h;exact⟨_,_,_,_,_,rfl,rfl,h.1⟩
  obtain⟨k,x,u',k',y,rfl,rfl,hk⟩:=q;simp only[yX,hk,if_true,pN]at h;obtain⟨r',e1,rfl⟩:=h;simp only[List.all_cons,po]at hz;obtain⟨q1,q2⟩:=z6M hz.2 (by simpa using hl) e1;refine⟨?_,by simp[Go.Ex.yX,hk,q2]⟩;cases a <;> first|(simp[zl8]at hz;done)|simpa[Go.Ex.z5t] using q1
 | [],_::_,_,_,_,hl,_=>by simp at hl
 | _::_,[],_,_,_,hl,_=>by simp at hl
variable {P:Program}{z:List Value}
def zhE {t n:Nat}{i:Go.Ex.EI}(h:Go.Ex.zcw P t i)  (hz:i.zero=some z)(hi:z.all zl8=true)(hs:i.size=n)(hn:z.length=n):zcw P t n:={
 guard:=h.guard
 run:=λvs us r w hv hu he=>by obtain⟨q1,q2⟩:=z6M hi (by rw[hn,hv]) he;exact h.run vs us r w (by rw[hs];exact hv) (by rw[hs];exact hu) (by simpa only[Go.Ex.zmG,hz] using q1) q2 }
def exq {t dep:Nat}  (q:Go.Ex.EqP P t z true dep)(h1:Nat.ble dep P.depth=true:=by kernel_rfl)(h2:dep<=10000:=by decide):Go.Ex.zcw P t ⟨.func,z.length,0,some z,true⟩:=Go.Ex.zhD q rfl rfl (Nat.le_of_ble_eq_true h1) h2
def z0v {t n dep:Nat}  (q:Go.Ex.EqP P t z true dep)(hi:z.all zl8=true)(hn:z.length=n)(h1:Nat.ble dep P.depth=true:=by kernel_rfl)(h2:dep<=10000:=by decide):zcw P t n:=zhE (exq q h1 h2) rfl hi hn hn
variable {h:Array Obj}{S:zi}
def zbN {v:Value}(hv:v.oneCell'=true):zG S h (.atom v) [v] []:=by simp only[zG,Rep];exact⟨⟨trivial,hv⟩,trivial⟩
def zeI (sz:Nat):zG S h (.osl sz true []) [.slice none 0 0] []:=by simp only[zG];exact⟨none,0,rfl,(λ_=>rfl),pj _,pQ _,by simp,.inl ⟨trivial,rfl,rfl,trivial⟩⟩
def z8X {sz:Nat}:zG S h (.dop (nlQ sz [])) [.slice none 0 0] []:=by simp only[zG,Rep];exact⟨⟨_,rfl,zaZ.2 ⟨by simp[Rep],λ_=>rfl⟩⟩,trivial⟩
variable {a:A}
def Ky {c:List Value}(q:zG S h a c []):∀n,zK S h (List.replicate n a) (List.replicate n c).flatten []
 | 0=>by simp[zK]
 | n+1=>by rw[mL,mL,List.flatten_cons];simp only[zK];exact⟨c,_,[],[],rfl,rfl,q,Ky q n⟩
def zkE {c c':List Value}(q:zG S h a c [])(e:c'=c):zG S h a c' []:=e ▸ q
variable {fs:List A}
def z14 {cs:List Value}(q:zK S h fs cs []):zG S h (.agg fs) cs []:=by simpa only[zG] using q
def zbL:zK S h [] [] []:=by simp[zK]
def zbM {c1 c2:List Value}(q1:zG S h a c1 [])(q2:zK S h fs c2 []):zK S h (a::fs) (c1++c2) []:=by simp only[zK];exact⟨c1,c2,[],[],rfl,rfl,q1,q2⟩
def zc:A->Option (List Value)
 | .atom v=>if v.oneCell'=true then some [v] else none
 | .osl _ true []=>some [.slice none 0 0]
 | .agg fs=>zcs fs
 | _=>none
where zcs:List A->Option (List Value)
 | []=>some []
 | a::l=>match zc a,zcs l with|some c,some d=>some (c++d)|_,_=>none
mutual
def zim:∀{a:A} {c:List Value},zc a=some c->zG S h a c []
 | .atom v,c,e=>by
  simp only[zc]at e;split at e
  ·rename_i q;cases e;exact zbN q
  cases e
 | .osl sz true [],c,e=>by simp only[zc]at e;cases e;exact zeI sz
 | .agg fs,c,e=>z14 (zff (by simpa only[zc] using e))
def zff:∀{l:List A} {c:List Value},zc.zcs l=some c->zK S h l c []
 | [],c,e=>by simp only[zc.zcs]at e;cases e;exact zbL
 | a::l,c,e=>by
  simp only[zc.zcs]at e;split at e
  ·rename_i c d e1 e2;cases e;exact zbM (zim e1) (zff e2)
  cases e
end
def zq (z:Option A)(v:Option Value)(n:Nat):Prop:=match z,v with|some z,some v=>z.size=n/\zc z=some v.cells.toList|none,_=>True|_,_=>False
def tiq {t:Nat}{i:TI}(f:TypeInfo)(k:z2B P t i.kind)(e:i.eqn=true->zcw P t i.size:=by intro h;cases h)(h:P.info? t=some f:=by kernel_rfl)(h2:f.size=i.size:=by rfl)(h3:f.bytes=i.bytes:=by rfl)(h4:zq i.zero f.zero i.size:=by exact And.intro rfl rfl):vJ P t i :=
 ⟨⟨f,h,h2,h3,λz hz=>by
  rw[hz]at h4;cases hv:f.zero with
  | none=>rw[hv]at h4;exact h4.elim
  | some v=>rw[hv]at h4;exact⟨v,rfl,h4.1,λS h=>zim h4.2⟩⟩,k,e⟩
def ti1:TI:=⟨.other,1,8,some (.atom .nilFunc),false⟩
def ziY:vJ prog 1 ti1:=tiq Tryz.t1 ⟨_,underlying1,rfl⟩
def ti2:TI:=⟨.int .i64,1,8,some (.atom (.int .i64 0)),false⟩
def ziA:vJ prog 2 ti2:=tiq Tryz.t2 (underlying2)
def ti3:TI:=⟨.int .i64,1,8,some (.atom (.int .i64 0)),false⟩
def ziz:vJ prog 3 ti3:=tiq Tryz.t3 (underlying3)
def ti4:TI:=⟨.bool,1,1,some (.atom (.bool false)),false⟩
def ziy:vJ prog 4 ti4:=tiq Tryz.t4 (underlying4)
def ti5:TI:=⟨.int .u8,1,1,some (.atom (.int .u8 0)),false⟩
def zix:vJ prog 5 ti5:=tiq Tryz.t5 (underlying5)
def ti9:TI:=⟨.str,1,16,some (.atom (.string ⟨#[]⟩)),false⟩
def ziw:vJ prog 9 ti9:=tiq Tryz.t9 (underlying9)
def znw:TI:=⟨.other,1,16,some (.atom .nilIface),false⟩
def zgA:vJ prog 20 znw:=tiq t20 ⟨_,underlying20,rfl⟩
def znv:TI:=⟨.int .i32,1,4,some (.atom (.int .i32 0)),false⟩
def zgz:vJ prog 21 znv:=tiq t21 (underlying21)
def znu:TI:=⟨.slice 5,1,24,some (.osl 1 true []),false⟩
def zgy:vJ prog 22 znu:=tiq Tryz.t22 (underlying22)
def znt:TI:=⟨.slice 96,1,24,some (.osl 1 true []),false⟩
def zgx:vJ prog 28 znt:=tiq t28 (underlying28)
def zns:TI:=⟨.struct [(0,1),(1,1),(2,1)],3,40,some (.agg [.atom (.int .i64 0),.atom (.int .i64 0),.osl 1 true []]),false⟩
def zgw:vJ prog 30 zns:=tiq t30 ⟨_,underlying30,by kernel_rfl,by
  intro f hf;simp only[pl,gv,or_false]at hf;rcases hf with rfl|rfl|rfl
  ·exact⟨Tryz.t3,by kernel_rfl⟩
  ·exact⟨Tryz.t3,by kernel_rfl⟩
  exact⟨t28,by kernel_rfl⟩⟩
def znr:TI:=⟨.slice 51,1,24,some (.osl 1 true []),false⟩
def zgv:vJ prog 32 znr:=tiq t32 (underlying32)
def znq:TI:=⟨.int .i64,1,8,some (.atom (.int .i64 0)),false⟩
def zgu:vJ prog 33 znq:=tiq t33 (underlying33)
def znp:TI:=⟨.array 3 3,3,24,some (.agg [.atom (.int .i64 0),.atom (.int .i64 0),.atom (.int .i64 0)]),true⟩
def zgt:vJ prog 36 znp:=tiq t36 (underlying36) (λ_=>z0v Go.Ex.q36 rfl rfl)
def zno:TI:=⟨.other,1,8,some (.atom .nilFunc),false⟩
def zgs:vJ prog 41 zno:=tiq t41 ⟨_,underlying41,rfl⟩
def znn:TI:=⟨.slice 3,1,24,some (.osl 1 true []),false⟩
def zgr:vJ prog 51 znn:=tiq t51 (underlying51)
def znm:TI:=⟨.struct [(0,1),(1,1),(2,1),(3,3)],6,80,some (.agg [.atom (.int .i64 0),.atom (.int .i64 0),.osl 1 true [],.agg [.atom (.int .i64 0),.atom (.int .i64 0),.osl 1 true []]]),false⟩
def zgq:vJ prog 58 znm:=tiq t58 ⟨_,underlying58,by kernel_rfl,by
  intro f hf;simp only[pl,gv,or_false]at hf;rcases hf with rfl|rfl|rfl|rfl
  ·exact⟨Tryz.t3,by kernel_rfl⟩
  ·exact⟨Tryz.t3,by kernel_rfl⟩
  ·exact⟨t32,by kernel_rfl⟩
  exact⟨t30,by kernel_rfl⟩⟩
def znl:TI:=⟨.struct [],0,0,some (.agg []),false⟩
def zgp:vJ prog 77 znl:=tiq Tryz.t77 ⟨_,underlying77,by kernel_rfl,by intro f hf;cases hf⟩
def znk:TI:=⟨.struct [],0,0,some (.agg []),false⟩
def zgo:vJ prog 78 znk:=tiq t78 ⟨_,underlying78,by kernel_rfl,by intro f hf;cases hf⟩
def znj:TI:=⟨.struct [],0,0,some (.agg []),false⟩
def zgn:vJ prog 79 znj:=tiq t79 ⟨_,underlying79,by kernel_rfl,by intro f hf;cases hf⟩
def zni:TI:=⟨.ptr 119,1,8,some (.atom (.pointer none)),false⟩
def zgm:vJ prog 80 zni:=tiq t80 (underlying80)
def znh:TI:=⟨.slice 85,1,24,some (.osl 1 true []),false⟩
def zgl:vJ prog 83 znh:=tiq t83 (underlying83)
def zng:TI:=⟨.other,1,16,some (.atom .nilIface),false⟩
def zgk:vJ prog 85 zng:=tiq t85 ⟨_,underlying85,rfl⟩
def znf:TI:=⟨.ptr 91,1,8,some (.atom (.pointer none)),false⟩
def zgj:vJ prog 86 znf:=tiq t86 (underlying86)
def zne:TI:=⟨.slice 162,1,24,some (.osl 16 true []),false⟩
def zgi:vJ prog 89 zne:=tiq t89 (underlying89)
def znd:TI:=⟨.struct [(0,1),(1,1),(2,1)],3,40,some (.agg [.osl 16 true [],.atom (.int .i64 0),.atom (.int .i64 0)]),false⟩
def zgh:vJ prog 91 znd:=tiq t91 ⟨_,underlying91,by kernel_rfl,by
  intro f hf;simp only[pl,gv,or_false]at hf;rcases hf with rfl|rfl|rfl
  ·exact⟨t89,by kernel_rfl⟩
  ·exact⟨Tryz.t3,by kernel_rfl⟩
  exact⟨Tryz.t3,by kernel_rfl⟩⟩
def znc:TI:=⟨.slice 99,1,24,some (.osl 2 true []),false⟩
def zgg:vJ prog 96 znc:=tiq t96 (underlying96)
def znb:TI:=⟨.struct [(0,1),(1,1)],2,16,some (.agg [.atom (.int .i64 0),.atom (.int .i64 0)]),true⟩
def zgf:vJ prog 99 znb:=tiq t99 ⟨_,underlying99,by kernel_rfl,by
  intro f hf;simp only[pl,gv,or_false]at hf;rcases hf with rfl|rfl
  ·exact⟨Tryz.t3,by kernel_rfl⟩
  exact⟨Tryz.t3,by kernel_rfl⟩⟩ (λ_=>z0v Go.Ex.q99 rfl rfl)
def zjr:TI:=⟨.slice 4,1,24,some (.osl 1 true []),false⟩
def zdm:vJ prog 101 zjr:=tiq t101 (underlying101)
def zjq:TI:=⟨.slice 101,1,24,some (.osl 1 true []),false⟩
def zdl:vJ prog 102 zjq:=tiq t102 (underlying102)
def zjp:TI:=⟨.slice 30,1,24,some (.osl 3 true []),false⟩
def zdk:vJ prog 104 zjp:=tiq t104 (underlying104)
def zjo:TI:=⟨.other,1,8,some (.atom .nilFunc),false⟩
def zdj:vJ prog 109 zjo:=tiq t109 ⟨_,underlying109,rfl⟩
def zjn:TI:=⟨.other,1,8,some (.atom .nilFunc),false⟩
def zdi:vJ prog 110 zjn:=tiq t110 ⟨_,underlying110,rfl⟩
def zjm:TI:=⟨.slice 32,1,24,some (.osl 1 true []),false⟩
def zdh:vJ prog 117 zjm:=tiq t117 (underlying117)
def zjl:TI:=⟨.struct [(0,3),(3,1),(4,1),(5,1),(6,1),(7,1),(8,1)],9,184,some (.agg [.agg [.atom (.int .i64 0),.atom (.int .i64 0),.osl 1 true []],.osl 1 true [],.osl 1 true [],.osl 1 true [],.osl 1 true [],.osl 1 true [],.osl 1 true []]),false⟩
def zdg:vJ prog 119 zjl:=tiq t119 ⟨_,underlying119,by kernel_rfl,by
  intro f hf;simp only[pl,gv,or_false]at hf;rcases hf with rfl|rfl|rfl|rfl|rfl|rfl|rfl
  ·exact⟨t30,by kernel_rfl⟩
  ·exact⟨t32,by kernel_rfl⟩
  ·exact⟨t32,by kernel_rfl⟩
  ·exact⟨t32,by kernel_rfl⟩
  ·exact⟨t117,by kernel_rfl⟩
  ·exact⟨t32,by kernel_rfl⟩
  exact⟨t32,by kernel_rfl⟩⟩
def zjk:TI:=⟨.array 5 33,5,40,some (.agg [.atom (.int .i64 0),.atom (.int .i64 0),.atom (.int .i64 0),.atom (.int .i64 0),.atom (.int .i64 0)]),true⟩
def zdf:vJ prog 120 zjk:=tiq t120 (underlying120) (λ_=>z0v Go.Ex.zoX rfl rfl)
def zjj:TI:=⟨.struct [],0,0,some (.agg []),false⟩
def zde:vJ prog 124 zjj:=tiq t124 ⟨_,underlying124,by kernel_rfl,by intro f hf;cases hf⟩
def zji:TI:=⟨.other,1,8,some (.atom .nilFunc),false⟩
def zdd:vJ prog 130 zji:=tiq t130 ⟨_,underlying130,rfl⟩
def zjh:TI:=⟨.other,1,8,some (.atom .nilFunc),false⟩
def zdc:vJ prog 132 zjh:=tiq t132 ⟨_,underlying132,rfl⟩
def zjg:TI:=⟨.other,1,8,some (.atom .nilFunc),false⟩
def zdb:vJ prog 133 zjg:=tiq t133 ⟨_,underlying133,rfl⟩
def zjf:TI:=⟨.other,1,8,some (.atom .nilFunc),false⟩
def zda:vJ prog 134 zjf:=tiq t134 ⟨_,underlying134,rfl⟩
def zje:TI:=⟨.struct [(0,1),(1,1)],2,16,some (.agg [.atom (.int .i64 0),.atom .nilFunc]),false⟩
def zd9:vJ prog 141 zje:=tiq t141 ⟨_,underlying141,by kernel_rfl,by
  intro f hf;simp only[pl,gv,or_false]at hf;rcases hf with rfl|rfl
  ·exact⟨t33,by kernel_rfl⟩
  exact⟨t41,by kernel_rfl⟩⟩
def zjd:TI:=⟨.array 3 141,6,48,some (.agg [.agg [.atom (.int .i64 0),.atom .nilFunc],.agg [.atom (.int .i64 0),.atom .nilFunc],.agg [.atom (.int .i64 0),.atom .nilFunc]]),false⟩
def zd8:vJ prog 142 zjd:=tiq t142 (underlying142)
def zjc:TI:=⟨.other,1,8,some (.atom .nilFunc),false⟩
def zd7:vJ prog 144 zjc:=tiq t144 ⟨_,underlying144,rfl⟩
def zjb:TI:=⟨.struct [(0,1),(1,1)],2,32,some (.agg [.atom (.int .i32 0),.osl 1 true []]),false⟩
def zd6:vJ prog 159 zjb:=tiq t159 ⟨_,underlying159,by kernel_rfl,by
  intro f hf;simp only[pl,gv,or_false]at hf;rcases hf with rfl|rfl
  ·exact⟨t21,by kernel_rfl⟩
  exact⟨t51,by kernel_rfl⟩⟩
def zja:TI:=⟨.slice 159,1,24,some (.osl 2 true []),false⟩
def zd5:vJ prog 160 zja:=tiq t160 (underlying160)
def zj9:TI:=⟨.array 16 21,16,64,some (.agg [.atom (.int .i32 0),.atom (.int .i32 0),.atom (.int .i32 0),.atom (.int .i32 0),.atom (.int .i32 0),.atom (.int .i32 0),.atom (.int .i32 0),.atom (.int .i32 0),.atom (.int .i32 0),.atom (.int .i32 0),.atom (.int .i32 0),.atom (.int .i32 0),.atom (.int .i32 0),.atom (.int .i32 0),.atom (.int .i32 0),.atom (.int .i32 0)]),true⟩
def zd4:vJ prog 162 zj9:=tiq t162 (underlying162) (λ_=>z0v Go.Ex.zoW rfl rfl)
def zj8:TI:=⟨.other,1,8,some (.atom .nilFunc),false⟩
def zd3:vJ prog 167 zj8:=tiq t167 ⟨_,underlying167,rfl⟩
def zj7:TI:=⟨.other,1,8,some (.atom .nilFunc),false⟩
def zd2:vJ prog 168 zj7:=tiq t168 ⟨_,underlying168,rfl⟩
def zj6:TI:=⟨.other,1,8,some (.atom .nilFunc),false⟩
def zd1:vJ prog 174 zj6:=tiq t174 ⟨_,underlying174,rfl⟩
def zj5:TI:=⟨.other,1,8,some (.atom .nilFunc),false⟩
def zd0:vJ prog 175 zj5:=tiq t175 ⟨_,underlying175,rfl⟩
def zj4:TI:=⟨.struct [(0,1),(1,1)],2,32,some (.agg [.osl 1 true [],.atom (.bool false)]),false⟩
def zcZ:vJ prog 186 zj4:=tiq t186 ⟨_,underlying186,by kernel_rfl,by
  intro f hf;simp only[pl,gv,or_false]at hf;rcases hf with rfl|rfl
  ·exact⟨t51,by kernel_rfl⟩
  exact⟨Tryz.t4,by kernel_rfl⟩⟩
def zj3:TI:=⟨.struct [(0,1),(1,1)],2,32,some (.agg [.osl 1 true [],.atom (.bool false)]),false⟩
def zcY:vJ prog 187 zj3:=tiq t187 ⟨_,underlying187,by kernel_rfl,by
  intro f hf;simp only[pl,gv,or_false]at hf;rcases hf with rfl|rfl
  ·exact⟨t51,by kernel_rfl⟩
  exact⟨Tryz.t4,by kernel_rfl⟩⟩
def zj2:TI:=⟨.other,1,8,some (.atom .nilFunc),false⟩
def zcX:vJ prog 189 zj2:=tiq t189 ⟨_,underlying189,rfl⟩
def zj1:TI:=⟨.other,1,8,some (.atom .nilFunc),false⟩
def zcW:vJ prog 191 zj1:=tiq t191 ⟨_,underlying191,rfl⟩
def zj0:TI:=⟨.other,1,8,some (.atom .nilFunc),false⟩
def zcV:vJ prog 192 zj0:=tiq t192 ⟨_,underlying192,rfl⟩
def ziZ:TI:=⟨.other,1,8,some (.atom .nilFunc),false⟩
def zcU:vJ prog 199 ziZ:=tiq t199 ⟨_,underlying199,rfl⟩
def ziX:TI:=⟨.slice 227,1,24,some (.osl 2 true []),false⟩
def zcT:vJ prog 202 ziX:=tiq t202 (underlying202)
def ziW:TI:=⟨.other,1,8,some (.atom .nilFunc),false⟩
def zcS:vJ prog 204 ziW:=tiq t204 ⟨_,underlying204,rfl⟩
def ziV:TI:=⟨.other,1,8,some (.atom .nilFunc),false⟩
def zcR:vJ prog 205 ziV:=tiq t205 ⟨_,underlying205,rfl⟩
def ziU:TI:=⟨.int .u64,1,8,some (.atom (.int .u64 0)),false⟩
def zcQ:vJ prog 209 ziU:=tiq t209 (underlying209)
def ziT:TI:=⟨.other,1,8,some (.atom .nilFunc),false⟩
def zcP:vJ prog 213 ziT:=tiq t213 ⟨_,underlying213,rfl⟩
def ziS:TI:=⟨.other,1,8,some (.atom .nilFunc),false⟩
def zcO:vJ prog 214 ziS:=tiq t214 ⟨_,underlying214,rfl⟩
def ziR:TI:=⟨.struct [(0,1),(1,1),(2,1)],3,24,some (.agg [.atom (.int .i64 0),.atom (.int .i64 0),.atom (.int .i64 0)]),true⟩
def zcN:vJ prog 217 ziR:=tiq t217 ⟨_,underlying217,by kernel_rfl,by
  intro f hf;simp only[pl,gv,or_false]at hf;rcases hf with rfl|rfl|rfl
  ·exact⟨Tryz.t3,by kernel_rfl⟩
  ·exact⟨Tryz.t3,by kernel_rfl⟩
  exact⟨Tryz.t3,by kernel_rfl⟩⟩ (λ_=>z0v Go.Ex.zoV rfl rfl)
def ziQ:TI:=⟨.other,1,8,some (.atom (.map none)),false⟩
def zcM:vJ prog 218 ziQ:=tiq t218 ⟨_,underlying218,rfl⟩
def ziP:TI:=⟨.array 64 51,64,1536,some (.agg (List.replicate 64 (.dop (nlQ 1 [])))),false⟩
def zcL:vJ prog 221 ziP:=⟨⟨t221,by kernel_rfl,rfl,rfl,λz h=>by cases h;exact⟨_,rfl,by kernel_rfl,λS h=>zkE (z14 (Ky (z8X) 64)) (by kernel_rfl)⟩⟩,underlying221,by intro h;cases h⟩
def ziO:TI:=⟨.ptr 246,1,8,some (.atom (.pointer none)),false⟩
def zcK:vJ prog 222 ziO:=tiq t222 (underlying222)
def ziN:TI:=⟨.other,1,8,some (.atom .nilFunc),false⟩
def zcJ:vJ prog 224 ziN:=tiq t224 ⟨_,underlying224,rfl⟩
def ziM:TI:=⟨.other,1,8,some (.atom .nilFunc),false⟩
def zcI:vJ prog 225 ziM:=tiq t225 ⟨_,underlying225,rfl⟩
def ziL:TI:=⟨.array 2 3,2,16,some (.agg [.atom (.int .i64 0),.atom (.int .i64 0)]),true⟩
def zcH:vJ prog 227 ziL:=tiq t227 (underlying227) (λ_=>z0v Go.Ex.zlM rfl rfl)
def ziK:TI:=⟨.other,1,8,some (.atom .nilFunc),false⟩
def zcG:vJ prog 229 ziK:=tiq t229 ⟨_,underlying229,rfl⟩
def ziJ:TI:=⟨.other,1,8,some (.atom .nilFunc),false⟩
def zcF:vJ prog 243 ziJ:=tiq t243 ⟨_,underlying243,rfl⟩
def ziI:TI:=⟨.slice 217,1,24,some (.osl 3 true []),false⟩
def zcE:vJ prog 244 ziI:=tiq t244 (underlying244)
def ziH:TI:=⟨.array 64 221,4096,98304,some (.agg (List.replicate 64 (.agg (List.replicate 64 (.dop (nlQ 1 [])))))),false⟩
def zcD:vJ prog 246 ziH:=⟨⟨t246,by kernel_rfl,rfl,rfl,λz h=>by cases h;exact⟨_,rfl,by kernel_rfl,λS h=>zkE (z14 (Ky (z14 (Ky (z8X) 64)) 64)) (by kernel_rfl)⟩⟩,underlying246,by intro h;cases h⟩
def ziG:TI:=⟨.slice 251,1,24,some (.osl 4 true []),false⟩
def zcC:vJ prog 247 ziG:=tiq t247 (underlying247)
def ziF:TI:=⟨.struct [(0,1),(1,1),(2,1),(3,1)],4,48,some (.agg [.atom (.int .i64 0),.atom (.int .i64 0),.osl 1 true [],.atom (.bool false)]),false⟩
def zcB:vJ prog 251 ziF:=tiq t251 ⟨_,underlying251,by kernel_rfl,by
  intro f hf;simp only[pl,gv,or_false]at hf;rcases hf with rfl|rfl|rfl|rfl
  ·exact⟨Tryz.t3,by kernel_rfl⟩
  ·exact⟨Tryz.t3,by kernel_rfl⟩
  ·exact⟨t51,by kernel_rfl⟩
  exact⟨Tryz.t4,by kernel_rfl⟩⟩
def ziE:TI:=⟨.other,1,8,some (.atom .nilFunc),false⟩
def zcA:vJ prog 253 ziE:=tiq t253 ⟨_,underlying253,rfl⟩
def ziD:TI:=⟨.other,1,8,some (.atom (.map none)),false⟩
def zcz:vJ prog 254 ziD:=tiq t254 ⟨_,underlying254,rfl⟩
def ziC:TI:=⟨.array 16 227,32,256,some (.agg [.agg [.atom (.int .i64 0),.atom (.int .i64 0)],.agg [.atom (.int .i64 0),.atom (.int .i64 0)],.agg [.atom (.int .i64 0),.atom (.int .i64 0)],.agg [.atom (.int .i64 0),.atom (.int .i64 0)],.agg [.atom (.int .i64 0),.atom (.int .i64 0)],.agg [.atom (.int .i64 0),.atom (.int .i64 0)],.agg [.atom (.int .i64 0),.atom (.int .i64 0)],.agg [.atom (.int .i64 0),.atom (.int .i64 0)],.agg [.atom (.int .i64 0),.atom (.int .i64 0)],.agg [.atom (.int .i64 0),.atom (.int .i64 0)],.agg [.atom (.int .i64 0),.atom (.int .i64 0)],.agg [.atom (.int .i64 0),.atom (.int .i64 0)],.agg [.atom (.int .i64 0),.atom (.int .i64 0)],.agg [.atom (.int .i64 0),.atom (.int .i64 0)],.agg [.atom (.int .i64 0),.atom (.int .i64 0)],.agg [.atom (.int .i64 0),.atom (.int .i64 0)]]),true⟩
def zcy:vJ prog 256 ziC:=tiq t256 (underlying256) (λ_=>z0v Go.Ex.zlL rfl rfl)
def ziB:TI:=⟨.struct [(0,1),(1,32)],33,264,some (.agg [.atom (.int .i64 0),.agg [.agg [.atom (.int .i64 0),.atom (.int .i64 0)],.agg [.atom (.int .i64 0),.atom (.int .i64 0)],.agg [.atom (.int .i64 0),.atom (.int .i64 0)],.agg [.atom (.int .i64 0),.atom (.int .i64 0)],.agg [.atom (.int .i64 0),.atom (.int .i64 0)],.agg [.atom (.int .i64 0),.atom (.int .i64 0)],.agg [.atom (.int .i64 0),.atom (.int .i64 0)],.agg [.atom (.int .i64 0),.atom (.int .i64 0)],.agg [.atom (.int .i64 0),.atom (.int .i64 0)],.agg [.atom (.int .i64 0),.atom (.int .i64 0)],.agg [.atom (.int .i64 0),.atom (.int .i64 0)],.agg [.atom (.int .i64 0),.atom (.int .i64 0)],.agg [.atom (.int .i64 0),.atom (.int .i64 0)],.agg [.atom (.int .i64 0),.atom (.int .i64 0)],.agg [.atom (.int .i64 0),.atom (.int .i64 0)],.agg [.atom (.int .i64 0),.atom (.int .i64 0)]]]),true⟩
def z7Y:vJ prog 259 ziB:=tiq t259 ⟨_,underlying259,by kernel_rfl,by
  intro f hf;simp only[pl,gv,or_false]at hf;rcases hf with rfl|rfl
  ·exact⟨Tryz.t3,by kernel_rfl⟩
  exact⟨t256,by kernel_rfl⟩⟩ (λ_=>z0v Go.Ex.znH rfl rfl)
def tiL:List (Nat×TI):=[(1,ti1),(2,ti2),(3,ti3),(4,ti4),(5,ti5),(9,ti9),(20,znw),(21,znv),(22,znu),(28,znt),(30,zns),(32,znr),(33,znq),(36,znp),(41,zno),(51,znn),(58,znm),(77,znl),(78,znk),(79,znj),(80,zni),(83,znh),(85,zng),(86,znf),(89,zne),(91,znd),(96,znc),(99,znb),(101,zjr),(102,zjq),(104,zjp),(109,zjo),(110,zjn),(117,zjm),(119,zjl),(120,zjk),(124,zjj),(130,zji),(132,zjh),(133,zjg),(134,zjf),(141,zje),(142,zjd),(144,zjc),(159,zjb),(160,zja),(162,zj9),(167,zj8),(168,zj7),(174,zj6),(175,zj5),(186,zj4),(187,zj3),(189,zj2),(191,zj1),(192,zj0),(199,ziZ),(202,ziX),(204,ziW),(205,ziV),(209,ziU),(213,ziT),(214,ziS),(217,ziR),(218,ziQ),(221,ziP),(222,ziO),(224,ziN),(225,ziM),(227,ziL),(229,ziK),(243,ziJ),(244,ziI),(246,ziH),(247,ziG),(251,ziF),(253,ziE),(254,ziD),(256,ziC),(259,ziB)]
def ua:TT:=λt=>(tiL.find? λp=>p.1==t).map (·.2)
def zco (P:Program):List (Nat×TI)->Prop
 | []=>True
 | p::l=>vJ P p.1 p.2/\zco P l
def zco.mem:∀{l:List (Nat×TI)},zco P l->∀p∈l,vJ P p.1 p.2
 | p::_,h,q,hq=>by
  rcases pl.1 hq with rfl|hq
  ·exact h.1
  exact zco.mem h.2 q hq
 | [],_,_,hq=>by cases hq
def ziv:zco prog tiL:=⟨ziY,ziA,ziz,ziy,zix,ziw,zgA,zgz,zgy,zgx,zgw,zgv,zgu,zgt,zgs,zgr,zgq,zgp,zgo,zgn,zgm,zgl,zgk,zgj,zgi,zgh,zgg,zgf,zdm,zdl,zdk,zdj,zdi,zdh,zdg,zdf,zde,zdd,zdc,zdb,zda,zd9,zd8,zd7,zd6,zd5,zd4,zd3,zd2,zd1,zd0,zcZ,zcY,zcX,zcW,zcV,zcU,zcT,zcS,zcR,zcQ,zcP,zcO,zcN,zcM,zcL,zcK,zcJ,zcI,zcH,zcG,zcF,zcE,zcD,zcC,zcB,zcA,zcz,zcy,z7Y,trivial⟩
def zt:xV prog ua:=by intro t i h;unfold ua at h;rw[pN]at h;obtain⟨p,h1,rfl⟩:=h;have h2:=List.find?_some h1;have h3:=ziv.mem p (List.mem_of_find?_eq_some h1);rw[beq_iff_eq.1 h2]at h3;exact h3
end Go.Own

namespace Go.Proofs
open Go.Proofs.Tryz
open Go.RowKit Go.Lib
def Tryz.groI:(prog.info? 3).map (λi=>(i.size,i.bytes,i.zero))=some (1,8,some (.int .i64 0)):=by kernel_rfl
set_option maxHeartbeats 4000000 in
set_option maxRecDepth 100000 in
def Tryz.gro_run (p:Option Addr)(n:Nat)(w:World)(h0:0<n)(h1:n<=1000000) :
  Calls prog 202 #[.slice p 0 0,.int .i64 n] w λe w'=>
   e=.returned (.slice (some ⟨w.heap.size,0,none⟩) 0 (grownCap w n 0 3)) /\
   w'=w.drew.alloc (.cells (#[]++Builtin.zeroCells (Value.int .i64 0).cells n++Builtin.zeroCells (Value.int .i64 0).cells (grownCap w n 0 3 - n)) 3):=by
 obtain⟨i0,hi0,hi⟩:=pN.1 Tryz.groI;obtain⟨hs0,hi⟩:=Prod.mk.inj hi;obtain⟨hb0,hz0⟩:=Prod.mk.inj hi;have mixed:prog.follows .mixedOrders=true:=by kernel_rfl
 have h1':¬((n:Int)<0):=by omega
 have h3:wrap64 ((n:Int))=(n:Int):=by unfold wrap64;omega
 have h4:(n:Int) > 0:=by omega
 have hold:(Builtin.firstCells i0.size 0 (.slice p 0 0)).run prog w.drew=.ok ([]:List Value).toArray w.drew:=by
  cases p with
  | none=>exact run_firstCells_none w.drew i0.size 0 0 0
  | some a=>exact run_firstCells_some w.drew i0.size 0 a 0 0 [] (by simp) (λj v hj=>by simp at hj)
 have hrz:∀ty,(Builtin.append_ #[51,3] ty #[.slice p 0 0,.int .i64 (n:Int)]).run prog w =
   .ok (.slice (some ⟨w.heap.size,0,none⟩) n (grownCap w n 0 3)) (w.drew.alloc (.cells (#[]++Builtin.zeroCells (Value.int .i64 0).cells n++Builtin.zeroCells (Value.int .i64 0).cells (grownCap w n 0 3 - n)) 3)):=λty=>by
  have h:=Lib.run_append_grow_zeros w 51 3 ty 3 i0 (.int .i64 0) .i64 .i64 underlying51 underlying3 hi0 hz0 p 0 0 [] hold n h0 (by omega) (by omega) (by omega)
   (by rw[hb0];omega)
   (by rw[gl];exact growslice_fits h0 (by rw[hb0];omega))
  rw[gl]at h;exact h
 have hGn:n<=grownCap w n 0 3:=grownCap_ge w _ _ _;obtain⟨G,hG⟩:∃G,G=grownCap w n 0 3:=⟨_,rfl⟩;rw[<-hG]at hrz hGn ⊢;have hG63:G<=9223372036854775807:=by have:=grownCap_le_maxLen w n 0 3 (by unfold maxLen;omega);rw[<-hG]at this;unfold maxLen at this;omega
 clear hold hG
 go_enter func202,ntmps202
 cases p with
 | none=>
  go_wp2_with (at_builtin;refine Lib.wpList_append_run _ rfl _ _ _ _ rfl _ _ rfl rfl _ _ (hrz _) ?_)
  all_goals (go_ret;exact⟨rfl,rfl⟩)
 | some a=>
  obtain⟨ab,ao,asp⟩:=a
  go_wp2_with (at_builtin;refine Lib.wpList_append_run _ rfl _ _ _ _ rfl _ _ rfl rfl _ _ (hrz _) ?_)
  all_goals (go_ret;exact⟨rfl,rfl⟩)
end Go.Proofs
namespace Go.Own
open Go.Proofs
def zbt (n:Int)(h0:0<n)(h1:n<=1000000):uW Tryz.prog 202 [.sl 1 true [],eI .i64 n] (.osl 1 false []):=by
 refine⟨⟨_,Tryz.func202,by kernel_rfl,by kernel_rfl⟩,?_⟩;intro S w vs F hS hq hF;obtain⟨m,rfl⟩:∃m:Nat,n=(m:Int):=⟨n.toNat,by omega⟩;match vs,hq with
 | [u,v],q=>
  obtain⟨F1,F2,rfl,q1,F3,F4,rfl,q2,q3⟩:=q;have e3:F4=[]:=q3;subst e3;have d:∀{x:A} {u:Value} {F:List Nat},x.isD=true->Has S w.heap x u F->v6 S x u/\F=[]:=by
   intro x u F hx q;rcases q with⟨q,rfl⟩|⟨cs,q1,q2,q3⟩
   ·exact⟨q.rep1 hx,rfl⟩
   obtain⟨r,rfl⟩:=q1.isD hx;exact⟨⟨cs,r,q3⟩,rfl⟩
  obtain⟨⟨cs,r1,e1⟩,rfl⟩:=d rfl q1;obtain⟨⟨ds,r2,e2⟩,rfl⟩:=d rfl q2;simp only[Rep]at r1;obtain⟨p,c,rfl,hc,_⟩:=r1;obtain rfl:c=0:=by simpa using hc
  have hv:v=.int .i64 (m:Int):=by
   rw[e2];obtain⟨rfl,_⟩:ds=[.int .i64 (m:Int)]/\_:=by simpa only[eI,Rep] using r2
   rfl
  have hu:u=.slice p 0 0:=by rw[e1];rfl
  subst hv hu;refine(Tryz.gro_run p m w (by omega) (by omega)).mono ?_;rintro e' w' ⟨rfl,rfl⟩;have hsz:∀k,(Builtin.zeroCells (Value.int .i64 0).cells k).size=k:=λk=>by simp[Builtin.zeroCells,Value.cells]
  have hGn:m<=grownCap w m 0 3:=grownCap_ge w _ _ _;have hGm:=grownCap_le_maxLen w m 0 3 (by unfold maxLen;omega);have hfr:∀o,S w.heap.size o=none:=λo=>by
   cases hh:S w.heap.size o with
   | none=>rfl
   | some x=>have:=hS _ _ _ hh;simp[y7]at this
  generalize grownCap w m 0 3=G at hGn hGm ⊢;refine⟨_,S,[w.heap.size],rfl,((YU.refl _ _).drew).alloc (.inl (pj _)) _,λ_ _ _ h=>h,λ_ _ _ _=>rfl,⟨λb o v h=>?_,hS.gok,hS.blk.of (λ_ _ _ q=>q) λg x e=>?_⟩,.inr ⟨[.slice (some ⟨w.heap.size,0,none⟩) 0 G],?_,by simp,rfl⟩,by simp,by simp⟩
  ·have h':=hS _ _ _ h;have hne:b≠w.heap.size:=by rintro rfl;rw[hfr]at h;cases h
   show y7 (w.heap.push _) b o=some v;unfold y7 at h' ⊢;rw[gK,if_neg hne];exact h'
  ·have hlt:=hS.blk.lt e;show(w.heap.push _)[g]?=_;rw[gK,if_neg (by omega)]
  simp only[zG];refine⟨_,G,rfl,by simp,by simp,hGm,by simp,.inr ⟨w.heap.size,_,3,[],[],rfl,by show(w.heap.push _)[w.heap.size]?=_;rw[gK,if_pos rfl],?_,by simp,⟨rfl,rfl⟩,rfl,hfr⟩⟩;simp only[Array.size_append,hsz,Array.size_empty];omega
end Go.Own

namespace Go.Proofs
open Go.Proofs.Tryz
open Go.RowKit Go.Lib
def Tryz.meth77 (w:World):(method 392 77 (.agg #[]) "gauntlet/suites.fill").run prog w=.ok (218,.agg #[]) w:=by kernel_rfl
def Tryz.meth78 (w:World):(method 392 78 (.agg #[]) "gauntlet/suites.fill").run prog w=.ok (220,.agg #[]) w:=by kernel_rfl
def Tryz.meth79 (w:World):(method 392 79 (.agg #[]) "gauntlet/suites.fill").run prog w=.ok (229,.agg #[]) w:=by kernel_rfl
def Tryz.tas (w:World):(Instr.typeAssert (.iface 124 (.agg #[])) 20 124 true).run prog w=.ok (.tuple #[.agg #[],.bool true]) w:=by kernel_rfl
def Tryz.mk1 (w:World):(Instr.makeSlice 89 (.int .i64 1) (.int .i64 1)).run prog w=.ok (.slice (some ⟨w.heap.size,0,none⟩) 1 1) (w.alloc (.cells (Array.replicate 16 (.int .i32 0)) 162)):=by
 have h:(prog.info? 162).map (λi=>(i.size,i.bytes,i.zero))=some (16,64,some (.agg (Array.replicate 16 (.int .i32 0)))):=by kernel_rfl
 obtain⟨i0,hi0,hi⟩:=pN.1 h;obtain⟨hs0,hi⟩:=Prod.mk.inj hi;obtain⟨hb0,hz0⟩:=Prod.mk.inj hi;have q:=run_makeSlice (P:=prog) (w:=w) 89 162 i0 _ underlying89 hi0 hz0 .i64 .i64 1 1 (by omega) (by omega) (by rw[hs0];decide) (by rw[hb0];omega) (by omega);rw[hs0,show madeCells (Value.agg (Array.replicate 16 (Value.int .i32 0))).cells (Int.toNat 1*16)=Array.replicate 16 (.int .i32 0) from by kernel_rfl]at q;exact q
def Tryz.gw4 (w:World)(most:Int):World :=
 (((w.alloc (.cells #[.pointer (some ⟨w.heap.size+1+1+1,0,none⟩)] 86)).alloc (.cells #[.bool false] 4)).alloc (.cells (Array.replicate 16 (.int .i32 0)) 162)).alloc (.cells #[.slice (some ⟨w.heap.size+1+1,0,none⟩) 1 1,.int .i64 0,.int .i64 most] 91)
def Tryz.catch_idle (p q:Addr)(w:World) :
  CallsD prog 77 #[.pointer (some p),.pointer (some q)] .returning w λe u' w'=>e=.returned (.tuple #[])/\u'=.returning/\w'=w:=by
 refine callsD_of_wpS func77 rfl λc₀ cs hu=>?_;apply wpS_seq;apply wpS_region;simp[wpOpsS,go_sem,recoverD,hu,ntmps77,Exit.thenS];apply wpS_seq;apply wpS_region;simp[wpOpsS,go_sem,recoverD,hu,ntmps77,Exit.thenS];refine wpS_cond (t:=false) (by simp[Act.eval,Array.replicate]) ?_;simp only[pZ,if_false];refine wpS_of_wp (wp_skip ?_);cases c₀
 simp_all [bodyPostS,results,results77]
def Tryz.catch_panicking (n:Nat)(older:List PanicEntry)(w:World)(x:Value)(y:Value)(h1:w.heap[n]?=some (.cells #[x] 86))(h2:w.heap[n+1]?=some (.cells #[y] 4)) :
  CallsD prog 77 #[.pointer (some ⟨n,0,none⟩),.pointer (some ⟨n+1,0,none⟩)] (.panicking ({ v:=.iface 124 (.agg #[]),recovered:=false }::older)) w λe u' w'=>e=.returned (.tuple #[])/\u'=.panicking ({ v:=.iface 124 (.agg #[]),recovered:=true }::older)/\w'=((w.alloc (.cells #[] 124)).setCell ⟨n,0,none⟩ (.pointer none)).setCell ⟨n+1,0,none⟩ (.bool false):=by
 have ht:=Tryz.tas;refine callsD_of_wpS func77 rfl λc₀ cs hu=>?_;apply wpS_seq;apply wpS_region;simp[wpOpsS,go_sem,recoverD,hu,ntmps77,Exit.thenS];apply wpS_seq;apply wpS_region;simp[wpOpsS,go_sem,recoverD,hu,ntmps77,Exit.thenS];refine wpS_cond (t:=true) (by simp[Act.eval,Array.replicate]) ?_;simp only[if_true];apply wpS_seq;apply wpS_seq;apply wpS_region;simp[wpOpsS,go_sem,recoverD,hu,ntmps77,Exit.thenS,ht];apply wpS_seq;apply wpS_region;simp[wpOpsS,go_sem,recoverD,hu,ntmps77,Exit.thenS,ht];refine wpS_cond (t:=false) (by simp[Act.eval,Array.replicate]) ?_;simp only[pZ,if_false];refine wpS_of_wp (wp_skip ?_);simp only[Exit.thenS];apply wpS_region;have l1:=(pB.1 h1).1;have l2:=(pB.1 h2).1;have g1:(w.alloc (.cells #[] 124)).heap[n]?=some (.cells #[x] 86):=by simp only[World.alloc];rw[gK,if_neg (by omega),h1]
 have g2:(w.alloc (.cells #[] 124)).heap[n+1]?=some (.cells #[y] 4):=by simp only[World.alloc];rw[gK,if_neg (by omega),h2]
 have hp1:(w.alloc (.cells #[] 124)).cell? ⟨n,0,none⟩=some x:=by simp[World.cell?,g1]
 have hz1:(w.alloc (.cells #[] 124)).frozen? ⟨n,0,none⟩=false:=by simp[World.frozen?,g1]
 have g3:((w.alloc (.cells #[] 124)).setCell ⟨n,0,none⟩ (.pointer none)).heap[n+1]?=some (.cells #[y] 4):=by simp only[World.setCell,mE];rw[if_neg (by omega),g2]
 have hp2:((w.alloc (.cells #[] 124)).setCell ⟨n,0,none⟩ (.pointer none)).cell? ⟨n+1,0,none⟩=some y:=by simp only[World.cell?,g3];rfl
 have hz2:((w.alloc (.cells #[] 124)).setCell ⟨n,0,none⟩ (.pointer none)).frozen? ⟨n+1,0,none⟩=false:=by simp only[World.frozen?,g3];rfl
 simp[wpOpsS,go_sem,recoverD,hu,ntmps77,Exit.thenS,ht,hp1,hz1,hp2,hz2];cases c₀
 simp_all [bodyPostS,results,results77]
set_option maxHeartbeats 4000000 in
set_option maxRecDepth 100000 in
def Tryz.gat_run (T kf:Nat)(hmeth:∀w,(method 392 T (.agg #[]) "gauntlet/suites.fill").run prog w=.ok (kf,.agg #[]) w)(hcf:∀args w,(callFunc kf args).run prog w=.ok (.enter kf args) w)(xv:Value)(most:Int)(w:World)(K:World->Prop)
  (hcall:Calls prog kf #[.agg #[],xv,.pointer (some ⟨w.heap.size+1+1+1,0,none⟩)] (Tryz.gw4 w most) λe w5=>e=.returned (.tuple #[])/\w5.heap[w.heap.size]?=some (.cells #[.pointer (some ⟨w.heap.size+1+1+1,0,none⟩)] 86)/\w5.heap[w.heap.size+1]?=some (.cells #[.bool false] 4)/\K w5) :
  Calls prog 37 #[xv,.iface T (.agg #[]),.int .i64 most] w λe w'=>e=.returned (.tuple #[.pointer (some ⟨w.heap.size+1+1+1,0,none⟩),.bool true])/\∃w5,K w5/\w'=(w5.setCell ⟨w.heap.size,0,none⟩ (.pointer (some ⟨w.heap.size+1+1+1,0,none⟩))).setCell ⟨w.heap.size+1,0,none⟩ (.bool true):=by
 have hmf:∀(fn:Fn) (first cap:Array Value) (w:World),(Instr.makeFunc fn first cap).run prog w=.ok (.func fn first cap) w:=λ_ _ _ _=>rfl;have hmk:=Tryz.mk1
 go_enter_defers func37,ntmps37
 go_wp2
 refine Calls.mono hcall ?_;rintro e w5 ⟨rfl,h1,h2,h3⟩;have hc1:w5.cell? ⟨w.heap.size,0,none⟩=some (.pointer (some ⟨w.heap.size+1+1+1,0,none⟩)):=by simp[World.cell?,h1]
 have hc2:w5.cell? ⟨w.heap.size+1,0,none⟩=some (.bool false):=by simp[World.cell?,h2]
 have hz1:w5.frozen? ⟨w.heap.size,0,none⟩=false:=by simp[World.frozen?,h1]
 have hz2:w5.frozen? ⟨w.heap.size+1,0,none⟩=false:=by simp[World.frozen?,h2]
 dsimp only
 go_wp2
 refine leaves_cons (f:=77) (args:=#[.pointer (some ⟨w.heap.size,0,none⟩),.pointer (some ⟨w.heap.size+1,0,none⟩)]) (by simp) (by simp[go_sem]) ?_;refine(Tryz.catch_idle _ _ _).mono ?_;rintro e u' w'' ⟨rfl,rfl,rfl⟩;have hcA:(w5.setCell ⟨w.heap.size,0,none⟩ (.pointer (some ⟨w.heap.size+1+1+1,0,none⟩))).cell? ⟨w.heap.size,0,none⟩=some (.pointer (some ⟨w.heap.size+1+1+1,0,none⟩)):=by simp[World.cell?,World.setCell,mE,h1]
 have hcB:((w5.setCell ⟨w.heap.size,0,none⟩ (.pointer (some ⟨w.heap.size+1+1+1,0,none⟩))).setCell ⟨w.heap.size+1,0,none⟩ (.bool true)).cell? ⟨w.heap.size+1,0,none⟩=some (.bool true):=by simp[World.cell?,World.setCell,mE,h2]
 simp[Leaves,settle,results,results37,go_sem,hcA,hcB];exact⟨w5,h3,rfl⟩
set_option maxHeartbeats 4000000 in
set_option maxRecDepth 100000 in
def Tryz.gat_die (T kf:Nat)(hmeth:∀w,(method 392 T (.agg #[]) "gauntlet/suites.fill").run prog w=.ok (kf,.agg #[]) w)(hcf:∀args w,(callFunc kf args).run prog w=.ok (.enter kf args) w)(xv:Value)(most:Int)(w:World)(K:World->Prop)
  (hcall:Calls prog kf #[.agg #[],xv,.pointer (some ⟨w.heap.size+1+1+1,0,none⟩)] (Tryz.gw4 w most) λe w5=>e=.panicked (Own.jU (.iface 124 (.agg #[])))/\w5.heap[w.heap.size]?=some (.cells #[.pointer (some ⟨w.heap.size+1+1+1,0,none⟩)] 86)/\w5.heap[w.heap.size+1]?=some (.cells #[.bool false] 4)/\K w5) :
  Calls prog 37 #[xv,.iface T (.agg #[]),.int .i64 most] w λe w'=>e=.returned (.tuple #[.pointer none,.bool false])/\∃w5,K w5/\w'=((w5.alloc (.cells #[] 124)).setCell ⟨w.heap.size,0,none⟩ (.pointer none)).setCell ⟨w.heap.size+1,0,none⟩ (.bool false):=by
 have hmf:∀(fn:Fn) (first cap:Array Value) (w:World),(Instr.makeFunc fn first cap).run prog w=.ok (.func fn first cap) w:=λ_ _ _ _=>rfl;have hmk:=Tryz.mk1
 go_enter_defers func37,ntmps37
 go_wp2
 refine Calls.mono hcall ?_;rintro e w5 ⟨rfl,h1,h2,h3⟩;have l1:=(pB.1 h1).1;have l2:=(pB.1 h2).1;have g1:(w5.alloc (.cells #[] 124)).heap[w.heap.size]?=some (.cells #[.pointer (some ⟨w.heap.size+1+1+1,0,none⟩)] 86):=by simp only[World.alloc];rw[gK,if_neg (by omega),h1]
 have g2:(w5.alloc (.cells #[] 124)).heap[w.heap.size+1]?=some (.cells #[.bool false] 4):=by simp only[World.alloc];rw[gK,if_neg (by omega),h2]
 dsimp only[Own.jU];refine leaves_cons (f:=77) (args:=#[.pointer (some ⟨w.heap.size,0,none⟩),.pointer (some ⟨w.heap.size+1,0,none⟩)]) (by simp) (by simp[go_sem]) ?_;refine(Tryz.catch_panicking w.heap.size [] w5 _ _ h1 h2).mono ?_;rintro e u' w'' ⟨rfl,rfl,rfl⟩;have hcA:((w5.alloc (.cells #[] 124)).setCell ⟨w.heap.size,0,none⟩ (.pointer none)).cell? ⟨w.heap.size,0,none⟩=some (.pointer none):=by simp[World.cell?,World.setCell,mE,g1]
 have hcB:(((w5.alloc (.cells #[] 124)).setCell ⟨w.heap.size,0,none⟩ (.pointer none)).setCell ⟨w.heap.size+1,0,none⟩ (.bool false)).cell? ⟨w.heap.size+1,0,none⟩=some (.bool false):=by simp[World.cell?,World.setCell,mE,g2]
 simp[Leaves,settle,results,results37,go_sem,hcA,hcB];exact⟨w5,h3,rfl⟩
end Go.Proofs
namespace Go.Own
open Go.Proofs
def z7F {T kf:Nat}(hmeth:∀w,(method 392 T (.agg #[]) "gauntlet/suites.fill").run Tryz.prog w=.ok (kf,.agg #[]) w)(hcf:∀args w,(callFunc kf args).run Tryz.prog w=.ok (.enter kf args) w){xs y z:A}{most:Int}{died:Bool}(hxs:xs.isD=true)(hl:y.live=true)(hz:y.shut=z)
  (hfill:∀bv,z7U Tryz.prog kf [.agg [],xs,.atom bv] [(bv,.box (.agg [.osl 16 false [.agg (List.replicate 16 (.atom (.int .i32 0)))],.atom (.int .i64 0),.atom (.int .i64 most)]))] died (.iface 124 (.agg #[])) (.tup []) [.box y]) :
  uW Tryz.prog 37 [xs,.atom (.iface T (.agg #[])),.atom (.int .i64 most)] (.tup [bif died then .atom (.pointer none) else .sptr z,.atom (.bool (!died))]):=by
 refine⟨⟨_,Tryz.func37,by kernel_rfl,by kernel_rfl⟩,?_⟩;intro S w vs F hS hq hF;match vs,hq with
 | [u,v,x],q=>
  obtain⟨F1,F2,rfl,q1,F3,F4,rfl,q2,F5,F6,rfl,q3,q4⟩:=q;have e4:F6=[]:=q4;subst e4;have d:∀{x:A} {u:Value} {F:List Nat},x.isD=true->Has S w.heap x u F->v6 S x u/\F=[]:=by
   intro x u F hx q;rcases q with⟨q,rfl⟩|⟨cs,q1,q2,q3⟩
   ·exact⟨q.rep1 hx,rfl⟩
   obtain⟨r,rfl⟩:=q1.isD hx;exact⟨⟨cs,r,q3⟩,rfl⟩
  obtain⟨r1,rfl⟩:=d hxs q1;obtain⟨r2,rfl⟩:=d rfl q2;obtain⟨r3,rfl⟩:=d rfl q3;obtain rfl:v=.iface T (.agg #[]):=(yU.1 r2).1;obtain rfl:x=.int .i64 most:=(yU.1 r3).1;have hnew:∀b o,w.heap.size<=b->S b o=none:=λb o hb=>by
   cases hh:S b o with
   | none=>rfl
   | some x=>have:=hS _ _ _ hh;simp[y7,ny hb]at this
  have hsz:(Tryz.gw4 w most).heap.size=w.heap.size+4:=by simp only[Tryz.gw4,World.alloc,Array.size_push]
  have hold:∀b,b<w.heap.size->(Tryz.gw4 w most).heap[b]?=w.heap[b]?:=λb hb=>by simp only[Tryz.gw4,World.alloc];simp only[gK,Array.size_push];rw[if_neg (by omega),if_neg (by omega),if_neg (by omega),if_neg (by omega)]
  have c0:(Tryz.gw4 w most).heap[w.heap.size]?=some (.cells #[.pointer (some ⟨w.heap.size+1+1+1,0,none⟩)] 86):=by simp only[Tryz.gw4,World.alloc];simp only[gK,Array.size_push];rw[if_neg (by omega),if_neg (by omega),if_neg (by omega),if_pos trivial]
  have c1:(Tryz.gw4 w most).heap[w.heap.size+1]?=some (.cells #[.bool false] 4):=by simp only[Tryz.gw4,World.alloc];simp only[gK,Array.size_push];rw[if_neg (by omega),if_neg (by omega),if_pos trivial]
  have c2:(Tryz.gw4 w most).heap[w.heap.size+1+1]?=some (.cells (Array.replicate 16 (.int .i32 0)) 162):=by simp only[Tryz.gw4,World.alloc];simp only[gK,Array.size_push];rw[if_neg (by omega),if_pos trivial]
  have c3:(Tryz.gw4 w most).heap[w.heap.size+1+1+1]?=some (.cells #[.slice (some ⟨w.heap.size+1+1,0,none⟩) 1 1,.int .i64 0,.int .i64 most] 91):=by simp only[Tryz.gw4,World.alloc];simp only[gK,Array.size_push];rw[if_pos trivial]
  have hK4:YU (λk=>w.heap.size<=k\/k∈([]:List Nat)) w (Tryz.gw4 w most):=by
   unfold Tryz.gw4;refine((((YU.refl _ _).alloc (.inl (pj _)) _).alloc (.inl ?_) _).alloc (.inl ?_) _).alloc (.inl ?_) _
   all_goals simp only[World.alloc,Array.size_push];omega
  have hS4:yQ S (Tryz.gw4 w most):=by
   refine⟨λb o u h=>?_,hS.gok,hS.blk.of (λ_ _ _ q=>q) λg x e=>hold g (hS.blk.lt e)⟩;have h':=hS _ _ _ h;have hb:b<w.heap.size:=by
    rcases pE b w.heap.size with h1|h1
    ·exact h1
    rw[hnew b o h1]at h;cases h
   unfold y7 at h' ⊢;rw[hold b hb];exact h'
  have hbag:XX S (Tryz.gw4 w most).heap [.box (.agg [.osl 16 false [.agg (List.replicate 16 (.atom (.int .i32 0)))],.atom (.int .i64 0),.atom (.int .i64 most)])] [.pointer (some ⟨w.heap.size+1+1+1,0,none⟩)] [w.heap.size+1+1+1,w.heap.size+1+1]:=by
   have hcc:∀l:List Value,(∀v∈l,v.oneCell'=true)->zK S (Tryz.gw4 w most).heap (l.map .atom) l []:=by
    intro l;induction l with
    | nil=>intro _;simp[zK]
    | cons a l ih=>intro h;simp only[gt,zK];exact⟨[a],l,[],[],rfl,rfl,by simp only[zG,Rep];simp[h a (by simp)],ih λv hv=>h v (by simp[hv])⟩
   have ho:zG S (Tryz.gw4 w most).heap (.osl 16 false [.agg (List.replicate 16 (.atom (.int .i32 0)))]) [.slice (some ⟨w.heap.size+1+1,0,none⟩) 1 1] [w.heap.size+1+1]:=by
    simp only[zG];refine⟨some ⟨w.heap.size+1+1,0,none⟩,1,by simp,by simp,by simp,by unfold maxLen;omega,?_,.inr ⟨w.heap.size+1+1,_,162,List.replicate 16 (.int .i32 0),[],rfl,c2,by simp,by simp,?_,by simp,λo=>hnew _ o (by omega)⟩⟩
    ·intro x hx;simp only[pl,gv,or_false]at hx;subst hx;rfl
    simp only[zK];exact⟨List.replicate 16 (.int .i32 0),[],[],[],by simp,rfl,by simp only[zG];exact hcc (List.replicate 16 (.int .i32 0)) (by intro v hv;rw[mc hv];rfl),rfl,rfl⟩
   refine⟨[w.heap.size+1+1+1,w.heap.size+1+1],[],by simp,.inr ⟨[.pointer (some ⟨w.heap.size+1+1+1,0,none⟩)],?_,by simp,rfl⟩,rfl⟩;simp only[zG];refine⟨w.heap.size+1+1+1,91,[.slice (some ⟨w.heap.size+1+1,0,none⟩) 1 1,.int .i64 0,.int .i64 most],[w.heap.size+1+1],rfl,c3,?_,rfl,λo=>hnew _ o (by omega)⟩;simp only[zK];exact⟨_,_,[w.heap.size+1+1],[],rfl,rfl,ho,[.int .i64 0],_,[],[],rfl,rfl,⟨by simp[Rep,Value.oneCell'],rfl⟩,[.int .i64 most],[],[],[],rfl,rfl,⟨by simp[Rep,Value.oneCell'],rfl⟩,rfl,rfl⟩
  have hfree:∀k∈[w.heap.size+1+1+1,w.heap.size+1+1],k=w.heap.size+1+1+1\/k=w.heap.size+1+1:=λk hk=>by simpa using hk
  have hargs:YD (v6 S) [.agg [],xs,.atom (.pointer (some ⟨w.heap.size+1+1+1,0,none⟩))] [.agg #[],u,.pointer (some ⟨w.heap.size+1+1+1,0,none⟩)] :=
   ⟨⟨[],by simp[Rep,yb],rfl⟩,r1,yU.2 ⟨rfl,rfl⟩,trivial⟩
  have hfv:v6 S (.fn kf []) (.func (.func kf) #[] #[]):=⟨[.func (.func kf) #[] #[]],by simp[Rep,yb],rfl⟩;obtain⟨hok,hdie⟩:=hfill (.pointer (some ⟨w.heap.size+1+1+1,0,none⟩));have hkept:∀{w5:World},YU (λk=>(Tryz.gw4 w most).heap.size<=k\/k∈[w.heap.size+1+1+1,w.heap.size+1+1]) (Tryz.gw4 w most) w5->w5.heap[w.heap.size]?=some (.cells #[.pointer (some ⟨w.heap.size+1+1+1,0,none⟩)] 86)/\w5.heap[w.heap.size+1]?=some (.cells #[.bool false] 4):=λh=>
   have hm:∀k,k<w.heap.size+2->¬((Tryz.gw4 w most).heap.size<=k\/k∈[w.heap.size+1+1+1,w.heap.size+1+1]):=λk hk q=>by
    rcases q with q|q
    ·rw[hsz]at q;omega
    have:=hfree _ q;omega
   ⟨(h.block _ (hm _ (by omega))).trans c0,(h.block _ (hm _ (by omega))).trans c1⟩
  have hset:∀(w5:World) (a b:Value),YU (λk=>w.heap.size<=k\/k∈([]:List Nat)) w5 ((w5.setCell ⟨w.heap.size,0,none⟩ a).setCell ⟨w.heap.size+1,0,none⟩ b):=λw5 a b=>
   ⟨rfl,rfl,rfl,pj _,by simp[World.setCell],λk hk=>by simp only[World.setCell,mE];rw[if_neg (by rintro rfl;exact hk (.inl (by omega))),if_neg (by rintro rfl;exact hk (.inl (by omega)))]⟩
  have hset2:∀(w5:World) (a b:Value) (k:Nat),k≠w.heap.size->k≠w.heap.size+1->((w5.setCell ⟨w.heap.size,0,none⟩ a).setCell ⟨w.heap.size+1,0,none⟩ b).heap[k]?=w5.heap[k]?:=λw5 a b k h1 h2=>by simp only[World.setCell,mE];rw[if_neg (mZ h2),if_neg (mZ h1)]
  have hstay:∀{w5 w6:World} {S5:zi},yQ S5 w5->(∀o,S5 w.heap.size o=none)->(∀o,S5 (w.heap.size+1) o=none)->(∀k,k<w5.heap.size->k≠w.heap.size->k≠w.heap.size+1->w6.heap[k]?=w5.heap[k]?)->yQ S5 w6:=by
   intro w5 w6 S5 h k1 k2 hb;have hne:∀b o u,S5 b o=some u->b≠w.heap.size/\b≠w.heap.size+1:=λb o u q=>⟨(by rintro rfl;rw[k1]at q;cases q),(by rintro rfl;rw[k2]at q;cases q)⟩;refine⟨λb o u q=>?_,h.gok,h.blk.of (λ_ _ _ q=>q) λg x e=>?_⟩
   ·have h':=h _ _ _ q;have hlt:b<w5.heap.size:=by
     unfold y7 at h';cases hh:w5.heap[b]? with
     | none=>rw[hh]at h';cases h'
     | some y=>exact(pB.1 hh).1
    unfold y7 at h' ⊢;rw[hb b hlt (hne b o u q).1 (hne b o u q).2];exact h'
   obtain⟨_,v,hv⟩:=h.blk g x e;exact hb g (h.blk.lt e) (hne g 0 v hv).1 (hne g 0 v hv).2
  cases died with
  | false=>
   have ha:=hok rfl S (Tryz.gw4 w most) _ _ _ hS4 hfv hargs hbag (by simp);rcases ha with⟨k,caps,fn,e1,_,_,_,h5⟩|⟨L,q,e1,_⟩
   ·cases e1;refine Calls.mono (Tryz.gat_run T kf hmeth hcf u most w (λw5=>∃(S':zi) (G:List Nat),YU (λk=>(Tryz.gw4 w most).heap.size<=k\/k∈[w.heap.size+1+1+1,w.heap.size+1+1]) (Tryz.gw4 w most) w5/\(∀b o u,S b o=some u->S' b o=some u)/\(∀b o,b<(Tryz.gw4 w most).heap.size->b∉[w.heap.size+1+1+1,w.heap.size+1+1]->S' b o=S b o)/\yQ S' w5 /\
     Has S' w5.heap (.box y) (.pointer (some ⟨w.heap.size+1+1+1,0,none⟩)) G/\G.Nodup/\∀k∈G,(Tryz.gw4 w most).heap.size<=k\/k∈[w.heap.size+1+1+1,w.heap.size+1+1]) (Calls.mono h5 ?_)) ?_
    ·rintro e w5 ⟨v,rfl,S',F',G,b1,b2,b3,b4,b5,b6,b7,b8⟩;have hv:v=.tuple #[]:=by
      rcases b5 with⟨q,_⟩|⟨cs,q,_⟩
      ·simp only[xm]at q;obtain⟨us,rfl,q⟩:=q;cases us with
       | nil=>rfl
       | cons a l=>exact q.elim
      simp only[zG]at q
     subst hv;obtain⟨H1,H2,rfl,g1,g2⟩:=b6;have eH:H2=[]:=g2;subst eH;simp only[pJ]at b7 b8;exact⟨rfl,(hkept b1).1,(hkept b1).2,S',H1,b1,b2,b3,b4,g1,(pG.1 b7).1,λk hk=>b8 k (by simp[hk])⟩
    rintro e w' ⟨rfl,w5,⟨S',G,b1,b2,b3,b4,b5,b6,b7⟩,rfl⟩;have hG:∀k∈G,w.heap.size+2<=k:=λk hk=>by
     rcases b7 k hk with q|q
     ·rw[hsz]at q;omega
     have:=hfree k q;omega
    have n1:∀o,S' w.heap.size o=none:=λo=>by rw[b3 _ _ (by rw[hsz];omega) (λq=>by have:=hfree _ q;omega)];exact hnew _ _ (pj _)
    have n2:∀o,S' (w.heap.size+1) o=none:=λo=>by rw[b3 _ _ (by rw[hsz];omega) (λq=>by have:=hfree _ q;omega)];exact hnew _ _ (by omega)
    have hown:=b5.own;have hmono:=Wy (S:=S') (h:=w5.heap) (F:=G) (λk hk=>(hown k hk).2);have hm5:yQ (zV S' w5.heap G) w5:=⟨λb o u q=>by
     unfold zV at q;split at q
     ·exact q
     exact b4 b o u q,Gok.mono hmono b4.gok,b4.blk.of hmono λ_ _ _=>rfl⟩
    have hng:∀k,k<w.heap.size+2->k∉G:=λk hk q=>by have:=hG k q;omega
    refine⟨_,zV S' w5.heap G,[],rfl,(hK4.trans (b1.mono (λk hk=>.inl (by
      rcases hk with q|q
      ·rw[hsz]at q;omega
      have:=hfree k q;omega)))).trans (hset _ _ _),λb o u q=>hmono b o u (b2 b o u q),λb o hb hbF=>?_,hstay hm5 (λo=>?_) (λo=>?_) (λk _ h1 h2=>hset2 _ _ _ k h1 h2),.inl ⟨?_,rfl⟩,by simp,by simp⟩
    ·unfold zV;rw[if_neg (hng b (by omega))];exact b3 b o (by rw[hsz];omega) (λq=>by have:=hfree _ q;omega)
    ·unfold zV;rw[if_neg (hng _ (by omega))];exact n1 o
    ·unfold zV;rw[if_neg (hng _ (by omega))];exact n2 o
    simp only[xm];refine⟨[_,_],rfl,?_,yU.2 ⟨rfl,rfl⟩,trivial⟩;rcases b5 with⟨q,_⟩|⟨cs,q1,q2,q3⟩
    ·simp only[xm,v6,Rep,false_and,exists_false]at q
    refine⟨cs,?_,q3⟩;have:=q1.shut hmono (by simpa only[A.live] using hl) (λk hk o=>by unfold zV;rw[if_pos hk]);simp only[A.shut,hz]at this;exact this
   cases e1
  | true=>
   obtain⟨_,hcall⟩:=hdie rfl;refine Calls.mono (Tryz.gat_die T kf hmeth hcf u most w (λw5=>∃S':zi,YU (λk=>(Tryz.gw4 w most).heap.size<=k\/k∈[w.heap.size+1+1+1,w.heap.size+1+1]) (Tryz.gw4 w most) w5/\(∀b o u,S b o=some u->S' b o=some u)/\(∀b o,b<(Tryz.gw4 w most).heap.size->b∉[w.heap.size+1+1+1,w.heap.size+1+1]->S' b o=S b o)/\yQ S' w5) (Calls.mono (hcall S (Tryz.gw4 w most) _ _ hS4 hargs hbag (by simp)) ?_)) ?_
   ·rintro e w5 ⟨rfl,S',b1,b2,b3,b4⟩;exact⟨rfl,(hkept b1).1,(hkept b1).2,S',b1,b2,b3,b4⟩
   rintro e w' ⟨rfl,w5,⟨S',b1,b2,b3,b4⟩,rfl⟩;have n1:∀o,S' w.heap.size o=none:=λo=>by rw[b3 _ _ (by rw[hsz];omega) (λq=>by have:=hfree _ q;omega)];exact hnew _ _ (pj _)
   have n2:∀o,S' (w.heap.size+1) o=none:=λo=>by rw[b3 _ _ (by rw[hsz];omega) (λq=>by have:=hfree _ q;omega)];exact hnew _ _ (by omega)
   have hs5:w.heap.size<=w5.heap.size:=by have:=b1.size;rw[hsz]at this;omega
   refine⟨_,S',[],rfl,(hK4.trans (b1.mono (λk hk=>.inl (by
     rcases hk with q|q
     ·rw[hsz]at q;omega
     have:=hfree k q;omega)))).trans (((YU.refl _ _).alloc (.inl hs5) _).trans (hset _ _ _)),b2,λb o hb hbF=>b3 b o (by rw[hsz];omega) (λq=>by have:=hfree _ q;omega),hstay b4 n1 n2 (λk hk h1 h2=>?_),.inl ⟨?_,rfl⟩,by simp,by simp⟩
   ·rw[hset2 _ _ _ k h1 h2];show(w5.heap.push _)[k]?=_;rw[gK,if_neg (by omega)]
   simp only[xm];exact⟨[_,_],rfl,yU.2 ⟨rfl,rfl⟩,yU.2 ⟨rfl,rfl⟩,trivial⟩
structure qX (α:Type) where
 e0:α
 e1:α
 deriving DecidableEq
instance {α:Type}[BEq α]:BEq (qX α):=⟨λx y=>(x.e0==y.e0)&&(x.e1==y.e1)⟩
section
variable {α:Type}
def Kw (f:α->A)(x:qX α):A:=.agg [f x.e0,f x.e1]
instance (f:α->A)[h:z0h f]:z0h (Kw f):=⟨λx=>by simp[Kw,A.isD,A.areD,h.isD]⟩
instance (f g:α->A)[h:UH f g]:UH (Kw f) (Kw g):=⟨λx=>by simp[Kw,A.loose,A.looses,h.lo]⟩
instance (f g:α->A)[h:z0z f g]:z0z (Kw f) (Kw g):=⟨λx=>by simp[Kw,A.live,A.lives,h.live],λx=>by simp[Kw,A.shut,A.shuts,h.sh]⟩
instance (f:α->A)[h:kp f]:kp (Kw f):=⟨λx y q=>by simp only[Kw,A.agg.injEq,List.cons.injEq,and_true]at q;cases x;cases y;simp only[qX.mk.injEq];exact⟨h.inj _ _ q.1,h.inj _ _ q.2⟩⟩
end
structure XN (α:Type) where
 e0:α
 e1:α
 e2:α
 deriving DecidableEq
section
variable {α:Type}
def zmI (f:α->A)(x:XN α):A:=.agg [f x.e0,f x.e1,f x.e2]
end
section
variable {α:Type}
def XN.toL (x:XN α):List α:=[x.e0,x.e1,x.e2]
def XN.ofL:List α->XN α->XN α
 | [x0,x1,x2],_=>⟨x0,x1,x2⟩
 | _,d=>d
def XN.toL_ofL (l:List α)(d:XN α)(h:l.length=3):(XN.ofL l d).toL=l:=by
 match l,h with
 | [x0,x1,x2],_=>rfl
def XN.setI (x:XN α)(i:Int)(v:α):XN α:=XN.ofL (x.toL.set i.toNat v) x
def XN.setL (f:α->A)(x:XN α)(i:Int)(v:α):(x.toL.map f).set i.toNat (f v)=((XN.setI x i v).toL).map f:=by unfold XN.setI;rw[XN.toL_ofL _ _ (by simp[XN.toL]),List.map_set]
end
structure zz (α:Type) where
 e0:α
 e1:α
 e2:α
 e3:α
 e4:α
 e5:α
 e6:α
 e7:α
 e8:α
 e9:α
 e10:α
 e11:α
 e12:α
 e13:α
 e14:α
 e15:α
 deriving DecidableEq
instance {α:Type}[BEq α]:BEq (zz α):=⟨λx y=>(x.e0==y.e0)&&(x.e1==y.e1)&&(x.e2==y.e2)&&(x.e3==y.e3)&&(x.e4==y.e4)&&(x.e5==y.e5)&&(x.e6==y.e6)&&(x.e7==y.e7)&&(x.e8==y.e8)&&(x.e9==y.e9)&&(x.e10==y.e10)&&(x.e11==y.e11)&&(x.e12==y.e12)&&(x.e13==y.e13)&&(x.e14==y.e14)&&(x.e15==y.e15)⟩
section
variable {α:Type}
def XJ (f:α->A)(x:zz α):A:=.agg [f x.e0,f x.e1,f x.e2,f x.e3,f x.e4,f x.e5,f x.e6,f x.e7,f x.e8,f x.e9,f x.e10,f x.e11,f x.e12,f x.e13,f x.e14,f x.e15]
instance (f:α->A)[h:z0h f]:z0h (XJ f):=⟨λx=>by simp[XJ,A.isD,A.areD,h.isD]⟩
instance (f g:α->A)[h:UH f g]:UH (XJ f) (XJ g):=⟨λx=>by simp[XJ,A.loose,A.looses,h.lo]⟩
instance (f g:α->A)[h:z0z f g]:z0z (XJ f) (XJ g):=⟨λx=>by simp[XJ,A.live,A.lives,h.live],λx=>by simp[XJ,A.shut,A.shuts,h.sh]⟩
instance (f:α->A)[h:kp f]:kp (XJ f):=⟨λx y q=>by simp only[XJ,A.agg.injEq,List.cons.injEq,and_true]at q;cases x;cases y;simp only[zz.mk.injEq];exact⟨h.inj _ _ q.1,h.inj _ _ q.2.1,h.inj _ _ q.2.2.1,h.inj _ _ q.2.2.2.1,h.inj _ _ q.2.2.2.2.1,h.inj _ _ q.2.2.2.2.2.1,h.inj _ _ q.2.2.2.2.2.2.1,h.inj _ _ q.2.2.2.2.2.2.2.1,h.inj _ _ q.2.2.2.2.2.2.2.2.1,h.inj _ _ q.2.2.2.2.2.2.2.2.2.1,h.inj _ _ q.2.2.2.2.2.2.2.2.2.2.1,h.inj _ _ q.2.2.2.2.2.2.2.2.2.2.2.1,h.inj _ _ q.2.2.2.2.2.2.2.2.2.2.2.2.1,h.inj _ _ q.2.2.2.2.2.2.2.2.2.2.2.2.2.1,h.inj _ _ q.2.2.2.2.2.2.2.2.2.2.2.2.2.2.1,h.inj _ _ q.2.2.2.2.2.2.2.2.2.2.2.2.2.2.2⟩⟩
end
section
variable {α:Type}
def zz.toL (x:zz α):List α:=[x.e0,x.e1,x.e2,x.e3,x.e4,x.e5,x.e6,x.e7,x.e8,x.e9,x.e10,x.e11,x.e12,x.e13,x.e14,x.e15]
def zz.ofL:List α->zz α->zz α
 | [x0,x1,x2,x3,x4,x5,x6,x7,x8,x9,gi,ig,x12,fq,kq,x15],_=>⟨x0,x1,x2,x3,x4,x5,x6,x7,x8,x9,gi,ig,x12,fq,kq,x15⟩
 | _,d=>d
def zz.toL_ofL (l:List α)(d:zz α)(h:l.length=16):(zz.ofL l d).toL=l:=by
 match l,h with
 | [x0,x1,x2,x3,x4,x5,x6,x7,x8,x9,gi,ig,x12,fq,kq,x15],_=>rfl
def zz.setI (x:zz α)(i:Int)(v:α):zz α:=zz.ofL (x.toL.set i.toNat v) x
def zz.setL (f:α->A)(x:zz α)(i:Int)(v:α):(x.toL.map f).set i.toNat (f v)=((zz.setI x i v).toL).map f:=by unfold zz.setI;rw[zz.toL_ofL _ _ (by simp[zz.toL]),List.map_set]
end
structure zl where
 To:Int
 Out:Int
def yp (f0:Int->A)(f1:Int->A)(x:zl):A:=.agg [f0 x.To,f1 x.Out]
instance (f0:Int->A)(f1:Int->A)(g0:Int->A)(g1:Int->A)[h0:UH f0 g0][h1:UH f1 g1]:UH (yp f0 f1) (yp g0 g1):=⟨λx=>by simp[yp,A.loose,A.looses,h0.lo,h1.lo]⟩
instance (f0:Int->A)(f1:Int->A)(g0:Int->A)(g1:Int->A)[h0:z0z f0 g0][h1:z0z f1 g1]:z0z (yp f0 f1) (yp g0 g1):=⟨λx=>by simp[yp,A.live,A.lives,h0.live,h1.live],λx=>by simp[yp,A.shut,A.shuts,h0.sh,h1.sh]⟩
instance (f0:Int->A)(f1:Int->A)[h0:kp f0][h1:kp f1]:kp (yp f0 f1):=⟨λx y h=>by simp only[yp,A.agg.injEq,List.cons.injEq,and_true]at h;cases x;cases y;simp only[zl.mk.injEq];exact⟨h0.inj _ _ h.1,h1.inj _ _ h.2⟩⟩
structure z6 where
 Inputs:Int
 Outputs:Int
 Rows:List (List zl)
def xg (f0:Int->A)(f1:Int->A)(f2:List (List zl)->A)(x:z6):A:=.agg [f0 x.Inputs,f1 x.Outputs,f2 x.Rows]
instance (f0:Int->A)(f1:Int->A)(f2:List (List zl)->A)(g0:Int->A)(g1:Int->A)(g2:List (List zl)->A)[h0:UH f0 g0][h1:UH f1 g1][h2:UH f2 g2]:UH (xg f0 f1 f2) (xg g0 g1 g2):=⟨λx=>by simp[xg,A.loose,A.looses,h0.lo,h1.lo,h2.lo]⟩
instance (f0:Int->A)(f1:Int->A)(f2:List (List zl)->A)[h0:kp f0][h1:kp f1][h2:kp f2]:kp (xg f0 f1 f2):=⟨λx y h=>by simp only[xg,A.agg.injEq,List.cons.injEq,and_true]at h;cases x;cases y;simp only[z6.mk.injEq];exact⟨h0.inj _ _ h.1,h1.inj _ _ h.2.1,h2.inj _ _ h.2.2⟩⟩
structure zJ where
 block_:Int
 signature_:zz (qX Int)
instance:BEq zJ:=⟨λx y=>(x.block_==y.block_)&&(x.signature_==y.signature_)⟩
def VP (f0:Int->A)(f1:zz (qX Int)->A)(x:zJ):A:=.agg [f0 x.block_,f1 x.signature_]
structure zj where
 state_:Int
 from_:Int
 input_:Int
def XI (f0:Int->A)(f1:Int->A)(f2:Int->A)(x:zj):A:=.agg [f0 x.state_,f1 x.from_,f2 x.input_]
instance (f0:Int->A)(f1:Int->A)(f2:Int->A)[h0:z0h f0][h1:z0h f1][h2:z0h f2]:z0h (XI f0 f1 f2):=⟨λx=>by simp[XI,A.isD,A.areD,h0.isD,h1.isD,h2.isD]⟩
structure zZ where
 S:Int
 T:Int
 Word:List Int
 Apart:Bool
def zL (f0:Int->A)(f1:Int->A)(f2:List Int->A)(f3:Bool->A)(x:zZ):A:=.agg [f0 x.S,f1 x.T,f2 x.Word,f3 x.Apart]
instance (f0:Int->A)(f1:Int->A)(f2:List Int->A)(f3:Bool->A)[h0:z0h f0][h1:z0h f1][h2:z0h f2][h3:z0h f3]:z0h (zL f0 f1 f2 f3):=⟨λx=>by simp[zL,A.isD,A.areD,h0.isD,h1.isD,h2.isD,h3.isD]⟩
instance (f0:Int->A)(f1:Int->A)(f2:List Int->A)(f3:Bool->A)(g0:Int->A)(g1:Int->A)(g2:List Int->A)(g3:Bool->A)[h0:z0z f0 g0][h1:z0z f1 g1][h2:z0z f2 g2][h3:z0z f3 g3]:z0z (zL f0 f1 f2 f3) (zL g0 g1 g2 g3):=⟨λx=>by simp[zL,A.live,A.lives,h0.live,h1.live,h2.live,h3.live],λx=>by simp[zL,A.shut,A.shuts,h0.sh,h1.sh,h2.sh,h3.sh]⟩
structure zC where
 m_:z6
 q_:List (List Int)
 p_:List (List Int)
 all_:List (List Int)
 each_:List (List (List Int))
 short_:List (List Int)
 exact_:List (List Int)
def qU (f0:z6->A)(f1:List (List Int)->A)(f2:List (List Int)->A)(f3:List (List Int)->A)(f4:List (List (List Int))->A)(f5:List (List Int)->A)(f6:List (List Int)->A)(x:zC):A:=.agg [f0 x.m_,f1 x.q_,f2 x.p_,f3 x.all_,f4 x.each_,f5 x.short_,f6 x.exact_]
instance (f0:z6->A)(f1:List (List Int)->A)(f2:List (List Int)->A)(f3:List (List Int)->A)(f4:List (List (List Int))->A)(f5:List (List Int)->A)(f6:List (List Int)->A)(g0:z6->A)(g1:List (List Int)->A)(g2:List (List Int)->A)(g3:List (List Int)->A)(g4:List (List (List Int))->A)(g5:List (List Int)->A)(g6:List (List Int)->A)[h0:UH f0 g0][h1:UH f1 g1][h2:UH f2 g2][h3:UH f3 g3][h4:UH f4 g4][h5:UH f5 g5][h6:UH f6 g6]:UH (qU f0 f1 f2 f3 f4 f5 f6) (qU g0 g1 g2 g3 g4 g5 g6):=⟨λx=>by simp[qU,A.loose,A.looses,h0.lo,h1.lo,h2.lo,h3.lo,h4.lo,h5.lo,h6.lo]⟩
instance (f0:z6->A)(f1:List (List Int)->A)(f2:List (List Int)->A)(f3:List (List Int)->A)(f4:List (List (List Int))->A)(f5:List (List Int)->A)(f6:List (List Int)->A)[h0:kp f0][h1:kp f1][h2:kp f2][h3:kp f3][h4:kp f4][h5:kp f5][h6:kp f6]:kp (qU f0 f1 f2 f3 f4 f5 f6):=⟨λx y h=>by simp only[qU,A.agg.injEq,List.cons.injEq,and_true]at h;cases x;cases y;simp only[zC.mk.injEq];exact⟨h0.inj _ _ h.1,h1.inj _ _ h.2.1,h2.inj _ _ h.2.2.1,h3.inj _ _ h.2.2.2.1,h4.inj _ _ h.2.2.2.2.1,h5.inj _ _ h.2.2.2.2.2.1,h6.inj _ _ h.2.2.2.2.2.2⟩⟩
structure Qp where
structure z8 where
 nodes_:List (zz Int)
 leaves_:Int
 most_:Int
def yH (f0:List (zz Int)->A)(f1:Int->A)(f2:Int->A)(x:z8):A:=.agg [f0 x.nodes_,f1 x.leaves_,f2 x.most_]
instance (f0:List (zz Int)->A)(f1:Int->A)(f2:Int->A)(g0:List (zz Int)->A)(g1:Int->A)(g2:Int->A)[h0:UH f0 g0][h1:UH f1 g1][h2:UH f2 g2]:UH (yH f0 f1 f2) (yH g0 g1 g2):=⟨λx=>by simp[yH,A.loose,A.looses,h0.lo,h1.lo,h2.lo]⟩
instance (f0:List (zz Int)->A)(f1:Int->A)(f2:Int->A)(g0:List (zz Int)->A)(g1:Int->A)(g2:Int->A)[h0:z0z f0 g0][h1:z0z f1 g1][h2:z0z f2 g2]:z0z (yH f0 f1 f2) (yH g0 g1 g2):=⟨λx=>by simp[yH,A.live,A.lives,h0.live,h1.live,h2.live],λx=>by simp[yH,A.shut,A.shuts,h0.sh,h1.sh,h2.sh]⟩
instance (f0:List (zz Int)->A)(f1:Int->A)(f2:Int->A)[h0:kp f0][h1:kp f1][h2:kp f2]:kp (yH f0 f1 f2):=⟨λx y h=>by simp only[yH,A.agg.injEq,List.cons.injEq,and_true]at h;cases x;cases y;simp only[z8.mk.injEq];exact⟨h0.inj _ _ h.1,h1.inj _ _ h.2.1,h2.inj _ _ h.2.2⟩⟩
structure Ue where
structure V8 where
structure zf where
 at_:Int
 w_:List Int
def yY (f0:Int->A)(f1:List Int->A)(x:zf):A:=.agg [f0 x.at_,f1 x.w_]
instance (f0:Int->A)(f1:List Int->A)[h0:z0h f0][h1:z0h f1]:z0h (yY f0 f1):=⟨λx=>by simp[yY,A.isD,A.areD,h0.isD,h1.isD]⟩
instance (f0:Int->A)(f1:List Int->A)(g0:Int->A)(g1:List Int->A)(x:zf)[∀y,LeA (f0 y) (g0 y)][∀y,LeA (f1 y) (g1 y)][∀y,SzA (f0 y) (g0 y)][∀y,SzA (f1 y) (g1 y)]:LeA (yY f0 f1 x) (yY g0 g1 x):=by unfold yY;infer_instance
instance (f0:Int->A)(f1:List Int->A)(g0:Int->A)(g1:List Int->A)(x y:zf)[∀y z,SzA (f0 y) (g0 z)][∀y z,SzA (f1 y) (g1 z)]:SzA (yY f0 f1 x) (yY g0 g1 y):=by unfold yY;infer_instance
structure ww where
 Bound:Int
 Budget:Int
 L:List (List Int)
 Other:z6
def Qi (f0:Int->A)(f1:Int->A)(f2:List (List Int)->A)(f3:z6->A)(x:ww):A:=.agg [f0 x.Bound,f1 x.Budget,f2 x.L,f3 x.Other]
instance (f0:Int->A)(f1:Int->A)(f2:List (List Int)->A)(f3:z6->A)[h0:kp f0][h1:kp f1][h2:kp f2][h3:kp f3]:kp (Qi f0 f1 f2 f3):=⟨λx y h=>by simp only[Qi,A.agg.injEq,List.cons.injEq,and_true]at h;cases x;cases y;simp only[ww.mk.injEq];exact⟨h0.inj _ _ h.1,h1.inj _ _ h.2.1,h2.inj _ _ h.2.2.1,h3.inj _ _ h.2.2.2⟩⟩
instance:zn6 (K:=zJ) (VP (eI .i64) (XJ (Kw (eI .i64)))):=⟨λx y=>by obtain⟨_,⟨⟨_,_⟩,⟨_,_⟩,⟨_,_⟩,⟨_,_⟩,⟨_,_⟩,⟨_,_⟩,⟨_,_⟩,⟨_,_⟩,⟨_,_⟩,⟨_,_⟩,⟨_,_⟩,⟨_,_⟩,⟨_,_⟩,⟨_,_⟩,⟨_,_⟩,⟨_,_⟩⟩⟩:=x;obtain⟨_,⟨⟨_,_⟩,⟨_,_⟩,⟨_,_⟩,⟨_,_⟩,⟨_,_⟩,⟨_,_⟩,⟨_,_⟩,⟨_,_⟩,⟨_,_⟩,⟨_,_⟩,⟨_,_⟩,⟨_,_⟩,⟨_,_⟩,⟨_,_⟩,⟨_,_⟩,⟨_,_⟩⟩⟩:=y;simp only[XJ,Kw,VP,eI,KF,z3e,z3e.keyLs,zO,BEq.beq,gj,Option.some.injEq,Value.agg.injEq,gD,pJ,pU,Array.mk.injEq,List.cons.injEq,Value.int.injEq,true_and,and_true,po,decide_eq_true_eq,and_assoc]⟩
abbrev R1_:Type:=Option (LR (List Int×Int) (List Int))
def Jk:Option Int :=
 some 0
abbrev R3_:Type:=Option (LR Int (Unit⊕Int))
def jB (i_:Int)(rc:Int)(re:Bool)(my:Bool)(rf:Bool)(rg:Bool)(oz:Bool):R3_ :=
 some (.next (w64 (i_+1)))
def Y3 (m_:z6)(bl:List (List Bool))(s_:Int)(t_:Int)(i_:Int):R3_ :=
 bif decide (i_<m_.Inputs) then(
  (idx m_.Rows s_).bind λap=>
  (idx ap i_).bind λal=>
  (idx m_.Rows t_).bind λdu=>
  (idx du i_).bind λbp=>
  bif al.Out != bp.Out then(
   some (.done (.inr 1)))
  else(
   bif decide (al.To>=0) then(
    bif decide (bp.To>=0) then(
     (idx bl al.To).bind λjp=>
     (idx jp bp.To).bind λgm=>
     bif gm then(
      some (.done (.inr 1)))
     else(
      jB i_ al.To (decide (al.To>=0)) (decide (al.To>=0)) (decide (bp.To>=0)) (decide (bp.To>=0)) gm))
    else(
     jB i_ al.To (decide (al.To>=0)) (decide (al.To>=0)) (decide (bp.To>=0)) (decide (bp.To>=0)) false))
   else(
    jB i_ al.To (decide (al.To>=0)) (decide (al.To>=0)) false false false)))
 else(
  some (.done (.inl ())))
def VA (m_:z6)(bl:List (List Bool))(s_:Int)(t_:Int):Option Int :=
 (loop (λs=>Y3 m_ bl s_ t_ s) 0).bind λt2=>
 match t2 with
 | .inl p=>Jk
 | .inr p=>some p
abbrev R4_:Type:=Option (List (List Bool))
def Xs (nl:List (List Bool)):R4_ :=
 some nl
abbrev R5_:Type:=Option (LR (List (List Bool)×Int) (List (List Bool)))
def Xr (round:Int)(mi:List (List Bool)):R5_ :=
 some (.next (mi,w64 (round+1)))
def Xq (round:Int)(next:List (List Bool)):R5_ :=
 Xr round next
def Xp (s_:Int)(ff:List (List Bool)):R5_ :=
 some (.next (ff,w64 (s_+1)))
def qz (m_:z6)(dg:List (List Bool))(s_:Int)(cb:List (List Bool))(t_:Int):R5_ :=
 bif decide (t_<((m_.Rows.length:Nat):Int)) then(
  (idx cb s_).bind λjq=>
  (idx dg s_).bind λjp=>
  (idx jp t_).bind λgm=>
  bif gm then(
   (idx jq t_).bind λqm=>
   some (.next ((cb.set s_.toNat (jq.set t_.toNat true)),w64 (t_+1))))
  else(
   (VA m_ dg s_ t_).bind λr_=>
   (idx jq t_).bind λpy=>
   some (.next ((cb.set s_.toNat (jq.set t_.toNat (r_==1))),w64 (t_+1)))))
 else(
  some (.done cb))
def qA (m_:z6)(dg:List (List Bool))(cr:List (List Bool))(s_:Int):R5_ :=
 bif decide (s_<((m_.Rows.length:Nat):Int)) then(
  gd ((0:Int)<=((m_.Rows.length:Nat):Int)/\(((m_.Rows.length:Nat):Int):Int)<=4294967296) <|
  gd (cr.length+[(List.replicate ((m_.Rows.length:Nat):Int).toNat false)].length<=4294967296) <|
  (loop (λs=>qz m_ dg s_ s.1 s.2) ((cr++[(List.replicate ((m_.Rows.length:Nat):Int).toNat false)]),0)).bind λt8=>
  Xp s_ t8)
 else(
  some (.done cr))
def qB (m_:z6)(k_:Int)(dg:List (List Bool))(round:Int):R5_ :=
 bif decide (round<k_) then(
  (loop (λs=>qA m_ dg s.1 s.2) (([]:List (List Bool)),0)).bind λt6=>
  Xq round t6)
 else(
  some (.done dg))
def Xt (m_:z6)(k_:Int)(bl:List (List Bool)):R4_ :=
 (loop (λs=>qB m_ k_ s.1 s.2) (bl,0)).bind λt3=>
 Xs t3
def qu (m_:z6)(jz:List (List Bool))(bk:Int):R5_ :=
 bif decide (bk<((m_.Rows.length:Nat):Int)) then(
  gd ((0:Int)<=((m_.Rows.length:Nat):Int)/\(((m_.Rows.length:Nat):Int):Int)<=4294967296) <|
  gd (jz.length+[(List.replicate ((m_.Rows.length:Nat):Int).toNat false)].length<=4294967296) <|
  some (.next ((jz++[(List.replicate ((m_.Rows.length:Nat):Int).toNat false)]),w64 (bk+1))))
 else(
  some (.done jz))
def W7 (m_:z6)(k_:Int):R4_ :=
 (loop (λs=>qu m_ s.1 s.2) (([]:List (List Bool)),0)).bind λt9=>
 Xt m_ k_ t9
def W6 (out:List Int):Option (List Int) :=
 some out
abbrev R6_:Type:=Option (LR (List Int×Int×Int) (List Int))
def kZ (s_:Int)(ax:List Int)(ca:Int):R6_ :=
 some (.next (ax,ca,w64 (s_+1)))
def vj (aj:List Int)(s_:Int)(cd:Int)(kw:Int):R6_ :=
 gd (aj.length+[kw].length<=4294967296) <|
 kZ s_ (aj++[kw]) cd
def kY (aj:List Int)(n_:Int)(s_:Int)(b_:Int):R6_ :=
 bif decide (b_<0) then(
  vj aj s_ (w64 (n_+1)) n_)
 else(
  vj aj s_ n_ b_)
abbrev R7_:Type:=Option (LR (Int×Int) Int)
def uQ (t_:Int)(pz:Int):R7_ :=
 some (.next (pz,w64 (t_+1)))
def kX (bl:List (List Bool))(aj:List Int)(s_:Int)(oq:Int)(t_:Int):R7_ :=
 bif decide (t_<s_) then(
  (idx bl s_).bind λjp=>
  (idx jp t_).bind λgm=>
  bif !gm then(
   (idx aj t_).bind λdn=>
   uQ t_ dn)
  else(
   uQ t_ oq))
 else(
  some (.done oq))
def W5 (bl:List (List Bool))(aj:List Int)(n_:Int)(s_:Int):R6_ :=
 bif decide (s_<((bl.length:Nat):Int)) then(
  (loop (λs=>kX bl aj s_ s.1 s.2) ((-1),0)).bind λt6=>
  kY aj n_ s_ t6)
 else(
  some (.done aj))
def Za (bl:List (List Bool)):Option (List Int) :=
 (loop (λs=>W5 bl s.1 s.2.1 s.2.2) (([]:List Int),0,0)).bind λt2=>
 W6 t2
def Q5 (m_:z6)(k_:Int):Option (List Int) :=
 (W7 m_ k_).bind λr_=>
 (Za r_).bind λai=>
 some ai
def YK (m_:z6):Option (List Int) :=
 (Q5 m_ ((m_.Rows.length:Nat):Int)).bind λr_=>
 some r_
def WW (m_:z6)(s_:Int)(i_:Int):Option zl :=
 bif decide (s_<0) then(
  some (zl.mk (-1) (-1)))
 else(
  (idx m_.Rows s_).bind λap=>
  (idx ap i_).bind λal=>
  some al)
def Ze (mz:z6->Int->(List Int)->Option Int)(m_:z6)(s_:Int)(w_:List Int):Option Int :=
 bif ((w_.length:Nat):Int)==0 then(
  some s_)
 else(
  (idx w_ 0).bind λfc=>
  (WW m_ s_ fc).bind λr_=>
  gd ((0:Int)<=1/\(1:Int)<=((w_.length:Nat):Int)/\(((w_.length:Nat):Int):Int)<=((w_.length:Nat):Int)) <|
  (mz m_ r_.To (w_.drop (1:Int).toNat)).bind λai=>
  some ai)
def Zd (fu:Nat):z6->Int->(List Int)->Option Int:=Nat.rec (motive:=λ_=>z6->Int->(List Int)->Option Int) (λ_ _ _=>none) (λ_ ih=>Ze ih) fu
def Xv (m_:z6)(s_:Int)(w_:List Int):Option Int:=Zd (w_.length+1) m_ s_ w_
def YL (out:List Int):Option (List Int) :=
 gd (out.length+([0]:List Int).length<=4294967296) <|
 some (out++([0]:List Int))
abbrev R8_:Type:=Option (LR (List Int×Int) (List Int⊕List Int))
def VB (inputs:Int)(aj:List Int)(k_:Int):R8_ :=
 bif decide (k_>=0) then(
  (idx aj k_).bind λdn=>
  bif decide ((w64 (dn+1))<inputs) then(
   (idx aj k_).bind λjr=>
   (idx aj k_).bind λo7=>
   some (.done (.inr (aj.set k_.toNat (w64 (jr+1))))))
  else(
   (idx aj k_).bind λo8=>
   some (.next ((aj.set k_.toNat 0),w64 (k_ - 1)))))
 else(
  some (.done (.inl aj)))
def YX (w_:List Int)(inputs:Int):Option (List Int) :=
 gd (([]:List Int).length+w_.length<=4294967296) <|
 (loop (λs=>VB inputs s.1 s.2) (w_,w64 (((w_.length:Nat):Int) - 1))).bind λt2=>
 match t2 with
 | .inl p=>YL p
 | .inr p=>some p
abbrev R9_:Type:=Option (List (List Int)×List Bool)
def Ww (l_:List (List Int))(is:List Bool):R9_ :=
 some (l_,is)
abbrev zoi:Type:=Option (LR (List (List Int)×List Bool×List Int) ((List (List Int)×List Bool)))
def uK (m_:z6)(w_:List Int)(j6:List (List Int))(p0:List Bool):zoi :=
 (YX w_ m_.Inputs).bind λr_=>
 some (.next (j6,p0,r_))
def Jl (m_:z6)(from_:Int)(dr:List (List Int))(ii:List Bool)(w_:List Int):zoi :=
 bif decide (((w_.length:Nat):Int)<((m_.Rows.length:Nat):Int)) then(
  (Xv m_ from_ w_).bind λai=>
  bif decide (ai>=0) then(
   (idx ii ai).bind λpq=>
   bif !pq then(
    (idx ii ai).bind λr8=>
    (idx dr ai).bind λbi=>
    uK m_ w_ (dr.set ai.toNat w_) (ii.set ai.toNat true))
   else(
    uK m_ w_ dr ii))
  else(
   uK m_ w_ dr ii))
 else(
  some (.done (dr,ii)))
def VC (m_:z6)(from_:Int):R9_ :=
 gd ((0:Int)<=((m_.Rows.length:Nat):Int)/\(((m_.Rows.length:Nat):Int):Int)<=4294967296) <|
 gd ((0:Int)<=((m_.Rows.length:Nat):Int)/\(((m_.Rows.length:Nat):Int):Int)<=4294967296) <|
 (loop (λs=>Jl m_ from_ s.1 s.2.1 s.2.2) ((List.replicate ((m_.Rows.length:Nat):Int).toNat ([]:List Int)),(List.replicate ((m_.Rows.length:Nat):Int).toNat false),([]:List Int))).bind λt2=>
 Ww t2.1 t2.2
def W8 (m_:z6):R9_ :=
 (VC m_ 0).bind λr_=>
 some (r_.1,r_.2)
def Yx (out:List Bool):Option (List Bool) :=
 some out
abbrev zij:Type:=Option (LR (List Bool×Int) (List Bool))
def Yw (round:Int)(ax:List Bool):zij :=
 some (.next (ax,w64 (round+1)))
def Yv (s_:Int)(gx:List Bool):zij :=
 some (.next (gx,w64 (s_+1)))
def uE (i_:Int)(o9:List Bool):zij :=
 some (.next (o9,w64 (i_+1)))
def Yt (m_:z6)(s_:Int)(kg:List Bool)(i_:Int):zij :=
 bif decide (i_<m_.Inputs) then(
  (idx m_.Rows s_).bind λap=>
  (idx ap i_).bind λal=>
  (idx kg s_).bind λdn=>
  bif dn then(
   bif decide (al.To>=0) then(
    (idx kg al.To).bind λjr=>
    uE i_ (kg.set al.To.toNat true))
   else(
    uE i_ kg))
  else(
   uE i_ kg))
 else(
  some (.done kg))
def Yu (m_:z6)(bo:List Bool)(s_:Int):zij :=
 bif decide (s_<((m_.Rows.length:Nat):Int)) then(
  (loop (λs=>Yt m_ s_ s.1 s.2) (bo,0)).bind λt6=>
  Yv s_ t6)
 else(
  some (.done bo))
def Ua (m_:z6)(aj:List Bool)(round:Int):zij :=
 bif decide (round<((m_.Rows.length:Nat):Int)) then(
  (loop (λs=>Yu m_ s.1 s.2) (aj,0)).bind λt4=>
  Yw round t4)
 else(
  some (.done aj))
def YM (m_:z6)(from_:Int):Option (List Bool) :=
 gd ((0:Int)<=((m_.Rows.length:Nat):Int)/\(((m_.Rows.length:Nat):Int):Int)<=4294967296) <|
 (idx (List.replicate ((m_.Rows.length:Nat):Int).toNat false) from_).bind λmj=>
 (loop (λs=>Ua m_ s.1 s.2) (((List.replicate ((m_.Rows.length:Nat):Int).toNat false).set from_.toNat true),0)).bind λt2=>
 Yx t2
def uv:Option zl :=
 some (zl.mk (-1) (-1))
def YP (m_:z6)(x_:zl):Option Bool :=
 (uv).bind λr_=>
 bif (x_.To==r_.To)&&((x_.Out==r_.Out)&&true) then(
  some true)
 else(
  bif decide (x_.To>=0) then(
   bif decide (x_.To<((m_.Rows.length:Nat):Int)) then(
    bif decide (x_.Out>=0) then(
     some (decide (x_.Out<m_.Outputs)))
    else(
     some false))
   else(
    some false))
  else(
   some false))
def YC (x_:zl)(x1:z6):Option Bool :=
 (YP x1 x_).bind λr_=>
 some (!r_)
def wu:Option Int :=
 some (-1)
def yc (s_:List zl)(f_:z6)(x8:Int):R3_ :=
 bif decide (x8<((s_.length:Nat):Int)) then(
  (idx s_ x8).bind λeb=>
  (YC eb f_).bind λr_=>
  bif r_ then(
   some (.done (.inr x8)))
  else(
   some (.next (w64 (x8+1)))))
 else(
  some (.done (.inl ())))
def xw (s_:List zl)(f_:z6):Option Int :=
 (loop (λs=>yc s_ f_ s) 0).bind λt2=>
 match t2 with
 | .inl p=>wu
 | .inr p=>some p
def yd (s_:List zl)(f_:z6):Option Bool :=
 (xw s_ f_).bind λr_=>
 some (decide (r_>=0))
def V0:Option Int :=
 some 0
def qQ (m_:z6)(kl:Int):R3_ :=
 bif decide (kl<((m_.Rows.length:Nat):Int)) then(
  (idx m_.Rows kl).bind λap=>
  bif ((ap.length:Nat):Int) != m_.Inputs then(
   some (.done (.inr 1)))
  else(
   (yd ap m_).bind λr_=>
   bif r_ then(
    some (.done (.inr 1)))
   else(
    some (.next (w64 (kl+1))))))
 else(
  some (.done (.inl ())))
def yV (m_:z6):Option Int :=
 bif decide (m_.Inputs > 16) then(
  some 3)
 else(
  bif decide (m_.Outputs > 16) then(
   some 3)
  else(
   bif decide (((m_.Rows.length:Nat):Int) > 64) then(
    some 3)
   else(
    bif decide (m_.Inputs<1) then(
     some 1)
    else(
     bif decide (m_.Outputs<1) then(
      some 1)
     else(
      bif decide (((m_.Rows.length:Nat):Int)<1) then(
       some 1)
      else(
       (loop (λs=>qQ m_ s) 0).bind λt2=>
       match t2 with
       | .inl p=>V0
       | .inr p=>some p))))))
def Xw (m_:z6):Option ((Int×z6)×(Int×z6)×(Int×z6)) :=
 some ((9,m_),(11,m_),(12,m_))
def Wz (m_:z6):Option z6 :=
 some m_
variable {σ:Type}
def jS (gi:Int)(js:σ):Option (LR (σ×Int) σ) :=
 some (.next (js,w64 (gi+1)))
def wU (yy:σ->(qX Int×zl)->Option (σ×Bool))(gi:Int)(ap:List zl)(gg:σ)(ba:Int):Option (LR (σ×Int) (σ⊕σ)) :=
 bif decide (ba<((ap.length:Nat):Int)) then(
  (idx ap ba).bind λal=>
  (yy gg ((qX.mk gi ba),al)).bind λyr=>
  bif !yr.2 then(
   some (.done (.inr yr.1)))
  else(
   some (.next (yr.1,w64 (ba+1)))))
 else(
  some (.done (.inl gg)))
def uw (x0:z6)(yy:σ->(qX Int×zl)->Option (σ×Bool))(dw:σ)(gi:Int):Option (LR (σ×Int) σ) :=
 bif decide (gi<((x0.Rows.length:Nat):Int)) then(
  (idx x0.Rows gi).bind λap=>
  (loop (λs=>wU yy gi ap s.1 s.2) (dw,0)).bind λt3=>
  match t3 with
  | .inl p=>jS gi p
  | .inr p=>some (.done p))
 else(
  some (.done dw))
def jO (x0:z6){σ:Type}(yy:σ->(qX Int×zl)->Option (σ×Bool))(sg:σ):Option σ :=
 (loop (λs=>uw x0 yy s.1 s.2) (sg,0)).bind λt1=>
 some t1
abbrev zmX:Type:=Option (List (qX Int))
def ut (s_:List (qX Int)):zmX :=
 gd ((0:Int)<=0/\(0:Int)<=((s_.length:Nat):Int)/\(((s_.length:Nat):Int):Int)<=((s_.length:Nat):Int)/\(((s_.length:Nat):Int):Int)<=((s_.length:Nat):Int)) <|
 some ((s_.drop 0).take (((s_.length:Nat):Int).toNat - 0))
def qC (out:List (qX Int)):zmX :=
 (ut out).bind λr_=>
 some r_
def yz (aj:List (qX Int))(x8:qX Int)(x9:zl):Option (LR (List (qX Int)) Empty) :=
 (uv).bind λak=>
 bif (x9.To==ak.To)&&((x9.Out==ak.Out)&&true) then(
  gd (aj.length+[x8].length<=4294967296) <|
  some (.next (aj++[x8])))
 else(
  some (.next aj))
def Zg (m_:z6):zmX :=
 (Wz m_).bind λai=>
 (jO ai (yOf (λs x=>yz s x.1 x.2)) (.next ([]:List (qX Int)))).bind λt2=>
 match t2 with
 | .next aj=>(
  qC aj)
 | .done z=>nomatch z
def qP (m_:z6):Option (Bool×Int) :=
 (yV m_).bind λr_=>
 bif r_ != 0 then(
  some (false,r_))
 else(
  (Zg m_).bind λai=>
  some (((ai.length:Nat):Int)==0,0))
def ZL (x0:z6):Option Bool :=
 (qP x0).bind λr_=>
 some r_.1
def wB (mz:Int->(List Bool)->z6->Option (List Bool×z6))(ap:List zl)(x1:List Bool)(jt:Int)(jd:Int)(la:List (List zl))(ga:Int):Option (LR (List Bool×Int×Int×List (List zl)×Int) ((List Bool×z6))) :=
 bif decide (ga<((ap.length:Nat):Int)) then(
  (idx ap ga).bind λal=>
  (mz al.To x1 (z6.mk jt jd la)).bind λr_=>
  some (.next (r_.1,r_.2.Inputs,r_.2.Outputs,r_.2.Rows,w64 (ga+1))))
 else(
  some (.done (x1,(z6.mk jt jd la))))
def wX (mz:Int->(List Bool)->z6->Option (List Bool×z6))(s_:Int)(y0:List Bool)(y1:z6):Option (List Bool×z6) :=
 bif s_==(-1) then(
  some (y0,y1))
 else(
  (idx y0 s_).bind λsb=>
  bif sb then(
   some (y0,y1))
  else(
   (idx y0 s_).bind λsf=>
   (idx y1.Rows s_).bind λap=>
   (loop (λs=>wB mz ap s.1 s.2.1 s.2.2.1 s.2.2.2.1 s.2.2.2.2) ((y0.set s_.toNat true),y1.Inputs,y1.Outputs,y1.Rows,0)).bind λt1=>
   some t1))
def yf (fu:Nat):Int->(List Bool)->z6->Option (List Bool×z6):=Nat.rec (motive:=λ_=>Int->(List Bool)->z6->Option (List Bool×z6)) (λ_ _ _=>none) (λ_ ih=>wX ih) fu
def jj:Option Int :=
 some (-1)
def xW (s_:List Bool)(v_:Bool)(x8:Int):R3_ :=
 bif decide (x8<((s_.length:Nat):Int)) then(
  (idx s_ x8).bind λeb=>
  bif v_==eb then(
   some (.done (.inr x8)))
  else(
   some (.next (w64 (x8+1)))))
 else(
  some (.done (.inl ())))
def uN (s_:List Bool)(v_:Bool):Option Int :=
 (loop (λs=>xW s_ v_ s) 0).bind λt2=>
 match t2 with
 | .inl p=>jj
 | .inr p=>some p
def xX (s_:List Bool)(v_:Bool):Option Bool :=
 (uN s_ v_).bind λr_=>
 some (decide (r_>=0))
def vn (m_:z6):Option (Bool×Int) :=
 (yV m_).bind λr_=>
 bif r_ != 0 then(
  some (false,r_))
 else(
  gd ((0:Int)<=((m_.Rows.length:Nat):Int)/\(((m_.Rows.length:Nat):Int):Int)<=4294967296) <|
  (yf V4 0 (List.replicate ((m_.Rows.length:Nat):Int).toNat false) m_).bind λai=>
  (xX ai.1 false).bind λak=>
  some (!ak,0))
def ZK (x0:z6):Option Bool :=
 (vn x0).bind λr_=>
 some r_.1
def Wl (m_:z6):Option z6 :=
 some m_
def Xh (out:zz (qX Int)):Option (zz (qX Int)) :=
 some out
abbrev zoh:Type:=Option (LR (zz (qX Int)×Int) (zz (qX Int)))
def kO (ft:Int)(ax:zz (qX Int)):zoh :=
 some (.next (ax,w64 (ft+1)))
def Xg (p_:List Int)(ap:List zl)(aj:zz (qX Int))(ft:Int):zoh :=
 bif decide (ft<((ap.length:Nat):Int)) then(
  (idx ap ft).bind λal=>
  (idx (zz.toL aj) ft).bind λcell=>
  (some (zz.setI aj ft (qX.mk al.Out (-1)))).bind λarr=>
  bif al.To !=(-1) then(
   (idx p_ al.To).bind λbj=>
   (idx (zz.toL arr) ft).bind λco=>
   (some (zz.setI arr ft (qX.mk co.e0 bj))).bind λarr1=>
   kO ft arr1)
  else(
   kO ft arr))
 else(
  some (.done aj))
def k7 (m_:z6)(p_:List Int)(s_:Int):Option (zz (qX Int)) :=
 (idx m_.Rows s_).bind λap=>
 (loop (λs=>Xg p_ ap s.1 s.2) ((zz.mk (qX.mk 0 0) (qX.mk 0 0) (qX.mk 0 0) (qX.mk 0 0) (qX.mk 0 0) (qX.mk 0 0) (qX.mk 0 0) (qX.mk 0 0) (qX.mk 0 0) (qX.mk 0 0) (qX.mk 0 0) (qX.mk 0 0) (qX.mk 0 0) (qX.mk 0 0) (qX.mk 0 0) (qX.mk 0 0)),0)).bind λt2=>
 Xh t2
def kQ (out:List Int):Option (List Int) :=
 some out
abbrev zog:Type:=Option (LR ((List (zJ×Int))×List Int×Int) (List Int))
def vg (aj:List Int)(gh:Int)(bj:Int)(r_:zz (qX Int))(jf:List (zJ×Int)):zog :=
 (some ((Vc jf (zJ.mk bj r_)).getD 0)).bind λval=>
 (idx aj gh).bind λdn=>
 some (.next (jf,(aj.set gh.toNat val),w64 (gh+1)))
def kP (m_:z6)(p_:List Int)(names:List (zJ×Int))(aj:List Int)(gh:Int):zog :=
 bif decide (gh<((p_.length:Nat):Int)) then(
  (idx p_ gh).bind λbj=>
  (k7 m_ p_ gh).bind λr_=>
  (some ((Vc names (zJ.mk bj r_)).getD 0)).bind λrh=>
  bif !((Vc names (zJ.mk bj r_)).isSome) then(
   vg aj gh bj r_ (z26 names (zJ.mk bj r_) ((names.length:Nat):Int)))
  else(
   vg aj gh bj r_ names))
 else(
  some (.done aj))
def kR (m_:z6)(p_:List Int):Option (List Int) :=
 gd ((0:Int)<=((p_.length:Nat):Int)/\(((p_.length:Nat):Int):Int)<=4294967296) <|
 (loop (λs=>kP m_ p_ s.1 s.2.1 s.2.2) (([]:List (zJ×Int)),(List.replicate ((p_.length:Nat):Int).toNat (0:Int)),0)).bind λt2=>
 kQ t2
def ur:Option Bool :=
 some true
abbrev zii:Type:=Option (LR Int (Unit⊕Bool))
def wx (s1:List Int)(s2:List Int)(fq:Int):zii :=
 bif decide (fq<((s1.length:Nat):Int)) then(
  (idx s1 fq).bind λpa=>
  (idx s2 fq).bind λnw=>
  bif pa != nw then(
   some (.done (.inr false)))
  else(
   some (.next (w64 (fq+1)))))
 else(
  some (.done (.inl ())))
def wv (s1:List Int)(s2:List Int):Option Bool :=
 bif ((s1.length:Nat):Int) !=((s2.length:Nat):Int) then(
  some false)
 else(
  (loop (λs=>wx s1 s2 s) 0).bind λt2=>
  match t2 with
  | .inl p=>ur
  | .inr p=>some p)
def uu (x0:z6)(yy:σ->(List Int)->Option (σ×Bool))(dw:σ)(p_:List Int):Option (LR (σ×List Int) σ) :=
 (yy dw p_).bind λyr=>
 bif yr.2 then(
  (kR x0 p_).bind λr_=>
  (wv p_ r_).bind λai=>
  bif ai then(
   some (.done yr.1))
  else(
   some (.next (yr.1,r_))))
 else(
  some (.done yr.1))
def jI (x0:z6){σ:Type}(yy:σ->(List Int)->Option (σ×Bool))(sg:σ):Option σ :=
 gd ((0:Int)<=((x0.Rows.length:Nat):Int)/\(((x0.Rows.length:Nat):Int):Int)<=4294967296) <|
 (loop (λs=>uu x0 yy s.1 s.2) (sg,(List.replicate ((x0.Rows.length:Nat):Int).toNat (0:Int)))).bind λt1=>
 some t1
def kS (p_:List Int)(n_:Int):Option (List Int×Int×Int) :=
 some (p_,n_,0)
def vh (nv:List Int)(ca:Int)(kq:List Int):Option (LR (List Int×Int) Empty) :=
 some (.next (kq,w64 (ca+1)))
def kT (m_:z6):Option (List Int×Int×Int) :=
 (yV m_).bind λr_=>
 bif r_ != 0 then(
  some (([]:List Int),0,r_))
 else(
  (Wl m_).bind λai=>
  (jI ai (yOf (λs x=>vh s.1 s.2 x)) (.next (([]:List Int),(-1)))).bind λt2=>
  match t2 with
  | .next (nv,ca)=>(
   kS nv ca)
  | .done z=>nomatch z)
def qp (m_:Int):Option Int :=
 some m_
def qo (x_:List Int)(pb:Int)(i_:Int):R7_ :=
 bif decide (i_<((x_.length:Nat):Int)) then(
  (idx x_ i_).bind λl7=>
  some (.next ((mx pb l7),w64 (i_+1))))
 else(
  some (.done pb))
def uO (x_:List Int):Option Int :=
 bif decide (((x_.length:Nat):Int)<1) then(
  none)
 else(
  (idx x_ 0).bind λmq=>
  (loop (λs=>qo x_ s.1 s.2) (mq,1)).bind λt2=>
  qp t2)
def ZJ (x0:z6):Option Bool :=
 (kT x0).bind λr_=>
 (uO r_.1).bind λai=>
 some (ai==(w64 (((r_.1.length:Nat):Int) - 1)))
def jR:Option Int :=
 some 0
def xc (m_:z6):Option Int :=
 (yV m_).bind λr_=>
 bif r_ != 0 then(
  some r_)
 else(
  (Xw m_).bind λai=>
  (ZL ai.1.2).bind λak=>
  bif !ak then(
   some ai.1.1)
  else(
   (ZK ai.2.1.2).bind λam=>
   bif !am then(
    some ai.2.1.1)
   else(
    (ZJ ai.2.2.2).bind λaz=>
    bif !az then(
     some ai.2.2.1)
    else(
     jR))))
def ub (m_:z6)(bound:Int):Option Int :=
 (xc m_).bind λr_=>
 bif r_ != 0 then(
  some r_)
 else(
  bif decide (bound<((m_.Rows.length:Nat):Int)) then(
   some 1)
  else(
   bif decide (bound > (w64 (((m_.Rows.length:Nat):Int)+4))) then(
    some 1)
   else(
    some 0)))
def Wf (m_:z6)(from_:Int):Option (z6×Int) :=
 some (m_,from_)
def xh (jl:Int)(eu:List Bool)(nd:List zj):Option (LR (List Bool×List zj×Int) ((σ×List Bool×List zj))) :=
 some (.next (eu,nd,w64 (jl+1)))
def wN (cw:zj)(yr:σ×Bool)(ap:List zl)(gn:List Bool)(fx:List zj)(jl:Int):Option (LR (List Bool×List zj×Int) ((σ×List Bool×List zj))) :=
 bif decide (jl<((ap.length:Nat):Int)) then(
  (idx ap jl).bind λal=>
  bif al.To !=(-1) then(
   (idx gn al.To).bind λp7=>
   bif !p7 then(
    (idx gn al.To).bind λra=>
    gd (fx.length+[(zj.mk al.To cw.state_ jl)].length<=4294967296) <|
    xh jl (gn.set al.To.toNat true) (fx++[(zj.mk al.To cw.state_ jl)]))
   else(
    xh jl gn fx))
  else(
   xh jl gn fx))
 else(
  some (.done (yr.1,gn,fx)))
def ue (x0:z6)(yy:σ->zj->Option (σ×Bool))(dw:σ)(kh:List Bool)(d8:List zj):Option (LR (σ×List Bool×List zj) σ) :=
 bif decide (((d8.length:Nat):Int) > 0) then(
  (idx d8 0).bind λcw=>
  gd ((0:Int)<=1/\(1:Int)<=((d8.length:Nat):Int)) <|
  (yy dw cw).bind λyr=>
  bif !yr.2 then(
   some (.done yr.1))
  else(
   (idx x0.Rows cw.state_).bind λap=>
   (loop (λs=>wN cw yr ap s.1 s.2.1 s.2.2) (kh,(d8.drop (1:Int).toNat),0)).bind λt2=>
   some (.next t2)))
 else(
  some (.done dw))
def jG (x0:z6)(x1:Int){σ:Type}(yy:σ->zj->Option (σ×Bool))(sg:σ):Option σ :=
 gd ((0:Int)<=((x0.Rows.length:Nat):Int)/\(((x0.Rows.length:Nat):Int):Int)<=4294967296) <|
 (idx (List.replicate ((x0.Rows.length:Nat):Int).toNat false) x1).bind λmj=>
 (loop (λs=>ue x0 yy s.1 s.2.1 s.2.2) (sg,((List.replicate ((x0.Rows.length:Nat):Int).toNat false).set x1.toNat true),([(zj.mk x1 (-1) (-1))]:List zj))).bind λt1=>
 some t1
def ye (s_:List Int):Option (List Int) :=
 gd (([]:List Int).length+s_.length<=4294967296) <|
 some s_
def zP (s_:List Int):Option (List Int) :=
 gd ((0:Int)<=0/\(0:Int)<=((s_.length:Nat):Int)/\(((s_.length:Nat):Int):Int)<=((s_.length:Nat):Int)/\(((s_.length:Nat):Int):Int)<=((s_.length:Nat):Int)) <|
 some ((s_.drop 0).take (((s_.length:Nat):Int).toNat - 0))
def We (l_:List (List Int))(is:List Bool):R9_ :=
 some (l_,is)
def wG (dr:List (List Int))(ii:List Bool)(jn:zj):Option (LR (List (List Int)×List Bool) Empty) :=
 (idx ii jn.state_).bind λpq=>
 bif jn.from_ !=(-1) then(
  (idx dr jn.from_).bind λbi=>
  (ye bi).bind λai=>
  gd (ai.length+[jn.input_].length<=4294967296) <|
  (zP (ai++[jn.input_])).bind λak=>
  (idx dr jn.state_).bind λew=>
  some (.next ((dr.set jn.state_.toNat ak),(ii.set jn.state_.toNat true))))
 else(
  some (.next (dr,(ii.set jn.state_.toNat true))))
def Ve (m_:z6)(from_:Int):R9_ :=
 gd ((0:Int)<=((m_.Rows.length:Nat):Int)/\(((m_.Rows.length:Nat):Int):Int)<=4294967296) <|
 gd ((0:Int)<=((m_.Rows.length:Nat):Int)/\(((m_.Rows.length:Nat):Int):Int)<=4294967296) <|
 (Wf m_ from_).bind λr_=>
 (jG r_.1 r_.2 (yOf (λs x=>wG s.1 s.2 x)) (.next ((List.replicate ((m_.Rows.length:Nat):Int).toNat ([]:List Int)),(List.replicate ((m_.Rows.length:Nat):Int).toNat false)))).bind λt2=>
 match t2 with
 | .next (dr,ii)=>(
  We dr ii)
 | .done z=>nomatch z
def XZ (m_:z6):Option (List (List Int)×List Bool×Int) :=
 (yV m_).bind λr_=>
 bif r_ != 0 then(
  some (([]:List (List Int)),([]:List Bool),r_))
 else(
  (Ve m_ 0).bind λai=>
  some (ai.1,ai.2,0))
def Vd (c_:Int)(x1:Int):Option Bool :=
 bif decide (c_<0) then(
  some true)
 else(
  some (decide (c_>=x1)))
def qq:Option Int :=
 some (-1)
def xA (s_:List Int)(f_:Int)(x8:Int):R3_ :=
 bif decide (x8<((s_.length:Nat):Int)) then(
  (idx s_ x8).bind λeb=>
  (Vd eb f_).bind λr_=>
  bif r_ then(
   some (.done (.inr x8)))
  else(
   some (.next (w64 (x8+1)))))
 else(
  some (.done (.inl ())))
def vR (s_:List Int)(f_:Int):Option Int :=
 (loop (λs=>xA s_ f_ s) 0).bind λt2=>
 match t2 with
 | .inl p=>qq
 | .inr p=>some p
def wT (s_:List Int)(f_:Int):Option Bool :=
 (vR s_ f_).bind λr_=>
 some (decide (r_>=0))
def ud (w_:List Int)(inputs:Int):Option Int :=
 bif decide (inputs > 16) then(
  some 3)
 else(
  bif decide (((w_.length:Nat):Int) > 256) then(
   some 3)
  else(
   bif decide (inputs<1) then(
    some 1)
   else(
    (wT w_ inputs).bind λr_=>
    bif r_ then(
     some 1)
    else(
     some 0))))
def Jc:Option Int :=
 some 0
def ZV (l_:List (List Int))(inputs:Int)(dy:Int):R3_ :=
 bif decide (dy<((l_.length:Nat):Int)) then(
  (idx l_ dy).bind λbi=>
  (ud bi inputs).bind λr_=>
  bif r_ != 0 then(
   some (.done (.inr r_)))
  else(
   some (.next (w64 (dy+1)))))
 else(
  some (.done (.inl ())))
def X9 (l_:List (List Int))(inputs:Int):Option Int :=
 bif decide (inputs > 16) then(
  some 3)
 else(
  bif decide (((l_.length:Nat):Int) > 4096) then(
   some 3)
  else(
   bif decide (inputs<1) then(
    some 1)
   else(
    (loop (λs=>ZV l_ inputs s) 0).bind λt2=>
    match t2 with
    | .inl p=>Jc
    | .inr p=>some p)))
abbrev V9:Type:=Option (List (List Int))
def w9 (s_:List (List Int)):V9 :=
 gd (([]:List (List Int)).length+s_.length<=4294967296) <|
 some s_
def YQ (x_:Int):Option Bool :=
 some (x_ != x_)
def qD (x_:Int)(y_:Int):Option Int :=
 (YQ x_).bind λr_=>
 (YQ y_).bind λai=>
 bif r_ then(
  bif ai then(
   some 0)
  else(
   some (-1)))
 else(
  bif ai then(
   some 1)
  else(
   bif decide (x_<y_) then(
    some (-1))
   else(
    bif decide (x_ > y_) then(
     some 1)
    else(
     some 0))))
def vA (s1:List Int)(s2:List Int):Option Int :=
 bif decide (((s1.length:Nat):Int)<((s2.length:Nat):Int)) then(
  some (-1))
 else(
  some 0)
def xY (s1:List Int)(s2:List Int)(ig:Int):R3_ :=
 bif decide (ig<((s1.length:Nat):Int)) then(
  (idx s1 ig).bind λpa=>
  bif decide (ig>=((s2.length:Nat):Int)) then(
   some (.done (.inr 1)))
  else(
   (idx s2 ig).bind λnw=>
   (qD pa nw).bind λr_=>
   bif r_ != 0 then(
    some (.done (.inr r_)))
   else(
    some (.next (w64 (ig+1))))))
 else(
  some (.done (.inl ())))
def wW (s1:List Int)(s2:List Int):Option Int :=
 (loop (λs=>xY s1 s2 s) 0).bind λt2=>
 match t2 with
 | .inl p=>vA s1 s2
 | .inr p=>some p
def VQ:Option Int :=
 some 0
def YR (vals:List Int)(x8:Int):R3_ :=
 bif decide (x8<((vals.length:Nat):Int)) then(
  (idx vals x8).bind λpr=>
  bif pr != 0 then(
   some (.done (.inr pr)))
  else(
   some (.next (w64 (x8+1)))))
 else(
  some (.done (.inl ())))
def QH (vals:List Int):Option Int :=
 (loop (λs=>YR vals s) 0).bind λt2=>
 match t2 with
 | .inl p=>VQ
 | .inr p=>some p
def yI (a_:List Int)(b_:List Int):Option Int :=
 (qD ((a_.length:Nat):Int) ((b_.length:Nat):Int)).bind λr_=>
 (wW a_ b_).bind λai=>
 (QH ([r_,ai])).bind λak=>
 some ak
def qZ (a_:List Int)(b_:List Int):Option Bool :=
 (yI a_ b_).bind λr_=>
 some (r_==0)
def uc (s_:List (List Int)):V9 :=
 some s_
abbrev zmW:Type:=Option (LR Int (Unit⊕List (List Int)))
def w8 (k_:Int):zmW :=
 some (.next (w64 (k_+1)))
def yi (bk:List (List Int))(de:Int):zmW :=
 gd ((0:Int)<=de/\(de:Int)<=((bk.length:Nat):Int)) <|
 gd ((0:Int)<=de/\(de:Int)<=((bk.length:Nat):Int)) <|
 gd ((0:Int)<=de/\(de:Int)<=(((bk.take de.toNat++List.replicate (bk.length - de.toNat) []).length:Nat):Int)) <|
 some (.done (.inr ((bk.take de.toNat++List.replicate (bk.length - de.toNat) []).take de.toNat)))
abbrev zld:Type:=Option (LR (List (List Int)×Int×Int) ((List (List Int)×Int)))
def yh (k2:Int)(ng:List (List Int))(p8:Int):zld :=
 some (.next (ng,p8,w64 (k2+1)))
def yS (k_:Int)(da:List (List Int))(kj:Int)(k2:Int):zld :=
 bif decide (k2<((da.length - k_.toNat:Nat):Int)) then(
  gd ((0:Int)<=k_/\(0:Int)<=k2) <|
  (idx da (k_+k2)).bind λot=>
  gd ((0:Int)<=k_/\(0:Int)<=w64 (k2 - 1)) <|
  (idx da (k_+(w64 (k2 - 1)))).bind λou=>
  (qZ ot ou).bind λai=>
  bif !ai then(
   gd ((0:Int)<=k_/\(0:Int)<=k2) <|
   (idx da (k_+k2)).bind λov=>
   (idx da kj).bind λr9=>
   yh k2 (da.set kj.toNat ov) (w64 (kj+1)))
  else(
   yh k2 da kj))
 else(
  some (.done (da,kj)))
def w7 (s_:List (List Int))(k_:Int):zmW :=
 bif decide (k_<((s_.length:Nat):Int)) then(
  (idx s_ k_).bind λeb=>
  (idx s_ (w64 (k_ - 1))).bind λnn=>
  (qZ eb nn).bind λr_=>
  bif r_ then(
   gd ((0:Int)<=k_/\(k_:Int)<=((s_.length:Nat):Int)) <|
   (loop (λs=>yS k_ s.1 s.2.1 s.2.2) (s_,k_,1)).bind λt5=>
   yi t5.1 t5.2)
  else(
   w8 k_))
 else(
  some (.done (.inl ())))
def xD (s_:List (List Int))(eq:Unit):V9 :=
 bif decide (((s_.length:Nat):Int)<2) then(
  some s_)
 else(
  (loop (λs=>w7 s_ s) 1).bind λt2=>
  match t2 with
  | .inl p=>uc s_
  | .inr p=>some p)
def wy (s_:List (List Int)):V9 :=
 some s_
def Jb (n_:Int):Option Int :=
 some n_
def ZU (l_:List (List Int))(ca:Int)(x7:Int):R7_ :=
 bif decide (x7<((l_.length:Nat):Int)) then(
  (idx l_ x7).bind λbi=>
  some (.next (w64 (ca+((bi.length:Nat):Int)),w64 (x7+1))))
 else(
  some (.done ca))
def X7 (l_:List (List Int)):Option Int :=
 (loop (λs=>ZU l_ s.1 s.2) (0,0)).bind λt2=>
 Jb t2
abbrev z2E:Type:=Option (List (List Int)×Int)
def X8 (out:List (List Int×Bool)):z2E :=
 gd (∀q∈out,q.2=true) <|
 some ((out.map (·.1)),0)
def wO (ak:List (List Int))(ax:List (List Int×Bool))(ga:Int):Option (LR ((List (List Int×Bool))×Int) ((List (List Int×Bool)))) :=
 bif decide (ga<((ak.length - (0:Int).toNat:Nat):Int)) then(
  gd ((0:Int)<=0/\(0:Int)<=ga) <|
  (idx ax (0+ga)).bind λdn=>
  (ye dn.1).bind λaz=>
  (zP az).bind λbn=>
  (idx ax ga).bind λjr=>
  some (.next ((ax.set ga.toNat (bn,true)),w64 (ga+1))))
 else(
  some (.done ax))
def xJ (l_:List (List Int)):z2E :=
 (w9 l_).bind λr_=>
 (za9 (λx y=>yI x y) r_).bind λsorted=>
 (xD sorted ()).bind λai=>
 (wy ai).bind λak=>
 bif decide (((ak.length:Nat):Int) > 4096) then(
  some (([]:List (List Int)),3))
 else(
  (X7 ak).bind λam=>
  bif decide (am > 65536) then(
   some (([]:List (List Int)),3))
  else(
   (loop (λs=>wO ak s.1 s.2) ((ak.map λq=>(q,false)),0)).bind λt2=>
   X8 t2))
def Zy (l_:List (List Int))(inputs:Int):z2E :=
 (X9 l_ inputs).bind λr_=>
 bif r_ != 0 then(
  some (([]:List (List Int)),r_))
 else(
  (xJ l_).bind λai=>
  some (ai.1,ai.2))
def qV (m_:z6):z2E :=
 (vn m_).bind λr_=>
 bif r_.2 != 0 then(
  some (([]:List (List Int)),r_.2))
 else(
  bif !r_.1 then(
   some (([]:List (List Int)),11))
  else(
   (XZ m_).bind λai=>
   bif ai.2.2 != 0 then(
    some (([]:List (List Int)),ai.2.2))
   else(
    (Zy ai.1 m_.Inputs).bind λak=>
    some (ak.1,ak.2))))
abbrev zkS:Type:=Option (LR (List (List Int)×List (List Int)×Int×Int) ((List (List Int)×Int)))
def UN (k_:Int)(aj:List (List Int))(cq:List (List Int))(ca:Int)(ri:Int)(nh:Bool)(oz:Bool):zkS :=
 some (.next (aj,cq,ca,w64 (k_+1)))
def UM (k_:Int)(ax:List (List Int))(cd:Int)(il:Bool)(next:List (List Int)):zkS :=
 UN k_ ax next cd cd (decide (cd > 65536)) il
abbrev z0U:Type:=Option (LR (List (List Int)×Int) (List (List Int)))
def UL (lc:Int)(ff:List (List Int)):z0U :=
 some (.next (ff,w64 (lc+1)))
def uY (inputs:Int)(a8:List Int)(cb:List (List Int))(ld:Int):z0U :=
 bif decide (ld<inputs) then(
  (zP a8).bind λai=>
  gd (ai.length+[ld].length<=4294967296) <|
  gd (cb.length+[(ai++[ld])].length<=4294967296) <|
  some (.next ((cb++[(ai++[ld])]),w64 (ld+1))))
 else(
  some (.done cb))
def uZ (inputs:Int)(ay:List (List Int))(cr:List (List Int))(lc:Int):z0U :=
 bif decide (lc<((ay.length:Nat):Int)) then(
  (idx ay lc).bind λa8=>
  (loop (λs=>uY inputs a8 s.1 s.2) (cr,0)).bind λt8=>
  UL lc t8)
 else(
  some (.done cr))
def Yb (inputs:Int)(to:Int)(ay:List (List Int))(k_:Int)(ax:List (List Int))(cd:Int)(il:Bool):zkS :=
 bif k_==to then(
  (xJ ax).bind λr_=>
  some (.done (r_.1,r_.2)))
 else(
  (loop (λs=>uZ inputs ay s.1 s.2) (([]:List (List Int)),0)).bind λt6=>
  UM k_ ax cd il t6)
def Yc (inputs:Int)(to:Int)(ay:List (List Int))(k_:Int)(ax:List (List Int))(cd:Int):zkS :=
 bif decide (((ax.length:Nat):Int) > 4096) then(
  some (.done (([]:List (List Int)),3)))
 else(
  bif decide (cd > 65536) then(
   some (.done (([]:List (List Int)),3)))
  else(
   bif decide (k_<to) then(
    bif decide ((w64 (((ay.length:Nat):Int)*inputs)) > 4096) then(
     some (.done (([]:List (List Int)),3)))
    else(
     Yb inputs to ay k_ ax cd (decide ((w64 (((ay.length:Nat):Int)*inputs)) > 4096))))
   else(
    Yb inputs to ay k_ ax cd false)))
def jW (inputs:Int)(from_:Int)(to:Int)(out:List (List Int))(ay:List (List Int))(n_:Int)(k_:Int):zkS :=
 bif decide (k_>=from_) then(
  gd (out.length+ay.length<=4294967296) <|
  Yc inputs to ay k_ (out++ay) (w64 (n_+(w64 (k_*((ay.length:Nat):Int))))))
 else(
  Yc inputs to ay k_ out n_)
def WK (inputs:Int)(from_:Int)(to:Int):z2E :=
 bif decide (inputs > 16) then(
  some (([]:List (List Int)),3))
 else(
  bif decide (inputs<1) then(
   some (([]:List (List Int)),1))
  else(
   bif decide (to<0) then(
    some (([]:List (List Int)),1))
   else(
    bif decide (to > 256) then(
     some (([]:List (List Int)),3))
    else(
     (loop (λs=>jW inputs from_ to s.1 s.2.1 s.2.2.1 s.2.2.2) (([]:List (List Int)),([[]]:List (List Int)),0,0)).bind λt1=>
     some t1))))
def WN (inputs:Int)(k_:Int):z2E :=
 (WK inputs 0 k_).bind λr_=>
 some (r_.1,r_.2)
def Wi:Option Bool :=
 some true
def ZW (l_:List (List Int))(i_:Int):zii :=
 bif decide (i_<((l_.length:Nat):Int)) then(
  (idx l_ (w64 (i_ - 1))).bind λbi=>
  (idx l_ i_).bind λew=>
  (yI bi ew).bind λr_=>
  bif decide (r_>=0) then(
   some (.done (.inr false)))
  else(
   some (.next (w64 (i_+1)))))
 else(
  some (.done (.inl ())))
def Vi (l_:List (List Int)):Option Bool :=
 (loop (λs=>ZW l_ s) 1).bind λt2=>
 match t2 with
 | .inl p=>Wi
 | .inr p=>some p
def jQ (l_:List (List Int))(inputs:Int):Option Int :=
 (X9 l_ inputs).bind λr_=>
 bif r_ != 0 then(
  some r_)
 else(
  (Vi l_).bind λai=>
  bif !ai then(
   some 1)
  else(
   (X7 l_).bind λak=>
   bif decide (ak > 65536) then(
    some 3)
   else(
    some 0)))
def Vh:Option Int :=
 some 0
def YH (inputs:Int)(l_:List (List (List Int)))(gi:Int):R3_ :=
 bif decide (gi<((l_.length:Nat):Int)) then(
  (idx l_ gi).bind λbi=>
  (jQ bi inputs).bind λr_=>
  bif r_ != 0 then(
   some (.done (.inr r_)))
  else(
   some (.next (w64 (gi+1)))))
 else(
  some (.done (.inl ())))
def WJ (inputs:Int)(l_:List (List (List Int))):Option Int :=
 (loop (λs=>YH inputs l_ s) 0).bind λt2=>
 match t2 with
 | .inl p=>Vh
 | .inr p=>some p
def z0j (b_:List Int):Option (List UInt8) :=
 some (u8s b_)
def jV (w_:List Int)(kw:List Int)(ig:Int):R1_ :=
 bif decide (ig<((w_.length:Nat):Int)) then(
  (idx w_ ig).bind λfc=>
  (idx kw ig).bind λdx=>
  some (.next ((kw.set ig.toNat (IntKind.u8.wrap (fc))),w64 (ig+1))))
 else(
  some (.done kw))
def JZ (w_:List Int):Option (List UInt8) :=
 gd ((0:Int)<=((w_.length:Nat):Int)/\(((w_.length:Nat):Int):Int)<=4294967296) <|
 (loop (λs=>jV w_ s.1 s.2) ((List.replicate ((w_.length:Nat):Int).toNat (0:Int)),0)).bind λt2=>
 z0j t2
def kE (out:List (List Int)):z2E :=
 (xJ out).bind λai=>
 some (ai.1,ai.2)
abbrev zof:Type:=Option (LR ((List ((List UInt8)×Bool))×Int×List (List Int)×Int) (List (List Int)⊕(List (List Int)×Int)))
def kD (fg:Int)(gn:List ((List UInt8)×Bool))(ca:Int)(ax:List (List Int)):zof :=
 some (.next (gn,ca,ax,w64 (fg+1)))
abbrev zoe:Type:=Option (LR ((List ((List UInt8)×Bool))×Int×List (List Int)×Int) (((List ((List UInt8)×Bool))×Int×List (List Int))⊕(List (List Int)×Int)))
def q9 (ib:Int)(oc:List ((List UInt8)×Bool))(lf:Int)(gx:List (List Int)):zoe :=
 bif decide (((gx.length:Nat):Int) > 4096) then(
  some (.done (.inr (([]:List (List Int)),3))))
 else(
  bif decide (lf > 65536) then(
   some (.done (.inr (([]:List (List Int)),3))))
  else(
   some (.next (oc,lf,gx,w64 (ib+1)))))
def kC (b_:List (List Int))(dv:List Int)(eu:List ((List UInt8)×Bool))(cd:Int)(bo:List (List Int))(ib:Int):zoe :=
 bif decide (ib<((b_.length:Nat):Int)) then(
  (idx b_ ib).bind λdx=>
  (zP dv).bind λak=>
  gd (ak.length+dx.length<=4294967296) <|
  bif decide ((((ak++dx).length:Nat):Int) > 256) then(
   some (.done (.inr (([]:List (List Int)),3))))
  else(
   (JZ (ak++dx)).bind λam=>
   (some ((Vc eu am).getD false)).bind λval=>
   bif !val then(
    gd (bo.length+[(ak++dx)].length<=4294967296) <|
    q9 ib (z26 eu am true) (w64 (cd+(((ak++dx).length:Nat):Int))) (bo++[(ak++dx)]))
   else(
    q9 ib eu cd bo)))
 else(
  some (.done (.inl (eu,cd,bo))))
def Xa (a_:List (List Int))(b_:List (List Int))(kh:List ((List UInt8)×Bool))(n_:Int)(aj:List (List Int))(fg:Int):zof :=
 bif decide (fg<((a_.length:Nat):Int)) then(
  (idx a_ fg).bind λdv=>
  (loop (λs=>kC b_ dv s.1 s.2.1 s.2.2.1 s.2.2.2) (kh,n_,aj,0)).bind λt4=>
  match t4 with
  | .inl p=>kD fg p.1 p.2.1 p.2.2
  | .inr p=>some (.done (.inr p)))
 else(
  some (.done (.inl aj)))
def Yd (a_:List (List Int))(b_:List (List Int))(inputs:Int):z2E :=
 (WJ inputs ([a_,b_])).bind λr_=>
 bif r_ != 0 then(
  some (([]:List (List Int)),r_))
 else(
  (loop (λs=>Xa a_ b_ s.1 s.2.1 s.2.2.1 s.2.2.2) (([]:List ((List UInt8)×Bool)),0,([]:List (List Int)),0)).bind λt2=>
  match t2 with
  | .inl p=>kE p
  | .inr p=>some p)
def Zk (m_:z6)(k_:Int):z2E :=
 (qV m_).bind λr_=>
 bif r_.2 != 0 then(
  some (([]:List (List Int)),r_.2))
 else(
  bif decide (k_<0) then(
   some (([]:List (List Int)),1))
  else(
   (WN m_.Inputs k_).bind λai=>
   bif ai.2 != 0 then(
    some (([]:List (List Int)),ai.2))
   else(
    (Yd r_.1 ai.1 m_.Inputs).bind λak=>
    some (ak.1,ak.2))))
def vt (m_:z6):z2E :=
 (Zk m_ 1).bind λr_=>
 some (r_.1,r_.2)
def Ym (n_:Int):Option Int :=
 some n_
def ZP (x6:Int)(js:σ):Option (LR (σ×Int) σ) :=
 some (.next (js,w64 (x6+1)))
def qR (x0:Int)(yy:σ->(Int×Int)->Option (σ×Bool))(x6:Int)(gg:σ)(b_:Int):Option (LR (σ×Int) (σ⊕σ)) :=
 bif decide (b_<x0) then(
  (yy gg (x6,b_)).bind λyr=>
  bif !yr.2 then(
   some (.done (.inr yr.1)))
  else(
   some (.next (yr.1,w64 (b_+1)))))
 else(
  some (.done (.inl gg)))
def ZO (x0:Int)(yy:σ->(Int×Int)->Option (σ×Bool))(dw:σ)(x6:Int):Option (LR (σ×Int) σ) :=
 bif decide (x6<x0) then(
  (loop (λs=>qR x0 yy x6 s.1 s.2) (dw,w64 (x6+1))).bind λt3=>
  match t3 with
  | .inl p=>ZP x6 p
  | .inr p=>some (.done p))
 else(
  some (.done dw))
def vG (x0:Int){σ:Type}(yy:σ->(Int×Int)->Option (σ×Bool))(sg:σ):Option σ :=
 (loop (λs=>ZO x0 yy s.1 s.2) (sg,0)).bind λt1=>
 some t1
def Qe (a_:Int)(b_:Int):Option Bool :=
 some true
def ZX (s_:Int)(x1:z6):Option Bool :=
 bif decide (s_<0) then(
  some true)
 else(
  some (decide (s_>=((x1.Rows.length:Nat):Int))))
def vQ:Option Int :=
 some (-1)
def yO (s_:List Int)(f_:z6)(x8:Int):R3_ :=
 bif decide (x8<((s_.length:Nat):Int)) then(
  (idx s_ x8).bind λeb=>
  (ZX eb f_).bind λr_=>
  bif r_ then(
   some (.done (.inr x8)))
  else(
   some (.next (w64 (x8+1)))))
 else(
  some (.done (.inl ())))
def xp (s_:List Int)(f_:z6):Option Int :=
 (loop (λs=>yO s_ f_ s) 0).bind λt2=>
 match t2 with
 | .inl p=>vQ
 | .inr p=>some p
def xT (s_:List Int)(f_:z6):Option Bool :=
 (xp s_ f_).bind λr_=>
 some (decide (r_>=0))
def W1 (m_:z6)(l_:List Int):Option Int :=
 (yV m_).bind λr_=>
 bif r_ != 0 then(
  some r_)
 else(
  (xT l_ m_).bind λai=>
  bif ai then(
   some 1)
  else(
   some 0))
def UQ (m_:z6):Option z6 :=
 some m_
def ZF (x8:Int)(js:σ):Option (LR (σ×Int) σ) :=
 some (.next (js,w64 (x8+1)))
def qI (x0:z6)(yy:σ->(Int×Int)->Option (σ×Bool))(x8:Int)(gg:σ)(t_:Int):Option (LR (σ×Int) (σ⊕σ)) :=
 bif decide (t_<((x0.Rows.length:Nat):Int)) then(
  (yy gg (x8,t_)).bind λyr=>
  bif !yr.2 then(
   some (.done (.inr yr.1)))
  else(
   some (.next (yr.1,w64 (t_+1)))))
 else(
  some (.done (.inl gg)))
def ZD (x0:z6)(yy:σ->(Int×Int)->Option (σ×Bool))(dw:σ)(x8:Int):Option (LR (σ×Int) σ) :=
 bif decide (x8<((x0.Rows.length:Nat):Int)) then(
  (loop (λs=>qI x0 yy x8 s.1 s.2) (dw,w64 (x8+1))).bind λt3=>
  match t3 with
  | .inl p=>ZF x8 p
  | .inr p=>some (.done p))
 else(
  some (.done dw))
def uH (x0:z6){σ:Type}(yy:σ->(Int×Int)->Option (σ×Bool))(sg:σ):Option σ :=
 (loop (λs=>ZD x0 yy s.1 s.2) (sg,0)).bind λt1=>
 some t1
def xC (l:List Int)(n:Int):Option (List Int):=bif l.isEmpty&&(decide (0<n)&&decide (n<=1000000)) then some [] else none
def vS (mr:List Int):Option (List Int) :=
 some mr
def zT (slices:List (List Int))(iu:List Int)(pc:Int):R1_ :=
 bif decide (pc<((slices.length:Nat):Int)) then(
  (idx slices pc).bind λlu=>
  gd (iu.length+lu.length<=4294967296) <|
  some (.next ((iu++lu),w64 (pc+1))))
 else(
  some (.done iu))
def vT (slices:List (List Int))(size:Int):Option (List Int) :=
 (xC [] size).bind λr_=>
 (loop (λs=>zT slices s.1 s.2) (r_,0)).bind λt3=>
 vS t3
def zS (slices:List (List Int))(l8:Int)(ig:Int):R7_ :=
 bif decide (ig<((slices.length:Nat):Int)) then(
  (idx slices ig).bind λly=>
  bif decide ((w64 (l8+((ly.length:Nat):Int)))<0) then(
   none)
  else(
   some (.next (w64 (l8+((ly.length:Nat):Int)),w64 (ig+1)))))
 else(
  some (.done l8))
def ve (slices:List (List Int)):Option (List Int) :=
 (loop (λs=>zS slices s.1 s.2) (0,0)).bind λt4=>
 vT slices t4
abbrev zod:Type:=Option (List Int×ArN 64 (ArN 64 (List Int)))
def vK (n_:Int)(f_:ArN 64 (ArN 64 (List Int)))(out:List Int):zod :=
 bif ((out.length:Nat):Int) != n_ then(
  some ([],f_))
 else(
  (zP out).bind λr_=>
  gd (r_≠[]) <|
  some (r_,f_))
def xG (i7:Int):Option (LR Int (List Int)) :=
 some (.next (w64 (i7+1)))
def wt (m_:z6)(t_:Int)(n_:Int)(f_:ArN 64 (ArN 64 (List Int)))(ap:List zl)(i7:Int):Option (LR Int (List Int)) :=
 bif decide (i7<((ap.length:Nat):Int)) then(
  (idx ap i7).bind λal=>
  (idx m_.Rows t_).bind λdu=>
  (idx du i7).bind λbp=>
  bif al.Out != bp.Out then(
   some (.done [i7]))
  else(
   bif decide (n_ > 1) then(
    bif al.To !=(-1) then(
     (idx (f_.l) al.To).bind λcell=>
     (idx (cell.l) bp.To).bind λco=>
     bif ((co.length:Nat):Int)==(w64 (n_ - 1)) then(
      (idx (f_.l) al.To).bind λiv=>
      (idx (iv.l) bp.To).bind λd9=>
      (ve ([[i7],d9])).bind λai=>
      some (.done ai))
     else(
      xG i7))
    else(
     xG i7))
   else(
    xG i7)))
 else(
  some (.done ([]:List Int)))
def vO (m_:z6)(s_:Int)(t_:Int)(n_:Int)(f_:ArN 64 (ArN 64 (List Int))):zod :=
 (idx m_.Rows s_).bind λap=>
 (loop (λs=>wt m_ t_ n_ f_ ap s) 0).bind λt2=>
 vK n_ f_ t2
abbrev zmV:Type:=Option (ArN 64 (ArN 64 (List Int)))
def uC (s_:Int)(t_:Int)(w_:List Int)(f_:ArN 64 (ArN 64 (List Int))):zmV :=
 (idx (f_.l) s_).bind λcell=>
 (idx (cell.l) t_).bind λco=>
 (some (ArN.setI cell t_ w_)).bind λarr=>
 (some (ArN.setI f_ s_ arr)).bind λarr1=>
 (idx (arr1.l) t_).bind λiv=>
 (idx (iv.l) s_).bind λd9=>
 (some (ArN.setI iv s_ w_)).bind λarr2=>
 (some (ArN.setI arr1 t_ arr2)).bind λpt=>
 some pt
def uq (f_:ArN 64 (ArN 64 (List Int))):zmV :=
 some f_
abbrev zlc:Type:=Option (LR (ArN 64 (ArN 64 (List Int))×Int) (ArN 64 (ArN 64 (List Int))))
def uo (n_:Int)(ni:ArN 64 (ArN 64 (List Int))):zlc :=
 some (.next (ni,w64 (n_+1)))
def wS (now:List zZ)(od:ArN 64 (ArN 64 (List Int)))(pd:Int):zlc :=
 bif decide (pd<((now.length:Nat):Int)) then(
  (idx now pd).bind λic=>
  (uC ic.S ic.T ic.Word od).bind λr_=>
  some (.next (r_,w64 (pd+1))))
 else(
  some (.done od))
def um (n_:Int)(p9:ArN 64 (ArN 64 (List Int)))(now:List zZ):zlc :=
 (loop (λs=>wS now s.1 s.2) (p9,0)).bind λt5=>
 uo n_ t5
def xj (m_:z6)(n_:Int)(j9:ArN 64 (ArN 64 (List Int)))(jk:List zZ)(kx:Int)(ga:Int):Option (LR (ArN 64 (ArN 64 (List Int))×List zZ) Empty) :=
 (idx (j9.l) kx).bind λcell=>
 (idx (cell.l) ga).bind λco=>
 bif !co.isEmpty then(
  some (.next (j9,jk)))
 else(
  (vO m_ kx ga n_ j9).bind λak=>
  bif !ak.1.isEmpty then(
   gd (jk.length+[(zZ.mk kx ga ak.1 false)].length<=4294967296) <|
   some (.next (ak.2,(jk++[(zZ.mk kx ga ak.1 false)]))))
  else(
   some (.next (ak.2,jk))))
def ul (m_:z6)(ky:ArN 64 (ArN 64 (List Int)))(n_:Int):zlc :=
 bif decide (n_<(mx ((m_.Rows.length:Nat):Int) 2)) then(
  (UQ m_).bind λai=>
  (uH ai (yOf (λs x=>xj m_ n_ s.1 s.2 x.1 x.2)) (.next (ky,([]:List zZ)))).bind λt6=>
  match t6 with
  | .next (j9,jk)=>(
   um n_ j9 jk)
  | .done z=>nomatch z)
 else(
  some (.done ky))
def uB (m_:z6):zmV :=
 (loop (λs=>ul m_ s.1 s.2) ((ArN.rep 64 (ArN.rep 64 ([]:List Int))),1)).bind λt2=>
 uq t2
def qn (m_:z6)(s_:Int)(t_:Int):Option (List Int×Bool×Int) :=
 (W1 m_ ([s_,t_])).bind λr_=>
 bif r_ != 0 then(
  some (([]:List Int),false,r_))
 else(
  (uB m_).bind λai=>
  (idx (ai.l) s_).bind λcell=>
  (idx (cell.l) t_).bind λco=>
  (ye co).bind λak=>
  (zP ak).bind λam=>
  some (am,decide (((am.length:Nat):Int) > 0),0))
def Zh (m_:z6)(x5:Int)(out:List (List Int)):z2E :=
 (Zy out m_.Inputs).bind λr_=>
 some (r_.1,r_.2)
abbrev zoc:Type:=Option (LR (Int×List (List Int)) ((Int×List (List Int))))
def u6 (m_:z6)(ge:Int)(aj:List (List Int))(ft:Int)(ba:Int):zoc :=
 (Qe ft ba).bind λak=>
 bif !ak then(
  some (.next (ge,aj)))
 else(
  (qn m_ ft ba).bind λam=>
  bif am.2.2 != 0 then(
   some (.done (am.2.2,aj)))
  else(
   gd (aj.length+[am.1].length<=4294967296) <|
   some (.next (ge,(aj++[am.1])))))
def Wa (m_:z6)(is:Unit):z2E :=
 (Ym ((m_.Rows.length:Nat):Int)).bind λai=>
 (vG ai (yOf (λs x=>u6 m_ s.1 s.2 x.1 x.2)) (.next (0,([]:List (List Int))))).bind λt2=>
 match t2 with
 | .next (ge,aj)=>(
  Zh m_ ge aj)
 | .done (ge,aj)=>(
  some (([]:List (List Int)),ge))
def QG (m_:z6):z2E :=
 (xc m_).bind λr_=>
 bif r_ != 0 then(
  some (([]:List (List Int)),r_))
 else(
  (Wa m_ ()).bind λai=>
  some (ai.1,ai.2))
def Vj (inputs:Int)(k_:Int):z2E :=
 (WK inputs k_ k_).bind λr_=>
 some (r_.1,r_.2)
def Xb (l_:List (List Int)):V9 :=
 bif ((l_.length:Nat):Int)==0 then(
  some ([[]]:List (List Int)))
 else(
  some l_)
def VK (a_:Int)(b_:Int)(x2:Int):Option Bool :=
 bif a_==x2 then(
  some true)
 else(
  some (b_==x2))
def uA (m_:z6)(x5:Int)(out:List (List Int)):z2E :=
 (Zy out m_.Inputs).bind λr_=>
 some (r_.1,r_.2)
def yG (m_:z6)(is:Int)(ge:Int)(aj:List (List Int))(ft:Int)(ba:Int):zoc :=
 (VK ft ba is).bind λak=>
 bif !ak then(
  some (.next (ge,aj)))
 else(
  (qn m_ ft ba).bind λam=>
  bif am.2.2 != 0 then(
   some (.done (am.2.2,aj)))
  else(
   gd (aj.length+[am.1].length<=4294967296) <|
   some (.next (ge,(aj++[am.1])))))
def uG (m_:z6)(is:Int):z2E :=
 (Ym ((m_.Rows.length:Nat):Int)).bind λai=>
 (vG ai (yOf (λs x=>yG m_ is s.1 s.2 x.1 x.2)) (.next (0,([]:List (List Int))))).bind λt2=>
 match t2 with
 | .next (ge,aj)=>(
  uA m_ ge aj)
 | .done (ge,aj)=>(
  some (([]:List (List Int)),ge))
def Ks (m_:z6)(s_:Int):z2E :=
 (xc m_).bind λr_=>
 bif r_ != 0 then(
  some (([]:List (List Int)),r_))
 else(
  bif decide (s_<0) then(
   some (([]:List (List Int)),1))
  else(
   bif decide (s_>=((m_.Rows.length:Nat):Int)) then(
    some (([]:List (List Int)),1))
   else(
    (uG m_ s_).bind λai=>
    some (ai.1,ai.2))))
abbrev zmU:Type:=Option (Option zC×Int)
def WO (m_:z6)(r_:List (List Int)×Int)(ai:List (List Int)×Int)(am:List (List Int)×Int)(az:List (List Int)×Int)(bn:List (List Int))(lh:List (List (List Int))):zmU :=
 some ((some (zC.mk m_ r_.1 ai.1 bn lh am.1 az.1)),0)
def xS (m_:z6)(j4:List (List (List Int)))(oe:Int):Option (LR (List (List (List Int))×Int) (List (List (List Int))⊕(Option zC×Int))) :=
 bif decide (oe<((m_.Rows.length:Nat):Int)) then(
  (Ks m_ oe).bind λcx=>
  bif cx.2 != 0 then(
   some (.done (.inr ((none:Option zC),cx.2))))
  else(
   (Xb cx.1).bind λgb=>
   gd (j4.length+[gb].length<=4294967296) <|
   some (.next ((j4++[gb]),w64 (oe+1)))))
 else(
  some (.done (.inl j4)))
def ZA (m_:z6)(r_:List (List Int)×Int)(ai:List (List Int)×Int)(ak:List (List Int)×Int)(am:List (List Int)×Int)(az:List (List Int)×Int):zmU :=
 (Xb ak.1).bind λbn=>
 (loop (λs=>xS m_ s.1 s.2) (([]:List (List (List Int))),0)).bind λt3=>
 match t3 with
 | .inl p=>WO m_ r_ ai am az bn p
 | .inr p=>some p
def ji (m_:z6)(bound:Int):zmU :=
 (qV m_).bind λr_=>
 (vt m_).bind λai=>
 (QG m_).bind λak=>
 (WN m_.Inputs (w64 (bound - ((m_.Rows.length:Nat):Int)))).bind λam=>
 (Vj m_.Inputs (w64 (bound - ((m_.Rows.length:Nat):Int)))).bind λaz=>
 bif r_.2 != 0 then(
  some ((none:Option zC),r_.2))
 else(
  bif ai.2 != 0 then(
   some ((none:Option zC),ai.2))
  else(
   bif ak.2 != 0 then(
    some ((none:Option zC),ak.2))
   else(
    bif am.2 != 0 then(
     some ((none:Option zC),am.2))
    else(
     bif az.2 != 0 then(
      some ((none:Option zC),az.2))
     else(
      ZA m_ r_ ai ak am az)))))
abbrev zih:Type:=Option (z8×Bool)
def ZC (b_:z8)(br:List (zz Int))(cp:Int):zih :=
 bif decide (cp > b_.most_) then(
  some (b_,true))
 else(
  some ((z8.mk br cp b_.most_),false))
abbrev zob:Type:=Option (LR (List (zz Int)×Int×Int×Bool×Int) ((List (zz Int)×Int)))
def ZB (fq:Int)(bm:List (zz Int))(ce:Int)(ia:Int)(nj:Bool):zob :=
 some (.next (bm,ce,ia,nj,w64 (fq+1)))
abbrev zmT:Type:=Option (LR (List (zz Int)×Int×Int×Bool×Int) ((List (zz Int)×Int×Int×Bool)))
def vM (dy:Int)(ct:List (zz Int))(cg:Int)(nk:Bool)(next:Int):zmT :=
 some (.next (ct,cg,next,nk,w64 (dy+1)))
def yn (aq:List (zz Int))(gc:Int)(dy:Int)(dt:Int)(eg:Int):zmT :=
 (idx aq gc).bind λiw=>
 (idx (zz.toL iw) dt).bind λco=>
 (some (zz.setI iw dt (IntKind.i32.wrap (((aq.length:Nat):Int))))).bind λarr=>
 gd ((aq.set gc.toNat arr).length+([(zz.mk 0 0 0 0 0 0 0 0 0 0 0 0 0 0 0 0)]:List (zz Int)).length<=4294967296) <|
 vM dy ((aq.set gc.toNat arr)++([(zz.mk 0 0 0 0 0 0 0 0 0 0 0 0 0 0 0 0)]:List (zz Int))) eg true (IntKind.i32.wrap (((aq.length:Nat):Int)))
def vL (fl:List Int)(aq:List (zz Int))(bc:Int)(gc:Int)(ka:Bool)(dy:Int):zmT :=
 bif decide (dy<((fl.length:Nat):Int)) then(
  (idx fl dy).bind λdt=>
  (idx aq gc).bind λje=>
  (idx (zz.toL je) dt).bind λcell=>
  bif cell==0 then(
   bif !ka then(
    bif gc==0 then(
     bif ((aq.length:Nat):Int)==1 then(
      yn aq gc dy dt (w64 (bc+1)))
     else(
      (idx aq gc).bind λdp=>
      bif !((dp.e0==0)&&((dp.e1==0)&&((dp.e2==0)&&((dp.e3==0)&&((dp.e4==0)&&((dp.e5==0)&&((dp.e6==0)&&((dp.e7==0)&&((dp.e8==0)&&((dp.e9==0)&&((dp.e10==0)&&((dp.e11==0)&&((dp.e12==0)&&((dp.e13==0)&&((dp.e14==0)&&((dp.e15==0)&&true)))))))))))))))) then(
       yn aq gc dy dt (w64 (bc+1)))
      else(
       yn aq gc dy dt bc)))
    else(
     (idx aq gc).bind λem=>
     bif !((em.e0==0)&&((em.e1==0)&&((em.e2==0)&&((em.e3==0)&&((em.e4==0)&&((em.e5==0)&&((em.e6==0)&&((em.e7==0)&&((em.e8==0)&&((em.e9==0)&&((em.e10==0)&&((em.e11==0)&&((em.e12==0)&&((em.e13==0)&&((em.e14==0)&&((em.e15==0)&&true)))))))))))))))) then(
      yn aq gc dy dt (w64 (bc+1)))
     else(
      yn aq gc dy dt bc)))
   else(
    yn aq gc dy dt bc))
  else(
   vM dy aq bc ka cell))
 else(
  some (.done (aq,bc,gc,ka)))
def WP (parts:List (List Int))(bh:List (zz Int))(cj:Int)(at_:Int)(nq:Bool)(fq:Int):zob :=
 bif decide (fq<((parts.length:Nat):Int)) then(
  (idx parts fq).bind λfl=>
  (loop (λs=>vL fl s.1 s.2.1 s.2.2.1 s.2.2.2.1 s.2.2.2.2) (bh,cj,at_,nq,0)).bind λt4=>
  ZB fq t4.1 t4.2.1 t4.2.2.1 t4.2.2.2)
 else(
  some (.done (bh,cj)))
def xy (parts:List (List Int))(b_:z8):zih :=
 (loop (λs=>WP parts s.1 s.2.1 s.2.2.1 s.2.2.2.1 s.2.2.2.2) (b_.nodes_,b_.leaves_,0,false,0)).bind λt2=>
 ZC b_ t2.1 t2.2
abbrev zig:Type:=Option (LR (List (zz Int)×Int×Int×Int) ((z8×Bool)))
def Yi (ba:Int)(bh:List (zz Int))(cj:Int)(fh:Int):zig :=
 some (.next (bh,cj,fh,w64 (ba+1)))
abbrev z9b:Type:=Option (LR (List (zz Int)×Int×Int×Int) ((List (zz Int)×Int×Int)⊕(z8×Bool)))
def Yh (gk:Int)(aq:List (zz Int))(bc:Int)(fj:Int):z9b :=
 some (.next (aq,bc,fj,w64 (gk+1)))
def Ye (x_:zC)(b_:z8)(bj:List Int)(a6:List Int)(ct:List (zz Int))(cg:Int)(dz:Int)(ib:Int):z9b :=
 bif decide (ib<((x_.all_.length:Nat):Int)) then(
  (idx x_.all_ ib).bind λfy=>
  (xy [bj,a6,fy] (z8.mk ct cg dz)).bind λr_=>
  bif r_.2 then(
   some (.done (.inr (b_,true))))
  else(
   some (.next (r_.1.nodes_,r_.1.leaves_,r_.1.most_,w64 (ib+1)))))
 else(
  some (.done (.inl (ct,cg,dz))))
def Yf (x_:zC)(b_:z8)(bj:List Int)(bm:List (zz Int))(ce:Int)(d0:Int)(gk:Int):z9b :=
 bif decide (gk<((x_.short_.length:Nat):Int)) then(
  (idx x_.short_ gk).bind λa6=>
  (loop (λs=>Ye x_ b_ bj a6 s.1 s.2.1 s.2.2.1 s.2.2.2) (bm,ce,d0,0)).bind λt5=>
  match t5 with
  | .inl p=>Yh gk p.1 p.2.1 p.2.2
  | .inr p=>some (.done (.inr p)))
 else(
  some (.done (.inl (bm,ce,d0))))
def Yg (x_:zC)(b_:z8)(br:List (zz Int))(cp:Int)(fm:Int)(ba:Int):zig :=
 bif decide (ba<((x_.p_.length:Nat):Int)) then(
  (idx x_.p_ ba).bind λbj=>
  (loop (λs=>Yf x_ b_ bj s.1 s.2.1 s.2.2.1 s.2.2.2) (br,cp,fm,0)).bind λt3=>
  match t3 with
  | .inl p=>Yi ba p.1 p.2.1 p.2.2
  | .inr p=>some (.done p))
 else(
  some (.done ((z8.mk br cp fm),false)))
def vb (x0:Qp)(x_:zC)(b_:z8):zih :=
 (loop (λs=>Yg x_ b_ s.1 s.2.1 s.2.2.1 s.2.2.2) (b_.nodes_,b_.leaves_,b_.most_,0)).bind λt1=>
 some t1
def yx (x_:List (List Int))(target:List Int)(i_:Int):Option (Int×Bool) :=
 bif decide (i_<((x_.length:Nat):Int)) then(
  (idx x_ i_).bind λmq=>
  (yI mq target).bind λr_=>
  some (i_,r_==0))
 else(
  some (i_,false))
def yw (x_:List (List Int))(target:List Int)(fk:Int)(j_:Int):R7_ :=
 bif decide (fk<j_) then(
  (idx x_ (w64 (Int.fdiv (IntKind.u64.wrap (w64 (fk+j_))) (2 ^ 1)))).bind λl7=>
  (yI l7 target).bind λai=>
  bif decide (ai<0) then(
   some (.next (w64 ((w64 (Int.fdiv (IntKind.u64.wrap (w64 (fk+j_))) (2 ^ 1)))+1),j_)))
  else(
   some (.next (fk,w64 (Int.fdiv (IntKind.u64.wrap (w64 (fk+j_))) (2 ^ 1))))))
 else(
  some (.done fk))
def yT (x_:List (List Int))(target:List Int)(cmp:Unit):Option (Int×Bool) :=
 (loop (λs=>yw x_ target s.1 s.2) (0,((x_.length:Nat):Int))).bind λt2=>
 yx x_ target t2
def z0V (l_:List (List Int))(w_:List Int):Option Bool :=
 (yT l_ w_ ()).bind λr_=>
 some r_.2
def kB (w_:List Int)(x1:List (List Int)):Option Bool :=
 (z0V x1 w_).bind λr_=>
 some r_
def uP:Option Int :=
 some (-1)
def xq (s_:List (List Int))(f_:List (List Int))(x8:Int):R3_ :=
 bif decide (x8<((s_.length:Nat):Int)) then(
  (idx s_ x8).bind λeb=>
  (kB eb f_).bind λr_=>
  bif r_ then(
   some (.done (.inr x8)))
  else(
   some (.next (w64 (x8+1)))))
 else(
  some (.done (.inl ())))
def vz (s_:List (List Int))(f_:List (List Int)):Option Int :=
 (loop (λs=>xq s_ f_ s) 0).bind λt2=>
 match t2 with
 | .inl p=>uP
 | .inr p=>some p
def xa (bk:List (List Int))(i_:Int):V9 :=
 gd ((0:Int)<=i_/\(i_:Int)<=((bk.length:Nat):Int)) <|
 gd ((0:Int)<=i_/\(i_:Int)<=((bk.length:Nat):Int)) <|
 gd ((0:Int)<=i_/\(i_:Int)<=(((bk.take i_.toNat++List.replicate (bk.length - i_.toNat) []).length:Nat):Int)) <|
 some ((bk.take i_.toNat++List.replicate (bk.length - i_.toNat) []).take i_.toNat)
def ym (j_:Int)(ng:List (List Int))(qa:Int):zld :=
 some (.next (ng,qa,w64 (j_+1)))
def wo (kz:List (List Int))(da:List (List Int))(fk:Int)(j_:Int):zld :=
 bif decide (j_<((da.length:Nat):Int)) then(
  (idx da j_).bind λeb=>
  (kB eb kz).bind λai=>
  bif !ai then(
   (idx da fk).bind λnn=>
   ym j_ (da.set fk.toNat eb) (w64 (fk+1)))
  else(
   ym j_ da fk))
 else(
  some (.done (da,fk)))
def xO (s_:List (List Int))(kz:List (List Int)):V9 :=
 (vz s_ kz).bind λr_=>
 bif r_==(-1) then(
  some s_)
 else(
  (loop (λs=>wo kz s.1 s.2.1 s.2.2) (s_,r_,w64 (r_+1))).bind λt2=>
  xa t2.1 t2.2)
def Zz (a_:List (List Int))(b_:List (List Int))(inputs:Int):z2E :=
 (WJ inputs ([a_,b_])).bind λr_=>
 bif r_ != 0 then(
  some (([]:List (List Int)),r_))
 else(
  (w9 a_).bind λai=>
  (xO ai b_).bind λak=>
  (xJ ak).bind λam=>
  some (am.1,am.2))
def vF (m_:z6)(s_:Int):Option Int :=
 (yV m_).bind λr_=>
 bif r_ != 0 then(
  some r_)
 else(
  bif decide (s_<0) then(
   some 1)
  else(
   bif decide (s_>=((m_.Rows.length:Nat):Int)) then(
    some 1)
   else(
    some 0)))
def Xz (bk:Int)(out:List Int):Option (List Int×Int) :=
 some (out,bk)
abbrev zoa:Type:=Option (LR (Int×List Int×Int) ((Int×List Int)))
def vZ (aj:List Int)(ba:Int)(gz:Int)(nr:Int):zoa :=
 (idx aj ba).bind λdn=>
 some (.next (gz,(aj.set ba.toNat nr),w64 (ba+1)))
def Qc (m_:z6)(w_:List Int)(da:Int)(aj:List Int)(ba:Int):zoa :=
 bif decide (ba<((w_.length:Nat):Int)) then(
  (idx w_ ba).bind λfc=>
  (uv).bind λr_=>
  bif da !=(-1) then(
   (idx m_.Rows da).bind λap=>
   (idx ap fc).bind λal=>
   vZ aj ba al.To al.Out)
  else(
   vZ aj ba r_.To r_.Out))
 else(
  some (.done (da,aj)))
def Yl (m_:z6)(s_:Int)(w_:List Int):Option (List Int×Int) :=
 gd ((0:Int)<=((w_.length:Nat):Int)/\(((w_.length:Nat):Int):Int)<=4294967296) <|
 (loop (λs=>Qc m_ w_ s.1 s.2.1 s.2.2) (s_,(List.replicate ((w_.length:Nat):Int).toNat (0:Int)),0)).bind λt2=>
 Xz t2.1 t2.2
def jE (m_:z6)(s_:Int)(w_:List Int):Option (Int×Int) :=
 (vF m_ s_).bind λr_=>
 bif r_ != 0 then(
  some (0,r_))
 else(
  (ud w_ m_.Inputs).bind λai=>
  bif ai != 0 then(
   some (0,ai))
  else(
   (Yl m_ s_ w_).bind λak=>
   some (ak.2,0)))
def xo (x_:zC)(u_:List Int)(v_:List Int):V9 :=
 (jE x_.m_ 0 u_).bind λr_=>
 (jE x_.m_ r_.1 v_).bind λai=>
 (idx x_.each_ ai.1).bind λpk=>
 some pk
def Zx (jg:Int)(bm:List (zz Int))(ce:Int)(d0:Int):zig :=
 some (.next (bm,ce,d0,w64 (jg+1)))
def Zw (j7:Int)(ct:List (zz Int))(cg:Int)(dz:Int):z9b :=
 some (.next (ct,cg,dz,w64 (j7+1)))
def uL (b_:z8)(u_:List Int)(ez:List Int)(ai:List (List Int))(ju:List (zz Int))(eg:Int)(km:Int)(m0:Int):z9b :=
 bif decide (m0<((ai.length:Nat):Int)) then(
  (idx ai m0).bind λdm=>
  (xy [u_,ez,dm] (z8.mk ju eg km)).bind λak=>
  bif ak.2 then(
   some (.done (.inr (b_,true))))
  else(
   some (.next (ak.1.nodes_,ak.1.leaves_,ak.1.most_,w64 (m0+1)))))
 else(
  some (.done (.inl (ju,eg,km))))
def Zt (x_:zC)(b_:z8)(u_:List Int)(aq:List (zz Int))(bc:Int)(fj:Int)(j7:Int):z9b :=
 bif decide (j7<((x_.exact_.length:Nat):Int)) then(
  (idx x_.exact_ j7).bind λez=>
  (xo x_ u_ ez).bind λai=>
  (loop (λs=>uL b_ u_ ez ai s.1 s.2.1 s.2.2.1 s.2.2.2) (aq,bc,fj,0)).bind λt6=>
  match t6 with
  | .inl p=>Zw j7 p.1 p.2.1 p.2.2
  | .inr p=>some (.done (.inr p)))
 else(
  some (.done (.inl (aq,bc,fj))))
def Zu (x_:zC)(b_:z8)(r_:List (List Int)×Int)(bh:List (zz Int))(cj:Int)(fh:Int)(jg:Int):zig :=
 bif decide (jg<((r_.1.length:Nat):Int)) then(
  (idx r_.1 jg).bind λu_=>
  (loop (λs=>Zt x_ b_ u_ s.1 s.2.1 s.2.2.1 s.2.2.2) (bh,cj,fh,0)).bind λt4=>
  match t4 with
  | .inl p=>Zx jg p.1 p.2.1 p.2.2
  | .inr p=>some (.done p))
 else(
  some (.done ((z8.mk bh cj fh),false)))
def uM (x_:zC)(b_:z8)(br:List (zz Int))(cp:Int)(fm:Int):zih :=
 (Zz x_.p_ x_.q_ x_.m_.Inputs).bind λr_=>
 (loop (λs=>Zu x_ b_ r_ s.1 s.2.1 s.2.2.1 s.2.2.2) (br,cp,fm,0)).bind λt2=>
 some t2
def Zv (jh:Int)(lz:List (zz Int))(lk:Int)(ml:Int):z9b :=
 some (.next (lz,lk,ml,w64 (jh+1)))
def kG (fw:Int)(l4:List (zz Int))(ll:Int)(mp:Int):z9b :=
 some (.next (l4,ll,mp,w64 (fw+1)))
def kF (x_:zC)(b_:z8)(gq:List Int)(a6:List Int)(i8:List (zz Int))(ix:Int)(jv:Int)(my:Int):z9b :=
 bif decide (my<((x_.all_.length:Nat):Int)) then(
  (idx x_.all_ my).bind λfy=>
  (xy [gq,a6,fy] (z8.mk i8 ix jv)).bind λam=>
  bif am.2 then(
   some (.done (.inr (b_,true))))
  else(
   some (.next (am.1.nodes_,am.1.leaves_,am.1.most_,w64 (my+1)))))
 else(
  some (.done (.inl (i8,ix,jv))))
def Zr (x_:zC)(b_:z8)(gq:List Int)(jw:List (zz Int))(ja:Int)(kn:Int)(fw:Int):z9b :=
 bif decide (fw<((x_.short_.length:Nat):Int)) then(
  (idx x_.short_ fw).bind λa6=>
  (loop (λs=>kF x_ b_ gq a6 s.1 s.2.1 s.2.2.1 s.2.2.2) (jw,ja,kn,0)).bind λsc=>
  match sc with
  | .inl p=>kG fw p.1 p.2.1 p.2.2
  | .inr p=>some (.done (.inr p)))
 else(
  some (.done (.inl (jw,ja,kn))))
def Zs (x_:zC)(b_:z8)(jx:List (zz Int))(jb:Int)(ko:Int)(jh:Int):z9b :=
 bif decide (jh<((x_.q_.length:Nat):Int)) then(
  (idx x_.q_ jh).bind λgq=>
  (loop (λs=>Zr x_ b_ gq s.1 s.2.1 s.2.2.1 s.2.2.2) (jx,jb,ko,0)).bind λt9=>
  match t9 with
  | .inl p=>Zv jh p.1 p.2.1 p.2.2
  | .inr p=>some (.done (.inr p)))
 else(
  some (.done (.inl (jx,jb,ko))))
def wP (x0:Ue)(x_:zC)(b_:z8):zih :=
 (loop (λs=>Zs x_ b_ s.1 s.2.1 s.2.2.1 s.2.2.2) (b_.nodes_,b_.leaves_,b_.most_,0)).bind λt7=>
 match t7 with
 | .inl p=>uM x_ b_ p.1 p.2.1 p.2.2
 | .inr p=>some p
def kK (ba:Int)(bh:List (zz Int))(cj:Int)(fh:Int):zig :=
 some (.next (bh,cj,fh,w64 (ba+1)))
def kJ (gk:Int)(aq:List (zz Int))(bc:Int)(fj:Int):z9b :=
 some (.next (aq,bc,fj,w64 (gk+1)))
def uf (b_:z8)(bj:List Int)(a6:List Int)(r_:List (List Int))(ct:List (zz Int))(cg:Int)(dz:Int)(ib:Int):z9b :=
 bif decide (ib<((r_.length:Nat):Int)) then(
  (idx r_ ib).bind λdm=>
  (xy [bj,a6,dm] (z8.mk ct cg dz)).bind λai=>
  bif ai.2 then(
   some (.done (.inr (b_,true))))
  else(
   some (.next (ai.1.nodes_,ai.1.leaves_,ai.1.most_,w64 (ib+1)))))
 else(
  some (.done (.inl (ct,cg,dz))))
def kH (x_:zC)(b_:z8)(bj:List Int)(bm:List (zz Int))(ce:Int)(d0:Int)(gk:Int):z9b :=
 bif decide (gk<((x_.short_.length:Nat):Int)) then(
  (idx x_.short_ gk).bind λa6=>
  (xo x_ bj a6).bind λr_=>
  (loop (λs=>uf b_ bj a6 r_ s.1 s.2.1 s.2.2.1 s.2.2.2) (bm,ce,d0,0)).bind λt5=>
  match t5 with
  | .inl p=>kJ gk p.1 p.2.1 p.2.2
  | .inr p=>some (.done (.inr p)))
 else(
  some (.done (.inl (bm,ce,d0))))
def kI (x_:zC)(b_:z8)(br:List (zz Int))(cp:Int)(fm:Int)(ba:Int):zig :=
 bif decide (ba<((x_.p_.length:Nat):Int)) then(
  (idx x_.p_ ba).bind λbj=>
  (loop (λs=>kH x_ b_ bj s.1 s.2.1 s.2.2.1 s.2.2.2) (br,cp,fm,0)).bind λt3=>
  match t3 with
  | .inl p=>kK ba p.1 p.2.1 p.2.2
  | .inr p=>some (.done p))
 else(
  some (.done ((z8.mk br cp fm),false)))
def wq (x0:V8)(x_:zC)(b_:z8):zih :=
 (loop (λs=>kI x_ b_ s.1 s.2.1 s.2.2.1 s.2.2.2) (b_.nodes_,b_.leaves_,b_.most_,0)).bind λt1=>
 some t1
def ug (x:zC)(s:Nat)(most:Int):Option (Option z8×Bool) :=
 (match s with|0=>vb ⟨⟩ x (z8.mk [zz.mk 0 0 0 0 0 0 0 0 0 0 0 0 0 0 0 0] 0 most)|1=>wP ⟨⟩ x (z8.mk [zz.mk 0 0 0 0 0 0 0 0 0 0 0 0 0 0 0 0] 0 most)|2=>wq ⟨⟩ x (z8.mk [zz.mk 0 0 0 0 0 0 0 0 0 0 0 0 0 0 0 0] 0 most)|_=>none).bind λr=>
 some (bif r.2 then none else some r.1,!r.2)
def wg (s_:List (List Int)):V9 :=
 some s_
def uk (out:List (List Int)):V9 :=
 (wg out).bind λr_=>
 some r_
abbrev zo9:Type:=Option (LR (List (List Int)×List zf) (List (List Int)))
def uj (ax:List (List Int))(next:List zf):zo9 :=
 some (.next (ax,next))
abbrev zmS:Type:=Option (LR (List (List Int)×List zf×Int) ((List (List Int)×List zf)))
def wR (ba:Int)(gx:List (List Int))(ff:List zf):zmS :=
 some (.next (gx,ff,w64 (ba+1)))
def ui (bo:List (List Int))(ba:Int)(a8:zf)(cb:List zf)(pu:Bool):zmS :=
 bif pu then(
  (zP a8.w_).bind λai=>
  gd (bo.length+[ai].length<=4294967296) <|
  wR ba (bo++[ai]) cb)
 else(
  wR ba bo cb)
abbrev zo8:Type:=Option (LR (List zf×Bool×Int) ((List zf×Bool)))
def wQ (fg:Int)(og:List zf)(oh:Bool):zo8 :=
 some (.next (og,oh,w64 (fg+1)))
def yk (a8:zf)(a7:zz Int)(iq:List zf)(l9:Bool)(fg:Int):zo8 :=
 bif decide (fg<16) then(
  (idx [a7.e0,a7.e1,a7.e2,a7.e3,a7.e4,a7.e5,a7.e6,a7.e7,a7.e8,a7.e9,a7.e10,a7.e11,a7.e12,a7.e13,a7.e14,a7.e15] fg).bind λcell=>
  bif decide (cell > 0) then(
   (zP a8.w_).bind λak=>
   gd (ak.length+[fg].length<=4294967296) <|
   gd (iq.length+[(zf.mk cell (ak++[fg]))].length<=4294967296) <|
   wQ fg (iq++[(zf.mk cell (ak++[fg]))]) false)
  else(
   wQ fg iq l9))
 else(
  some (.done (iq,l9)))
def yl (b_:z8)(ay:List zf)(bo:List (List Int))(cr:List zf)(ba:Int):zmS :=
 bif decide (ba<((ay.length:Nat):Int)) then(
  (idx ay ba).bind λa8=>
  (idx b_.nodes_ a8.at_).bind λa7=>
  (loop (λs=>yk a8 a7 s.1 s.2.1 s.2.2) (cr,true,0)).bind λt7=>
  ui bo ba a8 t7.1 t7.2)
 else(
  some (.done (bo,cr)))
def uh (b_:z8)(aj:List (List Int))(ay:List zf):zo9 :=
 bif decide (((ay.length:Nat):Int) > 0) then(
  (loop (λs=>yl b_ ay s.1 s.2.1 s.2.2) (aj,([]:List zf),0)).bind λt4=>
  uj t4.1 t4.2)
 else(
  some (.done aj))
def v7 (b_:z8):V9 :=
 (loop (λs=>uh b_ s.1 s.2) (([]:List (List Int)),([(zf.mk 0 [])]:List zf))).bind λt2=>
 uk t2
def yR (s_:Nat)(m_:z6)(bound:Int)(bf:Int):z2E :=
 (ub m_ bound).bind λr_=>
 bif r_ != 0 then(
  some (([]:List (List Int)),r_))
 else(
  bif decide (bf<1) then(
   some (([]:List (List Int)),1))
  else(
   bif decide (bf > 4096) then(
    some (([]:List (List Int)),1))
   else(
    (ji m_ bound).bind λai=>
    bif ai.2 != 0 then(
     some (([]:List (List Int)),13))
    else(
     (ai.1).bind λthere=>
     (ug there s_ bf).bind λak=>
     bif !ak.2 then(
      some (([]:List (List Int)),13))
     else(
      (ak.1).bind λee=>
      (v7 ee).bind λam=>
      (jQ am m_.Inputs).bind λaz=>
      bif az != 0 then(
       some (([]:List (List Int)),az))
      else(
       some (am,0)))))))
def W0 (m_:z6)(bound:Int)(bf:Int):z2E :=
 (yR 0 m_ bound bf).bind λr_=>
 some (r_.1,r_.2)
def UO (m_:z6)(bound:Int)(bf:Int):z2E :=
 (yR 1 m_ bound bf).bind λr_=>
 some (r_.1,r_.2)
def WQ (m_:z6)(bound:Int)(bf:Int):z2E :=
 (yR 2 m_ bound bf).bind λr_=>
 some (r_.1,r_.2)
def Xc (n_:XN Int):Option (XN Int×Int) :=
 some (n_,0)
def kL (ai:Option zC×Int)(ca:XN Int)(kl:Int):Option (LR (XN Int×Int) (XN Int⊕(XN Int×Int))) :=
 bif decide (kl<((([0,1,2]:List Nat).length:Nat):Int)) then(
  (idx ([0,1,2]) kl).bind λmj=>
  (ai.1).bind λthere=>
  (ug there mj 4096).bind λak=>
  bif !ak.2 then(
   some (.done (.inr ((XN.mk 0 0 0),3))))
  else(
   (ak.1).bind λee=>
   (idx (XN.toL ca) kl).bind λcell=>
   (some (XN.setI ca kl (mx ee.leaves_ 1))).bind λarr=>
   some (.next (arr,w64 (kl+1)))))
 else(
  some (.done (.inl ca)))
def qd (m_:z6)(bound:Int):Option (XN Int×Int) :=
 (ub m_ bound).bind λr_=>
 bif r_ != 0 then(
  some ((XN.mk 0 0 0),r_))
 else(
  (ji m_ bound).bind λai=>
  bif ai.2 != 0 then(
   some ((XN.mk 0 0 0),3))
  else(
   (loop (λs=>kL ai s.1 s.2) ((XN.mk 0 0 0),0)).bind λt2=>
   match t2 with
   | .inl p=>Xc p
   | .inr p=>some p))
def Jj (out:List (List Int)):V9 :=
 some out
def Wu (n_:Int)(ax:List (List Int)):z0U :=
 some (.next (ax,w64 (n_+1)))
def Wt (n_:Int)(next:List (List Int)):z0U :=
 Wu n_ next
def Ws (i_:Int)(ff:List (List Int)):z0U :=
 some (.next (ff,w64 (i_+1)))
def vC (inputs:Int)(aj:List (List Int))(i_:Int)(cb:List (List Int))(s_:Int):z0U :=
 bif decide (s_<inputs) then(
  (idx aj i_).bind λdn=>
  gd (([]:List Int).length+dn.length<=4294967296) <|
  gd (dn.length+[s_].length<=4294967296) <|
  gd (cb.length+[(dn++[s_])].length<=4294967296) <|
  some (.next ((cb++[(dn++[s_])]),w64 (s_+1))))
 else(
  some (.done cb))
def vD (inputs:Int)(aj:List (List Int))(cr:List (List Int))(i_:Int):z0U :=
 bif decide (i_<((aj.length:Nat):Int)) then(
  (loop (λs=>vC inputs aj i_ s.1 s.2) (cr,0)).bind λt7=>
  Ws i_ t7)
 else(
  some (.done cr))
def uJ (inputs:Int)(k_:Int)(aj:List (List Int))(n_:Int):z0U :=
 bif decide (n_<k_) then(
  (loop (λs=>vD inputs aj s.1 s.2) (([]:List (List Int)),0)).bind λt5=>
  Wt n_ t5)
 else(
  some (.done aj))
def Xl (inputs:Int)(k_:Int):V9 :=
 (loop (λs=>uJ inputs k_ s.1 s.2) (([[]]:List (List Int)),0)).bind λt2=>
 Jj t2
def Kh (out:List (List Int)):V9 :=
 some out
def qL (inputs:Int)(k_:Int)(aj:List (List Int))(n_:Int):z0U :=
 bif decide (n_<=k_) then(
  (Xl inputs n_).bind λr_=>
  gd (aj.length+r_.length<=4294967296) <|
  some (.next ((aj++r_),w64 (n_+1))))
 else(
  some (.done aj))
def qM (inputs:Int)(k_:Int):V9 :=
 (loop (λs=>qL inputs k_ s.1 s.2) (([]:List (List Int)),0)).bind λt2=>
 Kh t2
def U0:Option Int :=
 some 0
def Ys (a_:List Int)(b_:List Int)(i_:Int):R3_ :=
 bif decide (i_<((a_.length:Nat):Int)) then(
  (idx a_ i_).bind λdv=>
  (idx b_ i_).bind λdx=>
  bif decide (dv<dx) then(
   some (.done (.inr (-1))))
  else(
   (idx a_ i_).bind λi6=>
   (idx b_ i_).bind λl6=>
   bif decide (i6 > l6) then(
    some (.done (.inr 1)))
   else(
    some (.next (w64 (i_+1))))))
 else(
  some (.done (.inl ())))
def wz (a_:List Int)(b_:List Int):Option Int :=
 bif ((a_.length:Nat):Int) !=((b_.length:Nat):Int) then(
  bif decide (((a_.length:Nat):Int)<((b_.length:Nat):Int)) then(
   some (-1))
  else(
   some 1))
 else(
  (loop (λs=>Ys a_ b_ s) 0).bind λt2=>
  match t2 with
  | .inl p=>U0
  | .inr p=>some p)
def Q0 (w_:List Int)(ir:Int)(dr:List (List Int)):V9 :=
 gd (([]:List Int).length+w_.length<=4294967296) <|
 (idx dr ir).bind λbi=>
 some (dr.set ir.toNat w_)
def UZ (ir:Int)(j6:List (List Int))(i_:Int):z0U :=
 bif decide (i_ > ir) then(
  (idx j6 (w64 (i_ - 1))).bind λew=>
  (idx j6 i_).bind λnu=>
  some (.next ((j6.set i_.toNat ew),w64 (i_ - 1))))
 else(
  some (.done j6))
def Yj (l_:List (List Int))(w_:List Int)(ir:Int):V9 :=
 gd (l_.length+([[]]:List (List Int)).length<=4294967296) <|
 (loop (λs=>UZ ir s.1 s.2) ((l_++([[]]:List (List Int))),w64 ((((l_++([[]]:List (List Int))).length:Nat):Int) - 1))).bind λt4=>
 Q0 w_ ir t4
def Q1 (l_:List (List Int))(w_:List Int)(ir:Int):V9 :=
 bif decide (ir<((l_.length:Nat):Int)) then(
  (idx l_ ir).bind λow=>
  (wz ow w_).bind λr_=>
  bif r_==0 then(
   some l_)
  else(
   Yj l_ w_ ir))
 else(
  Yj l_ w_ ir)
def UY (l_:List (List Int))(w_:List Int)(lb:Int)(l5:Int):R7_ :=
 bif decide (lb<l5) then(
  gd ((2:Int)≠0) <|
  (idx l_ (w64 (Int.tdiv (w64 (lb+l5)) 2))).bind λox=>
  (wz ox w_).bind λai=>
  bif decide (ai<0) then(
   some (.next (w64 ((w64 (Int.tdiv (w64 (lb+l5)) 2))+1),l5)))
  else(
   some (.next (lb,w64 (Int.tdiv (w64 (lb+l5)) 2)))))
 else(
  some (.done lb))
def Q2 (l_:List (List Int))(w_:List Int):V9 :=
 (loop (λs=>UY l_ w_ s.1 s.2) (0,((l_.length:Nat):Int))).bind λt5=>
 Q1 l_ w_ t5
def Ki (out:List (List Int)):V9 :=
 some out
def qN (l_:List (List Int))(aj:List (List Int))(i_:Int):z0U :=
 bif decide (i_<((l_.length:Nat):Int)) then(
  (idx l_ i_).bind λbi=>
  (Q2 aj bi).bind λr_=>
  some (.next (r_,w64 (i_+1))))
 else(
  some (.done aj))
def YW (l_:List (List Int)):V9 :=
 (loop (λs=>qN l_ s.1 s.2) (([]:List (List Int)),0)).bind λt2=>
 Ki t2
def k8 (m_:z6):V9 :=
 (W8 m_).bind λr_=>
 (YW r_.1).bind λai=>
 some ai
def Q4 (out:List (List Int)):V9 :=
 some out
def Xm (i_:Int)(ax:List (List Int)):z0U :=
 some (.next (ax,w64 (i_+1)))
def vX (a_:List (List Int))(b_:List (List Int))(i_:Int)(bo:List (List Int))(k_:Int):z0U :=
 bif decide (k_<((b_.length:Nat):Int)) then(
  (idx a_ i_).bind λdv=>
  gd (([]:List Int).length+dv.length<=4294967296) <|
  (idx b_ k_).bind λdx=>
  gd (dv.length+dx.length<=4294967296) <|
  (Q2 bo (dv++dx)).bind λr_=>
  some (.next (r_,w64 (k_+1))))
 else(
  some (.done bo))
def vY (a_:List (List Int))(b_:List (List Int))(aj:List (List Int))(i_:Int):z0U :=
 bif decide (i_<((a_.length:Nat):Int)) then(
  (loop (λs=>vX a_ b_ i_ s.1 s.2) (aj,0)).bind λt4=>
  Xm i_ t4)
 else(
  some (.done aj))
def xK (a_:List (List Int))(b_:List (List Int)):V9 :=
 (loop (λs=>vY a_ b_ s.1 s.2) (([]:List (List Int)),0)).bind λt2=>
 Q4 t2
def Wp (m_:z6)(k_:Int):V9 :=
 (k8 m_).bind λr_=>
 (qM m_.Inputs k_).bind λai=>
 (xK r_ ai).bind λak=>
 some ak
def wM (m_:z6):V9 :=
 (Wp m_ 1).bind λr_=>
 some r_
def Q7 (out:List Int):Option (List Int) :=
 some out
def Q6 (m_:z6)(w_:List Int)(bk:Int)(aj:List Int)(k_:Int):Option (LR (Int×List Int×Int) (List Int)) :=
 bif decide (k_<((w_.length:Nat):Int)) then(
  (idx w_ k_).bind λfc=>
  (WW m_ bk fc).bind λr_=>
  gd (aj.length+[r_.Out].length<=4294967296) <|
  some (.next (r_.To,(aj++[r_.Out]),w64 (k_+1))))
 else(
  some (.done aj))
def Xu (m_:z6)(s_:Int)(w_:List Int):Option (List Int) :=
 (loop (λs=>Q6 m_ w_ s.1 s.2.1 s.2.2) (s_,([]:List Int),0)).bind λt2=>
 Q7 t2
def YB:Option Int :=
 some 0
def jM (a_:List Int)(b_:List Int)(i_:Int):R3_ :=
 bif decide (i_<((a_.length:Nat):Int)) then(
  (idx a_ i_).bind λdv=>
  (idx b_ i_).bind λdx=>
  bif decide (dv<dx) then(
   some (.done (.inr (-1))))
  else(
   (idx a_ i_).bind λi6=>
   (idx b_ i_).bind λl6=>
   bif decide (i6 > l6) then(
    some (.done (.inr 1)))
   else(
    some (.next (w64 (i_+1))))))
 else(
  some (.done (.inl ())))
def VE (a_:List Int)(b_:List Int):Option Int :=
 bif decide (((a_.length:Nat):Int)<((b_.length:Nat):Int)) then(
  some (-1))
 else(
  bif decide (((a_.length:Nat):Int) > ((b_.length:Nat):Int)) then(
   some 1)
  else(
   (loop (λs=>jM a_ b_ s) 0).bind λt2=>
   match t2 with
   | .inl p=>YB
   | .inr p=>some p))
def Qw (a_:List Int)(b_:List Int):Option Bool :=
 (VE a_ b_).bind λr_=>
 some (r_==0)
def W4 (m_:z6)(w_:List Int)(s_:Int)(t_:Int):Option Int :=
 (Xu m_ s_ w_).bind λr_=>
 (Xu m_ t_ w_).bind λai=>
 (Qw r_ ai).bind λak=>
 bif ak then(
  some 0)
 else(
  some 1)
def Kj (out:List Int):Option (List Int) :=
 gd (out.length+([0]:List Int).length<=4294967296) <|
 some (out++([0]:List Int))
def z4N (inputs:Int)(aj:List Int)(k_:Int):R8_ :=
 bif decide (k_>=0) then(
  (idx aj k_).bind λdn=>
  bif decide ((w64 (dn+1))<inputs) then(
   (idx aj k_).bind λjr=>
   (idx aj k_).bind λo7=>
   some (.done (.inr (aj.set k_.toNat (w64 (jr+1))))))
  else(
   (idx aj k_).bind λo8=>
   some (.next ((aj.set k_.toNat 0),w64 (k_ - 1)))))
 else(
  some (.done (.inl aj)))
def z00 (w_:List Int)(inputs:Int):Option (List Int) :=
 gd (([]:List Int).length+w_.length<=4294967296) <|
 (loop (λs=>z4N inputs s.1 s.2) (w_,w64 (((w_.length:Nat):Int) - 1))).bind λt2=>
 match t2 with
 | .inl p=>Kj p
 | .inr p=>some p
abbrev zo7:Type:=Option (List Int×Bool)
def WV:zo7 :=
 some (([]:List Int),false)
def WU (m_:z6)(s_:Int)(t_:Int)(w_:List Int):Option (LR (List Int) (Unit⊕(List Int×Bool))) :=
 bif decide (((w_.length:Nat):Int)<(mx ((m_.Rows.length:Nat):Int) 2)) then(
  (W4 m_ w_ s_ t_).bind λr_=>
  bif r_==1 then(
   some (.done (.inr (w_,true))))
  else(
   (z00 w_ m_.Inputs).bind λai=>
   some (.next ai)))
 else(
  some (.done (.inl ())))
def wI (m_:z6)(s_:Int)(t_:Int):zo7 :=
 (loop (λs=>WU m_ s_ t_ s) ([]:List Int)).bind λt2=>
 match t2 with
 | .inl p=>WV
 | .inr p=>some p
def Wo (out:List (List Int)):V9 :=
 (YW out).bind λr_=>
 some r_
def Wn (a_:Int)(ax:List (List Int)):z0U :=
 some (.next (ax,w64 (a_+1)))
def wH (b_:Int)(gx:List (List Int)):z0U :=
 some (.next (gx,w64 (b_+1)))
def Wm (m_:z6)(s_:Int)(a_:Int)(bo:List (List Int))(b_:Int):z0U :=
 bif decide (b_<((m_.Rows.length:Nat):Int)) then(
  bif decide (s_<0) then(
   (wI m_ a_ b_).bind λai=>
   gd (bo.length+[ai.1].length<=4294967296) <|
   wH b_ (bo++[ai.1]))
  else(
   bif a_==s_ then(
    (wI m_ a_ b_).bind λak=>
    gd (bo.length+[ak.1].length<=4294967296) <|
    wH b_ (bo++[ak.1]))
   else(
    bif b_==s_ then(
     (wI m_ a_ b_).bind λam=>
     gd (bo.length+[am.1].length<=4294967296) <|
     wH b_ (bo++[am.1]))
    else(
     wH b_ bo))))
 else(
  some (.done bo))
def Jg (m_:z6)(s_:Int)(aj:List (List Int))(a_:Int):z0U :=
 bif decide (a_<((m_.Rows.length:Nat):Int)) then(
  (loop (λs=>Wm m_ s_ a_ s.1 s.2) (aj,w64 (a_+1))).bind λt4=>
  Wn a_ t4)
 else(
  some (.done aj))
def Xi (m_:z6)(s_:Int):V9 :=
 (loop (λs=>Jg m_ s_ s.1 s.2) (([]:List (List Int)),0)).bind λt2=>
 Wo t2
def UX (m_:z6):V9 :=
 (Xi m_ (-1)).bind λr_=>
 some r_
def YV (l_:List (List Int)):V9 :=
 bif ((l_.length:Nat):Int)==0 then(
  some ([[]]:List (List Int)))
 else(
  some l_)
def W2 (a_:List Int)(b_:List Int):Option Bool :=
 bif decide (((a_.length:Nat):Int)<((b_.length:Nat):Int)) then(
  gd ((0:Int)<=0/\(0:Int)<=((a_.length:Nat):Int)/\(((a_.length:Nat):Int):Int)<=((b_.length:Nat):Int)) <|
  (wz a_ ((b_.drop 0).take (((a_.length:Nat):Int).toNat - 0))).bind λr_=>
  some (r_==0))
 else(
  some false)
def Q3 (out:List (List Int)):V9 :=
 some out
def kU (i_:Int)(ax:List (List Int)):z0U :=
 some (.next (ax,w64 (i_+1)))
def Xk (l_:List (List Int))(aj:List (List Int))(i_:Int)(oi:Bool):z0U :=
 bif !oi then(
  (idx l_ i_).bind λbi=>
  gd (aj.length+[bi].length<=4294967296) <|
  kU i_ (aj++[bi]))
 else(
  kU i_ aj)
def vV (l_:List (List Int))(i_:Int)(lv:Bool)(k_:Int):Option (LR (Bool×Int) Bool) :=
 bif decide (k_<((l_.length:Nat):Int)) then(
  bif lv then(
   some (.next (true,w64 (k_+1))))
  else(
   (idx l_ i_).bind λew=>
   (idx l_ k_).bind λnu=>
   (W2 ew nu).bind λr_=>
   some (.next (r_,w64 (k_+1)))))
 else(
  some (.done lv))
def vW (l_:List (List Int))(aj:List (List Int))(i_:Int):z0U :=
 bif decide (i_<((l_.length:Nat):Int)) then(
  (loop (λs=>vV l_ i_ s.1 s.2) (false,0)).bind λt5=>
  Xk l_ aj i_ t5)
 else(
  some (.done aj))
def qt (l_:List (List Int)):V9 :=
 (loop (λs=>vW l_ s.1 s.2) (([]:List (List Int)),0)).bind λt2=>
 Q3 t2
def z4L (m_:z6)(bound:Int):V9 :=
 (qM m_.Inputs (w64 (bound - ((m_.Rows.length:Nat):Int)))).bind λr_=>
 (wM m_).bind λai=>
 (xK ai r_).bind λak=>
 (UX m_).bind λam=>
 (YV am).bind λaz=>
 (xK ak az).bind λbn=>
 (qt bn).bind λcx=>
 some cx
def Vw:Option Bool :=
 some true
def YJ (a_:List (List Int))(b_:List (List Int))(i_:Int):zii :=
 bif decide (i_<((a_.length:Nat):Int)) then(
  (idx a_ i_).bind λdv=>
  (idx b_ i_).bind λdx=>
  (wz dv dx).bind λr_=>
  bif r_ != 0 then(
   some (.done (.inr false)))
  else(
   some (.next (w64 (i_+1)))))
 else(
  some (.done (.inl ())))
def WT (a_:List (List Int))(b_:List (List Int)):Option Bool :=
 bif ((a_.length:Nat):Int) !=((b_.length:Nat):Int) then(
  some false)
 else(
  (loop (λs=>YJ a_ b_ s) 0).bind λt2=>
  match t2 with
  | .inl p=>Vw
  | .inr p=>some p)
def QF (a_:List (List Int))(b_:List (List Int)):Option Bool :=
 (WT a_ b_).bind λr_=>
 bif r_ then(
  some (((a_.length:Nat):Int)==((a_.length:Nat):Int)))
 else(
  some false)
def z0m:Option Bool :=
 some false
def W3 (l_:List (List Int))(w_:List Int)(i_:Int):zii :=
 bif decide (i_<((l_.length:Nat):Int)) then(
  (idx l_ i_).bind λbi=>
  (wz bi w_).bind λr_=>
  bif r_==0 then(
   some (.done (.inr true)))
  else(
   some (.next (w64 (i_+1)))))
 else(
  some (.done (.inl ())))
def z1M (l_:List (List Int))(w_:List Int):Option Bool :=
 (loop (λs=>W3 l_ w_ s) 0).bind λt2=>
 match t2 with
 | .inl p=>z0m
 | .inr p=>some p
def z38 (out:List (List Int)):V9 :=
 some out
def Wr (i_:Int)(ax:List (List Int)):z0U :=
 some (.next (ax,w64 (i_+1)))
def uI (a_:List (List Int))(b_:List (List Int))(aj:List (List Int))(i_:Int):z0U :=
 bif decide (i_<((a_.length:Nat):Int)) then(
  (idx a_ i_).bind λdv=>
  (z1M b_ dv).bind λr_=>
  bif !r_ then(
   (idx a_ i_).bind λi6=>
   gd (aj.length+[i6].length<=4294967296) <|
   Wr i_ (aj++[i6]))
  else(
   Wr i_ aj))
 else(
  some (.done aj))
def Vx (a_:List (List Int))(b_:List (List Int)):V9 :=
 (loop (λs=>uI a_ b_ s.1 s.2) (([]:List (List Int)),0)).bind λt2=>
 z38 t2
def z4M (m_:z6)(s_:Int):V9 :=
 (Xi m_ s_).bind λr_=>
 some r_
def Vv (a_:List (List Int))(b_:List (List Int)):V9 :=
 gd (([]:List (List Int)).length+a_.length<=4294967296) <|
 gd (a_.length+b_.length<=4294967296) <|
 (YW (a_++b_)).bind λr_=>
 some r_
def KZ (out:List (List Int)):V9 :=
 some out
def xU (m_:z6)(l_:List (List Int))(aj:List (List Int))(i_:Int):z0U :=
 bif decide (i_<((l_.length:Nat):Int)) then(
  (idx l_ i_).bind λbi=>
  (Xv m_ 0 bi).bind λr_=>
  (z4M m_ r_).bind λai=>
  (YV ai).bind λak=>
  gd ((0:Int)<=i_/\(i_:Int)<=w64 (i_+1)/\(w64 (i_+1):Int)<=((l_.length:Nat):Int)) <|
  (xK ((l_.drop i_.toNat).take ((w64 (i_+1)).toNat - i_.toNat)) ak).bind λam=>
  (Vv aj am).bind λaz=>
  some (.next (az,w64 (i_+1))))
 else(
  some (.done aj))
def jy (m_:z6)(l_:List (List Int)):V9 :=
 (loop (λs=>xU m_ l_ s.1 s.2) (([]:List (List Int)),0)).bind λt2=>
 KZ t2
def z8n (m_:z6)(bound:Int):V9 :=
 (k8 m_).bind λr_=>
 (wM m_).bind λai=>
 (Vx ai r_).bind λak=>
 (qM m_.Inputs (w64 (bound - ((m_.Rows.length:Nat):Int)))).bind λam=>
 (xK r_ am).bind λaz=>
 (UX m_).bind λbn=>
 (YV bn).bind λcx=>
 (xK az cx).bind λgb=>
 (Xl m_.Inputs (w64 (bound - ((m_.Rows.length:Nat):Int)))).bind λiy=>
 (xK ak iy).bind λgr=>
 (jy m_ gr).bind λim=>
 (Vv gb im).bind λj8=>
 (qt j8).bind λmv=>
 some mv
def z6a (m_:z6)(bound:Int):V9 :=
 (qM m_.Inputs (w64 (bound - ((m_.Rows.length:Nat):Int)))).bind λr_=>
 (wM m_).bind λai=>
 (xK ai r_).bind λak=>
 (jy m_ ak).bind λam=>
 (qt am).bind λaz=>
 some az
def Kr:Option z6 :=
 some (z6.mk 2 2 ([[(zl.mk 1 0),(zl.mk 0 0)],[(zl.mk 2 0),(zl.mk 1 1)],[(zl.mk 0 1),(zl.mk 2 0)]]))
def VJ:Option Bool :=
 (Kr).bind λr_=>
 (W0 r_ 3 8).bind λai=>
 (UO r_ 3 4096).bind λak=>
 (WQ r_ 3 4096).bind λam=>
 bif ai.2 != 0 then(
  some false)
 else(
  bif ak.2 != 0 then(
   some false)
  else(
   bif am.2 != 0 then(
    some false)
   else(
    (QF ai.1 ([[1,0],[1,1],[0,1,0],[0,1,1],[0,0,0,0],[0,0,0,1],[0,0,1,0],[0,0,1,1]])).bind λaz=>
    bif !az then(
     some false)
    else(
     gd ((0:Int)<=0/\(0:Int)<=7/\(7:Int)<=((([[1,0],[1,1],[0,1,0],[0,1,1],[0,0,0,0],[0,0,0,1],[0,0,1,0],[0,0,1,1]]:List (List Int)).length:Nat):Int)) <|
     (QF ak.1 ((([[1,0],[1,1],[0,1,0],[0,1,1],[0,0,0,0],[0,0,0,1],[0,0,1,0],[0,0,1,1]]:List (List Int)).drop 0).take ((7:Int).toNat - 0))).bind λbn=>
     bif !bn then(
      some false)
     else(
      gd ((0:Int)<=0/\(0:Int)<=7/\(7:Int)<=((([[1,0],[1,1],[0,1,0],[0,1,1],[0,0,0,0],[0,0,0,1],[0,0,1,0],[0,0,1,1]]:List (List Int)).length:Nat):Int)) <|
      (QF am.1 ((([[1,0],[1,1],[0,1,0],[0,1,1],[0,0,0,0],[0,0,0,1],[0,0,1,0],[0,0,1,1]]:List (List Int)).drop 0).take ((7:Int).toNat - 0))).bind λcx=>
      bif !cx then(
       some false)
      else(
       (W0 r_ 2 9).bind λgb=>
       (W0 r_ 8 9).bind λiy=>
       (W0 r_ 3 7).bind λgr=>
       (qd r_ 3).bind λim=>
       bif gb.2==1 then(
        bif iy.2==1 then(
         bif gr.2==13 then(
          bif im.2==0 then(
           some ((im.1.e0==8)&&((im.1.e1==7)&&((im.1.e2==7)&&true))))
          else(
           some false))
         else(
          some false))
        else(
         some false))
       else(
        some false)))))))
def ki (m_:z6)(s_:Int)(w_:List Int):Option (List Int×Int) :=
 (vF m_ s_).bind λr_=>
 bif r_ != 0 then(
  some (([]:List Int),r_))
 else(
  (ud w_ m_.Inputs).bind λai=>
  bif ai != 0 then(
   some (([]:List Int),ai))
  else(
   (Yl m_ s_ w_).bind λak=>
   some (ak.1,0)))
def UP:Option (Bool×Int) :=
 some (true,0)
abbrev zo6:Type:=Option (LR Int (Unit⊕(Bool×Int)))
def qh (m_:z6)(other:z6)(l_:List (List Int))(nh:Int):zo6 :=
 bif decide (nh<((l_.length:Nat):Int)) then(
  (idx l_ nh).bind λbi=>
  (ki m_ 0 bi).bind λai=>
  (ki other 0 bi).bind λak=>
  (wv ai.1 ak.1).bind λam=>
  bif !am then(
   some (.done (.inr (false,0))))
  else(
   some (.next (w64 (nh+1)))))
 else(
  some (.done (.inl ())))
def vN (m_:z6)(other:z6)(l_:List (List Int)):Option (Bool×Int) :=
 bif m_.Inputs != other.Inputs then(
  some (false,5))
 else(
  (jQ l_ m_.Inputs).bind λr_=>
  bif r_ != 0 then(
   some (false,r_))
  else(
   (loop (λs=>qh m_ other l_ s) 0).bind λt3=>
   match t3 with
   | .inl p=>UP
   | .inr p=>some p))
def xZ (m_:z6)(other:z6)(pe:Int):zo6 :=
 bif decide (pe<(([m_,other].length:Nat):Int)) then(
  (idx ([m_,other]) pe).bind λmj=>
  (yV mj).bind λaz=>
  bif az != 0 then(
   some (.done (.inr (false,az))))
  else(
   some (.next (w64 (pe+1)))))
 else(
  some (.done (.inl ())))
def vd (m_:z6)(other:z6)(l_:List (List Int)):Option (Bool×Int) :=
 (loop (λs=>xZ m_ other s) 0).bind λt4=>
 match t4 with
 | .inl p=>vN m_ other l_
 | .inr p=>some p
def Jp:Option Int :=
 some 0
def Y9 (m_:z6)(s_:Int):R3_ :=
 bif decide (s_<((m_.Rows.length:Nat):Int)) then(
  (idx m_.Rows s_).bind λap=>
  bif decide (((ap.length:Nat):Int) > 4) then(
   some (.done (.inr 1)))
  else(
   some (.next (w64 (s_+1)))))
 else(
  some (.done (.inl ())))
def XB (m_:z6):Option Int :=
 bif decide (((m_.Rows.length:Nat):Int) > 6) then(
  some 1)
 else(
  (loop (λs=>Y9 m_ s) 0).bind λt2=>
  match t2 with
  | .inl p=>Jp
  | .inr p=>some p)
def Jh (n_:Int):Option Int :=
 some n_
def Y0 (l_:List (List Int))(ca:Int)(i_:Int):R7_ :=
 bif decide (i_<((l_.length:Nat):Int)) then(
  (idx l_ i_).bind λbi=>
  some (.next (w64 (ca+((bi.length:Nat):Int)),w64 (i_+1))))
 else(
  some (.done ca))
def Xj (l_:List (List Int)):Option Int :=
 (loop (λs=>Y0 l_ s.1 s.2) (0,0)).bind λt2=>
 Jh t2
def Jn:Option Int :=
 some 0
def Jm (s_:Int):R3_ :=
 some (.next (w64 (s_+1)))
def Y7 (i_:Int):R3_ :=
 some (.next (w64 (i_+1)))
def Y6 (m_:z6)(i_:Int)(al:zl):R3_ :=
 bif decide (al.To<0) then(
  some (.done (.inr 1)))
 else(
  bif decide (al.To>=((m_.Rows.length:Nat):Int)) then(
   some (.done (.inr 1)))
  else(
   bif decide (al.Out<0) then(
    some (.done (.inr 1)))
   else(
    bif decide (al.Out>=m_.Outputs) then(
     some (.done (.inr 1)))
    else(
     Y7 i_))))
def jC (m_:z6)(s_:Int)(i_:Int):R3_ :=
 bif decide (i_<m_.Inputs) then(
  (idx m_.Rows s_).bind λdu=>
  (idx du i_).bind λal=>
  bif al.To==(-1) then(
   bif al.Out==(-1) then(
    Y7 i_)
   else(
    Y6 m_ i_ al))
  else(
   Y6 m_ i_ al))
 else(
  some (.done (.inl ())))
def Y5 (m_:z6)(s_:Int):R3_ :=
 bif decide (s_<((m_.Rows.length:Nat):Int)) then(
  (idx m_.Rows s_).bind λap=>
  bif ((ap.length:Nat):Int) != m_.Inputs then(
   some (.done (.inr 1)))
  else(
   (loop (λs=>jC m_ s_ s) 0).bind λt4=>
   match t4 with
   | .inl p=>Jm s_
   | .inr p=>some (.done (.inr p))))
 else(
  some (.done (.inl ())))
def ZI (m_:z6):Option Int :=
 bif decide (m_.Inputs > 16) then(
  some 3)
 else(
  bif decide (m_.Outputs > 16) then(
   some 3)
  else(
   bif decide (((m_.Rows.length:Nat):Int) > 64) then(
    some 3)
   else(
    bif decide (m_.Inputs<1) then(
     some 1)
    else(
     bif decide (m_.Outputs<1) then(
      some 1)
     else(
      bif ((m_.Rows.length:Nat):Int)==0 then(
       some 1)
      else(
       (loop (λs=>Y5 m_ s) 0).bind λt2=>
       match t2 with
       | .inl p=>Jn
       | .inr p=>some p))))))
def YA (n_:Int):Option Int :=
 some n_
def Yz (s_:Int)(cd:Int):R7_ :=
 some (.next (cd,w64 (s_+1)))
def jL (i_:Int)(qb:Int):R7_ :=
 some (.next (qb,w64 (i_+1)))
def jK (m_:z6)(s_:Int)(lf:Int)(i_:Int):R7_ :=
 bif decide (i_<m_.Inputs) then(
  (idx m_.Rows s_).bind λap=>
  (idx ap i_).bind λal=>
  bif decide (al.To>=0) then(
   jL i_ (w64 (lf+1)))
  else(
   jL i_ lf))
 else(
  some (.done lf))
def Yy (m_:z6)(ca:Int)(s_:Int):R7_ :=
 bif decide (s_<((m_.Rows.length:Nat):Int)) then(
  (loop (λs=>jK m_ s_ s.1 s.2) (ca,0)).bind λt4=>
  Yz s_ t4)
 else(
  some (.done ca))
def VD (m_:z6):Option Int :=
 (loop (λs=>Yy m_ s.1 s.2) (0,0)).bind λt2=>
 YA t2
def Y4 (m_:z6):Option Bool :=
 (VD m_).bind λr_=>
 some (r_==(w64 (((m_.Rows.length:Nat):Int)*m_.Inputs)))
def Zb:Option Bool :=
 some true
def uR (r_:List Bool)(s_:Int):zii :=
 bif decide (s_<((r_.length:Nat):Int)) then(
  (idx r_ s_).bind λdm=>
  bif !dm then(
   some (.done (.inr false)))
  else(
   some (.next (w64 (s_+1)))))
 else(
  some (.done (.inl ())))
def Zc (m_:z6):Option Bool :=
 (YM m_ 0).bind λr_=>
 (loop (λs=>uR r_ s) 0).bind λt2=>
 match t2 with
 | .inl p=>Zb
 | .inr p=>some p
def Xo:Option Int :=
 some 0
def Xn (s_:Int):R3_ :=
 some (.next (w64 (s_+1)))
def kV (am:List Int)(s_:Int)(t_:Int):R3_ :=
 bif decide (t_<s_) then(
  (idx am s_).bind λdm=>
  (idx am t_).bind λip=>
  bif dm==ip then(
   some (.done (.inr 12)))
  else(
   some (.next (w64 (t_+1)))))
 else(
  some (.done (.inl ())))
def kW (am:List Int)(s_:Int):R3_ :=
 bif decide (s_<((am.length:Nat):Int)) then(
  (loop (λs=>kV am s_ s) 0).bind λt4=>
  match t4 with
  | .inl p=>Xn s_
  | .inr p=>some (.done (.inr p)))
 else(
  some (.done (.inl ())))
def k9 (m_:z6):Option Int :=
 (ZI m_).bind λr_=>
 bif r_ != 0 then(
  some r_)
 else(
  (Y4 m_).bind λai=>
  bif !ai then(
   some 9)
  else(
   (Zc m_).bind λak=>
   bif !ak then(
    some 11)
   else(
    (YK m_).bind λam=>
    (loop (λs=>kW am s) 0).bind λt2=>
    match t2 with
    | .inl p=>Xo
    | .inr p=>some p)))
def Vt (m_:z6)(bound:Int):Option Int :=
 (k9 m_).bind λr_=>
 bif r_ != 0 then(
  some r_)
 else(
  bif decide (bound<((m_.Rows.length:Nat):Int)) then(
   some 1)
  else(
   bif decide (bound > (w64 (((m_.Rows.length:Nat):Int)+4))) then(
    some 1)
   else(
    some 0)))
def WR (w_:List Int):Option Int :=
 bif decide (((w_.length:Nat):Int) > 256) then(
  some 3)
 else(
  some 0)
def VZ:Option Int :=
 some 0
def jJ (w_:List Int)(inputs:Int)(i_:Int):R3_ :=
 bif decide (i_<((w_.length:Nat):Int)) then(
  (idx w_ i_).bind λfc=>
  bif decide (fc<0) then(
   some (.done (.inr 1)))
  else(
   (idx w_ i_).bind λqw=>
   bif decide (qw>=inputs) then(
    some (.done (.inr 1)))
   else(
    some (.next (w64 (i_+1))))))
 else(
  some (.done (.inl ())))
def YI (w_:List Int)(inputs:Int):Option Int :=
 (loop (λs=>jJ w_ inputs s) 0).bind λt2=>
 match t2 with
 | .inl p=>VZ
 | .inr p=>some p
def Ji:Option Int :=
 some 0
def Y1 (l_:List (List Int))(inputs:Int)(i_:Int):R3_ :=
 bif decide (i_<((l_.length:Nat):Int)) then(
  (idx l_ i_).bind λbi=>
  (WR bi).bind λr_=>
  bif r_ != 0 then(
   some (.done (.inr r_)))
  else(
   (idx l_ i_).bind λew=>
   (YI ew inputs).bind λai=>
   bif ai != 0 then(
    some (.done (.inr ai)))
   else(
    some (.next (w64 (i_+1))))))
 else(
  some (.done (.inl ())))
def Vy (l_:List (List Int))(inputs:Int):Option Int :=
 bif decide (inputs > 16) then(
  some 3)
 else(
  bif decide (((l_.length:Nat):Int) > 4096) then(
   some 3)
  else(
   bif decide (inputs<1) then(
    some 1)
   else(
    (loop (λs=>Y1 l_ inputs s) 0).bind λt2=>
    match t2 with
    | .inl p=>Ji
    | .inr p=>some p)))
def Wv (l_:List (List Int)):Option Int :=
 (Xj l_).bind λai=>
 bif decide (ai > 65536) then(
  some 3)
 else(
  some 0)
def Y2 (l_:List (List Int))(i_:Int):R3_ :=
 bif decide (i_<((l_.length:Nat):Int)) then(
  (idx l_ (w64 (i_ - 1))).bind λbi=>
  (idx l_ i_).bind λew=>
  (wz bi ew).bind λak=>
  bif decide (ak>=0) then(
   some (.done (.inr 1)))
  else(
   some (.next (w64 (i_+1)))))
 else(
  some (.done (.inl ())))
def Vz (l_:List (List Int))(inputs:Int):Option Int :=
 (Vy l_ inputs).bind λr_=>
 bif r_ != 0 then(
  some r_)
 else(
  (loop (λs=>Y2 l_ s) 1).bind λt2=>
  match t2 with
  | .inl p=>Wv l_
  | .inr p=>some p)
def Jf:Option Bool :=
 some true
def jA (m_:z6)(other:z6)(l_:List (List Int))(i_:Int):zii :=
 bif decide (i_<((l_.length:Nat):Int)) then(
  (idx l_ i_).bind λbi=>
  (Xu m_ 0 bi).bind λr_=>
  (idx l_ i_).bind λew=>
  (Xu other 0 ew).bind λai=>
  (WT ([r_]) ([ai])).bind λak=>
  bif !ak then(
   some (.done (.inr false)))
  else(
   some (.next (w64 (i_+1)))))
 else(
  some (.done (.inl ())))
def Vu (m_:z6)(other:z6)(l_:List (List Int)):Option Bool :=
 (loop (λs=>jA m_ other l_ s) 0).bind λt2=>
 match t2 with
 | .inl p=>Jf
 | .inr p=>some p
def wj (m_:z6)(y_:ww)(ni:Int):Option Bool :=
 (vd m_ y_.Other y_.L).bind λcx=>
 bif cx.2==ni then(
  bif ni==0 then(
   (Vu m_ y_.Other y_.L).bind λgb=>
   bif cx.1==gb then(
    (VJ).bind λiy=>
    some iy)
   else(
    some false))
  else(
   bif cx.1==false then(
    (VJ).bind λgr=>
    some gr)
   else(
    some false)))
 else(
  some false)
def xE (m_:z6)(y_:ww)(ky:Int):Option Bool :=
 bif ky==0 then(
  (Vz y_.L m_.Inputs).bind λim=>
  wj m_ y_ im)
 else(
  wj m_ y_ ky)
def wk (m_:z6)(y_:ww)(f_:Int):Option Bool :=
 bif f_==0 then(
  bif m_.Inputs != y_.Other.Inputs then(
   xE m_ y_ 5)
  else(
   xE m_ y_ f_))
 else(
  xE m_ y_ f_)
def vo (m_:z6)(y_:ww):Option Bool :=
 (ZI m_).bind λbn=>
 bif bn==0 then(
  (ZI y_.Other).bind λj8=>
  wk m_ y_ j8)
 else(
  wk m_ y_ bn)
def vp (m_:z6)(y_:ww)(fz:Int)(ai:List (List Int)×Int):Option Bool :=
 bif fz==0 then(
  (z4L m_ y_.Bound).bind λmv=>
  bif !((ai.2==0)==(decide (((mv.length:Nat):Int)<=y_.Budget))) then(
   some false)
  else(
   vo m_ y_))
 else(
  vo m_ y_)
def wn (m_:z6)(y_:ww)(fz:Int)(ai:List (List Int)×Int)(ak:List (List Int)×Int)(am:List (List Int)×Int):Option Bool :=
 bif fz != 0 then(
  bif ai.2 != fz then(
   some false)
  else(
   bif ak.2 != fz then(
    some false)
   else(
    bif am.2 != fz then(
     some false)
    else(
     bif (w64 ((w64 (((ai.1.length:Nat):Int)+((ak.1.length:Nat):Int)))+((am.1.length:Nat):Int))) != 0 then(
      some false)
     else(
      vp m_ y_ fz ai)))))
 else(
  vp m_ y_ fz ai)
def yq (m_:z6)(y_:ww)(r_:Int)(fz:Int):Option Bool :=
 (W0 m_ y_.Bound y_.Budget).bind λai=>
 (UO m_ y_.Bound y_.Budget).bind λak=>
 (WQ m_ y_.Bound y_.Budget).bind λam=>
 (qd m_ y_.Bound).bind λaz=>
 (ub m_ y_.Bound).bind λrr=>
 bif rr != r_ then(
  some false)
 else(
  bif r_ != 0 then(
   bif az.2 != r_ then(
    some false)
   else(
    bif !((az.1.e0==0)&&((az.1.e1==0)&&((az.1.e2==0)&&true))) then(
     some false)
    else(
     wn m_ y_ fz ai ak am)))
  else(
   wn m_ y_ fz ai ak am))
def vq (m_:z6)(y_:ww):Option Bool :=
 (Vt m_ y_.Bound).bind λr_=>
 bif r_==0 then(
  bif decide (y_.Budget<1) then(
   yq m_ y_ r_ 1)
  else(
   bif decide (y_.Budget > 4096) then(
    yq m_ y_ r_ 1)
   else(
    yq m_ y_ r_ r_)))
 else(
  yq m_ y_ r_ r_)
def XC (m_:z6)(y_:ww):Option Bool :=
 (XB m_).bind λrt=>
 (XB y_.Other).bind λru=>
 bif (w64 (rt+ru)) != 0 then(
  some true)
 else(
  bif decide (((y_.L.length:Nat):Int) > 60) then(
   some true)
  else(
   (Xj y_.L).bind λrz=>
   bif decide (rz > 600) then(
    some true)
   else(
    bif decide (y_.Bound > (w64 (((m_.Rows.length:Nat):Int)+1))) then(
     bif decide (y_.Bound<=(w64 (((m_.Rows.length:Nat):Int)+4))) then(
      some true)
     else(
      vq m_ y_))
    else(
     vq m_ y_))))
abbrev F0_:=Kw (eI .i64)
abbrev F1_:=zmI (eI .i64)
abbrev F2_:=XJ (eI .i32)
abbrev F4_:=eSl 1 true (eI .i64)
abbrev F5_:=eOs 1 true (eI .i64)
abbrev F7_:=eOs 1 false (eI .i64)
abbrev F8_:=eSl 1 false (eI .i64)
abbrev F9_:=XJ F0_
abbrev WD:=yp (eI .i64) (eI .i64)
abbrev zoq:=eOs 16 false F2_
abbrev zlh:=eSl 16 false F2_
abbrev WF:=eSl 1 true F4_
abbrev zlg:=eOs 1 true F4_
abbrev z5s:=eSl 1 true F8_
abbrev zop:=eSl 1 false F4_
abbrev wF:=eSl 1 false F8_
abbrev z40:=eOs 1 false F8_
abbrev zlf:=eSp wF
abbrev zoo:=eSl 2 true WD
abbrev xH:=eSl 2 false WD
abbrev Zq:=XI (eI .i64) (eI .i64) (eI .i64)
abbrev UG:=yY (eI .i32) F8_
abbrev zon:=eSl 1 false wF
abbrev z0x:=VP (eI .i64) F9_
abbrev zpa:=eSl 1 true zoo
abbrev zp9:=eSl 1 false xH
abbrev Va:=yH zlh (eI .i64) (eI .i64)
abbrev zg4:=xg (eI .i64) (eI .i64) zpa
abbrev yZ:=xg (eI .i64) (eI .i64) zp9
abbrev z3Z:=eSp yZ
abbrev zp8:=Qi (eI .i64) (eI .i64) wF yZ
abbrev Jr:=qU yZ wF wF wF zon wF wF
abbrev zle:=eSp Jr
def rpN {α:Type _}(n:Nat)(a:α)(l:List α):List α:=Nat.rec l (λ_ r=>a::r) n
abbrev aLn (n:Nat):H:=.a (.atom (.int .i64 ((n:Nat):Int)))
end Go.Own

namespace Go.Proofs
open Go.Proofs.Tryz
open Go.Shelf
def Tryz.so136_ren:Go.Shelf.Ren:=⟨λ|6=>136|15=>161|14=>160|28=>184|29=>185|20=>176|21=>177|22=>178|23=>179|24=>180|25=>181|26=>182|27=>183|46=>194|47=>195|48=>196|49=>197|50=>198|57=>201|n=>n,λ|22=>32|24=>51|25=>110|3=>3|39=>209|0=>0|53=>240|55=>242|4=>4|46=>233|45=>232|50=>237|5=>5|9=>9|66=>260|70=>264|76=>267|77=>268|n=>n,λ|n=>n⟩
def Tryz.so136:Go.Proofs.SlLaysF0.n6 prog Tryz.so136_ren:={
 mixed:=by kernel_rfl
 f6:=⟨f136.name,by decide,func136.trans (congrArg some (by kernel_rfl))⟩
 f14:=⟨f160.name,by decide,func160.trans (congrArg some (by kernel_rfl))⟩
 f15:=func161.trans (congrArg some (by kernel_rfl))
 f20:=⟨f176.name,by decide,func176.trans (congrArg some (by kernel_rfl))⟩
 f21:=⟨f177.name,by decide,func177.trans (congrArg some (by kernel_rfl))⟩
 f22:=⟨f178.name,by decide,func178.trans (congrArg some (by kernel_rfl))⟩
 f23:=⟨f179.name,by decide,func179.trans (congrArg some (by kernel_rfl))⟩
 f24:=⟨f180.name,by decide,func180.trans (congrArg some (by kernel_rfl))⟩
 f25:=⟨f181.name,by decide,func181.trans (congrArg some (by kernel_rfl))⟩
 f26:=⟨f182.name,by decide,func182.trans (congrArg some (by kernel_rfl))⟩
 f27:=⟨f183.name,by decide,func183.trans (congrArg some (by kernel_rfl))⟩
 f28:=func184.trans (congrArg some (by kernel_rfl))
 f29:=func185.trans (congrArg some (by kernel_rfl))
 f46:=⟨f194.name,by decide,func194.trans (congrArg some (by kernel_rfl))⟩
 f47:=func195.trans (congrArg some (by kernel_rfl))
 f48:=func196.trans (congrArg some (by kernel_rfl))
 f49:=⟨f197.name,by decide,func197.trans (congrArg some (by kernel_rfl))⟩
 f50:=⟨f198.name,by decide,func198.trans (congrArg some (by kernel_rfl))⟩
 f57:=⟨f201.name,by decide,func201.trans (congrArg some (by kernel_rfl))⟩
 t0:=underlying0
 a0:=isAgg0
 z0:=sizeOf0
 v0:=zeroValue0
 t3:=underlying3
 a3:=isAgg3
 z3:=sizeOf3
 v3:=zeroValue3
 t4:=underlying4
 a4:=isAgg4
 z4:=sizeOf4
 v4:=zeroValue4
 t5:=underlying5
 a5:=isAgg5
 z5:=sizeOf5
 v5:=zeroValue5
 t9:=underlying9
 a9:=isAgg9
 z9:=sizeOf9
 v9:=zeroValue9
 t22:=underlying32
 a22:=isAgg32
 z22:=sizeOf32
 v22:=zeroValue32
 t25:=underlying110
 a25:=isAgg110
 z25:=sizeOf110
 v25:=zeroValue110
 t39:=underlying209
 a39:=isAgg209
 z39:=sizeOf209
 v39:=zeroValue209
 t45:=underlying232
 a45:=isAgg232
 z45:=sizeOf232
 v45:=zeroValue232
 t46:=underlying233
 a46:=isAgg233
 z46:=sizeOf233
 v46:=zeroValue233
 t50:=underlying237
 a50:=isAgg237
 z50:=sizeOf237
 v50:=zeroValue237
 t53:=underlying240
 a53:=isAgg240
 z53:=sizeOf240
 v53:=zeroValue240
 t55:=underlying242
 a55:=isAgg242
 z55:=sizeOf242
 v55:=zeroValue242
 t66:=underlying260
 a66:=isAgg260
 z66:=sizeOf260
 v66:=zeroValue260
 t70:=underlying264
 a70:=isAgg264
 z70:=sizeOf264
 v70:=zeroValue264
 t76:=underlying267
 a76:=isAgg267
 z76:=sizeOf267
 v76:=zeroValue267
 t77:=underlying268
 a77:=isAgg268
 z77:=sizeOf268
 v77:=zeroValue268 }
end Go.Proofs
