/- -/
import Derived.Test.YtedigoohmnbjfaaGreatPartB
import Derived.Test.YtedigoohmnbjfaaGreatProg
import Derived.Test.YtedigoohmnbjfaaGreatPartD
import Derived.Test.YtedigoohmnbjfaaGreatChecked
import Derived.Lib.AppendZerosOnto
import Derived.Lib.SliceRun
import Derived.WalkKit
import Derived.Lib.Walk
import Derived.Recover
import Derived.Defers
import Derived.Tactics2
import Derived.Test.YtedigoohmnbjfaaGreatPartC
import Derived.Shelf.SlSortCmp.NoneTotal
import Derived.Ground.SlsfProg
set_option linter.unusedVariables false
set_option linter.defProp false
set_option linter.unusedSimpArgs false
namespace Go.Ex
open Go.Proofs.Tryz
open Go.Proofs
def i32:EI:=⟨.slice 51,1,24,some [.slice none 0 0],false⟩
def q3:EqP prog 3 [.int .i64 0] false 1:=z12 (k:=.int .i64) underlying3 ⟨_,(by kernel_rfl:prog.info? 3=some Tryz.t3),rfl⟩ rfl
def q36:EqP prog 36 (z5J 3 [.int .i64 0]) true 2:=Zo underlying36 q3 ⟨_,(by kernel_rfl:prog.info? 36=some t36),rfl⟩
def q33:EqP prog 33 [.int .i64 0] false 1:=z12 (k:=.int .i64) underlying33 ⟨_,(by kernel_rfl:prog.info? 33=some t33),rfl⟩ rfl
def q45:EqP prog 45 (z5J 3 [.int .i64 0]) true 2:=Zo underlying45 q33 ⟨_,(by kernel_rfl:prog.info? 45=some Tryz.t45),rfl⟩
def i64:EI:=⟨.func,1,8,some [.nilFunc],false⟩
def q5:EqP prog 5 [.int .u8 0] false 1:=z12 (k:=.int .u8) underlying5 ⟨_,(by kernel_rfl:prog.info? 5=some Tryz.t5),rfl⟩ rfl
def q97:EqP prog 97 (z5J 4 [.int .u8 0]) true 2:=Zo underlying97 q5 ⟨_,(by kernel_rfl:prog.info? 97=some t97),rfl⟩
def q98:EqP prog 98 (V6 [([.int .i64 0],false),([.int .i64 0],false)]) true 2:=Xj underlying98 (by kernel_rfl) ⟨_,(by kernel_rfl:prog.info? 98=some t98),rfl⟩ (by decide) (ya.cons (by decide) rfl (q3.mono (by decide)) (ya.cons (by decide) rfl (q3.mono (by decide)) (ya.nil)))
def q99:EqP prog 99 (V6 [([.int .i64 0],false),([.int .i64 0],false)]) true 2:=Xj underlying99 (by kernel_rfl) ⟨_,(by kernel_rfl:prog.info? 99=some t99),rfl⟩ (by decide) (ya.cons (by decide) rfl (q3.mono (by decide)) (ya.cons (by decide) rfl (q3.mono (by decide)) (ya.nil)))
def zoW:EqP prog 120 (z5J 5 [.int .i64 0]) true 2:=Zo underlying120 q33 ⟨_,(by kernel_rfl:prog.info? 120=some t120),rfl⟩
def q21:EqP prog 21 [.int .i32 0] false 1:=z12 (k:=.int .i32) underlying21 ⟨_,(by kernel_rfl:prog.info? 21=some t21),rfl⟩ rfl
def zpf:EqP prog 161 (z5J 16 [.int .i32 0]) true 2:=Zo underlying161 q21 ⟨_,(by kernel_rfl:prog.info? 161=some t161),rfl⟩
def zoV:EqP prog 162 (z5J 16 [.int .i32 0]) true 2:=Zo underlying162 q21 ⟨_,(by kernel_rfl:prog.info? 162=some t162),rfl⟩
def zpe:EqP prog 216 (V6 [([.int .i64 0],false),([.int .i64 0],false),([.int .i64 0],false)]) true 2:=Xj underlying216 (by kernel_rfl) ⟨_,(by kernel_rfl:prog.info? 216=some t216),rfl⟩ (by decide) (ya.cons (by decide) rfl (q3.mono (by decide)) (ya.cons (by decide) rfl (q3.mono (by decide)) (ya.cons (by decide) rfl (q3.mono (by decide)) (ya.nil))))
def zoU:EqP prog 217 (V6 [([.int .i64 0],false),([.int .i64 0],false),([.int .i64 0],false)]) true 2:=Xj underlying217 (by kernel_rfl) ⟨_,(by kernel_rfl:prog.info? 217=some t217),rfl⟩ (by decide) (ya.cons (by decide) rfl (q3.mono (by decide)) (ya.cons (by decide) rfl (q3.mono (by decide)) (ya.cons (by decide) rfl (q3.mono (by decide)) (ya.nil))))
def zma:EqP prog 227 (z5J 2 [.int .i64 0]) true 2:=Zo underlying227 q3 ⟨_,(by kernel_rfl:prog.info? 227=some t227),rfl⟩
def zpd:EqP prog 255 (z5J 16 [.int .i64 0,.int .i64 0]) true 3:=Zo underlying255 zma ⟨_,(by kernel_rfl:prog.info? 255=some t255),rfl⟩
def zm9:EqP prog 256 (z5J 16 [.int .i64 0,.int .i64 0]) true 3:=Zo underlying256 zma ⟨_,(by kernel_rfl:prog.info? 256=some t256),rfl⟩
def zpc:EqP prog 258 (V6 [([.int .i64 0],false),([.int .i64 0,.int .i64 0,.int .i64 0,.int .i64 0,.int .i64 0,.int .i64 0,.int .i64 0,.int .i64 0,.int .i64 0,.int .i64 0,.int .i64 0,.int .i64 0,.int .i64 0,.int .i64 0,.int .i64 0,.int .i64 0,.int .i64 0,.int .i64 0,.int .i64 0,.int .i64 0,.int .i64 0,.int .i64 0,.int .i64 0,.int .i64 0,.int .i64 0,.int .i64 0,.int .i64 0,.int .i64 0,.int .i64 0,.int .i64 0,.int .i64 0,.int .i64 0],true)]) true 4:=Xj underlying258 (by kernel_rfl) ⟨_,(by kernel_rfl:prog.info? 258=some t258),rfl⟩ (by decide) (ya.cons (by decide) rfl (q3.mono (by decide)) (ya.cons (by decide) rfl (zm9.mono (by decide)) (ya.nil)))
def znI:EqP prog 259 (V6 [([.int .i64 0],false),([.int .i64 0,.int .i64 0,.int .i64 0,.int .i64 0,.int .i64 0,.int .i64 0,.int .i64 0,.int .i64 0,.int .i64 0,.int .i64 0,.int .i64 0,.int .i64 0,.int .i64 0,.int .i64 0,.int .i64 0,.int .i64 0,.int .i64 0,.int .i64 0,.int .i64 0,.int .i64 0,.int .i64 0,.int .i64 0,.int .i64 0,.int .i64 0,.int .i64 0,.int .i64 0,.int .i64 0,.int .i64 0,.int .i64 0,.int .i64 0,.int .i64 0,.int .i64 0],true)]) true 4:=Xj underlying259 (by kernel_rfl) ⟨_,(by kernel_rfl:prog.info? 259=some t259),rfl⟩ (by decide) (ya.cons (by decide) rfl (q3.mono (by decide)) (ya.cons (by decide) rfl (zm9.mono (by decide)) (ya.nil)))
end Go.Ex

namespace Go.Own
open Go.Proofs.Tryz
open Go.Proofs
def zlt:Value->Bool
 | .int _ _=>true
 | _=>false
def z6g:∀{z vs us:TE} {r:Bool},z.all zlt=true->z.length=vs.length->yY vs us=some r->Go.Ex.z51 z vs=true/\Go.Ex.yY vs us=some r
 | [],[],us,r,_,_,h=>by
  cases us with
  | nil=>simp only[yY,Option.some.injEq]at h;subst h;exact⟨rfl,rfl⟩
  | cons u us=>simp[yY]at h
 | a::z,v::vs,us,r,hz,hl,h=>by
  have q:∃k x u' k' y,v=.int k x/\us=.int k' y::u'/\k=k':=by
   cases us with
   | nil=>cases v <;> simp[yY]at h
   | cons u us=>cases v <;> cases u <;> simp[yY]at h;exact⟨_,_,_,_,_,rfl,rfl,h.1⟩
  obtain⟨k,x,u',k',y,rfl,rfl,hk⟩:=q;simp only[yY,hk,if_true,pT]at h;obtain⟨r',e1,rfl⟩:=h;simp only[List.all_cons,pE]at hz;obtain⟨q1,q2⟩:=z6g hz.2 (by simpa using hl) e1;refine⟨?_,by simp[Go.Ex.yY,hk,q2]⟩;cases a <;> first|(simp[zlt]at hz;done)|simpa[Go.Ex.z51] using q1
 | [],_::_,_,_,_,hl,_=>by simp at hl
 | _::_,[],_,_,_,hl,_=>by simp at hl
variable {P:Program}{z:TE}
def zhF {t n:Nat}{i:Go.Ex.EI}(h:Go.Ex.zci P t i)  (hz:i.zero=some z)(hi:z.all zlt=true)(hs:i.size=n)(hn:z.length=n):zci P t n:={
 guard:=h.guard
 run:=λvs us r w hv hu he=>by obtain⟨q1,q2⟩:=z6g hi (by rw[hn,hv]) he;exact h.run vs us r w (by rw[hs];exact hv) (by rw[hs];exact hu) (by simpa only[Go.Ex.zmF,hz] using q1) q2 }
def exq {t dep:Nat}  (q:Go.Ex.EqP P t z true dep)(h1:Nat.ble dep P.depth=true:=by kernel_rfl)(h2:dep<=10000:=by decide):Go.Ex.zci P t ⟨.func,z.length,0,some z,true⟩:=Go.Ex.zhE q rfl rfl (Nat.le_of_ble_eq_true h1) h2
def z0x {t n dep:Nat}  (q:Go.Ex.EqP P t z true dep)(hi:z.all zlt=true)(hn:z.length=n)(h1:Nat.ble dep P.depth=true:=by kernel_rfl)(h2:dep<=10000:=by decide):zci P t n:=zhF (exq q h1 h2) rfl hi hn hn
variable {h:Array Obj}{S:zm}
def zbx {v:Value}(hv:v.oneCell'=true):zK S h (.atom v) [v] []:=by simp only[zK,Rep];exact⟨⟨trivial,hv⟩,trivial⟩
def zeJ (sz:Nat):zK S h (.osl sz true []) [.slice none 0 0] []:=by simp only[zK];exact⟨none,0,rfl,(λ_=>rfl),pi _,pO _,by simp,.inl ⟨trivial,rfl,rfl,trivial⟩⟩
def z8z {sz:Nat}:zK S h (.dop (nlQ sz [])) [.slice none 0 0] []:=by simp only[zK,Rep];exact⟨⟨_,rfl,zaD.2 ⟨by simp[Rep],λ_=>rfl⟩⟩,trivial⟩
variable {a:A}
def Kr {c:TE}(q:zK S h a c []):∀n,zQ S h (List.replicate n a) (List.replicate n c).flatten []
 | 0=>by simp[zQ]
 | n+1=>by rw[nu,nu,List.flatten_cons];simp only[zQ];exact⟨c,_,[],[],rfl,rfl,q,Kr q n⟩
def zkX {c c':TE}(q:zK S h a c [])(e:c'=c):zK S h a c' []:=e ▸ q
variable {fs:List A}
def z14 {cs:TE}(q:zQ S h fs cs []):zK S h (.agg fs) cs []:=by simpa only[zK] using q
def zbv:zQ S h [] [] []:=by simp[zQ]
def zbw {c1 c2:TE}(q1:zK S h a c1 [])(q2:zQ S h fs c2 []):zQ S h (a::fs) (c1++c2) []:=by simp only[zQ];exact⟨c1,c2,[],[],rfl,rfl,q1,q2⟩
def zc:A->Option TE
 | .atom v=>if v.oneCell'=true then some [v] else none
 | .osl _ true []=>some [.slice none 0 0]
 | .agg fs=>zcs fs
 | _=>none
where zcs:List A->Option TE
 | []=>some []
 | a::l=>match zc a,zcs l with|some c,some d=>some (c++d)|_,_=>none
mutual
def zis:∀{a:A} {c:TE},zc a=some c->zK S h a c []
 | .atom v,c,e=>by
  simp only[zc]at e;split at e
  ·rename_i q;cases e;exact zbx q
  cases e
 | .osl sz true [],c,e=>by simp only[zc]at e;cases e;exact zeJ sz
 | .agg fs,c,e=>z14 (zfh (by simpa only[zc] using e))
def zfh:∀{l:List A} {c:TE},zc.zcs l=some c->zQ S h l c []
 | [],c,e=>by simp only[zc.zcs]at e;cases e;exact zbv
 | a::l,c,e=>by
  simp only[zc.zcs]at e;split at e
  ·rename_i c d e1 e2;cases e;exact zbw (zis e1) (zfh e2)
  cases e
end
def zq (z:Option A)(v:Option Value)(n:Nat):Prop:=match z,v with|some z,some v=>z.size=n/\zc z=some v.cells.toList|none,_=>True|_,_=>False
def tiq {t:Nat}{i:TI}(f:TypeInfo)(k:z2y P t i.kind)(e:i.eqn=true->zci P t i.size:=by intro h;cases h)(h:P.info? t=some f:=by kernel_rfl)(h2:f.size=i.size:=by rfl)(h3:f.bytes=i.bytes:=by rfl)(h4:zq i.zero f.zero i.size:=by exact And.intro rfl rfl):wH P t i :=
 ⟨⟨f,h,h2,h3,λz hz=>by
  rw[hz]at h4;cases hv:f.zero with
  | none=>rw[hv]at h4;exact h4.elim
  | some v=>rw[hv]at h4;exact⟨v,rfl,h4.1,λS h=>zis h4.2⟩⟩,k,e⟩
def ti1:TI:=⟨.other,1,8,some (.atom .nilFunc),false⟩
def zj6:wH prog 1 ti1:=tiq Tryz.t1 ⟨_,underlying1,rfl⟩
def ti2:TI:=⟨.int .i64,1,8,some (.atom (.int .i64 0)),false⟩
def ziG:wH prog 2 ti2:=tiq Tryz.t2 (underlying2)
def ti3:TI:=⟨.int .i64,1,8,some (.atom (.int .i64 0)),false⟩
def ziF:wH prog 3 ti3:=tiq Tryz.t3 (underlying3)
def ti4:TI:=⟨.bool,1,1,some (.atom (.bool false)),false⟩
def ziE:wH prog 4 ti4:=tiq Tryz.t4 (underlying4)
def ti5:TI:=⟨.int .u8,1,1,some (.atom (.int .u8 0)),false⟩
def ziD:wH prog 5 ti5:=tiq Tryz.t5 (underlying5)
def ti9:TI:=⟨.str,1,16,some (.atom (.string ⟨#[]⟩)),false⟩
def ziC:wH prog 9 ti9:=tiq Tryz.t9 (underlying9)
def znz:TI:=⟨.other,1,16,some (.atom .nilIface),false⟩
def zgv:wH prog 20 znz:=tiq t20 ⟨_,underlying20,rfl⟩
def zny:TI:=⟨.int .i32,1,4,some (.atom (.int .i32 0)),false⟩
def zgu:wH prog 21 zny:=tiq t21 (underlying21)
def znx:TI:=⟨.slice 5,1,24,some (.osl 1 true []),false⟩
def zgt:wH prog 22 znx:=tiq Tryz.t22 (underlying22)
def znw:TI:=⟨.slice 43,1,24,some (.osl 1 true []),false⟩
def zgs:wH prog 23 znw:=tiq t23 (underlying23)
def znv:TI:=⟨.struct [(0,1),(1,1),(2,1),(3,1),(4,1)],5,56,some (.agg [.atom (.int .u8 0),.atom (.int .u8 0),.atom (.int .u8 0),.osl 1 true [],.osl 1 true []]),false⟩
def zgr:wH prog 25 znv:=tiq Tryz.t25 ⟨_,underlying25,by kernel_rfl,by
  intro f hf;simp only[pm,pY,or_false]at hf;rcases hf with rfl|rfl|rfl|rfl|rfl
  ·exact⟨Tryz.t5,by kernel_rfl⟩
  ·exact⟨Tryz.t5,by kernel_rfl⟩
  ·exact⟨Tryz.t5,by kernel_rfl⟩
  ·exact⟨Tryz.t22,by kernel_rfl⟩
  exact⟨t23,by kernel_rfl⟩⟩
def znu:TI:=⟨.struct [(0,5)],5,56,some (.agg [.agg [.atom (.int .u8 0),.atom (.int .u8 0),.atom (.int .u8 0),.osl 1 true [],.osl 1 true []]]),false⟩
def zgq:wH prog 27 znu:=tiq t27 ⟨_,underlying27,by kernel_rfl,by
  intro f hf;simp only[pm,pY,or_false]at hf;rcases hf with rfl
  ·exact⟨Tryz.t25,by kernel_rfl⟩⟩
def znt:TI:=⟨.slice 96,1,24,some (.osl 1 true []),false⟩
def zgp:wH prog 28 znt:=tiq t28 (underlying28)
def zns:TI:=⟨.struct [(0,1),(1,1),(2,1)],3,40,some (.agg [.atom (.int .i64 0),.atom (.int .i64 0),.osl 1 true []]),false⟩
def zgo:wH prog 30 zns:=tiq t30 ⟨_,underlying30,by kernel_rfl,by
  intro f hf;simp only[pm,pY,or_false]at hf;rcases hf with rfl|rfl|rfl
  ·exact⟨Tryz.t3,by kernel_rfl⟩
  ·exact⟨Tryz.t3,by kernel_rfl⟩
  exact⟨t28,by kernel_rfl⟩⟩
def znr:TI:=⟨.slice 51,1,24,some (.osl 1 true []),false⟩
def zgn:wH prog 32 znr:=tiq t32 (underlying32)
def znq:TI:=⟨.int .i64,1,8,some (.atom (.int .i64 0)),false⟩
def zgm:wH prog 33 znq:=tiq t33 (underlying33)
def znp:TI:=⟨.array 3 3,3,24,some (.agg [.atom (.int .i64 0),.atom (.int .i64 0),.atom (.int .i64 0)]),true⟩
def zgl:wH prog 36 znp:=tiq t36 (underlying36) (λ_=>z0x Go.Ex.q36 rfl rfl)
def zno:TI:=⟨.other,1,8,some (.atom .nilFunc),false⟩
def zgk:wH prog 41 zno:=tiq t41 ⟨_,underlying41,rfl⟩
def znn:TI:=⟨.int .u16,1,2,some (.atom (.int .u16 0)),false⟩
def zgj:wH prog 43 znn:=tiq t43 (underlying43)
def znm:TI:=⟨.slice 3,1,24,some (.osl 1 true []),false⟩
def zgi:wH prog 51 znm:=tiq t51 (underlying51)
def znl:TI:=⟨.struct [],0,0,some (.agg []),false⟩
def zgh:wH prog 77 znl:=tiq Tryz.t77 ⟨_,underlying77,by kernel_rfl,by intro f hf;cases hf⟩
def znk:TI:=⟨.struct [],0,0,some (.agg []),false⟩
def zgg:wH prog 78 znk:=tiq t78 ⟨_,underlying78,by kernel_rfl,by intro f hf;cases hf⟩
def znj:TI:=⟨.struct [],0,0,some (.agg []),false⟩
def zgf:wH prog 79 znj:=tiq t79 ⟨_,underlying79,by kernel_rfl,by intro f hf;cases hf⟩
def zni:TI:=⟨.ptr 119,1,8,some (.atom (.pointer none)),false⟩
def zge:wH prog 80 zni:=tiq t80 (underlying80)
def znh:TI:=⟨.slice 85,1,24,some (.osl 1 true []),false⟩
def zgd:wH prog 83 znh:=tiq t83 (underlying83)
def zng:TI:=⟨.other,1,16,some (.atom .nilIface),false⟩
def zgc:wH prog 85 zng:=tiq t85 ⟨_,underlying85,rfl⟩
def znf:TI:=⟨.ptr 91,1,8,some (.atom (.pointer none)),false⟩
def zgb:wH prog 86 znf:=tiq t86 (underlying86)
def zne:TI:=⟨.slice 162,1,24,some (.osl 16 true []),false⟩
def zga:wH prog 89 zne:=tiq t89 (underlying89)
def znd:TI:=⟨.struct [(0,1),(1,1),(2,1)],3,40,some (.agg [.osl 16 true [],.atom (.int .i64 0),.atom (.int .i64 0)]),false⟩
def zg9:wH prog 91 znd:=tiq t91 ⟨_,underlying91,by kernel_rfl,by
  intro f hf;simp only[pm,pY,or_false]at hf;rcases hf with rfl|rfl|rfl
  ·exact⟨t89,by kernel_rfl⟩
  ·exact⟨Tryz.t3,by kernel_rfl⟩
  exact⟨Tryz.t3,by kernel_rfl⟩⟩
def znc:TI:=⟨.slice 99,1,24,some (.osl 2 true []),false⟩
def zg8:wH prog 96 znc:=tiq t96 (underlying96)
def znb:TI:=⟨.struct [(0,1),(1,1)],2,16,some (.agg [.atom (.int .i64 0),.atom (.int .i64 0)]),true⟩
def zg7:wH prog 99 znb:=tiq t99 ⟨_,underlying99,by kernel_rfl,by
  intro f hf;simp only[pm,pY,or_false]at hf;rcases hf with rfl|rfl
  ·exact⟨Tryz.t3,by kernel_rfl⟩
  exact⟨Tryz.t3,by kernel_rfl⟩⟩ (λ_=>z0x Go.Ex.q99 rfl rfl)
def zjF:TI:=⟨.slice 4,1,24,some (.osl 1 true []),false⟩
def zdi:wH prog 101 zjF:=tiq t101 (underlying101)
def zjE:TI:=⟨.slice 101,1,24,some (.osl 1 true []),false⟩
def zdh:wH prog 102 zjE:=tiq t102 (underlying102)
def zjD:TI:=⟨.other,1,8,some (.atom .nilFunc),false⟩
def zdg:wH prog 109 zjD:=tiq t109 ⟨_,underlying109,rfl⟩
def zjC:TI:=⟨.other,1,8,some (.atom .nilFunc),false⟩
def zdf:wH prog 110 zjC:=tiq t110 ⟨_,underlying110,rfl⟩
def zjB:TI:=⟨.slice 32,1,24,some (.osl 1 true []),false⟩
def zde:wH prog 117 zjB:=tiq t117 (underlying117)
def zjA:TI:=⟨.struct [(0,3),(3,1),(4,1),(5,1),(6,1),(7,1),(8,1)],9,184,some (.agg [.agg [.atom (.int .i64 0),.atom (.int .i64 0),.osl 1 true []],.osl 1 true [],.osl 1 true [],.osl 1 true [],.osl 1 true [],.osl 1 true [],.osl 1 true []]),false⟩
def zdd:wH prog 119 zjA:=tiq t119 ⟨_,underlying119,by kernel_rfl,by
  intro f hf;simp only[pm,pY,or_false]at hf;rcases hf with rfl|rfl|rfl|rfl|rfl|rfl|rfl
  ·exact⟨t30,by kernel_rfl⟩
  ·exact⟨t32,by kernel_rfl⟩
  ·exact⟨t32,by kernel_rfl⟩
  ·exact⟨t32,by kernel_rfl⟩
  ·exact⟨t117,by kernel_rfl⟩
  ·exact⟨t32,by kernel_rfl⟩
  exact⟨t32,by kernel_rfl⟩⟩
def zjz:TI:=⟨.array 5 33,5,40,some (.agg [.atom (.int .i64 0),.atom (.int .i64 0),.atom (.int .i64 0),.atom (.int .i64 0),.atom (.int .i64 0)]),true⟩
def zdc:wH prog 120 zjz:=tiq t120 (underlying120) (λ_=>z0x Go.Ex.zoW rfl rfl)
def zjy:TI:=⟨.struct [],0,0,some (.agg []),false⟩
def zdb:wH prog 124 zjy:=tiq t124 ⟨_,underlying124,by kernel_rfl,by intro f hf;cases hf⟩
def zjx:TI:=⟨.other,1,8,some (.atom .nilFunc),false⟩
def zda:wH prog 130 zjx:=tiq t130 ⟨_,underlying130,rfl⟩
def zjw:TI:=⟨.other,1,8,some (.atom .nilFunc),false⟩
def zd9:wH prog 132 zjw:=tiq t132 ⟨_,underlying132,rfl⟩
def zjv:TI:=⟨.other,1,8,some (.atom .nilFunc),false⟩
def zd8:wH prog 133 zjv:=tiq t133 ⟨_,underlying133,rfl⟩
def zju:TI:=⟨.other,1,8,some (.atom .nilFunc),false⟩
def zd7:wH prog 134 zju:=tiq t134 ⟨_,underlying134,rfl⟩
def zjt:TI:=⟨.struct [(0,1),(1,1)],2,16,some (.agg [.atom (.int .i64 0),.atom .nilFunc]),false⟩
def zd6:wH prog 141 zjt:=tiq t141 ⟨_,underlying141,by kernel_rfl,by
  intro f hf;simp only[pm,pY,or_false]at hf;rcases hf with rfl|rfl
  ·exact⟨t33,by kernel_rfl⟩
  exact⟨t41,by kernel_rfl⟩⟩
def zjs:TI:=⟨.array 3 141,6,48,some (.agg [.agg [.atom (.int .i64 0),.atom .nilFunc],.agg [.atom (.int .i64 0),.atom .nilFunc],.agg [.atom (.int .i64 0),.atom .nilFunc]]),false⟩
def zd5:wH prog 142 zjs:=tiq t142 (underlying142)
def zjr:TI:=⟨.other,1,8,some (.atom .nilFunc),false⟩
def zd4:wH prog 144 zjr:=tiq t144 ⟨_,underlying144,rfl⟩
def zjq:TI:=⟨.slice 187,1,24,some (.osl 2 true []),false⟩
def zd3:wH prog 151 zjq:=tiq t151 (underlying151)
def zjp:TI:=⟨.struct [(0,1),(1,1)],2,32,some (.agg [.atom (.int .i64 0),.osl 2 true []]),false⟩
def zd2:wH prog 153 zjp:=tiq t153 ⟨_,underlying153,by kernel_rfl,by
  intro f hf;simp only[pm,pY,or_false]at hf;rcases hf with rfl|rfl
  ·exact⟨Tryz.t3,by kernel_rfl⟩
  exact⟨t151,by kernel_rfl⟩⟩
def zjo:TI:=⟨.ptr 153,1,8,some (.atom (.pointer none)),false⟩
def zd1:wH prog 154 zjo:=tiq t154 (underlying154)
def zjn:TI:=⟨.other,1,8,some (.atom .nilFunc),false⟩
def zd0:wH prog 156 zjn:=tiq t156 ⟨_,underlying156,rfl⟩
def zjm:TI:=⟨.struct [(0,1),(1,1)],2,32,some (.agg [.atom (.int .i32 0),.osl 1 true []]),false⟩
def zcZ:wH prog 159 zjm:=tiq t159 ⟨_,underlying159,by kernel_rfl,by
  intro f hf;simp only[pm,pY,or_false]at hf;rcases hf with rfl|rfl
  ·exact⟨t21,by kernel_rfl⟩
  exact⟨t51,by kernel_rfl⟩⟩
def zjl:TI:=⟨.slice 159,1,24,some (.osl 2 true []),false⟩
def zcY:wH prog 160 zjl:=tiq t160 (underlying160)
def zjk:TI:=⟨.array 16 21,16,64,some (.agg [.atom (.int .i32 0),.atom (.int .i32 0),.atom (.int .i32 0),.atom (.int .i32 0),.atom (.int .i32 0),.atom (.int .i32 0),.atom (.int .i32 0),.atom (.int .i32 0),.atom (.int .i32 0),.atom (.int .i32 0),.atom (.int .i32 0),.atom (.int .i32 0),.atom (.int .i32 0),.atom (.int .i32 0),.atom (.int .i32 0),.atom (.int .i32 0)]),true⟩
def zcX:wH prog 162 zjk:=tiq t162 (underlying162) (λ_=>z0x Go.Ex.zoV rfl rfl)
def zjj:TI:=⟨.other,1,8,some (.atom .nilFunc),false⟩
def zcW:wH prog 167 zjj:=tiq t167 ⟨_,underlying167,rfl⟩
def zji:TI:=⟨.other,1,8,some (.atom .nilFunc),false⟩
def zcV:wH prog 168 zji:=tiq t168 ⟨_,underlying168,rfl⟩
def zjh:TI:=⟨.other,1,8,some (.atom .nilFunc),false⟩
def zcU:wH prog 174 zjh:=tiq t174 ⟨_,underlying174,rfl⟩
def zjg:TI:=⟨.other,1,8,some (.atom .nilFunc),false⟩
def zcT:wH prog 175 zjg:=tiq t175 ⟨_,underlying175,rfl⟩
def zjf:TI:=⟨.other,1,8,some (.atom .nilFunc),false⟩
def zcS:wH prog 181 zjf:=tiq t181 ⟨_,underlying181,rfl⟩
def zje:TI:=⟨.other,1,8,some (.atom .nilFunc),false⟩
def zcR:wH prog 182 zje:=tiq t182 ⟨_,underlying182,rfl⟩
def zjd:TI:=⟨.struct [(0,1),(1,1)],2,32,some (.agg [.atom (.int .i64 0),.osl 1 true []]),false⟩
def zcQ:wH prog 185 zjd:=tiq t185 ⟨_,underlying185,by kernel_rfl,by
  intro f hf;simp only[pm,pY,or_false]at hf;rcases hf with rfl|rfl
  ·exact⟨Tryz.t3,by kernel_rfl⟩
  exact⟨t51,by kernel_rfl⟩⟩
def zjc:TI:=⟨.struct [(0,1),(1,1)],2,32,some (.agg [.osl 1 true [],.atom (.bool false)]),false⟩
def zcP:wH prog 186 zjc:=tiq t186 ⟨_,underlying186,by kernel_rfl,by
  intro f hf;simp only[pm,pY,or_false]at hf;rcases hf with rfl|rfl
  ·exact⟨t51,by kernel_rfl⟩
  exact⟨Tryz.t4,by kernel_rfl⟩⟩
def zjb:TI:=⟨.struct [(0,1),(1,1)],2,32,some (.agg [.osl 1 true [],.atom (.bool false)]),false⟩
def zcO:wH prog 187 zjb:=tiq t187 ⟨_,underlying187,by kernel_rfl,by
  intro f hf;simp only[pm,pY,or_false]at hf;rcases hf with rfl|rfl
  ·exact⟨t51,by kernel_rfl⟩
  exact⟨Tryz.t4,by kernel_rfl⟩⟩
def zja:TI:=⟨.other,1,8,some (.atom .nilFunc),false⟩
def zcN:wH prog 189 zja:=tiq t189 ⟨_,underlying189,rfl⟩
def zj9:TI:=⟨.other,1,8,some (.atom .nilFunc),false⟩
def zcM:wH prog 191 zj9:=tiq t191 ⟨_,underlying191,rfl⟩
def zj8:TI:=⟨.other,1,8,some (.atom .nilFunc),false⟩
def zcL:wH prog 192 zj8:=tiq t192 ⟨_,underlying192,rfl⟩
def zj7:TI:=⟨.other,1,8,some (.atom .nilFunc),false⟩
def zcK:wH prog 199 zj7:=tiq t199 ⟨_,underlying199,rfl⟩
def zj5:TI:=⟨.slice 227,1,24,some (.osl 2 true []),false⟩
def zcJ:wH prog 202 zj5:=tiq t202 (underlying202)
def zj4:TI:=⟨.other,1,8,some (.atom .nilFunc),false⟩
def zcI:wH prog 204 zj4:=tiq t204 ⟨_,underlying204,rfl⟩
def zj3:TI:=⟨.other,1,8,some (.atom .nilFunc),false⟩
def zcH:wH prog 205 zj3:=tiq t205 ⟨_,underlying205,rfl⟩
def zj2:TI:=⟨.int .u64,1,8,some (.atom (.int .u64 0)),false⟩
def zcG:wH prog 209 zj2:=tiq t209 (underlying209)
def zj1:TI:=⟨.other,1,8,some (.atom .nilFunc),false⟩
def zcF:wH prog 210 zj1:=tiq t210 ⟨_,underlying210,rfl⟩
def zj0:TI:=⟨.slice 185,1,24,some (.osl 2 true []),false⟩
def zcE:wH prog 211 zj0:=tiq t211 (underlying211)
def ziZ:TI:=⟨.other,1,8,some (.atom .nilFunc),false⟩
def zcD:wH prog 213 ziZ:=tiq t213 ⟨_,underlying213,rfl⟩
def ziY:TI:=⟨.other,1,8,some (.atom .nilFunc),false⟩
def zcC:wH prog 214 ziY:=tiq t214 ⟨_,underlying214,rfl⟩
def ziX:TI:=⟨.struct [(0,1),(1,1),(2,1)],3,24,some (.agg [.atom (.int .i64 0),.atom (.int .i64 0),.atom (.int .i64 0)]),true⟩
def zcB:wH prog 217 ziX:=tiq t217 ⟨_,underlying217,by kernel_rfl,by
  intro f hf;simp only[pm,pY,or_false]at hf;rcases hf with rfl|rfl|rfl
  ·exact⟨Tryz.t3,by kernel_rfl⟩
  ·exact⟨Tryz.t3,by kernel_rfl⟩
  exact⟨Tryz.t3,by kernel_rfl⟩⟩ (λ_=>z0x Go.Ex.zoU rfl rfl)
def ziW:TI:=⟨.other,1,8,some (.atom (.map none)),false⟩
def zcA:wH prog 218 ziW:=tiq t218 ⟨_,underlying218,rfl⟩
def ziV:TI:=⟨.array 64 51,64,1536,some (.agg (List.replicate 64 (.dop (nlQ 1 [])))),false⟩
def zcz:wH prog 221 ziV:=⟨⟨t221,by kernel_rfl,rfl,rfl,λz h=>by cases h;exact⟨_,rfl,by kernel_rfl,λS h=>zkX (z14 (Kr (z8z) 64)) (by kernel_rfl)⟩⟩,underlying221,by intro h;cases h⟩
def ziU:TI:=⟨.ptr 246,1,8,some (.atom (.pointer none)),false⟩
def zcy:wH prog 222 ziU:=tiq t222 (underlying222)
def ziT:TI:=⟨.other,1,8,some (.atom .nilFunc),false⟩
def zcx:wH prog 224 ziT:=tiq t224 ⟨_,underlying224,rfl⟩
def ziS:TI:=⟨.other,1,8,some (.atom .nilFunc),false⟩
def zcw:wH prog 225 ziS:=tiq t225 ⟨_,underlying225,rfl⟩
def ziR:TI:=⟨.array 2 3,2,16,some (.agg [.atom (.int .i64 0),.atom (.int .i64 0)]),true⟩
def zcv:wH prog 227 ziR:=tiq t227 (underlying227) (λ_=>z0x Go.Ex.zma rfl rfl)
def ziQ:TI:=⟨.other,1,8,some (.atom .nilFunc),false⟩
def zcu:wH prog 229 ziQ:=tiq t229 ⟨_,underlying229,rfl⟩
def ziP:TI:=⟨.other,1,8,some (.atom .nilFunc),false⟩
def zct:wH prog 243 ziP:=tiq t243 ⟨_,underlying243,rfl⟩
def ziO:TI:=⟨.slice 217,1,24,some (.osl 3 true []),false⟩
def zcr:wH prog 244 ziO:=tiq t244 (underlying244)
def ziN:TI:=⟨.array 64 221,4096,98304,some (.agg (List.replicate 64 (.agg (List.replicate 64 (.dop (nlQ 1 [])))))),false⟩
def zcq:wH prog 246 ziN:=⟨⟨t246,by kernel_rfl,rfl,rfl,λz h=>by cases h;exact⟨_,rfl,by kernel_rfl,λS h=>zkX (z14 (Kr (z14 (Kr (z8z) 64)) 64)) (by kernel_rfl)⟩⟩,underlying246,by intro h;cases h⟩
def ziM:TI:=⟨.slice 251,1,24,some (.osl 4 true []),false⟩
def zcp:wH prog 247 ziM:=tiq t247 (underlying247)
def ziL:TI:=⟨.struct [(0,1),(1,1),(2,1),(3,1)],4,48,some (.agg [.atom (.int .i64 0),.atom (.int .i64 0),.osl 1 true [],.atom (.bool false)]),false⟩
def zco:wH prog 251 ziL:=tiq t251 ⟨_,underlying251,by kernel_rfl,by
  intro f hf;simp only[pm,pY,or_false]at hf;rcases hf with rfl|rfl|rfl|rfl
  ·exact⟨Tryz.t3,by kernel_rfl⟩
  ·exact⟨Tryz.t3,by kernel_rfl⟩
  ·exact⟨t51,by kernel_rfl⟩
  exact⟨Tryz.t4,by kernel_rfl⟩⟩
def ziK:TI:=⟨.other,1,8,some (.atom .nilFunc),false⟩
def zcn:wH prog 253 ziK:=tiq t253 ⟨_,underlying253,rfl⟩
def ziJ:TI:=⟨.other,1,8,some (.atom (.map none)),false⟩
def zcm:wH prog 254 ziJ:=tiq t254 ⟨_,underlying254,rfl⟩
def ziI:TI:=⟨.array 16 227,32,256,some (.agg [.agg [.atom (.int .i64 0),.atom (.int .i64 0)],.agg [.atom (.int .i64 0),.atom (.int .i64 0)],.agg [.atom (.int .i64 0),.atom (.int .i64 0)],.agg [.atom (.int .i64 0),.atom (.int .i64 0)],.agg [.atom (.int .i64 0),.atom (.int .i64 0)],.agg [.atom (.int .i64 0),.atom (.int .i64 0)],.agg [.atom (.int .i64 0),.atom (.int .i64 0)],.agg [.atom (.int .i64 0),.atom (.int .i64 0)],.agg [.atom (.int .i64 0),.atom (.int .i64 0)],.agg [.atom (.int .i64 0),.atom (.int .i64 0)],.agg [.atom (.int .i64 0),.atom (.int .i64 0)],.agg [.atom (.int .i64 0),.atom (.int .i64 0)],.agg [.atom (.int .i64 0),.atom (.int .i64 0)],.agg [.atom (.int .i64 0),.atom (.int .i64 0)],.agg [.atom (.int .i64 0),.atom (.int .i64 0)],.agg [.atom (.int .i64 0),.atom (.int .i64 0)]]),true⟩
def zcl:wH prog 256 ziI:=tiq t256 (underlying256) (λ_=>z0x Go.Ex.zm9 rfl rfl)
def ziH:TI:=⟨.struct [(0,1),(1,32)],33,264,some (.agg [.atom (.int .i64 0),.agg [.agg [.atom (.int .i64 0),.atom (.int .i64 0)],.agg [.atom (.int .i64 0),.atom (.int .i64 0)],.agg [.atom (.int .i64 0),.atom (.int .i64 0)],.agg [.atom (.int .i64 0),.atom (.int .i64 0)],.agg [.atom (.int .i64 0),.atom (.int .i64 0)],.agg [.atom (.int .i64 0),.atom (.int .i64 0)],.agg [.atom (.int .i64 0),.atom (.int .i64 0)],.agg [.atom (.int .i64 0),.atom (.int .i64 0)],.agg [.atom (.int .i64 0),.atom (.int .i64 0)],.agg [.atom (.int .i64 0),.atom (.int .i64 0)],.agg [.atom (.int .i64 0),.atom (.int .i64 0)],.agg [.atom (.int .i64 0),.atom (.int .i64 0)],.agg [.atom (.int .i64 0),.atom (.int .i64 0)],.agg [.atom (.int .i64 0),.atom (.int .i64 0)],.agg [.atom (.int .i64 0),.atom (.int .i64 0)],.agg [.atom (.int .i64 0),.atom (.int .i64 0)]]]),true⟩
def z7w:wH prog 259 ziH:=tiq t259 ⟨_,underlying259,by kernel_rfl,by
  intro f hf;simp only[pm,pY,or_false]at hf;rcases hf with rfl|rfl
  ·exact⟨Tryz.t3,by kernel_rfl⟩
  exact⟨t256,by kernel_rfl⟩⟩ (λ_=>z0x Go.Ex.znI rfl rfl)
def tiL:List (Nat×TI):=[(1,ti1),(2,ti2),(3,ti3),(4,ti4),(5,ti5),(9,ti9),(20,znz),(21,zny),(22,znx),(23,znw),(25,znv),(27,znu),(28,znt),(30,zns),(32,znr),(33,znq),(36,znp),(41,zno),(43,znn),(51,znm),(77,znl),(78,znk),(79,znj),(80,zni),(83,znh),(85,zng),(86,znf),(89,zne),(91,znd),(96,znc),(99,znb),(101,zjF),(102,zjE),(109,zjD),(110,zjC),(117,zjB),(119,zjA),(120,zjz),(124,zjy),(130,zjx),(132,zjw),(133,zjv),(134,zju),(141,zjt),(142,zjs),(144,zjr),(151,zjq),(153,zjp),(154,zjo),(156,zjn),(159,zjm),(160,zjl),(162,zjk),(167,zjj),(168,zji),(174,zjh),(175,zjg),(181,zjf),(182,zje),(185,zjd),(186,zjc),(187,zjb),(189,zja),(191,zj9),(192,zj8),(199,zj7),(202,zj5),(204,zj4),(205,zj3),(209,zj2),(210,zj1),(211,zj0),(213,ziZ),(214,ziY),(217,ziX),(218,ziW),(221,ziV),(222,ziU),(224,ziT),(225,ziS),(227,ziR),(229,ziQ),(243,ziP),(244,ziO),(246,ziN),(247,ziM),(251,ziL),(253,ziK),(254,ziJ),(256,ziI),(259,ziH)]
def wZ:TT:=λt=>(tiL.find? λp=>p.1==t).map (·.2)
def zca (P:Program):List (Nat×TI)->Prop
 | []=>True
 | p::l=>wH P p.1 p.2/\zca P l
def zca.mem:∀{l:List (Nat×TI)},zca P l->∀p∈l,wH P p.1 p.2
 | p::_,h,q,hq=>by
  rcases pm.1 hq with rfl|hq
  ·exact h.1
  exact zca.mem h.2 q hq
 | [],_,_,hq=>by cases hq
def ziB:zca prog tiL:=⟨zj6,ziG,ziF,ziE,ziD,ziC,zgv,zgu,zgt,zgs,zgr,zgq,zgp,zgo,zgn,zgm,zgl,zgk,zgj,zgi,zgh,zgg,zgf,zge,zgd,zgc,zgb,zga,zg9,zg8,zg7,zdi,zdh,zdg,zdf,zde,zdd,zdc,zdb,zda,zd9,zd8,zd7,zd6,zd5,zd4,zd3,zd2,zd1,zd0,zcZ,zcY,zcX,zcW,zcV,zcU,zcT,zcS,zcR,zcQ,zcP,zcO,zcN,zcM,zcL,zcK,zcJ,zcI,zcH,zcG,zcF,zcE,zcD,zcC,zcB,zcA,zcz,zcy,zcx,zcw,zcv,zcu,zct,zcr,zcq,zcp,zco,zcn,zcm,zcl,z7w,trivial⟩
def zl:xW prog wZ:=by intro t i h;unfold wZ at h;rw[pT]at h;obtain⟨p,h1,rfl⟩:=h;have h2:=List.find?_some h1;have h3:=ziB.mem p (List.mem_of_find?_eq_some h1);rw[beq_iff_eq.1 h2]at h3;exact h3
end Go.Own

namespace Go.Proofs
open Go.Proofs.Tryz
open Go.RowKit Go.Lib
def Tryz.groI:(prog.info? 3).map (λi=>(i.size,i.bytes,i.zero))=some (1,8,some (.int .i64 0)):=by kernel_rfl
set_option maxHeartbeats 4000000 in
set_option maxRecDepth 100000 in
def Tryz.gro_run (p:Option Addr)(n:Nat)(w:World)(h0:0<n)(h1:n<=1000000) :
  Calls prog 202 #[.slice p 0 0,.int .i64 n] w λe w'=>
   e=.returned (.slice (some ⟨w.heap.size,0,none⟩) 0 (grownCap w n 0 3)) /\
   w'=w.drew.alloc (.cells (#[]++Builtin.zeroCells (Value.int .i64 0).cells n++Builtin.zeroCells (Value.int .i64 0).cells (grownCap w n 0 3 - n)) 3):=by
 obtain⟨i0,hi0,hi⟩:=pT.1 Tryz.groI;obtain⟨hs0,hi⟩:=Prod.mk.inj hi;obtain⟨hb0,hz0⟩:=Prod.mk.inj hi;have mixed:prog.follows .mixedOrders=true:=by kernel_rfl
 have h1':¬((n:Int)<0):=by omega
 have h3:wrap64 ((n:Int))=(n:Int):=by unfold wrap64;omega
 have h4:(n:Int) > 0:=by omega
 have hold:(Builtin.firstCells i0.size 0 (.slice p 0 0)).run prog w.drew=.ok ([]:List Value).toArray w.drew:=by
  cases p with
  | none=>exact run_firstCells_none w.drew i0.size 0 0 0
  | some a=>exact run_firstCells_some w.drew i0.size 0 a 0 0 [] (by simp) (λj v hj=>by simp at hj)
 have hrz:∀ty,(Builtin.append_ #[51,3] ty #[.slice p 0 0,.int .i64 (n:Int)]).run prog w =
   .ok (.slice (some ⟨w.heap.size,0,none⟩) n (grownCap w n 0 3)) (w.drew.alloc (.cells (#[]++Builtin.zeroCells (Value.int .i64 0).cells n++Builtin.zeroCells (Value.int .i64 0).cells (grownCap w n 0 3 - n)) 3)):=λty=>by
  have h:=Lib.run_append_grow_zeros w 51 3 ty 3 i0 (.int .i64 0) .i64 .i64 underlying51 underlying3 hi0 hz0 p 0 0 [] hold n h0 (by omega) (by omega) (by omega)
   (by rw[hb0];omega)
   (by rw[gJ];exact growslice_fits h0 (by rw[hb0];omega))
  rw[gJ]at h;exact h
 have hGn:n<=grownCap w n 0 3:=grownCap_ge w _ _ _;obtain⟨G,hG⟩:∃G,G=grownCap w n 0 3:=⟨_,rfl⟩;rw[<-hG]at hrz hGn ⊢;have hG63:G<=9223372036854775807:=by have:=grownCap_le_maxLen w n 0 3 (by unfold maxLen;omega);rw[<-hG]at this;unfold maxLen at this;omega
 clear hold hG
 go_enter func202,ntmps202
 cases p with
 | none=>
  go_wp2_with (at_builtin;refine Lib.wpList_append_run _ rfl _ _ _ _ rfl _ _ rfl rfl _ _ (hrz _) ?_)
  all_goals (go_ret;exact⟨rfl,rfl⟩)
 | some a=>
  obtain⟨ab,ao,asp⟩:=a
  go_wp2_with (at_builtin;refine Lib.wpList_append_run _ rfl _ _ _ _ rfl _ _ rfl rfl _ _ (hrz _) ?_)
  all_goals (go_ret;exact⟨rfl,rfl⟩)
end Go.Proofs
namespace Go.Own
open Go.Proofs
def zbb (n:Int)(h0:0<n)(h1:n<=1000000):uR Tryz.prog 202 [.sl 1 true [],eI .i64 n] (.osl 1 false []):=by
 refine⟨⟨_,Tryz.func202,by kernel_rfl,by kernel_rfl⟩,?_⟩;intro S w vs F hS hq hF;obtain⟨m,rfl⟩:∃m:Nat,n=(m:Int):=⟨n.toNat,by omega⟩;match vs,hq with
 | [u,v],q=>
  obtain⟨F1,F2,rfl,q1,F3,F4,rfl,q2,q3⟩:=q;have e3:F4=[]:=q3;subst e3;have d:∀{x:A} {u:Value} {F:TC},x.isD=true->Has S w.heap x u F->wW S x u/\F=[]:=by
   intro x u F hx q;rcases q with⟨q,rfl⟩|⟨cs,q1,q2,q3⟩
   ·exact⟨q.rep1 hx,rfl⟩
   obtain⟨r,rfl⟩:=q1.isD hx;exact⟨⟨cs,r,q3⟩,rfl⟩
  obtain⟨⟨cs,r1,e1⟩,rfl⟩:=d rfl q1;obtain⟨⟨ds,r2,e2⟩,rfl⟩:=d rfl q2;simp only[Rep]at r1;obtain⟨p,c,rfl,hc,_⟩:=r1;obtain rfl:c=0:=by simpa using hc
  have hv:v=.int .i64 (m:Int):=by
   rw[e2];obtain⟨rfl,_⟩:ds=[.int .i64 (m:Int)]/\_:=by simpa only[eI,Rep] using r2
   rfl
  have hu:u=.slice p 0 0:=by rw[e1];rfl
  subst hv hu;refine(Tryz.gro_run p m w (by omega) (by omega)).mono ?_;rintro e' w' ⟨rfl,rfl⟩;have hsz:∀k,(Builtin.zeroCells (Value.int .i64 0).cells k).size=k:=λk=>by simp[Builtin.zeroCells,Value.cells]
  have hGn:m<=grownCap w m 0 3:=grownCap_ge w _ _ _;have hGm:=grownCap_le_maxLen w m 0 3 (by unfold maxLen;omega);have hfr:∀o,S w.heap.size o=none:=λo=>by
   cases hh:S w.heap.size o with
   | none=>rfl
   | some x=>have:=hS _ _ _ hh;simp[y9]at this
  generalize grownCap w m 0 3=G at hGn hGm ⊢;refine⟨_,S,[w.heap.size],rfl,((Xf.refl _ _).drew).alloc (.inl (pi _)) _,λ_ _ _ h=>h,λ_ _ _ _=>rfl,⟨λb o v h=>?_,hS.gok,hS.blk.of (λ_ _ _ q=>q) λg x e=>?_⟩,.inr ⟨[.slice (some ⟨w.heap.size,0,none⟩) 0 G],?_,by simp,rfl⟩,by simp,by simp⟩
  ·have h':=hS _ _ _ h;have hne:b≠w.heap.size:=by rintro rfl;rw[hfr]at h;cases h
   show y9 (w.heap.push _) b o=some v;unfold y9 at h' ⊢;rw[gX,if_neg hne];exact h'
  ·have hlt:=hS.blk.lt e;show(w.heap.push _)[g]?=_;rw[gX,if_neg (by omega)]
  simp only[zK];refine⟨_,G,rfl,by simp,by simp,hGm,by simp,.inr ⟨w.heap.size,_,3,[],[],rfl,by show(w.heap.push _)[w.heap.size]?=_;rw[gX,if_pos rfl],?_,by simp,⟨rfl,rfl⟩,rfl,hfr⟩⟩;simp only[Array.size_append,hsz,Array.size_empty];omega
end Go.Own

namespace Go.Proofs
open Go.Proofs.Tryz
open Go.RowKit Go.Lib
def Tryz.meth77 (w:World):(method 392 77 (.agg #[]) "gauntlet/suites.fill").run prog w=.ok (218,.agg #[]) w:=by kernel_rfl
def Tryz.meth78 (w:World):(method 392 78 (.agg #[]) "gauntlet/suites.fill").run prog w=.ok (220,.agg #[]) w:=by kernel_rfl
def Tryz.meth79 (w:World):(method 392 79 (.agg #[]) "gauntlet/suites.fill").run prog w=.ok (229,.agg #[]) w:=by kernel_rfl
def Tryz.tas (w:World):(Instr.typeAssert (.iface 124 (.agg #[])) 20 124 true).run prog w=.ok (.tuple #[.agg #[],.bool true]) w:=by kernel_rfl
def Tryz.mk1 (w:World):(Instr.makeSlice 89 (.int .i64 1) (.int .i64 1)).run prog w=.ok (.slice (some ⟨w.heap.size,0,none⟩) 1 1) (w.alloc (.cells (Array.replicate 16 (.int .i32 0)) 162)):=by
 have h:(prog.info? 162).map (λi=>(i.size,i.bytes,i.zero))=some (16,64,some (.agg (Array.replicate 16 (.int .i32 0)))):=by kernel_rfl
 obtain⟨i0,hi0,hi⟩:=pT.1 h;obtain⟨hs0,hi⟩:=Prod.mk.inj hi;obtain⟨hb0,hz0⟩:=Prod.mk.inj hi;have q:=run_makeSlice (P:=prog) (w:=w) 89 162 i0 _ underlying89 hi0 hz0 .i64 .i64 1 1 (by omega) (by omega) (by rw[hs0];decide) (by rw[hb0];omega) (by omega);rw[hs0,show madeCells (Value.agg (Array.replicate 16 (Value.int .i32 0))).cells (Int.toNat 1*16)=Array.replicate 16 (.int .i32 0) from by kernel_rfl]at q;exact q
def Tryz.gw4 (w:World)(most:Int):World :=
 (((w.alloc (.cells #[.pointer (some ⟨w.heap.size+1+1+1,0,none⟩)] 86)).alloc (.cells #[.bool false] 4)).alloc (.cells (Array.replicate 16 (.int .i32 0)) 162)).alloc (.cells #[.slice (some ⟨w.heap.size+1+1,0,none⟩) 1 1,.int .i64 0,.int .i64 most] 91)
def Tryz.catch_idle (p q:Addr)(w:World) :
  CallsD prog 77 #[.pointer (some p),.pointer (some q)] .returning w λe u' w'=>e=.returned (.tuple #[])/\u'=.returning/\w'=w:=by
 refine callsD_of_wpS func77 rfl λc₀ cs hu=>?_;apply wpS_seq;apply wpS_region;simp[wpOpsS,go_sem,recoverD,hu,ntmps77,Exit.thenS];apply wpS_seq;apply wpS_region;simp[wpOpsS,go_sem,recoverD,hu,ntmps77,Exit.thenS];refine wpS_cond (t:=false) (by simp[Act.eval,Array.replicate]) ?_;simp only[hZ,if_false];refine wpS_of_wp (wp_skip ?_);cases c₀
 simp_all [bodyPostS,results,results77]
def Tryz.catch_panicking (n:Nat)(older:List PanicEntry)(w:World)(x:Value)(y:Value)(h1:w.heap[n]?=some (.cells #[x] 86))(h2:w.heap[n+1]?=some (.cells #[y] 4)) :
  CallsD prog 77 #[.pointer (some ⟨n,0,none⟩),.pointer (some ⟨n+1,0,none⟩)] (.panicking ({ v:=.iface 124 (.agg #[]),recovered:=false }::older)) w λe u' w'=>e=.returned (.tuple #[])/\u'=.panicking ({ v:=.iface 124 (.agg #[]),recovered:=true }::older)/\w'=((w.alloc (.cells #[] 124)).setCell ⟨n,0,none⟩ (.pointer none)).setCell ⟨n+1,0,none⟩ (.bool false):=by
 have ht:=Tryz.tas;refine callsD_of_wpS func77 rfl λc₀ cs hu=>?_;apply wpS_seq;apply wpS_region;simp[wpOpsS,go_sem,recoverD,hu,ntmps77,Exit.thenS];apply wpS_seq;apply wpS_region;simp[wpOpsS,go_sem,recoverD,hu,ntmps77,Exit.thenS];refine wpS_cond (t:=true) (by simp[Act.eval,Array.replicate]) ?_;simp only[if_true];apply wpS_seq;apply wpS_seq;apply wpS_region;simp[wpOpsS,go_sem,recoverD,hu,ntmps77,Exit.thenS,ht];apply wpS_seq;apply wpS_region;simp[wpOpsS,go_sem,recoverD,hu,ntmps77,Exit.thenS,ht];refine wpS_cond (t:=false) (by simp[Act.eval,Array.replicate]) ?_;simp only[hZ,if_false];refine wpS_of_wp (wp_skip ?_);simp only[Exit.thenS];apply wpS_region;have l1:=(pG.1 h1).1;have l2:=(pG.1 h2).1;have g1:(w.alloc (.cells #[] 124)).heap[n]?=some (.cells #[x] 86):=by simp only[World.alloc];rw[gX,if_neg (by omega),h1]
 have g2:(w.alloc (.cells #[] 124)).heap[n+1]?=some (.cells #[y] 4):=by simp only[World.alloc];rw[gX,if_neg (by omega),h2]
 have hp1:(w.alloc (.cells #[] 124)).cell? ⟨n,0,none⟩=some x:=by simp[World.cell?,g1]
 have hz1:(w.alloc (.cells #[] 124)).frozen? ⟨n,0,none⟩=false:=by simp[World.frozen?,g1]
 have g3:((w.alloc (.cells #[] 124)).setCell ⟨n,0,none⟩ (.pointer none)).heap[n+1]?=some (.cells #[y] 4):=by simp only[World.setCell,mN];rw[if_neg (by omega),g2]
 have hp2:((w.alloc (.cells #[] 124)).setCell ⟨n,0,none⟩ (.pointer none)).cell? ⟨n+1,0,none⟩=some y:=by simp only[World.cell?,g3];rfl
 have hz2:((w.alloc (.cells #[] 124)).setCell ⟨n,0,none⟩ (.pointer none)).frozen? ⟨n+1,0,none⟩=false:=by simp only[World.frozen?,g3];rfl
 simp[wpOpsS,go_sem,recoverD,hu,ntmps77,Exit.thenS,ht,hp1,hz1,hp2,hz2];cases c₀
 simp_all [bodyPostS,results,results77]
set_option maxHeartbeats 4000000 in
set_option maxRecDepth 100000 in
def Tryz.gat_run (T kf:Nat)(hmeth:∀w,(method 392 T (.agg #[]) "gauntlet/suites.fill").run prog w=.ok (kf,.agg #[]) w)(hcf:∀args w,(callFunc kf args).run prog w=.ok (.enter kf args) w)(xv:Value)(most:Int)(w:World)(K:World->Prop)
  (hcall:Calls prog kf #[.agg #[],xv,.pointer (some ⟨w.heap.size+1+1+1,0,none⟩)] (Tryz.gw4 w most) λe w5=>e=.returned (.tuple #[])/\w5.heap[w.heap.size]?=some (.cells #[.pointer (some ⟨w.heap.size+1+1+1,0,none⟩)] 86)/\w5.heap[w.heap.size+1]?=some (.cells #[.bool false] 4)/\K w5) :
  Calls prog 37 #[xv,.iface T (.agg #[]),.int .i64 most] w λe w'=>e=.returned (.tuple #[.pointer (some ⟨w.heap.size+1+1+1,0,none⟩),.bool true])/\∃w5,K w5/\w'=(w5.setCell ⟨w.heap.size,0,none⟩ (.pointer (some ⟨w.heap.size+1+1+1,0,none⟩))).setCell ⟨w.heap.size+1,0,none⟩ (.bool true):=by
 have hmf:∀(fn:Fn) (first cap:Array Value) (w:World),(Instr.makeFunc fn first cap).run prog w=.ok (.func fn first cap) w:=λ_ _ _ _=>rfl;have hmk:=Tryz.mk1
 go_enter_defers func37,ntmps37
 go_wp2
 refine Calls.mono hcall ?_;rintro e w5 ⟨rfl,h1,h2,h3⟩;have hc1:w5.cell? ⟨w.heap.size,0,none⟩=some (.pointer (some ⟨w.heap.size+1+1+1,0,none⟩)):=by simp[World.cell?,h1]
 have hc2:w5.cell? ⟨w.heap.size+1,0,none⟩=some (.bool false):=by simp[World.cell?,h2]
 have hz1:w5.frozen? ⟨w.heap.size,0,none⟩=false:=by simp[World.frozen?,h1]
 have hz2:w5.frozen? ⟨w.heap.size+1,0,none⟩=false:=by simp[World.frozen?,h2]
 dsimp only
 go_wp2
 refine leaves_cons (f:=77) (args:=#[.pointer (some ⟨w.heap.size,0,none⟩),.pointer (some ⟨w.heap.size+1,0,none⟩)]) (by simp) (by simp[go_sem]) ?_;refine(Tryz.catch_idle _ _ _).mono ?_;rintro e u' w'' ⟨rfl,rfl,rfl⟩;have hcA:(w5.setCell ⟨w.heap.size,0,none⟩ (.pointer (some ⟨w.heap.size+1+1+1,0,none⟩))).cell? ⟨w.heap.size,0,none⟩=some (.pointer (some ⟨w.heap.size+1+1+1,0,none⟩)):=by simp[World.cell?,World.setCell,mN,h1]
 have hcB:((w5.setCell ⟨w.heap.size,0,none⟩ (.pointer (some ⟨w.heap.size+1+1+1,0,none⟩))).setCell ⟨w.heap.size+1,0,none⟩ (.bool true)).cell? ⟨w.heap.size+1,0,none⟩=some (.bool true):=by simp[World.cell?,World.setCell,mN,h2]
 simp[Leaves,settle,results,results37,go_sem,hcA,hcB];exact⟨w5,h3,rfl⟩
set_option maxHeartbeats 4000000 in
set_option maxRecDepth 100000 in
def Tryz.gat_die (T kf:Nat)(hmeth:∀w,(method 392 T (.agg #[]) "gauntlet/suites.fill").run prog w=.ok (kf,.agg #[]) w)(hcf:∀args w,(callFunc kf args).run prog w=.ok (.enter kf args) w)(xv:Value)(most:Int)(w:World)(K:World->Prop)
  (hcall:Calls prog kf #[.agg #[],xv,.pointer (some ⟨w.heap.size+1+1+1,0,none⟩)] (Tryz.gw4 w most) λe w5=>e=.panicked (Own.k8 (.iface 124 (.agg #[])))/\w5.heap[w.heap.size]?=some (.cells #[.pointer (some ⟨w.heap.size+1+1+1,0,none⟩)] 86)/\w5.heap[w.heap.size+1]?=some (.cells #[.bool false] 4)/\K w5) :
  Calls prog 37 #[xv,.iface T (.agg #[]),.int .i64 most] w λe w'=>e=.returned (.tuple #[.pointer none,.bool false])/\∃w5,K w5/\w'=((w5.alloc (.cells #[] 124)).setCell ⟨w.heap.size,0,none⟩ (.pointer none)).setCell ⟨w.heap.size+1,0,none⟩ (.bool false):=by
 have hmf:∀(fn:Fn) (first cap:Array Value) (w:World),(Instr.makeFunc fn first cap).run prog w=.ok (.func fn first cap) w:=λ_ _ _ _=>rfl;have hmk:=Tryz.mk1
 go_enter_defers func37,ntmps37
 go_wp2
 refine Calls.mono hcall ?_;rintro e w5 ⟨rfl,h1,h2,h3⟩;have l1:=(pG.1 h1).1;have l2:=(pG.1 h2).1;have g1:(w5.alloc (.cells #[] 124)).heap[w.heap.size]?=some (.cells #[.pointer (some ⟨w.heap.size+1+1+1,0,none⟩)] 86):=by simp only[World.alloc];rw[gX,if_neg (by omega),h1]
 have g2:(w5.alloc (.cells #[] 124)).heap[w.heap.size+1]?=some (.cells #[.bool false] 4):=by simp only[World.alloc];rw[gX,if_neg (by omega),h2]
 dsimp only[Own.k8];refine leaves_cons (f:=77) (args:=#[.pointer (some ⟨w.heap.size,0,none⟩),.pointer (some ⟨w.heap.size+1,0,none⟩)]) (by simp) (by simp[go_sem]) ?_;refine(Tryz.catch_panicking w.heap.size [] w5 _ _ h1 h2).mono ?_;rintro e u' w'' ⟨rfl,rfl,rfl⟩;have hcA:((w5.alloc (.cells #[] 124)).setCell ⟨w.heap.size,0,none⟩ (.pointer none)).cell? ⟨w.heap.size,0,none⟩=some (.pointer none):=by simp[World.cell?,World.setCell,mN,g1]
 have hcB:(((w5.alloc (.cells #[] 124)).setCell ⟨w.heap.size,0,none⟩ (.pointer none)).setCell ⟨w.heap.size+1,0,none⟩ (.bool false)).cell? ⟨w.heap.size+1,0,none⟩=some (.bool false):=by simp[World.cell?,World.setCell,mN,g2]
 simp[Leaves,settle,results,results37,go_sem,hcA,hcB];exact⟨w5,h3,rfl⟩
end Go.Proofs
namespace Go.Own
open Go.Proofs
def z7d {T kf:Nat}(hmeth:∀w,(method 392 T (.agg #[]) "gauntlet/suites.fill").run Tryz.prog w=.ok (kf,.agg #[]) w)(hcf:∀args w,(callFunc kf args).run Tryz.prog w=.ok (.enter kf args) w){xs y z:A}{most:Int}{died:Bool}(hxs:xs.isD=true)(hl:y.live=true)(hz:y.shut=z)
  (hfill:∀bv,z7r Tryz.prog kf [.agg [],xs,.atom bv] [(bv,.box (.agg [.osl 16 false [.agg (List.replicate 16 (.atom (.int .i32 0)))],.atom (.int .i64 0),.atom (.int .i64 most)]))] died (.iface 124 (.agg #[])) (.tup []) [.box y]) :
  uR Tryz.prog 37 [xs,.atom (.iface T (.agg #[])),.atom (.int .i64 most)] (.tup [bif died then .atom (.pointer none) else .sptr z,.atom (.bool (!died))]):=by
 refine⟨⟨_,Tryz.func37,by kernel_rfl,by kernel_rfl⟩,?_⟩;intro S w vs F hS hq hF;match vs,hq with
 | [u,v,x],q=>
  obtain⟨F1,F2,rfl,q1,F3,F4,rfl,q2,F5,F6,rfl,q3,q4⟩:=q;have e4:F6=[]:=q4;subst e4;have d:∀{x:A} {u:Value} {F:TC},x.isD=true->Has S w.heap x u F->wW S x u/\F=[]:=by
   intro x u F hx q;rcases q with⟨q,rfl⟩|⟨cs,q1,q2,q3⟩
   ·exact⟨q.rep1 hx,rfl⟩
   obtain⟨r,rfl⟩:=q1.isD hx;exact⟨⟨cs,r,q3⟩,rfl⟩
  obtain⟨r1,rfl⟩:=d hxs q1;obtain⟨r2,rfl⟩:=d rfl q2;obtain⟨r3,rfl⟩:=d rfl q3;obtain rfl:v=.iface T (.agg #[]):=(yX.1 r2).1;obtain rfl:x=.int .i64 most:=(yX.1 r3).1;have hnew:∀b o,w.heap.size<=b->S b o=none:=λb o hb=>by
   cases hh:S b o with
   | none=>rfl
   | some x=>have:=hS _ _ _ hh;simp[y9,nO hb]at this
  have hsz:(Tryz.gw4 w most).heap.size=w.heap.size+4:=by simp only[Tryz.gw4,World.alloc,Array.size_push]
  have hold:∀b,b<w.heap.size->(Tryz.gw4 w most).heap[b]?=w.heap[b]?:=λb hb=>by simp only[Tryz.gw4,World.alloc];simp only[gX,Array.size_push];rw[if_neg (by omega),if_neg (by omega),if_neg (by omega),if_neg (by omega)]
  have c0:(Tryz.gw4 w most).heap[w.heap.size]?=some (.cells #[.pointer (some ⟨w.heap.size+1+1+1,0,none⟩)] 86):=by simp only[Tryz.gw4,World.alloc];simp only[gX,Array.size_push];rw[if_neg (by omega),if_neg (by omega),if_neg (by omega),if_pos trivial]
  have c1:(Tryz.gw4 w most).heap[w.heap.size+1]?=some (.cells #[.bool false] 4):=by simp only[Tryz.gw4,World.alloc];simp only[gX,Array.size_push];rw[if_neg (by omega),if_neg (by omega),if_pos trivial]
  have c2:(Tryz.gw4 w most).heap[w.heap.size+1+1]?=some (.cells (Array.replicate 16 (.int .i32 0)) 162):=by simp only[Tryz.gw4,World.alloc];simp only[gX,Array.size_push];rw[if_neg (by omega),if_pos trivial]
  have c3:(Tryz.gw4 w most).heap[w.heap.size+1+1+1]?=some (.cells #[.slice (some ⟨w.heap.size+1+1,0,none⟩) 1 1,.int .i64 0,.int .i64 most] 91):=by simp only[Tryz.gw4,World.alloc];simp only[gX,Array.size_push];rw[if_pos trivial]
  have hK4:Xf (λk=>w.heap.size<=k\/k∈([]:TC)) w (Tryz.gw4 w most):=by
   unfold Tryz.gw4;refine((((Xf.refl _ _).alloc (.inl (pi _)) _).alloc (.inl ?_) _).alloc (.inl ?_) _).alloc (.inl ?_) _
   all_goals simp only[World.alloc,Array.size_push];omega
  have hS4:yS S (Tryz.gw4 w most):=by
   refine⟨λb o u h=>?_,hS.gok,hS.blk.of (λ_ _ _ q=>q) λg x e=>hold g (hS.blk.lt e)⟩;have h':=hS _ _ _ h;have hb:b<w.heap.size:=by
    rcases pF b w.heap.size with h1|h1
    ·exact h1
    rw[hnew b o h1]at h;cases h
   unfold y9 at h' ⊢;rw[hold b hb];exact h'
  have hbag:W8 S (Tryz.gw4 w most).heap [.box (.agg [.osl 16 false [.agg (List.replicate 16 (.atom (.int .i32 0)))],.atom (.int .i64 0),.atom (.int .i64 most)])] [.pointer (some ⟨w.heap.size+1+1+1,0,none⟩)] [w.heap.size+1+1+1,w.heap.size+1+1]:=by
   have hcc:∀l:TE,(∀v∈l,v.oneCell'=true)->zQ S (Tryz.gw4 w most).heap (l.map .atom) l []:=by
    intro l;induction l with
    | nil=>intro _;simp[zQ]
    | cons a l ih=>intro h;simp only[gB,zQ];exact⟨[a],l,[],[],rfl,rfl,by simp only[zK,Rep];simp[h a (by simp)],ih λv hv=>h v (by simp[hv])⟩
   have ho:zK S (Tryz.gw4 w most).heap (.osl 16 false [.agg (List.replicate 16 (.atom (.int .i32 0)))]) [.slice (some ⟨w.heap.size+1+1,0,none⟩) 1 1] [w.heap.size+1+1]:=by
    simp only[zK];refine⟨some ⟨w.heap.size+1+1,0,none⟩,1,by simp,by simp,by simp,by unfold maxLen;omega,?_,.inr ⟨w.heap.size+1+1,_,162,List.replicate 16 (.int .i32 0),[],rfl,c2,by simp,by simp,?_,by simp,λo=>hnew _ o (by omega)⟩⟩
    ·intro x hx;simp only[pm,pY,or_false]at hx;subst hx;rfl
    simp only[zQ];exact⟨List.replicate 16 (.int .i32 0),[],[],[],by simp,rfl,by simp only[zK];exact hcc (List.replicate 16 (.int .i32 0)) (by intro v hv;rw[mD hv];rfl),rfl,rfl⟩
   refine⟨[w.heap.size+1+1+1,w.heap.size+1+1],[],by simp,.inr ⟨[.pointer (some ⟨w.heap.size+1+1+1,0,none⟩)],?_,by simp,rfl⟩,rfl⟩;simp only[zK];refine⟨w.heap.size+1+1+1,91,[.slice (some ⟨w.heap.size+1+1,0,none⟩) 1 1,.int .i64 0,.int .i64 most],[w.heap.size+1+1],rfl,c3,?_,rfl,λo=>hnew _ o (by omega)⟩;simp only[zQ];exact⟨_,_,[w.heap.size+1+1],[],rfl,rfl,ho,[.int .i64 0],_,[],[],rfl,rfl,⟨by simp[Rep,Value.oneCell'],rfl⟩,[.int .i64 most],[],[],[],rfl,rfl,⟨by simp[Rep,Value.oneCell'],rfl⟩,rfl,rfl⟩
  have hfree:∀k∈[w.heap.size+1+1+1,w.heap.size+1+1],k=w.heap.size+1+1+1\/k=w.heap.size+1+1:=λk hk=>by simpa using hk
  have hargs:YO (wW S) [.agg [],xs,.atom (.pointer (some ⟨w.heap.size+1+1+1,0,none⟩))] [.agg #[],u,.pointer (some ⟨w.heap.size+1+1+1,0,none⟩)] :=
   ⟨⟨[],by simp[Rep,yb],rfl⟩,r1,yX.2 ⟨rfl,rfl⟩,trivial⟩
  have hfv:wW S (.fn kf []) (.func (.func kf) #[] #[]):=⟨[.func (.func kf) #[] #[]],by simp[Rep,yb],rfl⟩;obtain⟨hok,hdie⟩:=hfill (.pointer (some ⟨w.heap.size+1+1+1,0,none⟩));have hkept:∀{w5:World},Xf (λk=>(Tryz.gw4 w most).heap.size<=k\/k∈[w.heap.size+1+1+1,w.heap.size+1+1]) (Tryz.gw4 w most) w5->w5.heap[w.heap.size]?=some (.cells #[.pointer (some ⟨w.heap.size+1+1+1,0,none⟩)] 86)/\w5.heap[w.heap.size+1]?=some (.cells #[.bool false] 4):=λh=>
   have hm:∀k,k<w.heap.size+2->¬((Tryz.gw4 w most).heap.size<=k\/k∈[w.heap.size+1+1+1,w.heap.size+1+1]):=λk hk q=>by
    rcases q with q|q
    ·rw[hsz]at q;omega
    have:=hfree _ q;omega
   ⟨(h.block _ (hm _ (by omega))).trans c0,(h.block _ (hm _ (by omega))).trans c1⟩
  have hset:∀(w5:World) (a b:Value),Xf (λk=>w.heap.size<=k\/k∈([]:TC)) w5 ((w5.setCell ⟨w.heap.size,0,none⟩ a).setCell ⟨w.heap.size+1,0,none⟩ b):=λw5 a b=>
   ⟨rfl,rfl,rfl,pi _,by simp[World.setCell],λk hk=>by simp only[World.setCell,mN];rw[if_neg (by rintro rfl;exact hk (.inl (by omega))),if_neg (by rintro rfl;exact hk (.inl (by omega)))]⟩
  have hset2:∀(w5:World) (a b:Value) (k:Nat),k≠w.heap.size->k≠w.heap.size+1->((w5.setCell ⟨w.heap.size,0,none⟩ a).setCell ⟨w.heap.size+1,0,none⟩ b).heap[k]?=w5.heap[k]?:=λw5 a b k h1 h2=>by simp only[World.setCell,mN];rw[if_neg (nK h2),if_neg (nK h1)]
  have hstay:∀{w5 w6:World} {S5:zm},yS S5 w5->(∀o,S5 w.heap.size o=none)->(∀o,S5 (w.heap.size+1) o=none)->(∀k,k<w5.heap.size->k≠w.heap.size->k≠w.heap.size+1->w6.heap[k]?=w5.heap[k]?)->yS S5 w6:=by
   intro w5 w6 S5 h k1 k2 hb;have hne:∀b o u,S5 b o=some u->b≠w.heap.size/\b≠w.heap.size+1:=λb o u q=>⟨(by rintro rfl;rw[k1]at q;cases q),(by rintro rfl;rw[k2]at q;cases q)⟩;refine⟨λb o u q=>?_,h.gok,h.blk.of (λ_ _ _ q=>q) λg x e=>?_⟩
   ·have h':=h _ _ _ q;have hlt:b<w5.heap.size:=by
     unfold y9 at h';cases hh:w5.heap[b]? with
     | none=>rw[hh]at h';cases h'
     | some y=>exact(pG.1 hh).1
    unfold y9 at h' ⊢;rw[hb b hlt (hne b o u q).1 (hne b o u q).2];exact h'
   obtain⟨_,v,hv⟩:=h.blk g x e;exact hb g (h.blk.lt e) (hne g 0 v hv).1 (hne g 0 v hv).2
  cases died with
  | false=>
   have ha:=hok rfl S (Tryz.gw4 w most) _ _ _ hS4 hfv hargs hbag (by simp);rcases ha with⟨k,caps,fn,e1,_,_,_,h5⟩|⟨L,q,e1,_⟩
   ·cases e1;refine Calls.mono (Tryz.gat_run T kf hmeth hcf u most w (λw5=>∃(S':zm) (G:TC),Xf (λk=>(Tryz.gw4 w most).heap.size<=k\/k∈[w.heap.size+1+1+1,w.heap.size+1+1]) (Tryz.gw4 w most) w5/\(∀b o u,S b o=some u->S' b o=some u)/\(∀b o,b<(Tryz.gw4 w most).heap.size->b∉[w.heap.size+1+1+1,w.heap.size+1+1]->S' b o=S b o)/\yS S' w5 /\
     Has S' w5.heap (.box y) (.pointer (some ⟨w.heap.size+1+1+1,0,none⟩)) G/\G.Nodup/\∀k∈G,(Tryz.gw4 w most).heap.size<=k\/k∈[w.heap.size+1+1+1,w.heap.size+1+1]) (Calls.mono h5 ?_)) ?_
    ·rintro e w5 ⟨v,rfl,S',F',G,b1,b2,b3,b4,b5,b6,b7,b8⟩;have hv:v=.tuple #[]:=by
      rcases b5 with⟨q,_⟩|⟨cs,q,_⟩
      ·simp only[xg]at q;obtain⟨us,rfl,q⟩:=q;cases us with
       | nil=>rfl
       | cons a l=>exact q.elim
      simp only[zK]at q
     subst hv;obtain⟨H1,H2,rfl,g1,g2⟩:=b6;have eH:H2=[]:=g2;subst eH;simp only[pN]at b7 b8;exact⟨rfl,(hkept b1).1,(hkept b1).2,S',H1,b1,b2,b3,b4,g1,(pI.1 b7).1,λk hk=>b8 k (by simp[hk])⟩
    rintro e w' ⟨rfl,w5,⟨S',G,b1,b2,b3,b4,b5,b6,b7⟩,rfl⟩;have hG:∀k∈G,w.heap.size+2<=k:=λk hk=>by
     rcases b7 k hk with q|q
     ·rw[hsz]at q;omega
     have:=hfree k q;omega
    have n1:∀o,S' w.heap.size o=none:=λo=>by rw[b3 _ _ (by rw[hsz];omega) (λq=>by have:=hfree _ q;omega)];exact hnew _ _ (pi _)
    have n2:∀o,S' (w.heap.size+1) o=none:=λo=>by rw[b3 _ _ (by rw[hsz];omega) (λq=>by have:=hfree _ q;omega)];exact hnew _ _ (by omega)
    have hown:=b5.own;have hmono:=Wz (S:=S') (h:=w5.heap) (F:=G) (λk hk=>(hown k hk).2);have hm5:yS (y4 S' w5.heap G) w5:=⟨λb o u q=>by
     unfold y4 at q;split at q
     ·exact q
     exact b4 b o u q,Gok.mono hmono b4.gok,b4.blk.of hmono λ_ _ _=>rfl⟩
    have hng:∀k,k<w.heap.size+2->k∉G:=λk hk q=>by have:=hG k q;omega
    refine⟨_,y4 S' w5.heap G,[],rfl,(hK4.trans (b1.mono (λk hk=>.inl (by
      rcases hk with q|q
      ·rw[hsz]at q;omega
      have:=hfree k q;omega)))).trans (hset _ _ _),λb o u q=>hmono b o u (b2 b o u q),λb o hb hbF=>?_,hstay hm5 (λo=>?_) (λo=>?_) (λk _ h1 h2=>hset2 _ _ _ k h1 h2),.inl ⟨?_,rfl⟩,by simp,by simp⟩
    ·unfold y4;rw[if_neg (hng b (by omega))];exact b3 b o (by rw[hsz];omega) (λq=>by have:=hfree _ q;omega)
    ·unfold y4;rw[if_neg (hng _ (by omega))];exact n1 o
    ·unfold y4;rw[if_neg (hng _ (by omega))];exact n2 o
    simp only[xg];refine⟨[_,_],rfl,?_,yX.2 ⟨rfl,rfl⟩,trivial⟩;rcases b5 with⟨q,_⟩|⟨cs,q1,q2,q3⟩
    ·simp only[xg,wW,Rep,false_and,exists_false]at q
    refine⟨cs,?_,q3⟩;have:=q1.shut hmono (by simpa only[A.live] using hl) (λk hk o=>by unfold y4;rw[if_pos hk]);simp only[A.shut,hz]at this;exact this
   cases e1
  | true=>
   obtain⟨_,hcall⟩:=hdie rfl;refine Calls.mono (Tryz.gat_die T kf hmeth hcf u most w (λw5=>∃S':zm,Xf (λk=>(Tryz.gw4 w most).heap.size<=k\/k∈[w.heap.size+1+1+1,w.heap.size+1+1]) (Tryz.gw4 w most) w5/\(∀b o u,S b o=some u->S' b o=some u)/\(∀b o,b<(Tryz.gw4 w most).heap.size->b∉[w.heap.size+1+1+1,w.heap.size+1+1]->S' b o=S b o)/\yS S' w5) (Calls.mono (hcall S (Tryz.gw4 w most) _ _ hS4 hargs hbag (by simp)) ?_)) ?_
   ·rintro e w5 ⟨rfl,S',b1,b2,b3,b4⟩;exact⟨rfl,(hkept b1).1,(hkept b1).2,S',b1,b2,b3,b4⟩
   rintro e w' ⟨rfl,w5,⟨S',b1,b2,b3,b4⟩,rfl⟩;have n1:∀o,S' w.heap.size o=none:=λo=>by rw[b3 _ _ (by rw[hsz];omega) (λq=>by have:=hfree _ q;omega)];exact hnew _ _ (pi _)
   have n2:∀o,S' (w.heap.size+1) o=none:=λo=>by rw[b3 _ _ (by rw[hsz];omega) (λq=>by have:=hfree _ q;omega)];exact hnew _ _ (by omega)
   have hs5:w.heap.size<=w5.heap.size:=by have:=b1.size;rw[hsz]at this;omega
   refine⟨_,S',[],rfl,(hK4.trans (b1.mono (λk hk=>.inl (by
     rcases hk with q|q
     ·rw[hsz]at q;omega
     have:=hfree k q;omega)))).trans (((Xf.refl _ _).alloc (.inl hs5) _).trans (hset _ _ _)),b2,λb o hb hbF=>b3 b o (by rw[hsz];omega) (λq=>by have:=hfree _ q;omega),hstay b4 n1 n2 (λk hk h1 h2=>?_),.inl ⟨?_,rfl⟩,by simp,by simp⟩
   ·rw[hset2 _ _ _ k h1 h2];show(w5.heap.push _)[k]?=_;rw[gX,if_neg (by omega)]
   simp only[xg];exact⟨[_,_],rfl,yX.2 ⟨rfl,rfl⟩,yX.2 ⟨rfl,rfl⟩,trivial⟩
structure jD (α:Type) where
 e0:α
 e1:α
 deriving DecidableEq
instance {α:Type}[BEq α]:BEq (jD α):=⟨λx y=>(x.e0==y.e0)&&(x.e1==y.e1)⟩
section
variable {α:Type}
def Kp (f:α->A)(x:jD α):A:=.agg [f x.e0,f x.e1]
instance (f:α->A)[h:Jd f]:Jd (Kp f):=⟨λx=>by simp[Kp,A.isD,A.areD,h.isD]⟩
instance (f g:α->A)[h:XW f g]:XW (Kp f) (Kp g):=⟨λx=>by simp[Kp,A.loose,A.looses,h.lo]⟩
instance (f g:α->A)[h:KF f g]:KF (Kp f) (Kp g):=⟨λx=>by simp[Kp,A.live,A.lives,h.live],λx=>by simp[Kp,A.shut,A.shuts,h.sh]⟩
instance (f:α->A)[h:uT f]:uT (Kp f):=⟨λx y q=>by simp only[Kp,A.agg.injEq,List.cons.injEq,and_true]at q;cases x;cases y;simp only[jD.mk.injEq];exact⟨h.inj _ _ q.1,h.inj _ _ q.2⟩⟩
end
structure UI (α:Type) where
 e0:α
 e1:α
 e2:α
 deriving DecidableEq
section
variable {α:Type}
def zmH (f:α->A)(x:UI α):A:=.agg [f x.e0,f x.e1,f x.e2]
end
section
variable {α:Type}
def UI.toL (x:UI α):List α:=[x.e0,x.e1,x.e2]
def UI.ofL:List α->UI α->UI α
 | [x0,x1,x2],_=>⟨x0,x1,x2⟩
 | _,d=>d
def UI.toL_ofL (l:List α)(d:UI α)(h:l.length=3):(UI.ofL l d).toL=l:=by
 match l,h with
 | [x0,x1,x2],_=>rfl
def UI.setI (x:UI α)(i:Int)(v:α):UI α:=UI.ofL (x.toL.set i.toNat v) x
def UI.setL (f:α->A)(x:UI α)(i:Int)(v:α):(x.toL.map f).set i.toNat (f v)=((UI.setI x i v).toL).map f:=by unfold UI.setI;rw[UI.toL_ofL _ _ (by simp[UI.toL]),List.map_set]
end
structure zC (α:Type) where
 e0:α
 e1:α
 e2:α
 e3:α
 e4:α
 e5:α
 e6:α
 e7:α
 e8:α
 e9:α
 e10:α
 e11:α
 e12:α
 e13:α
 e14:α
 e15:α
 deriving DecidableEq
instance {α:Type}[BEq α]:BEq (zC α):=⟨λx y=>(x.e0==y.e0)&&(x.e1==y.e1)&&(x.e2==y.e2)&&(x.e3==y.e3)&&(x.e4==y.e4)&&(x.e5==y.e5)&&(x.e6==y.e6)&&(x.e7==y.e7)&&(x.e8==y.e8)&&(x.e9==y.e9)&&(x.e10==y.e10)&&(x.e11==y.e11)&&(x.e12==y.e12)&&(x.e13==y.e13)&&(x.e14==y.e14)&&(x.e15==y.e15)⟩
section
variable {α:Type}
def XU (f:α->A)(x:zC α):A:=.agg [f x.e0,f x.e1,f x.e2,f x.e3,f x.e4,f x.e5,f x.e6,f x.e7,f x.e8,f x.e9,f x.e10,f x.e11,f x.e12,f x.e13,f x.e14,f x.e15]
instance (f:α->A)[h:Jd f]:Jd (XU f):=⟨λx=>by simp[XU,A.isD,A.areD,h.isD]⟩
instance (f g:α->A)[h:XW f g]:XW (XU f) (XU g):=⟨λx=>by simp[XU,A.loose,A.looses,h.lo]⟩
instance (f g:α->A)[h:KF f g]:KF (XU f) (XU g):=⟨λx=>by simp[XU,A.live,A.lives,h.live],λx=>by simp[XU,A.shut,A.shuts,h.sh]⟩
instance (f:α->A)[h:uT f]:uT (XU f):=⟨λx y q=>by simp only[XU,A.agg.injEq,List.cons.injEq,and_true]at q;cases x;cases y;simp only[zC.mk.injEq];exact⟨h.inj _ _ q.1,h.inj _ _ q.2.1,h.inj _ _ q.2.2.1,h.inj _ _ q.2.2.2.1,h.inj _ _ q.2.2.2.2.1,h.inj _ _ q.2.2.2.2.2.1,h.inj _ _ q.2.2.2.2.2.2.1,h.inj _ _ q.2.2.2.2.2.2.2.1,h.inj _ _ q.2.2.2.2.2.2.2.2.1,h.inj _ _ q.2.2.2.2.2.2.2.2.2.1,h.inj _ _ q.2.2.2.2.2.2.2.2.2.2.1,h.inj _ _ q.2.2.2.2.2.2.2.2.2.2.2.1,h.inj _ _ q.2.2.2.2.2.2.2.2.2.2.2.2.1,h.inj _ _ q.2.2.2.2.2.2.2.2.2.2.2.2.2.1,h.inj _ _ q.2.2.2.2.2.2.2.2.2.2.2.2.2.2.1,h.inj _ _ q.2.2.2.2.2.2.2.2.2.2.2.2.2.2.2⟩⟩
end
section
variable {α:Type}
def zC.toL (x:zC α):List α:=[x.e0,x.e1,x.e2,x.e3,x.e4,x.e5,x.e6,x.e7,x.e8,x.e9,x.e10,x.e11,x.e12,x.e13,x.e14,x.e15]
def zC.ofL:List α->zC α->zC α
 | [x0,x1,x2,x3,x4,x5,x6,x7,x8,x9,gi,ig,x12,fq,kq,x15],_=>⟨x0,x1,x2,x3,x4,x5,x6,x7,x8,x9,gi,ig,x12,fq,kq,x15⟩
 | _,d=>d
def zC.toL_ofL (l:List α)(d:zC α)(h:l.length=16):(zC.ofL l d).toL=l:=by
 match l,h with
 | [x0,x1,x2,x3,x4,x5,x6,x7,x8,x9,gi,ig,x12,fq,kq,x15],_=>rfl
def zC.setI (x:zC α)(i:Int)(v:α):zC α:=zC.ofL (x.toL.set i.toNat v) x
def zC.setL (f:α->A)(x:zC α)(i:Int)(v:α):(x.toL.map f).set i.toNat (f v)=((zC.setI x i v).toL).map f:=by unfold zC.setI;rw[zC.toL_ofL _ _ (by simp[zC.toL]),List.map_set]
end
structure yk where
 States:Int
 Inputs:Int
 Outputs:Int
 Tree:TB
 Edges:TB
def jN (f0:Int->A)(f1:Int->A)(f2:Int->A)(f3:TB->A)(f4:TB->A)(x:yk):A:=.agg [f0 x.States,f1 x.Inputs,f2 x.Outputs,f3 x.Tree,f4 x.Edges]
instance (f0:Int->A)(f1:Int->A)(f2:Int->A)(f3:TB->A)(f4:TB->A)(g0:Int->A)(g1:Int->A)(g2:Int->A)(g3:TB->A)(g4:TB->A)[h0:XW f0 g0][h1:XW f1 g1][h2:XW f2 g2][h3:XW f3 g3][h4:XW f4 g4]:XW (jN f0 f1 f2 f3 f4) (jN g0 g1 g2 g3 g4):=⟨λx=>by simp[jN,A.loose,A.looses,h0.lo,h1.lo,h2.lo,h3.lo,h4.lo]⟩
instance (f0:Int->A)(f1:Int->A)(f2:Int->A)(f3:TB->A)(f4:TB->A)[h0:uT f0][h1:uT f1][h2:uT f2][h3:uT f3][h4:uT f4]:uT (jN f0 f1 f2 f3 f4):=⟨λx y h=>by simp only[jN,A.agg.injEq,List.cons.injEq,and_true]at h;cases x;cases y;simp only[yk.mk.injEq];exact⟨h0.inj _ _ h.1,h1.inj _ _ h.2.1,h2.inj _ _ h.2.2.1,h3.inj _ _ h.2.2.2.1,h4.inj _ _ h.2.2.2.2⟩⟩
structure Yx where
 C:yk
def Yv (f0:yk->A)(x:Yx):A:=.agg [f0 x.C]
instance (f0:yk->A)(g0:yk->A)[h0:XW f0 g0]:XW (Yv f0) (Yv g0):=⟨λx=>by simp[Yv,A.loose,A.looses,h0.lo]⟩
instance (f0:yk->A)[h0:uT f0]:uT (Yv f0):=⟨λx y h=>by simp only[Yv,A.agg.injEq,List.cons.injEq,and_true]at h;cases x;cases y;simp only[Yx.mk.injEq];exact h0.inj _ _ h⟩
structure z8 where
 To:Int
 Out:Int
def wY (f0:Int->A)(f1:Int->A)(x:z8):A:=.agg [f0 x.To,f1 x.Out]
instance (f0:Int->A)(f1:Int->A)[h0:Jd f0][h1:Jd f1]:Jd (wY f0 f1):=⟨λx=>by simp[wY,A.isD,A.areD,h0.isD,h1.isD]⟩
instance (f0:Int->A)(f1:Int->A)(g0:Int->A)(g1:Int->A)[h0:XW f0 g0][h1:XW f1 g1]:XW (wY f0 f1) (wY g0 g1):=⟨λx=>by simp[wY,A.loose,A.looses,h0.lo,h1.lo]⟩
instance (f0:Int->A)(f1:Int->A)(g0:Int->A)(g1:Int->A)[h0:KF f0 g0][h1:KF f1 g1]:KF (wY f0 f1) (wY g0 g1):=⟨λx=>by simp[wY,A.live,A.lives,h0.live,h1.live],λx=>by simp[wY,A.shut,A.shuts,h0.sh,h1.sh]⟩
instance (f0:Int->A)(f1:Int->A)[h0:uT f0][h1:uT f1]:uT (wY f0 f1):=⟨λx y h=>by simp only[wY,A.agg.injEq,List.cons.injEq,and_true]at h;cases x;cases y;simp only[z8.mk.injEq];exact⟨h0.inj _ _ h.1,h1.inj _ _ h.2⟩⟩
structure z6 where
 Inputs:Int
 Outputs:Int
 Rows:List (List z8)
def uq (f0:Int->A)(f1:Int->A)(f2:List (List z8)->A)(x:z6):A:=.agg [f0 x.Inputs,f1 x.Outputs,f2 x.Rows]
instance (f0:Int->A)(f1:Int->A)(f2:List (List z8)->A)(g0:Int->A)(g1:Int->A)(g2:List (List z8)->A)[h0:XW f0 g0][h1:XW f1 g1][h2:XW f2 g2]:XW (uq f0 f1 f2) (uq g0 g1 g2):=⟨λx=>by simp[uq,A.loose,A.looses,h0.lo,h1.lo,h2.lo]⟩
instance (f0:Int->A)(f1:Int->A)(f2:List (List z8)->A)[h0:uT f0][h1:uT f1][h2:uT f2]:uT (uq f0 f1 f2):=⟨λx y h=>by simp only[uq,A.agg.injEq,List.cons.injEq,and_true]at h;cases x;cases y;simp only[z6.mk.injEq];exact⟨h0.inj _ _ h.1,h1.inj _ _ h.2.1,h2.inj _ _ h.2.2⟩⟩
structure zO where
 block_:Int
 signature_:zC (jD Int)
instance:BEq zO:=⟨λx y=>(x.block_==y.block_)&&(x.signature_==y.signature_)⟩
def VR (f0:Int->A)(f1:zC (jD Int)->A)(x:zO):A:=.agg [f0 x.block_,f1 x.signature_]
structure zn where
 state_:Int
 from_:Int
 input_:Int
def XT (f0:Int->A)(f1:Int->A)(f2:Int->A)(x:zn):A:=.agg [f0 x.state_,f1 x.from_,f2 x.input_]
instance (f0:Int->A)(f1:Int->A)(f2:Int->A)[h0:Jd f0][h1:Jd f1][h2:Jd f2]:Jd (XT f0 f1 f2):=⟨λx=>by simp[XT,A.isD,A.areD,h0.isD,h1.isD,h2.isD]⟩
structure y5 where
 S:Int
 T:Int
 Word:TB
 Apart:Bool
def zT (f0:Int->A)(f1:Int->A)(f2:TB->A)(f3:Bool->A)(x:y5):A:=.agg [f0 x.S,f1 x.T,f2 x.Word,f3 x.Apart]
instance (f0:Int->A)(f1:Int->A)(f2:TB->A)(f3:Bool->A)[h0:Jd f0][h1:Jd f1][h2:Jd f2][h3:Jd f3]:Jd (zT f0 f1 f2 f3):=⟨λx=>by simp[zT,A.isD,A.areD,h0.isD,h1.isD,h2.isD,h3.isD]⟩
instance (f0:Int->A)(f1:Int->A)(f2:TB->A)(f3:Bool->A)(g0:Int->A)(g1:Int->A)(g2:TB->A)(g3:Bool->A)[h0:KF f0 g0][h1:KF f1 g1][h2:KF f2 g2][h3:KF f3 g3]:KF (zT f0 f1 f2 f3) (zT g0 g1 g2 g3):=⟨λx=>by simp[zT,A.live,A.lives,h0.live,h1.live,h2.live,h3.live],λx=>by simp[zT,A.shut,A.shuts,h0.sh,h1.sh,h2.sh,h3.sh]⟩
structure zG where
 m_:z6
 q_:TA
 p_:TA
 all_:TA
 each_:List TA
 short_:TA
 exact_:TA
def qZ (f0:z6->A)(f1:TA->A)(f2:TA->A)(f3:TA->A)(f4:List TA->A)(f5:TA->A)(f6:TA->A)(x:zG):A:=.agg [f0 x.m_,f1 x.q_,f2 x.p_,f3 x.all_,f4 x.each_,f5 x.short_,f6 x.exact_]
instance (f0:z6->A)(f1:TA->A)(f2:TA->A)(f3:TA->A)(f4:List TA->A)(f5:TA->A)(f6:TA->A)(g0:z6->A)(g1:TA->A)(g2:TA->A)(g3:TA->A)(g4:List TA->A)(g5:TA->A)(g6:TA->A)[h0:XW f0 g0][h1:XW f1 g1][h2:XW f2 g2][h3:XW f3 g3][h4:XW f4 g4][h5:XW f5 g5][h6:XW f6 g6]:XW (qZ f0 f1 f2 f3 f4 f5 f6) (qZ g0 g1 g2 g3 g4 g5 g6):=⟨λx=>by simp[qZ,A.loose,A.looses,h0.lo,h1.lo,h2.lo,h3.lo,h4.lo,h5.lo,h6.lo]⟩
instance (f0:z6->A)(f1:TA->A)(f2:TA->A)(f3:TA->A)(f4:List TA->A)(f5:TA->A)(f6:TA->A)[h0:uT f0][h1:uT f1][h2:uT f2][h3:uT f3][h4:uT f4][h5:uT f5][h6:uT f6]:uT (qZ f0 f1 f2 f3 f4 f5 f6):=⟨λx y h=>by simp only[qZ,A.agg.injEq,List.cons.injEq,and_true]at h;cases x;cases y;simp only[zG.mk.injEq];exact⟨h0.inj _ _ h.1,h1.inj _ _ h.2.1,h2.inj _ _ h.2.2.1,h3.inj _ _ h.2.2.2.1,h4.inj _ _ h.2.2.2.2.1,h5.inj _ _ h.2.2.2.2.2.1,h6.inj _ _ h.2.2.2.2.2.2⟩⟩
structure Qk where
structure zb where
 nodes_:List (zC Int)
 leaves_:Int
 most_:Int
def yO (f0:List (zC Int)->A)(f1:Int->A)(f2:Int->A)(x:zb):A:=.agg [f0 x.nodes_,f1 x.leaves_,f2 x.most_]
instance (f0:List (zC Int)->A)(f1:Int->A)(f2:Int->A)(g0:List (zC Int)->A)(g1:Int->A)(g2:Int->A)[h0:XW f0 g0][h1:XW f1 g1][h2:XW f2 g2]:XW (yO f0 f1 f2) (yO g0 g1 g2):=⟨λx=>by simp[yO,A.loose,A.looses,h0.lo,h1.lo,h2.lo]⟩
instance (f0:List (zC Int)->A)(f1:Int->A)(f2:Int->A)(g0:List (zC Int)->A)(g1:Int->A)(g2:Int->A)[h0:KF f0 g0][h1:KF f1 g1][h2:KF f2 g2]:KF (yO f0 f1 f2) (yO g0 g1 g2):=⟨λx=>by simp[yO,A.live,A.lives,h0.live,h1.live,h2.live],λx=>by simp[yO,A.shut,A.shuts,h0.sh,h1.sh,h2.sh]⟩
instance (f0:List (zC Int)->A)(f1:Int->A)(f2:Int->A)[h0:uT f0][h1:uT f1][h2:uT f2]:uT (yO f0 f1 f2):=⟨λx y h=>by simp only[yO,A.agg.injEq,List.cons.injEq,and_true]at h;cases x;cases y;simp only[zb.mk.injEq];exact⟨h0.inj _ _ h.1,h1.inj _ _ h.2.1,h2.inj _ _ h.2.2⟩⟩
structure Ug where
structure V8 where
structure zj where
 at_:Int
 w_:TB
def yZ (f0:Int->A)(f1:TB->A)(x:zj):A:=.agg [f0 x.at_,f1 x.w_]
instance (f0:Int->A)(f1:TB->A)[h0:Jd f0][h1:Jd f1]:Jd (yZ f0 f1):=⟨λx=>by simp[yZ,A.isD,A.areD,h0.isD,h1.isD]⟩
instance (f0:Int->A)(f1:TB->A)(g0:Int->A)(g1:TB->A)(x:zj)[∀y,LeA (f0 y) (g0 y)][∀y,LeA (f1 y) (g1 y)][∀y,SzA (f0 y) (g0 y)][∀y,SzA (f1 y) (g1 y)]:LeA (yZ f0 f1 x) (yZ g0 g1 x):=by unfold yZ;infer_instance
instance (f0:Int->A)(f1:TB->A)(g0:Int->A)(g1:TB->A)(x y:zj)[∀y z,SzA (f0 y) (g0 z)][∀y z,SzA (f1 y) (g1 z)]:SzA (yZ f0 f1 x) (yZ g0 g1 y):=by unfold yZ;infer_instance
structure ze where
 Next:TB
 End:Bool
def yq (f0:TB->A)(f1:Bool->A)(x:ze):A:=.agg [f0 x.Next,f1 x.End]
instance (f0:TB->A)(f1:Bool->A)[h:zld f0]:zld (yq f0 f1):=⟨λx=>by simp[yq,A.isD,A.areD,h.no]⟩
instance (f0:TB->A)(f1:Bool->A)(g0:TB->A)(g1:Bool->A)[h0:XW f0 g0][h1:XW f1 g1]:XW (yq f0 f1) (yq g0 g1):=⟨λx=>by simp[yq,A.loose,A.looses,h0.lo,h1.lo]⟩
instance (f0:TB->A)(f1:Bool->A)(g0:TB->A)(g1:Bool->A)[h0:KF f0 g0][h1:KF f1 g1]:KF (yq f0 f1) (yq g0 g1):=⟨λx=>by simp[yq,A.live,A.lives,h0.live,h1.live],λx=>by simp[yq,A.shut,A.shuts,h0.sh,h1.sh]⟩
instance (f0:TB->A)(f1:Bool->A)[h0:uT f0][h1:uT f1]:uT (yq f0 f1):=⟨λx y h=>by simp only[yq,A.agg.injEq,List.cons.injEq,and_true]at h;cases x;cases y;simp only[ze.mk.injEq];exact⟨h0.inj _ _ h.1,h1.inj _ _ h.2⟩⟩
structure zA where
 inputs_:Int
 nodes_:List ze
def z2l (f0:Int->A)(f1:List ze->A)(x:zA):A:=.agg [f0 x.inputs_,f1 x.nodes_]
structure zf where
 at_:Int
 w_:TB
def xV (f0:Int->A)(f1:TB->A)(x:zf):A:=.agg [f0 x.at_,f1 x.w_]
instance (f0:Int->A)(f1:TB->A)[h0:Jd f0][h1:Jd f1]:Jd (xV f0 f1):=⟨λx=>by simp[xV,A.isD,A.areD,h0.isD,h1.isD]⟩
instance (f0:Int->A)(f1:TB->A)(g0:Int->A)(g1:TB->A)(x:zf)[∀y,LeA (f0 y) (g0 y)][∀y,LeA (f1 y) (g1 y)][∀y,SzA (f0 y) (g0 y)][∀y,SzA (f1 y) (g1 y)]:LeA (xV f0 f1 x) (xV g0 g1 x):=by unfold xV;infer_instance
instance (f0:Int->A)(f1:TB->A)(g0:Int->A)(g1:TB->A)(x y:zf)[∀y z,SzA (f0 y) (g0 z)][∀y z,SzA (f1 y) (g1 z)]:SzA (xV f0 f1 x) (xV g0 g1 y):=by unfold xV;infer_instance
instance:zn4 (K:=zO) (VR (eI .i64) (XU (Kp (eI .i64)))):=⟨λx y=>by obtain⟨_,⟨⟨_,_⟩,⟨_,_⟩,⟨_,_⟩,⟨_,_⟩,⟨_,_⟩,⟨_,_⟩,⟨_,_⟩,⟨_,_⟩,⟨_,_⟩,⟨_,_⟩,⟨_,_⟩,⟨_,_⟩,⟨_,_⟩,⟨_,_⟩,⟨_,_⟩,⟨_,_⟩⟩⟩:=x;obtain⟨_,⟨⟨_,_⟩,⟨_,_⟩,⟨_,_⟩,⟨_,_⟩,⟨_,_⟩,⟨_,_⟩,⟨_,_⟩,⟨_,_⟩,⟨_,_⟩,⟨_,_⟩,⟨_,_⟩,⟨_,_⟩,⟨_,_⟩,⟨_,_⟩,⟨_,_⟩,⟨_,_⟩⟩⟩:=y;simp only[XU,Kp,VR,eI,KH,z33,z33.keyLs,zU,BEq.beq,gE,Option.some.injEq,Value.agg.injEq,gK,pN,pU,Array.mk.injEq,List.cons.injEq,Value.int.injEq,true_and,and_true,pE,decide_eq_true_eq,and_assoc]⟩
def Ys (l_:TB)(k_:Int):Option Int :=
 bif decide (k_<((l_.length:Nat):Int)) then(
  (idx l_ k_).bind λbi=>
  some (w64 (bi)))
 else(
  some 0)
def VH (x_:yk)(cm:List (List z8)):Option z6 :=
 some (z6.mk (w64 (1+(w64 (Int.tmod x_.Inputs 3)))) (w64 (1+(w64 (Int.tmod x_.Outputs 3)))) cm)
abbrev R0_:Type:=Option (LR (List (List z8)×Int) (List (List z8)))
def VG (s_:Int)(gl:List (List z8)):R0_ :=
 some (.next (gl,w64 (s_+1)))
def Xb (i_:Int)(mg:List (List z8)):R0_ :=
 some (.next (mg,w64 (i_+1)))
def X9 (x_:yk)(s_:Int)(ik:List (List z8))(i_:Int):R0_ :=
 bif decide (i_<(w64 (1+(w64 (Int.tmod x_.Inputs 3))))) then(
  (idx ik s_).bind λpj=>
  (idx pj i_).bind λom=>
  bif decide (om.To<0) then(
   (idx ik s_).bind λk0=>
   (Ys x_.Edges (w64 ((w64 (s_*(w64 (1+(w64 (Int.tmod x_.Inputs 3))))))+i_))).bind λr_=>
   gd (((w64 (1+(w64 (Int.tmod x_.States 6)))):Int)≠0) <|
   (idx k0 i_).bind λkr=>
   Xb i_ (ik.set s_.toNat (k0.set i_.toNat (z8.mk (Int.tmod r_ (w64 (1+(w64 (Int.tmod x_.States 6))))) kr.Out))))
  else(
   Xb i_ ik))
 else(
  some (.done ik))
def Xa (x_:yk)(gu:List (List z8))(s_:Int):R0_ :=
 bif decide (s_<(w64 (1+(w64 (Int.tmod x_.States 6))))) then(
  (loop (λs=>X9 x_ s_ s.1 s.2) (gu,0)).bind λt6=>
  VG s_ t6)
 else(
  some (.done gu))
def VI (x_:yk)(bq:List (List z8)):Option z6 :=
 (loop (λs=>Xa x_ s.1 s.2) (bq,0)).bind λt4=>
 VH x_ t4
def VF (bk:Int)(mh:List (List z8)):R0_ :=
 some (.next (mh,w64 (bk+1)))
def uG (x_:yk)(cn:List (List z8))(bk:Int)(k_:Int):R0_ :=
 gd (((w64 (1+(w64 (Int.tmod x_.Inputs 3)))):Int)≠0) <|
 (idx cn (w64 (Int.tdiv k_ (w64 (1+(w64 (Int.tmod x_.Inputs 3))))))).bind λk9=>
 gd (((w64 (1+(w64 (Int.tmod x_.Inputs 3)))):Int)≠0) <|
 (idx k9 (Int.tmod k_ (w64 (1+(w64 (Int.tmod x_.Inputs 3)))))).bind λku=>
 VF bk (cn.set (w64 (Int.tdiv k_ (w64 (1+(w64 (Int.tmod x_.Inputs 3)))))).toNat (k9.set (Int.tmod k_ (w64 (1+(w64 (Int.tmod x_.Inputs 3))))).toNat (z8.mk bk ku.Out)))
def WF (x_:yk)(cn:List (List z8))(bk:Int)(free:TB):R0_ :=
 (idx free 0).bind λnz=>
 bif decide ((w64 (bk - 1))<((x_.Tree.length:Nat):Int)) then(
  (idx x_.Tree (w64 (bk - 1))).bind λpx=>
  gd ((((free.length:Nat):Int):Int)≠0) <|
  (idx free (Int.tmod (w64 (px)) ((free.length:Nat):Int))).bind λol=>
  uG x_ cn bk ol)
 else(
  uG x_ cn bk nz)
abbrev R1_:Type:=Option (LR (TB×Int) TB)
def Yd (de:Int)(n7:TB):R1_ :=
 some (.next (n7,w64 (de+1)))
def Yc (x_:yk)(cn:List (List z8))(bk:Int)(ke:TB)(de:Int):R1_ :=
 bif decide (de<(w64 (bk*(w64 (1+(w64 (Int.tmod x_.Inputs 3))))))) then(
  gd (((w64 (1+(w64 (Int.tmod x_.Inputs 3)))):Int)≠0) <|
  (idx cn (w64 (Int.tdiv de (w64 (1+(w64 (Int.tmod x_.Inputs 3))))))).bind λoy=>
  gd (((w64 (1+(w64 (Int.tmod x_.Inputs 3)))):Int)≠0) <|
  (idx oy (Int.tmod de (w64 (1+(w64 (Int.tmod x_.Inputs 3)))))).bind λn8=>
  bif decide (n8.To<0) then(
   gd (ke.length+[de].length<=4294967296) <|
   Yd de (ke++[de]))
  else(
   Yd de ke))
 else(
  some (.done ke))
def X8 (x_:yk)(cn:List (List z8))(bk:Int):R0_ :=
 bif decide (bk<(w64 (1+(w64 (Int.tmod x_.States 6))))) then(
  (loop (λs=>Yc x_ cn bk s.1 s.2) (([]:TB),0)).bind λt12=>
  WF x_ cn bk t12)
 else(
  some (.done cn))
def VJ (x_:yk)(gj:List (List z8)):Option z6 :=
 (loop (λs=>X8 x_ s.1 s.2) (gj,1)).bind λt8=>
 VI x_ t8
def WE (da:Int)(lw:List (List z8)):R0_ :=
 some (.next (lw,w64 (da+1)))
def WD (fe:List (List z8))(da:Int)(row:List z8):R0_ :=
 gd (fe.length+[row].length<=4294967296) <|
 WE da (fe++[row])
abbrev R2_:Type:=Option (LR (List z8×Int) (List z8))
def Ya (x_:yk)(da:Int)(bu:List z8)(fk:Int):R2_ :=
 bif decide (fk<(w64 (1+(w64 (Int.tmod x_.Inputs 3))))) then(
  (Ys x_.Edges (w64 ((w64 (da*(w64 (1+(w64 (Int.tmod x_.Inputs 3))))))+fk))).bind λai=>
  gd (((w64 (1+(w64 (Int.tmod x_.States 6)))):Int)≠0) <|
  gd (((w64 (1+(w64 (Int.tmod x_.Outputs 3)))):Int)≠0) <|
  gd (bu.length+([(z8.mk (-1) (Int.tmod (w64 (Int.tdiv ai (w64 (1+(w64 (Int.tmod x_.States 6)))))) (w64 (1+(w64 (Int.tmod x_.Outputs 3))))))]:List z8).length<=4294967296) <|
  some (.next ((bu++([(z8.mk (-1) (Int.tmod (w64 (Int.tdiv ai (w64 (1+(w64 (Int.tmod x_.States 6)))))) (w64 (1+(w64 (Int.tmod x_.Outputs 3))))))]:List z8)),w64 (fk+1))))
 else(
  some (.done bu))
def Yb (x_:yk)(fe:List (List z8))(da:Int):R0_ :=
 bif decide (da<(w64 (1+(w64 (Int.tmod x_.States 6))))) then(
  (loop (λs=>Ya x_ da s.1 s.2) (([]:List z8),0)).bind λt17=>
  WD fe da t17)
 else(
  some (.done fe))
def QF (x_:yk):Option z6 :=
 gd ((6:Int)≠0) <|
 gd ((3:Int)≠0) <|
 gd ((3:Int)≠0) <|
 (loop (λs=>Yb x_ s.1 s.2) (([]:List (List z8)),0)).bind λsa=>
 VJ x_ sa
def Ji:Option Int :=
 some 0
abbrev R3_:Type:=Option (LR Int (Unit⊕Int))
def jI (i_:Int)(rc:Int)(re:Bool)(my:Bool)(rf:Bool)(rg:Bool)(oz:Bool):R3_ :=
 some (.next (w64 (i_+1)))
def Y6 (m_:z6)(bl:List (List Bool))(s_:Int)(t_:Int)(i_:Int):R3_ :=
 bif decide (i_<m_.Inputs) then(
  (idx m_.Rows s_).bind λap=>
  (idx ap i_).bind λal=>
  (idx m_.Rows t_).bind λdu=>
  (idx du i_).bind λbp=>
  bif al.Out != bp.Out then(
   some (.done (.inr 1)))
  else(
   bif decide (al.To>=0) then(
    bif decide (bp.To>=0) then(
     (idx bl al.To).bind λjp=>
     (idx jp bp.To).bind λgm=>
     bif gm then(
      some (.done (.inr 1)))
     else(
      jI i_ al.To (decide (al.To>=0)) (decide (al.To>=0)) (decide (bp.To>=0)) (decide (bp.To>=0)) gm))
    else(
     jI i_ al.To (decide (al.To>=0)) (decide (al.To>=0)) (decide (bp.To>=0)) (decide (bp.To>=0)) false))
   else(
    jI i_ al.To (decide (al.To>=0)) (decide (al.To>=0)) false false false)))
 else(
  some (.done (.inl ())))
def Vu (m_:z6)(bl:List (List Bool))(s_:Int)(t_:Int):Option Int :=
 (loop (λs=>Y6 m_ bl s_ t_ s) 0).bind λt2=>
 match t2 with
 | .inl p=>Ji
 | .inr p=>some p
abbrev R4_:Type:=Option (List (List Bool))
def XJ (nl:List (List Bool)):R4_ :=
 some nl
abbrev R5_:Type:=Option (LR (List (List Bool)×Int) (List (List Bool)))
def XI (round:Int)(mi:List (List Bool)):R5_ :=
 some (.next (mi,w64 (round+1)))
def XG (round:Int)(next:List (List Bool)):R5_ :=
 XI round next
def XF (s_:Int)(ff:List (List Bool)):R5_ :=
 some (.next (ff,w64 (s_+1)))
def qE (m_:z6)(dg:List (List Bool))(s_:Int)(cb:List (List Bool))(t_:Int):R5_ :=
 bif decide (t_<((m_.Rows.length:Nat):Int)) then(
  (idx cb s_).bind λjq=>
  (idx dg s_).bind λjp=>
  (idx jp t_).bind λgm=>
  bif gm then(
   (idx jq t_).bind λqm=>
   some (.next ((cb.set s_.toNat (jq.set t_.toNat true)),w64 (t_+1))))
  else(
   (Vu m_ dg s_ t_).bind λr_=>
   (idx jq t_).bind λpy=>
   some (.next ((cb.set s_.toNat (jq.set t_.toNat (r_==1))),w64 (t_+1)))))
 else(
  some (.done cb))
def qG (m_:z6)(dg:List (List Bool))(cr:List (List Bool))(s_:Int):R5_ :=
 bif decide (s_<((m_.Rows.length:Nat):Int)) then(
  gd ((0:Int)<=((m_.Rows.length:Nat):Int)/\(((m_.Rows.length:Nat):Int):Int)<=4294967296) <|
  gd (cr.length+[(List.replicate ((m_.Rows.length:Nat):Int).toNat false)].length<=4294967296) <|
  (loop (λs=>qE m_ dg s_ s.1 s.2) ((cr++[(List.replicate ((m_.Rows.length:Nat):Int).toNat false)]),0)).bind λt8=>
  XF s_ t8)
 else(
  some (.done cr))
def qH (m_:z6)(k_:Int)(dg:List (List Bool))(round:Int):R5_ :=
 bif decide (round<k_) then(
  (loop (λs=>qG m_ dg s.1 s.2) (([]:List (List Bool)),0)).bind λt6=>
  XG round t6)
 else(
  some (.done dg))
def XK (m_:z6)(k_:Int)(bl:List (List Bool)):R4_ :=
 (loop (λs=>qH m_ k_ s.1 s.2) (bl,0)).bind λt3=>
 XJ t3
def qD (m_:z6)(jz:List (List Bool))(bk:Int):R5_ :=
 bif decide (bk<((m_.Rows.length:Nat):Int)) then(
  gd ((0:Int)<=((m_.Rows.length:Nat):Int)/\(((m_.Rows.length:Nat):Int):Int)<=4294967296) <|
  gd (jz.length+[(List.replicate ((m_.Rows.length:Nat):Int).toNat false)].length<=4294967296) <|
  some (.next ((jz++[(List.replicate ((m_.Rows.length:Nat):Int).toNat false)]),w64 (bk+1))))
 else(
  some (.done jz))
def Wg (m_:z6)(k_:Int):R4_ :=
 (loop (λs=>qD m_ s.1 s.2) (([]:List (List Bool)),0)).bind λt9=>
 XK m_ k_ t9
def Wf (out:TB):Option TB :=
 some out
abbrev R6_:Type:=Option (LR (TB×Int×Int) TB)
def Zd (s_:Int)(ax:TB)(ca:Int):R6_ :=
 some (.next (ax,ca,w64 (s_+1)))
def vh (aj:TB)(s_:Int)(cd:Int)(kw:Int):R6_ :=
 gd (aj.length+[kw].length<=4294967296) <|
 Zd s_ (aj++[kw]) cd
def Zc (aj:TB)(n_:Int)(s_:Int)(b_:Int):R6_ :=
 bif decide (b_<0) then(
  vh aj s_ (w64 (n_+1)) n_)
 else(
  vh aj s_ n_ b_)
abbrev R7_:Type:=Option (LR (Int×Int) Int)
def uN (t_:Int)(pz:Int):R7_ :=
 some (.next (pz,w64 (t_+1)))
def Zb (bl:List (List Bool))(aj:TB)(s_:Int)(oq:Int)(t_:Int):R7_ :=
 bif decide (t_<s_) then(
  (idx bl s_).bind λjp=>
  (idx jp t_).bind λgm=>
  bif !gm then(
   (idx aj t_).bind λdn=>
   uN t_ dn)
  else(
   uN t_ oq))
 else(
  some (.done oq))
def We (bl:List (List Bool))(aj:TB)(n_:Int)(s_:Int):R6_ :=
 bif decide (s_<((bl.length:Nat):Int)) then(
  (loop (λs=>Zb bl aj s_ s.1 s.2) ((-1),0)).bind λt6=>
  Zc aj n_ s_ t6)
 else(
  some (.done aj))
def Ze (bl:List (List Bool)):Option TB :=
 (loop (λs=>We bl s.1 s.2.1 s.2.2) (([]:TB),0,0)).bind λt2=>
 Wf t2
def Q3 (m_:z6)(k_:Int):Option TB :=
 (Wg m_ k_).bind λr_=>
 (Ze r_).bind λai=>
 some ai
def Zf (m_:z6):Option TB :=
 (Q3 m_ ((m_.Rows.length:Nat):Int)).bind λr_=>
 some r_
def Qv (m_:z6)(s_:Int)(i_:Int):Option z8 :=
 bif decide (s_<0) then(
  some (z8.mk (-1) (-1)))
 else(
  (idx m_.Rows s_).bind λap=>
  (idx ap i_).bind λal=>
  some al)
def Zh (mz:z6->Int->TB->Option Int)(m_:z6)(s_:Int)(w_:TB):Option Int :=
 bif ((w_.length:Nat):Int)==0 then(
  some s_)
 else(
  (idx w_ 0).bind λfc=>
  (Qv m_ s_ fc).bind λr_=>
  gd ((0:Int)<=1/\(1:Int)<=((w_.length:Nat):Int)/\(((w_.length:Nat):Int):Int)<=((w_.length:Nat):Int)) <|
  (mz m_ r_.To (w_.drop (1:Int).toNat)).bind λai=>
  some ai)
def Zg (fu:Nat):z6->Int->TB->Option Int:=Nat.rec (motive:=λ_=>z6->Int->TB->Option Int) (λ_ _ _=>none) (λ_ ih=>Zh ih) fu
def Vz (m_:z6)(s_:Int)(w_:TB):Option Int:=Zg (w_.length+1) m_ s_ w_
def X4 (out:TB):Option TB :=
 gd (out.length+([0]:TB).length<=4294967296) <|
 some (out++([0]:TB))
abbrev R8_:Type:=Option (LR (TB×Int) (TB⊕TB))
def Vv (inputs:Int)(aj:TB)(k_:Int):R8_ :=
 bif decide (k_>=0) then(
  (idx aj k_).bind λdn=>
  bif decide ((w64 (dn+1))<inputs) then(
   (idx aj k_).bind λjr=>
   (idx aj k_).bind λo7=>
   some (.done (.inr (aj.set k_.toNat (w64 (jr+1))))))
  else(
   (idx aj k_).bind λo8=>
   some (.next ((aj.set k_.toNat 0),w64 (k_ - 1)))))
 else(
  some (.done (.inl aj)))
def WX (w_:TB)(inputs:Int):Option TB :=
 gd (([]:TB).length+w_.length<=4294967296) <|
 (loop (λs=>Vv inputs s.1 s.2) (w_,w64 (((w_.length:Nat):Int) - 1))).bind λt2=>
 match t2 with
 | .inl p=>X4 p
 | .inr p=>some p
abbrev R9_:Type:=Option (TA×List Bool)
def Ww (l_:TA)(is:List Bool):R9_ :=
 some (l_,is)
abbrev zog:Type:=Option (LR (TA×List Bool×TB) ((TA×List Bool)))
def uE (m_:z6)(w_:TB)(j6:TA)(p0:List Bool):zog :=
 (WX w_ m_.Inputs).bind λr_=>
 some (.next (j6,p0,r_))
def Jj (m_:z6)(from_:Int)(dr:TA)(ii:List Bool)(w_:TB):zog :=
 bif decide (((w_.length:Nat):Int)<((m_.Rows.length:Nat):Int)) then(
  (Vz m_ from_ w_).bind λai=>
  bif decide (ai>=0) then(
   (idx ii ai).bind λpq=>
   bif !pq then(
    (idx ii ai).bind λr8=>
    (idx dr ai).bind λbi=>
    uE m_ w_ (dr.set ai.toNat w_) (ii.set ai.toNat true))
   else(
    uE m_ w_ dr ii))
  else(
   uE m_ w_ dr ii))
 else(
  some (.done (dr,ii)))
def Vx (m_:z6)(from_:Int):R9_ :=
 gd ((0:Int)<=((m_.Rows.length:Nat):Int)/\(((m_.Rows.length:Nat):Int):Int)<=4294967296) <|
 gd ((0:Int)<=((m_.Rows.length:Nat):Int)/\(((m_.Rows.length:Nat):Int):Int)<=4294967296) <|
 (loop (λs=>Jj m_ from_ s.1 s.2.1 s.2.2) ((List.replicate ((m_.Rows.length:Nat):Int).toNat ([]:TB)),(List.replicate ((m_.Rows.length:Nat):Int).toNat false),([]:TB))).bind λt2=>
 Ww t2.1 t2.2
def Wh (m_:z6):R9_ :=
 (Vx m_ 0).bind λr_=>
 some (r_.1,r_.2)
def Kf:Option Int :=
 some 0
def Vw (a_:TB)(b_:TB)(i_:Int):R3_ :=
 bif decide (i_<((a_.length:Nat):Int)) then(
  (idx a_ i_).bind λdv=>
  (idx b_ i_).bind λdx=>
  bif dv != dx then(
   (idx a_ i_).bind λi6=>
   (idx b_ i_).bind λl6=>
   bif decide (i6<l6) then(
    some (.done (.inr 1)))
   else(
    some (.done (.inr 0))))
  else(
   some (.next (w64 (i_+1)))))
 else(
  some (.done (.inl ())))
def Qu (a_:TB)(b_:TB):Option Int :=
 bif ((a_.length:Nat):Int) !=((b_.length:Nat):Int) then(
  bif decide (((a_.length:Nat):Int)<((b_.length:Nat):Int)) then(
   some 1)
  else(
   some 0))
 else(
  (loop (λs=>Vw a_ b_ s) 0).bind λt2=>
  match t2 with
  | .inl p=>Kf
  | .inr p=>some p)
def Wy (out:TB):Option TB :=
 some out
def uF (s_:Int)(ax:TB):R1_ :=
 some (.next (ax,w64 (s_+1)))
def Y7 (aj:TB)(s_:Int)(k_:Int):R1_ :=
 gd ((0:Int)<=0/\(0:Int)<=k_/\(k_:Int)<=((aj.length:Nat):Int)) <|
 gd (([]:TB).length+((aj.drop 0).take (k_.toNat - 0)).length<=4294967296) <|
 gd (((aj.drop 0).take (k_.toNat - 0)).length+[s_].length<=4294967296) <|
 gd ((0:Int)<=k_/\(k_:Int)<=((aj.length:Nat):Int)/\(((aj.length:Nat):Int):Int)<=((aj.length:Nat):Int)) <|
 gd ((((aj.drop 0).take (k_.toNat - 0))++[s_]).length+(aj.drop k_.toNat).length<=4294967296) <|
 uF s_ ((((aj.drop 0).take (k_.toNat - 0))++[s_])++(aj.drop k_.toNat))
def jJ (r_:TA×List Bool)(aj:TB)(s_:Int)(de:Int):Option (LR Int Int) :=
 bif decide (de<((aj.length:Nat):Int)) then(
  (idx aj de).bind λdn=>
  (idx r_.1 dn).bind λqp=>
  (idx r_.1 s_).bind λqq=>
  (Qu qp qq).bind λai=>
  bif ai==1 then(
   some (.next (w64 (de+1))))
  else(
   some (.done de)))
 else(
  some (.done de))
def jK (r_:TA×List Bool)(aj:TB)(s_:Int):R1_ :=
 bif decide (s_<((r_.1.length:Nat):Int)) then(
  (idx r_.2 s_).bind λu_=>
  bif !u_ then(
   uF s_ aj)
  else(
   (loop (λs=>jJ r_ aj s_ s) 0).bind λt5=>
   Y7 aj s_ t5))
 else(
  some (.done aj))
def Vy (m_:z6):Option TB :=
 (Wh m_).bind λr_=>
 (loop (λs=>jK r_ s.1 s.2) (([]:TB),0)).bind λt2=>
 Wy t2
def XE (out:TB):Option TB :=
 some out
def qC (k_:Int)(ax:TB):R1_ :=
 some (.next (ax,w64 (k_+1)))
def XD (ai:TB)(aj:TB)(k_:Int)(there:Int):R1_ :=
 bif there==0 then(
  (idx ai k_).bind λdm=>
  gd (aj.length+[dm].length<=4294967296) <|
  qC k_ (aj++[dm]))
 else(
  qC k_ aj)
def Za (n_:Int)(nc:Int):R7_ :=
 some (.next (nc,w64 (n_+1)))
def XC (r_:TB)(ai:TB)(k_:Int)(ee:Int)(n_:Int):R7_ :=
 bif decide (n_<k_) then(
  (idx ai n_).bind λip=>
  (idx r_ ip).bind λn9=>
  (idx ai k_).bind λoa=>
  (idx r_ oa).bind λqr=>
  bif n9==qr then(
   Za n_ 1)
  else(
   Za n_ ee))
 else(
  some (.done ee))
def Q2 (r_:TB)(ai:TB)(aj:TB)(k_:Int):R1_ :=
 bif decide (k_<((ai.length:Nat):Int)) then(
  (loop (λs=>XC r_ ai k_ s.1 s.2) (0,0)).bind λt5=>
  XD ai aj k_ t5)
 else(
  some (.done aj))
def kF (m_:z6):Option TB :=
 (Zf m_).bind λr_=>
 (Vy m_).bind λai=>
 (loop (λs=>Q2 r_ ai s.1 s.2) (([]:TB),0)).bind λt2=>
 XE t2
def YL (out:List Bool):Option (List Bool) :=
 some out
abbrev zin:Type:=Option (LR (List Bool×Int) (List Bool))
def YK (round:Int)(ax:List Bool):zin :=
 some (.next (ax,w64 (round+1)))
def YJ (s_:Int)(gx:List Bool):zin :=
 some (.next (gx,w64 (s_+1)))
def uz (i_:Int)(o9:List Bool):zin :=
 some (.next (o9,w64 (i_+1)))
def YH (m_:z6)(s_:Int)(kg:List Bool)(i_:Int):zin :=
 bif decide (i_<m_.Inputs) then(
  (idx m_.Rows s_).bind λap=>
  (idx ap i_).bind λal=>
  (idx kg s_).bind λdn=>
  bif dn then(
   bif decide (al.To>=0) then(
    (idx kg al.To).bind λjr=>
    uz i_ (kg.set al.To.toNat true))
   else(
    uz i_ kg))
  else(
   uz i_ kg))
 else(
  some (.done kg))
def YI (m_:z6)(bo:List Bool)(s_:Int):zin :=
 bif decide (s_<((m_.Rows.length:Nat):Int)) then(
  (loop (λs=>YH m_ s_ s.1 s.2) (bo,0)).bind λt6=>
  YJ s_ t6)
 else(
  some (.done bo))
def Ud (m_:z6)(aj:List Bool)(round:Int):zin :=
 bif decide (round<((m_.Rows.length:Nat):Int)) then(
  (loop (λs=>YI m_ s.1 s.2) (aj,0)).bind λt4=>
  YK round t4)
 else(
  some (.done aj))
def X5 (m_:z6)(from_:Int):Option (List Bool) :=
 gd ((0:Int)<=((m_.Rows.length:Nat):Int)/\(((m_.Rows.length:Nat):Int):Int)<=4294967296) <|
 (idx (List.replicate ((m_.Rows.length:Nat):Int).toNat false) from_).bind λmj=>
 (loop (λs=>Ud m_ s.1 s.2) (((List.replicate ((m_.Rows.length:Nat):Int).toNat false).set from_.toNat true),0)).bind λt2=>
 YL t2
def Q1 (out:TB):Option TB :=
 some out
def Q0 (s_:Int)(ax:TB):R1_ :=
 some (.next (ax,w64 (s_+1)))
def UZ (aj:TB)(s_:Int)(k_:Int):R1_ :=
 gd (aj.length+[k_].length<=4294967296) <|
 Q0 s_ (aj++[k_])
def Yq (n_:Int)(kj:Int):R7_ :=
 some (.next (kj,w64 (n_+1)))
def UY (r_:TB)(ai:TB)(ak:List Bool)(s_:Int)(de:Int)(n_:Int):R7_ :=
 bif decide (n_<((ai.length:Nat):Int)) then(
  (idx ak s_).bind λdm=>
  bif dm then(
   (idx ai n_).bind λip=>
   (idx r_ ip).bind λn9=>
   (idx r_ s_).bind λoa=>
   bif n9==oa then(
    Yq n_ n_)
   else(
    Yq n_ de))
  else(
   Yq n_ de))
 else(
  some (.done de))
def z0o (r_:TB)(ai:TB)(ak:List Bool)(aj:TB)(s_:Int):R1_ :=
 bif decide (s_<((r_.length:Nat):Int)) then(
  (loop (λs=>UY r_ ai ak s_ s.1 s.2) ((-1),0)).bind λt5=>
  UZ aj s_ t5)
 else(
  some (.done aj))
def Ke (m_:z6):Option TB :=
 (Zf m_).bind λr_=>
 (kF m_).bind λai=>
 (X5 m_ 0).bind λak=>
 (loop (λs=>z0o r_ ai ak s.1 s.2) (([]:TB),0)).bind λt2=>
 Q1 t2
def YG (m_:z6)(gy:List (List z8)):Option z6 :=
 some (z6.mk m_.Inputs m_.Outputs gy)
def YF (k_:Int)(gp:List (List z8)):R0_ :=
 some (.next (gp,w64 (k_+1)))
def YE (bt:List (List z8))(k_:Int)(row:List z8):R0_ :=
 gd (bt.length+[row].length<=4294967296) <|
 YF k_ (bt++[row])
def uw (bu:List z8)(i_:Int)(al:z8)(gz:Int):R2_ :=
 gd (bu.length+[(z8.mk gz al.Out)].length<=4294967296) <|
 some (.next ((bu++[(z8.mk gz al.Out)]),w64 (i_+1)))
def YC (m_:z6)(r_:TB)(ai:TB)(k_:Int)(bu:List z8)(i_:Int):R2_ :=
 bif decide (i_<m_.Inputs) then(
  (idx r_ k_).bind λdm=>
  (idx m_.Rows dm).bind λap=>
  (idx ap i_).bind λal=>
  bif decide (al.To>=0) then(
   (idx ai al.To).bind λip=>
   uw bu i_ al ip)
  else(
   uw bu i_ al al.To))
 else(
  some (.done bu))
def YD (m_:z6)(r_:TB)(ai:TB)(bt:List (List z8))(k_:Int):R0_ :=
 bif decide (k_<((r_.length:Nat):Int)) then(
  (loop (λs=>YC m_ r_ ai k_ s.1 s.2) (([]:List z8),0)).bind λt5=>
  YE bt k_ t5)
 else(
  some (.done bt))
def X3 (m_:z6):Option z6 :=
 (kF m_).bind λr_=>
 (Ke m_).bind λai=>
 (loop (λs=>YD m_ r_ ai s.1 s.2) (([]:List (List z8)),0)).bind λt2=>
 YG m_ t2
def QE (x_:Yx):Option z6 :=
 gd ((5:Int)≠0) <|
 (QF (yk.mk (Int.tmod x_.C.States 5) x_.C.Inputs x_.C.Outputs x_.C.Tree x_.C.Edges)).bind λr_=>
 (X3 r_).bind λai=>
 some ai
def ui:Option z8 :=
 some (z8.mk (-1) (-1))
def X7 (m_:z6)(x_:z8):Option Bool :=
 (ui).bind λr_=>
 bif (x_.To==r_.To)&&((x_.Out==r_.Out)&&true) then(
  some true)
 else(
  bif decide (x_.To>=0) then(
   bif decide (x_.To<((m_.Rows.length:Nat):Int)) then(
    bif decide (x_.Out>=0) then(
     some (decide (x_.Out<m_.Outputs)))
    else(
     some false))
   else(
    some false))
  else(
   some false))
def YM (x_:z8)(x1:z6):Option Bool :=
 (X7 x1 x_).bind λr_=>
 some (!r_)
def wu:Option Int :=
 some (-1)
def yc (s_:List z8)(f_:z6)(x8:Int):R3_ :=
 bif decide (x8<((s_.length:Nat):Int)) then(
  (idx s_ x8).bind λeb=>
  (YM eb f_).bind λr_=>
  bif r_ then(
   some (.done (.inr x8)))
  else(
   some (.next (w64 (x8+1)))))
 else(
  some (.done (.inl ())))
def xq (s_:List z8)(f_:z6):Option Int :=
 (loop (λs=>yc s_ f_ s) 0).bind λt2=>
 match t2 with
 | .inl p=>wu
 | .inr p=>some p
def yd (s_:List z8)(f_:z6):Option Bool :=
 (xq s_ f_).bind λr_=>
 some (decide (r_>=0))
def V2:Option Int :=
 some 0
def qU (m_:z6)(kl:Int):R3_ :=
 bif decide (kl<((m_.Rows.length:Nat):Int)) then(
  (idx m_.Rows kl).bind λap=>
  bif ((ap.length:Nat):Int) != m_.Inputs then(
   some (.done (.inr 1)))
  else(
   (yd ap m_).bind λr_=>
   bif r_ then(
    some (.done (.inr 1)))
   else(
    some (.next (w64 (kl+1))))))
 else(
  some (.done (.inl ())))
def xw (m_:z6):Option Int :=
 bif decide (m_.Inputs > 16) then(
  some 3)
 else(
  bif decide (m_.Outputs > 16) then(
   some 3)
  else(
   bif decide (((m_.Rows.length:Nat):Int) > 64) then(
    some 3)
   else(
    bif decide (m_.Inputs<1) then(
     some 1)
    else(
     bif decide (m_.Outputs<1) then(
      some 1)
     else(
      bif decide (((m_.Rows.length:Nat):Int)<1) then(
       some 1)
      else(
       (loop (λs=>qU m_ s) 0).bind λt2=>
       match t2 with
       | .inl p=>V2
       | .inr p=>some p))))))
def XL (m_:z6):Option ((Int×z6)×(Int×z6)×(Int×z6)) :=
 some ((9,m_),(11,m_),(12,m_))
def WB (m_:z6):Option z6 :=
 some m_
variable {σ:Type}
def jZ (gi:Int)(js:σ):Option (LR (σ×Int) σ) :=
 some (.next (js,w64 (gi+1)))
def wQ (yy:σ->(jD Int×z8)->Option (σ×Bool))(gi:Int)(ap:List z8)(gg:σ)(ba:Int):Option (LR (σ×Int) (σ⊕σ)) :=
 bif decide (ba<((ap.length:Nat):Int)) then(
  (idx ap ba).bind λal=>
  (yy gg ((jD.mk gi ba),al)).bind λyr=>
  bif !yr.2 then(
   some (.done (.inr yr.1)))
  else(
   some (.next (yr.1,w64 (ba+1)))))
 else(
  some (.done (.inl gg)))
def uj (x0:z6)(yy:σ->(jD Int×z8)->Option (σ×Bool))(dw:σ)(gi:Int):Option (LR (σ×Int) σ) :=
 bif decide (gi<((x0.Rows.length:Nat):Int)) then(
  (idx x0.Rows gi).bind λap=>
  (loop (λs=>wQ yy gi ap s.1 s.2) (dw,0)).bind λt3=>
  match t3 with
  | .inl p=>jZ gi p
  | .inr p=>some (.done p))
 else(
  some (.done dw))
def jT (x0:z6){σ:Type}(yy:σ->(jD Int×z8)->Option (σ×Bool))(sg:σ):Option σ :=
 (loop (λs=>uj x0 yy s.1 s.2) (sg,0)).bind λt1=>
 some t1
abbrev zmZ:Type:=Option (List (jD Int))
def uf (s_:List (jD Int)):zmZ :=
 gd ((0:Int)<=0/\(0:Int)<=((s_.length:Nat):Int)/\(((s_.length:Nat):Int):Int)<=((s_.length:Nat):Int)/\(((s_.length:Nat):Int):Int)<=((s_.length:Nat):Int)) <|
 some ((s_.drop 0).take (((s_.length:Nat):Int).toNat - 0))
def qI (out:List (jD Int)):zmZ :=
 (uf out).bind λr_=>
 some r_
def yH (aj:List (jD Int))(x8:jD Int)(x9:z8):Option (LR (List (jD Int)) Empty) :=
 (ui).bind λak=>
 bif (x9.To==ak.To)&&((x9.Out==ak.Out)&&true) then(
  gd (aj.length+[x8].length<=4294967296) <|
  some (.next (aj++[x8])))
 else(
  some (.next aj))
def Zj (m_:z6):zmZ :=
 (WB m_).bind λai=>
 (jT ai (yOf (λs x=>yH s x.1 x.2)) (.next ([]:List (jD Int)))).bind λt2=>
 match t2 with
 | .next aj=>(
  qI aj)
 | .done z=>nomatch z
def qS (m_:z6):Option (Bool×Int) :=
 (xw m_).bind λr_=>
 bif r_ != 0 then(
  some (false,r_))
 else(
  (Zj m_).bind λai=>
  some (((ai.length:Nat):Int)==0,0))
def ZR (x0:z6):Option Bool :=
 (qS x0).bind λr_=>
 some r_.1
def wy (mz:Int->(List Bool)->z6->Option (List Bool×z6))(ap:List z8)(x1:List Bool)(jt:Int)(jd:Int)(la:List (List z8))(ga:Int):Option (LR (List Bool×Int×Int×List (List z8)×Int) ((List Bool×z6))) :=
 bif decide (ga<((ap.length:Nat):Int)) then(
  (idx ap ga).bind λal=>
  (mz al.To x1 (z6.mk jt jd la)).bind λr_=>
  some (.next (r_.1,r_.2.Inputs,r_.2.Outputs,r_.2.Rows,w64 (ga+1))))
 else(
  some (.done (x1,(z6.mk jt jd la))))
def wT (mz:Int->(List Bool)->z6->Option (List Bool×z6))(s_:Int)(y0:List Bool)(y1:z6):Option (List Bool×z6) :=
 bif s_==(-1) then(
  some (y0,y1))
 else(
  (idx y0 s_).bind λsb=>
  bif sb then(
   some (y0,y1))
  else(
   (idx y0 s_).bind λsf=>
   (idx y1.Rows s_).bind λap=>
   (loop (λs=>wy mz ap s.1 s.2.1 s.2.2.1 s.2.2.2.1 s.2.2.2.2) ((y0.set s_.toNat true),y1.Inputs,y1.Outputs,y1.Rows,0)).bind λt1=>
   some t1))
def ye (fu:Nat):Int->(List Bool)->z6->Option (List Bool×z6):=Nat.rec (motive:=λ_=>Int->(List Bool)->z6->Option (List Bool×z6)) (λ_ _ _=>none) (λ_ ih=>wT ih) fu
def jH:Option Int :=
 some (-1)
def xS (s_:List Bool)(v_:Bool)(x8:Int):R3_ :=
 bif decide (x8<((s_.length:Nat):Int)) then(
  (idx s_ x8).bind λeb=>
  bif v_==eb then(
   some (.done (.inr x8)))
  else(
   some (.next (w64 (x8+1)))))
 else(
  some (.done (.inl ())))
def uJ (s_:List Bool)(v_:Bool):Option Int :=
 (loop (λs=>xS s_ v_ s) 0).bind λt2=>
 match t2 with
 | .inl p=>jH
 | .inr p=>some p
def xT (s_:List Bool)(v_:Bool):Option Bool :=
 (uJ s_ v_).bind λr_=>
 some (decide (r_>=0))
def vj (m_:z6):Option (Bool×Int) :=
 (xw m_).bind λr_=>
 bif r_ != 0 then(
  some (false,r_))
 else(
  gd ((0:Int)<=((m_.Rows.length:Nat):Int)/\(((m_.Rows.length:Nat):Int):Int)<=4294967296) <|
  (ye VL 0 (List.replicate ((m_.Rows.length:Nat):Int).toNat false) m_).bind λai=>
  (xT ai.1 false).bind λak=>
  some (!ak,0))
def ZQ (x0:z6):Option Bool :=
 (vj x0).bind λr_=>
 some r_.1
def Wv (m_:z6):Option z6 :=
 some m_
def XB (out:zC (jD Int)):Option (zC (jD Int)) :=
 some out
abbrev zof:Type:=Option (LR (zC (jD Int)×Int) (zC (jD Int)))
def kW (ft:Int)(ax:zC (jD Int)):zof :=
 some (.next (ax,w64 (ft+1)))
def XA (p_:TB)(ap:List z8)(aj:zC (jD Int))(ft:Int):zof :=
 bif decide (ft<((ap.length:Nat):Int)) then(
  (idx ap ft).bind λal=>
  (idx (zC.toL aj) ft).bind λcell=>
  (some (zC.setI aj ft (jD.mk al.Out (-1)))).bind λarr=>
  bif al.To !=(-1) then(
   (idx p_ al.To).bind λbj=>
   (idx (zC.toL arr) ft).bind λco=>
   (some (zC.setI arr ft (jD.mk co.e0 bj))).bind λarr1=>
   kW ft arr1)
  else(
   kW ft arr))
 else(
  some (.done aj))
def kE (m_:z6)(p_:TB)(s_:Int):Option (zC (jD Int)) :=
 (idx m_.Rows s_).bind λap=>
 (loop (λs=>XA p_ ap s.1 s.2) ((zC.mk (jD.mk 0 0) (jD.mk 0 0) (jD.mk 0 0) (jD.mk 0 0) (jD.mk 0 0) (jD.mk 0 0) (jD.mk 0 0) (jD.mk 0 0) (jD.mk 0 0) (jD.mk 0 0) (jD.mk 0 0) (jD.mk 0 0) (jD.mk 0 0) (jD.mk 0 0) (jD.mk 0 0) (jD.mk 0 0)),0)).bind λt2=>
 XB t2
def kY (out:TB):Option TB :=
 some out
abbrev zoe:Type:=Option (LR ((List (zO×Int))×TB×Int) TB)
def ve (aj:TB)(gh:Int)(bj:Int)(r_:zC (jD Int))(jf:List (zO×Int)):zoe :=
 (some ((Vb jf (zO.mk bj r_)).getD 0)).bind λval=>
 (idx aj gh).bind λdn=>
 some (.next (jf,(aj.set gh.toNat val),w64 (gh+1)))
def kX (m_:z6)(p_:TB)(names:List (zO×Int))(aj:TB)(gh:Int):zoe :=
 bif decide (gh<((p_.length:Nat):Int)) then(
  (idx p_ gh).bind λbj=>
  (kE m_ p_ gh).bind λr_=>
  (some ((Vb names (zO.mk bj r_)).getD 0)).bind λrh=>
  bif !((Vb names (zO.mk bj r_)).isSome) then(
   ve aj gh bj r_ (z1Y names (zO.mk bj r_) ((names.length:Nat):Int)))
  else(
   ve aj gh bj r_ names))
 else(
  some (.done aj))
def kZ (m_:z6)(p_:TB):Option TB :=
 gd ((0:Int)<=((p_.length:Nat):Int)/\(((p_.length:Nat):Int):Int)<=4294967296) <|
 (loop (λs=>kX m_ p_ s.1 s.2.1 s.2.2) (([]:List (zO×Int)),(List.replicate ((p_.length:Nat):Int).toNat (0:Int)),0)).bind λt2=>
 kY t2
def ue:Option Bool :=
 some true
abbrev zmY:Type:=Option (LR Int (Unit⊕Bool))
def ww (s1:TB)(s2:TB)(fq:Int):zmY :=
 bif decide (fq<((s1.length:Nat):Int)) then(
  (idx s1 fq).bind λpa=>
  (idx s2 fq).bind λnw=>
  bif pa != nw then(
   some (.done (.inr false)))
  else(
   some (.next (w64 (fq+1)))))
 else(
  some (.done (.inl ())))
def vF (s1:TB)(s2:TB):Option Bool :=
 bif ((s1.length:Nat):Int) !=((s2.length:Nat):Int) then(
  some false)
 else(
  (loop (λs=>ww s1 s2 s) 0).bind λt2=>
  match t2 with
  | .inl p=>ue
  | .inr p=>some p)
def ug (x0:z6)(yy:σ->TB->Option (σ×Bool))(dw:σ)(p_:TB):Option (LR (σ×TB) σ) :=
 (yy dw p_).bind λyr=>
 bif yr.2 then(
  (kZ x0 p_).bind λr_=>
  (vF p_ r_).bind λai=>
  bif ai then(
   some (.done yr.1))
  else(
   some (.next (yr.1,r_))))
 else(
  some (.done yr.1))
def jS (x0:z6){σ:Type}(yy:σ->TB->Option (σ×Bool))(sg:σ):Option σ :=
 gd ((0:Int)<=((x0.Rows.length:Nat):Int)/\(((x0.Rows.length:Nat):Int):Int)<=4294967296) <|
 (loop (λs=>ug x0 yy s.1 s.2) (sg,(List.replicate ((x0.Rows.length:Nat):Int).toNat (0:Int)))).bind λt1=>
 some t1
def Z8 (p_:TB)(n_:Int):Option (TB×Int×Int) :=
 some (p_,n_,0)
def vg (nv:TB)(ca:Int)(kq:TB):Option (LR (TB×Int) Empty) :=
 some (.next (kq,w64 (ca+1)))
def Z9 (m_:z6):Option (TB×Int×Int) :=
 (xw m_).bind λr_=>
 bif r_ != 0 then(
  some (([]:TB),0,r_))
 else(
  (Wv m_).bind λai=>
  (jS ai (yOf (λs x=>vg s.1 s.2 x)) (.next (([]:TB),(-1)))).bind λt2=>
  match t2 with
  | .next (nv,ca)=>(
   Z8 nv ca)
  | .done z=>nomatch z)
def qz (m_:Int):Option Int :=
 some m_
def qu (x_:TB)(pb:Int)(i_:Int):R7_ :=
 bif decide (i_<((x_.length:Nat):Int)) then(
  (idx x_ i_).bind λl7=>
  some (.next ((mx pb l7),w64 (i_+1))))
 else(
  some (.done pb))
def uL (x_:TB):Option Int :=
 bif decide (((x_.length:Nat):Int)<1) then(
  none)
 else(
  (idx x_ 0).bind λmq=>
  (loop (λs=>qu x_ s.1 s.2) (mq,1)).bind λt2=>
  qz t2)
def ZP (x0:z6):Option Bool :=
 (Z9 x0).bind λr_=>
 (uL r_.1).bind λai=>
 some (ai==(w64 (((r_.1.length:Nat):Int) - 1)))
def jX:Option Int :=
 some 0
def wh (m_:z6):Option Int :=
 (xw m_).bind λr_=>
 bif r_ != 0 then(
  some r_)
 else(
  (XL m_).bind λai=>
  (ZR ai.1.2).bind λak=>
  bif !ak then(
   some ai.1.1)
  else(
   (ZQ ai.2.1.2).bind λam=>
   bif !am then(
    some ai.2.1.1)
   else(
    (ZP ai.2.2.2).bind λaz=>
    bif !az then(
     some ai.2.2.1)
    else(
     jX))))
def Yp (m_:z6)(bound:Int):Option Int :=
 (wh m_).bind λr_=>
 bif r_ != 0 then(
  some r_)
 else(
  bif decide (bound<((m_.Rows.length:Nat):Int)) then(
   some 1)
  else(
   bif decide (bound > (w64 (((m_.Rows.length:Nat):Int)+4))) then(
    some 1)
   else(
    some 0)))
def Wp (m_:z6)(from_:Int):Option (z6×Int) :=
 some (m_,from_)
def xc (jl:Int)(eu:List Bool)(nd:List zn):Option (LR (List Bool×List zn×Int) ((σ×List Bool×List zn))) :=
 some (.next (eu,nd,w64 (jl+1)))
def wI (cw:zn)(yr:σ×Bool)(ap:List z8)(gn:List Bool)(fx:List zn)(jl:Int):Option (LR (List Bool×List zn×Int) ((σ×List Bool×List zn))) :=
 bif decide (jl<((ap.length:Nat):Int)) then(
  (idx ap jl).bind λal=>
  bif al.To !=(-1) then(
   (idx gn al.To).bind λp7=>
   bif !p7 then(
    (idx gn al.To).bind λra=>
    gd (fx.length+[(zn.mk al.To cw.state_ jl)].length<=4294967296) <|
    xc jl (gn.set al.To.toNat true) (fx++[(zn.mk al.To cw.state_ jl)]))
   else(
    xc jl gn fx))
  else(
   xc jl gn fx))
 else(
  some (.done (yr.1,gn,fx)))
def vW (x0:z6)(yy:σ->zn->Option (σ×Bool))(dw:σ)(kh:List Bool)(d8:List zn):Option (LR (σ×List Bool×List zn) σ) :=
 bif decide (((d8.length:Nat):Int) > 0) then(
  (idx d8 0).bind λcw=>
  gd ((0:Int)<=1/\(1:Int)<=((d8.length:Nat):Int)) <|
  (yy dw cw).bind λyr=>
  bif !yr.2 then(
   some (.done yr.1))
  else(
   (idx x0.Rows cw.state_).bind λap=>
   (loop (λs=>wI cw yr ap s.1 s.2.1 s.2.2) (kh,(d8.drop (1:Int).toNat),0)).bind λt2=>
   some (.next t2)))
 else(
  some (.done dw))
def jP (x0:z6)(x1:Int){σ:Type}(yy:σ->zn->Option (σ×Bool))(sg:σ):Option σ :=
 gd ((0:Int)<=((x0.Rows.length:Nat):Int)/\(((x0.Rows.length:Nat):Int):Int)<=4294967296) <|
 (idx (List.replicate ((x0.Rows.length:Nat):Int).toNat false) x1).bind λmj=>
 (loop (λs=>vW x0 yy s.1 s.2.1 s.2.2) (sg,((List.replicate ((x0.Rows.length:Nat):Int).toNat false).set x1.toNat true),([(zn.mk x1 (-1) (-1))]:List zn))).bind λt1=>
 some t1
def y8 (s_:TB):Option TB :=
 gd (([]:TB).length+s_.length<=4294967296) <|
 some s_
def zP (s_:TB):Option TB :=
 gd ((0:Int)<=0/\(0:Int)<=((s_.length:Nat):Int)/\(((s_.length:Nat):Int):Int)<=((s_.length:Nat):Int)/\(((s_.length:Nat):Int):Int)<=((s_.length:Nat):Int)) <|
 some ((s_.drop 0).take (((s_.length:Nat):Int).toNat - 0))
def Wo (l_:TA)(is:List Bool):R9_ :=
 some (l_,is)
def wC (dr:TA)(ii:List Bool)(jn:zn):Option (LR (TA×List Bool) Empty) :=
 (idx ii jn.state_).bind λpq=>
 bif jn.from_ !=(-1) then(
  (idx dr jn.from_).bind λbi=>
  (y8 bi).bind λai=>
  gd (ai.length+[jn.input_].length<=4294967296) <|
  (zP (ai++[jn.input_])).bind λak=>
  (idx dr jn.state_).bind λew=>
  some (.next ((dr.set jn.state_.toNat ak),(ii.set jn.state_.toNat true))))
 else(
  some (.next (dr,(ii.set jn.state_.toNat true))))
def Vd (m_:z6)(from_:Int):R9_ :=
 gd ((0:Int)<=((m_.Rows.length:Nat):Int)/\(((m_.Rows.length:Nat):Int):Int)<=4294967296) <|
 gd ((0:Int)<=((m_.Rows.length:Nat):Int)/\(((m_.Rows.length:Nat):Int):Int)<=4294967296) <|
 (Wp m_ from_).bind λr_=>
 (jP r_.1 r_.2 (yOf (λs x=>wC s.1 s.2 x)) (.next ((List.replicate ((m_.Rows.length:Nat):Int).toNat ([]:TB)),(List.replicate ((m_.Rows.length:Nat):Int).toNat false)))).bind λt2=>
 match t2 with
 | .next (dr,ii)=>(
  Wo dr ii)
 | .done z=>nomatch z
def Wa (m_:z6):Option (TA×List Bool×Int) :=
 (xw m_).bind λr_=>
 bif r_ != 0 then(
  some (([]:TA),([]:List Bool),r_))
 else(
  (Vd m_ 0).bind λai=>
  some (ai.1,ai.2,0))
def Vc (c_:Int)(x1:Int):Option Bool :=
 bif decide (c_<0) then(
  some true)
 else(
  some (decide (c_>=x1)))
def qA:Option Int :=
 some (-1)
def xy (s_:TB)(f_:Int)(x8:Int):R3_ :=
 bif decide (x8<((s_.length:Nat):Int)) then(
  (idx s_ x8).bind λeb=>
  (Vc eb f_).bind λr_=>
  bif r_ then(
   some (.done (.inr x8)))
  else(
   some (.next (w64 (x8+1)))))
 else(
  some (.done (.inl ())))
def vL (s_:TB)(f_:Int):Option Int :=
 (loop (λs=>xy s_ f_ s) 0).bind λt2=>
 match t2 with
 | .inl p=>qA
 | .inr p=>some p
def wP (s_:TB)(f_:Int):Option Bool :=
 (vL s_ f_).bind λr_=>
 some (decide (r_>=0))
def jW (w_:TB)(inputs:Int):Option Int :=
 bif decide (inputs > 16) then(
  some 3)
 else(
  bif decide (((w_.length:Nat):Int) > 256) then(
   some 3)
  else(
   bif decide (inputs<1) then(
    some 1)
   else(
    (wP w_ inputs).bind λr_=>
    bif r_ then(
     some 1)
    else(
     some 0))))
def Jf:Option Int :=
 some 0
def Y2 (l_:TA)(inputs:Int)(dy:Int):R3_ :=
 bif decide (dy<((l_.length:Nat):Int)) then(
  (idx l_ dy).bind λbi=>
  (jW bi inputs).bind λr_=>
  bif r_ != 0 then(
   some (.done (.inr r_)))
  else(
   some (.next (w64 (dy+1)))))
 else(
  some (.done (.inl ())))
def Xt (l_:TA)(inputs:Int):Option Int :=
 bif decide (inputs > 16) then(
  some 3)
 else(
  bif decide (((l_.length:Nat):Int) > 4096) then(
   some 3)
  else(
   bif decide (inputs<1) then(
    some 1)
   else(
    (loop (λs=>Y2 l_ inputs s) 0).bind λt2=>
    match t2 with
    | .inl p=>Jf
    | .inr p=>some p)))
abbrev z8M:Type:=Option TA
def yx (s_:TA):z8M :=
 gd (([]:TA).length+s_.length<=4294967296) <|
 some s_
def Xc (x_:Int):Option Bool :=
 some (x_ != x_)
def qJ (x_:Int)(y_:Int):Option Int :=
 (Xc x_).bind λr_=>
 (Xc y_).bind λai=>
 bif r_ then(
  bif ai then(
   some 0)
  else(
   some (-1)))
 else(
  bif ai then(
   some 1)
  else(
   bif decide (x_<y_) then(
    some (-1))
   else(
    bif decide (x_ > y_) then(
     some 1)
    else(
     some 0))))
def vu (s1:TB)(s2:TB):Option Int :=
 bif decide (((s1.length:Nat):Int)<((s2.length:Nat):Int)) then(
  some (-1))
 else(
  some 0)
def xU (s1:TB)(s2:TB)(ig:Int):R3_ :=
 bif decide (ig<((s1.length:Nat):Int)) then(
  (idx s1 ig).bind λpa=>
  bif decide (ig>=((s2.length:Nat):Int)) then(
   some (.done (.inr 1)))
  else(
   (idx s2 ig).bind λnw=>
   (qJ pa nw).bind λr_=>
   bif r_ != 0 then(
    some (.done (.inr r_)))
   else(
    some (.next (w64 (ig+1))))))
 else(
  some (.done (.inl ())))
def wS (s1:TB)(s2:TB):Option Int :=
 (loop (λs=>xU s1 s2 s) 0).bind λt2=>
 match t2 with
 | .inl p=>vu s1 s2
 | .inr p=>some p
def VS:Option Int :=
 some 0
def Xd (vals:TB)(x8:Int):R3_ :=
 bif decide (x8<((vals.length:Nat):Int)) then(
  (idx vals x8).bind λpr=>
  bif pr != 0 then(
   some (.done (.inr pr)))
  else(
   some (.next (w64 (x8+1)))))
 else(
  some (.done (.inl ())))
def QH (vals:TB):Option Int :=
 (loop (λs=>Xd vals s) 0).bind λt2=>
 match t2 with
 | .inl p=>VS
 | .inr p=>some p
def yQ (a_:TB)(b_:TB):Option Int :=
 (qJ ((a_.length:Nat):Int) ((b_.length:Nat):Int)).bind λr_=>
 (wS a_ b_).bind λai=>
 (QH ([r_,ai])).bind λak=>
 some ak
def jF (a_:TB)(b_:TB):Option Bool :=
 (yQ a_ b_).bind λr_=>
 some (r_==0)
def vV (s_:TA):z8M :=
 some s_
abbrev zmX:Type:=Option (LR Int (Unit⊕TA))
def w7 (k_:Int):zmX :=
 some (.next (w64 (k_+1)))
def yi (bk:TA)(de:Int):zmX :=
 gd ((0:Int)<=de/\(de:Int)<=((bk.length:Nat):Int)) <|
 gd ((0:Int)<=de/\(de:Int)<=((bk.length:Nat):Int)) <|
 gd ((0:Int)<=de/\(de:Int)<=(((bk.take de.toNat++List.replicate (bk.length - de.toNat) []).length:Nat):Int)) <|
 some (.done (.inr ((bk.take de.toNat++List.replicate (bk.length - de.toNat) []).take de.toNat)))
abbrev zlz:Type:=Option (LR (TA×Int×Int) ((TA×Int)))
def yh (k2:Int)(ng:TA)(p8:Int):zlz :=
 some (.next (ng,p8,w64 (k2+1)))
def yU (k_:Int)(da:TA)(kj:Int)(k2:Int):zlz :=
 bif decide (k2<((da.length - k_.toNat:Nat):Int)) then(
  gd ((0:Int)<=k_/\(0:Int)<=k2) <|
  (idx da (k_+k2)).bind λot=>
  gd ((0:Int)<=k_/\(0:Int)<=w64 (k2 - 1)) <|
  (idx da (k_+(w64 (k2 - 1)))).bind λou=>
  (jF ot ou).bind λai=>
  bif !ai then(
   gd ((0:Int)<=k_/\(0:Int)<=k2) <|
   (idx da (k_+k2)).bind λov=>
   (idx da kj).bind λr9=>
   yh k2 (da.set kj.toNat ov) (w64 (kj+1)))
  else(
   yh k2 da kj))
 else(
  some (.done (da,kj)))
def xZ (s_:TA)(k_:Int):zmX :=
 bif decide (k_<((s_.length:Nat):Int)) then(
  (idx s_ k_).bind λeb=>
  (idx s_ (w64 (k_ - 1))).bind λnn=>
  (jF eb nn).bind λr_=>
  bif r_ then(
   gd ((0:Int)<=k_/\(k_:Int)<=((s_.length:Nat):Int)) <|
   (loop (λs=>yU k_ s.1 s.2.1 s.2.2) (s_,k_,1)).bind λt5=>
   yi t5.1 t5.2)
  else(
   w7 k_))
 else(
  some (.done (.inl ())))
def xA (s_:TA)(eq:Unit):z8M :=
 bif decide (((s_.length:Nat):Int)<2) then(
  some s_)
 else(
  (loop (λs=>xZ s_ s) 1).bind λt2=>
  match t2 with
  | .inl p=>vV s_
  | .inr p=>some p)
def wx (s_:TA):z8M :=
 some s_
def Je (n_:Int):Option Int :=
 some n_
def Y1 (l_:TA)(ca:Int)(x7:Int):R7_ :=
 bif decide (x7<((l_.length:Nat):Int)) then(
  (idx l_ x7).bind λbi=>
  some (.next (w64 (ca+((bi.length:Nat):Int)),w64 (x7+1))))
 else(
  some (.done ca))
def Xr (l_:TA):Option Int :=
 (loop (λs=>Y1 l_ s.1 s.2) (0,0)).bind λt2=>
 Je t2
abbrev z19:Type:=Option (TA×Int)
def Xs (out:List (TB×Bool)):z19 :=
 gd (∀q∈out,q.2=true) <|
 some ((out.map (·.1)),0)
def wJ (ak:TA)(ax:List (TB×Bool))(ga:Int):Option (LR ((List (TB×Bool))×Int) ((List (TB×Bool)))) :=
 bif decide (ga<((ak.length - (0:Int).toNat:Nat):Int)) then(
  gd ((0:Int)<=0/\(0:Int)<=ga) <|
  (idx ax (0+ga)).bind λdn=>
  (y8 dn.1).bind λaz=>
  (zP az).bind λbn=>
  (idx ax ga).bind λjr=>
  some (.next ((ax.set ga.toNat (bn,true)),w64 (ga+1))))
 else(
  some (.done ax))
def xh (l_:TA):z19 :=
 (yx l_).bind λr_=>
 (z9R (λx y=>yQ x y) r_).bind λsorted=>
 (xA sorted ()).bind λai=>
 (wx ai).bind λak=>
 bif decide (((ak.length:Nat):Int) > 4096) then(
  some (([]:TA),3))
 else(
  (Xr ak).bind λam=>
  bif decide (am > 65536) then(
   some (([]:TA),3))
  else(
   (loop (λs=>wJ ak s.1 s.2) ((ak.map λq=>(q,false)),0)).bind λt2=>
   Xs t2))
def ZD (l_:TA)(inputs:Int):z19 :=
 (Xt l_ inputs).bind λr_=>
 bif r_ != 0 then(
  some (([]:TA),r_))
 else(
  (xh l_).bind λai=>
  some (ai.1,ai.2))
def ji (m_:z6):z19 :=
 (vj m_).bind λr_=>
 bif r_.2 != 0 then(
  some (([]:TA),r_.2))
 else(
  bif !r_.1 then(
   some (([]:TA),11))
  else(
   (Wa m_).bind λai=>
   bif ai.2.2 != 0 then(
    some (([]:TA),ai.2.2))
   else(
    (ZD ai.1 m_.Inputs).bind λak=>
    some (ak.1,ak.2))))
abbrev zl9:Type:=Option (LR (TA×TA×Int×Int) ((TA×Int)))
def UQ (k_:Int)(aj:TA)(cq:TA)(ca:Int)(ri:Int)(nh:Bool)(oz:Bool):zl9 :=
 some (.next (aj,cq,ca,w64 (k_+1)))
def UP (k_:Int)(ax:TA)(cd:Int)(il:Bool)(next:TA):zl9 :=
 UQ k_ ax next cd cd (decide (cd > 65536)) il
abbrev zmW:Type:=Option (LR (TA×Int) TA)
def UO (lc:Int)(ff:TA):zmW :=
 some (.next (ff,w64 (lc+1)))
def q9 (inputs:Int)(a8:TB)(cb:TA)(ld:Int):zmW :=
 bif decide (ld<inputs) then(
  (zP a8).bind λai=>
  gd (ai.length+[ld].length<=4294967296) <|
  gd (cb.length+[(ai++[ld])].length<=4294967296) <|
  some (.next ((cb++[(ai++[ld])]),w64 (ld+1))))
 else(
  some (.done cb))
def qb (inputs:Int)(ay:TA)(cr:TA)(lc:Int):zmW :=
 bif decide (lc<((ay.length:Nat):Int)) then(
  (idx ay lc).bind λa8=>
  (loop (λs=>q9 inputs a8 s.1 s.2) (cr,0)).bind λt8=>
  UO lc t8)
 else(
  some (.done cr))
def Yh (inputs:Int)(to:Int)(ay:TA)(k_:Int)(ax:TA)(cd:Int)(il:Bool):zl9 :=
 bif k_==to then(
  (xh ax).bind λr_=>
  some (.done (r_.1,r_.2)))
 else(
  (loop (λs=>qb inputs ay s.1 s.2) (([]:TA),0)).bind λt6=>
  UP k_ ax cd il t6)
def Yi (inputs:Int)(to:Int)(ay:TA)(k_:Int)(ax:TA)(cd:Int):zl9 :=
 bif decide (((ax.length:Nat):Int) > 4096) then(
  some (.done (([]:TA),3)))
 else(
  bif decide (cd > 65536) then(
   some (.done (([]:TA),3)))
  else(
   bif decide (k_<to) then(
    bif decide ((w64 (((ay.length:Nat):Int)*inputs)) > 4096) then(
     some (.done (([]:TA),3)))
    else(
     Yh inputs to ay k_ ax cd (decide ((w64 (((ay.length:Nat):Int)*inputs)) > 4096))))
   else(
    Yh inputs to ay k_ ax cd false)))
def kB (inputs:Int)(from_:Int)(to:Int)(out:TA)(ay:TA)(n_:Int)(k_:Int):zl9 :=
 bif decide (k_>=from_) then(
  gd (out.length+ay.length<=4294967296) <|
  Yi inputs to ay k_ (out++ay) (w64 (n_+(w64 (k_*((ay.length:Nat):Int))))))
 else(
  Yi inputs to ay k_ out n_)
def WO (inputs:Int)(from_:Int)(to:Int):z19 :=
 bif decide (inputs > 16) then(
  some (([]:TA),3))
 else(
  bif decide (inputs<1) then(
   some (([]:TA),1))
  else(
   bif decide (to<0) then(
    some (([]:TA),1))
   else(
    bif decide (to > 256) then(
     some (([]:TA),3))
    else(
     (loop (λs=>kB inputs from_ to s.1 s.2.1 s.2.2.1 s.2.2.2) (([]:TA),([[]]:TA),0,0)).bind λt1=>
     some t1))))
def WP (inputs:Int)(k_:Int):z19 :=
 (WO inputs 0 k_).bind λr_=>
 some (r_.1,r_.2)
def Wu:Option Bool :=
 some true
def Y3 (l_:TA)(i_:Int):zmY :=
 bif decide (i_<((l_.length:Nat):Int)) then(
  (idx l_ (w64 (i_ - 1))).bind λbi=>
  (idx l_ i_).bind λew=>
  (yQ bi ew).bind λr_=>
  bif decide (r_>=0) then(
   some (.done (.inr false)))
  else(
   some (.next (w64 (i_+1)))))
 else(
  some (.done (.inl ())))
def Vj (l_:TA):Option Bool :=
 (loop (λs=>Y3 l_ s) 1).bind λt2=>
 match t2 with
 | .inl p=>Wu
 | .inr p=>some p
def ZG (l_:TA)(inputs:Int):Option Int :=
 (Xt l_ inputs).bind λr_=>
 bif r_ != 0 then(
  some r_)
 else(
  (Vj l_).bind λai=>
  bif !ai then(
   some 1)
  else(
   (Xr l_).bind λak=>
   bif decide (ak > 65536) then(
    some 3)
   else(
    some 0)))
def Vi:Option Int :=
 some 0
def YW (inputs:Int)(l_:List TA)(gi:Int):R3_ :=
 bif decide (gi<((l_.length:Nat):Int)) then(
  (idx l_ gi).bind λbi=>
  (ZG bi inputs).bind λr_=>
  bif r_ != 0 then(
   some (.done (.inr r_)))
  else(
   some (.next (w64 (gi+1)))))
 else(
  some (.done (.inl ())))
def Xg (inputs:Int)(l_:List TA):Option Int :=
 (loop (λs=>YW inputs l_ s) 0).bind λt2=>
 match t2 with
 | .inl p=>Vi
 | .inr p=>some p
def z0k (b_:TB):Option (List UInt8) :=
 some (u8s b_)
def kA (w_:TB)(kw:TB)(ig:Int):R1_ :=
 bif decide (ig<((w_.length:Nat):Int)) then(
  (idx w_ ig).bind λfc=>
  (idx kw ig).bind λdx=>
  some (.next ((kw.set ig.toNat (IntKind.u8.wrap (fc))),w64 (ig+1))))
 else(
  some (.done kw))
def K0 (w_:TB):Option (List UInt8) :=
 gd ((0:Int)<=((w_.length:Nat):Int)/\(((w_.length:Nat):Int):Int)<=4294967296) <|
 (loop (λs=>kA w_ s.1 s.2) ((List.replicate ((w_.length:Nat):Int).toNat (0:Int)),0)).bind λt2=>
 z0k t2
def kO (out:TA):z19 :=
 (xh out).bind λai=>
 some (ai.1,ai.2)
abbrev zod:Type:=Option (LR ((List ((List UInt8)×Bool))×Int×TA×Int) (TA⊕(TA×Int)))
def kN (fg:Int)(gn:List ((List UInt8)×Bool))(ca:Int)(ax:TA):zod :=
 some (.next (gn,ca,ax,w64 (fg+1)))
abbrev zoc:Type:=Option (LR ((List ((List UInt8)×Bool))×Int×TA×Int) (((List ((List UInt8)×Bool))×Int×TA)⊕(TA×Int)))
def qh (ib:Int)(oc:List ((List UInt8)×Bool))(lf:Int)(gx:TA):zoc :=
 bif decide (((gx.length:Nat):Int) > 4096) then(
  some (.done (.inr (([]:TA),3))))
 else(
  bif decide (lf > 65536) then(
   some (.done (.inr (([]:TA),3))))
  else(
   some (.next (oc,lf,gx,w64 (ib+1)))))
def kM (b_:TA)(dv:TB)(eu:List ((List UInt8)×Bool))(cd:Int)(bo:TA)(ib:Int):zoc :=
 bif decide (ib<((b_.length:Nat):Int)) then(
  (idx b_ ib).bind λdx=>
  (zP dv).bind λak=>
  gd (ak.length+dx.length<=4294967296) <|
  bif decide ((((ak++dx).length:Nat):Int) > 256) then(
   some (.done (.inr (([]:TA),3))))
  else(
   (K0 (ak++dx)).bind λam=>
   (some ((Vb eu am).getD false)).bind λval=>
   bif !val then(
    gd (bo.length+[(ak++dx)].length<=4294967296) <|
    qh ib (z1Y eu am true) (w64 (cd+(((ak++dx).length:Nat):Int))) (bo++[(ak++dx)]))
   else(
    qh ib eu cd bo)))
 else(
  some (.done (.inl (eu,cd,bo))))
def Xv (a_:TA)(b_:TA)(kh:List ((List UInt8)×Bool))(n_:Int)(aj:TA)(fg:Int):zod :=
 bif decide (fg<((a_.length:Nat):Int)) then(
  (idx a_ fg).bind λdv=>
  (loop (λs=>kM b_ dv s.1 s.2.1 s.2.2.1 s.2.2.2) (kh,n_,aj,0)).bind λt4=>
  match t4 with
  | .inl p=>kN fg p.1 p.2.1 p.2.2
  | .inr p=>some (.done (.inr p)))
 else(
  some (.done (.inl aj)))
def Yj (a_:TA)(b_:TA)(inputs:Int):z19 :=
 (Xg inputs ([a_,b_])).bind λr_=>
 bif r_ != 0 then(
  some (([]:TA),r_))
 else(
  (loop (λs=>Xv a_ b_ s.1 s.2.1 s.2.2.1 s.2.2.2) (([]:List ((List UInt8)×Bool)),0,([]:TA),0)).bind λt2=>
  match t2 with
  | .inl p=>kO p
  | .inr p=>some p)
def Zp (m_:z6)(k_:Int):z19 :=
 (ji m_).bind λr_=>
 bif r_.2 != 0 then(
  some (([]:TA),r_.2))
 else(
  bif decide (k_<0) then(
   some (([]:TA),1))
  else(
   (WP m_.Inputs k_).bind λai=>
   bif ai.2 != 0 then(
    some (([]:TA),ai.2))
   else(
    (Yj r_.1 ai.1 m_.Inputs).bind λak=>
    some (ak.1,ak.2))))
def vn (m_:z6):z19 :=
 (Zp m_ 1).bind λr_=>
 some (r_.1,r_.2)
def Yt (n_:Int):Option Int :=
 some n_
def ZW (x6:Int)(js:σ):Option (LR (σ×Int) σ) :=
 some (.next (js,w64 (x6+1)))
def qW (x0:Int)(yy:σ->(Int×Int)->Option (σ×Bool))(x6:Int)(gg:σ)(b_:Int):Option (LR (σ×Int) (σ⊕σ)) :=
 bif decide (b_<x0) then(
  (yy gg (x6,b_)).bind λyr=>
  bif !yr.2 then(
   some (.done (.inr yr.1)))
  else(
   some (.next (yr.1,w64 (b_+1)))))
 else(
  some (.done (.inl gg)))
def ZV (x0:Int)(yy:σ->(Int×Int)->Option (σ×Bool))(dw:σ)(x6:Int):Option (LR (σ×Int) σ) :=
 bif decide (x6<x0) then(
  (loop (λs=>qW x0 yy x6 s.1 s.2) (dw,w64 (x6+1))).bind λt3=>
  match t3 with
  | .inl p=>ZW x6 p
  | .inr p=>some (.done p))
 else(
  some (.done dw))
def vz (x0:Int){σ:Type}(yy:σ->(Int×Int)->Option (σ×Bool))(sg:σ):Option σ :=
 (loop (λs=>ZV x0 yy s.1 s.2) (sg,0)).bind λt1=>
 some t1
def Qa (a_:Int)(b_:Int):Option Bool :=
 some true
def Y4 (s_:Int)(x1:z6):Option Bool :=
 bif decide (s_<0) then(
  some true)
 else(
  some (decide (s_>=((x1.Rows.length:Nat):Int))))
def vK:Option Int :=
 some (-1)
def yR (s_:TB)(f_:z6)(x8:Int):R3_ :=
 bif decide (x8<((s_.length:Nat):Int)) then(
  (idx s_ x8).bind λeb=>
  (Y4 eb f_).bind λr_=>
  bif r_ then(
   some (.done (.inr x8)))
  else(
   some (.next (w64 (x8+1)))))
 else(
  some (.done (.inl ())))
def xo (s_:TB)(f_:z6):Option Int :=
 (loop (λs=>yR s_ f_ s) 0).bind λt2=>
 match t2 with
 | .inl p=>vK
 | .inr p=>some p
def xP (s_:TB)(f_:z6):Option Bool :=
 (xo s_ f_).bind λr_=>
 some (decide (r_>=0))
def Wc (m_:z6)(l_:TB):Option Int :=
 (xw m_).bind λr_=>
 bif r_ != 0 then(
  some r_)
 else(
  (xP l_ m_).bind λai=>
  bif ai then(
   some 1)
  else(
   some 0))
def UT (m_:z6):Option z6 :=
 some m_
def ZM (x8:Int)(js:σ):Option (LR (σ×Int) σ) :=
 some (.next (js,w64 (x8+1)))
def qM (x0:z6)(yy:σ->(Int×Int)->Option (σ×Bool))(x8:Int)(gg:σ)(t_:Int):Option (LR (σ×Int) (σ⊕σ)) :=
 bif decide (t_<((x0.Rows.length:Nat):Int)) then(
  (yy gg (x8,t_)).bind λyr=>
  bif !yr.2 then(
   some (.done (.inr yr.1)))
  else(
   some (.next (yr.1,w64 (t_+1)))))
 else(
  some (.done (.inl gg)))
def ZL (x0:z6)(yy:σ->(Int×Int)->Option (σ×Bool))(dw:σ)(x8:Int):Option (LR (σ×Int) σ) :=
 bif decide (x8<((x0.Rows.length:Nat):Int)) then(
  (loop (λs=>qM x0 yy x8 s.1 s.2) (dw,w64 (x8+1))).bind λt3=>
  match t3 with
  | .inl p=>ZM x8 p
  | .inr p=>some (.done p))
 else(
  some (.done dw))
def uD (x0:z6){σ:Type}(yy:σ->(Int×Int)->Option (σ×Bool))(sg:σ):Option σ :=
 (loop (λs=>ZL x0 yy s.1 s.2) (sg,0)).bind λt1=>
 some t1
def xz (l:TB)(n:Int):Option TB:=bif l.isEmpty&&(decide (0<n)&&decide (n<=1000000)) then some [] else none
def vM (mr:TB):Option TB :=
 some mr
def zX (slices:TA)(iu:TB)(pc:Int):R1_ :=
 bif decide (pc<((slices.length:Nat):Int)) then(
  (idx slices pc).bind λlu=>
  gd (iu.length+lu.length<=4294967296) <|
  some (.next ((iu++lu),w64 (pc+1))))
 else(
  some (.done iu))
def vN (slices:TA)(size:Int):Option TB :=
 (xz [] size).bind λr_=>
 (loop (λs=>zX slices s.1 s.2) (r_,0)).bind λt3=>
 vM t3
def zV (slices:TA)(l8:Int)(ig:Int):R7_ :=
 bif decide (ig<((slices.length:Nat):Int)) then(
  (idx slices ig).bind λly=>
  bif decide ((w64 (l8+((ly.length:Nat):Int)))<0) then(
   none)
  else(
   some (.next (w64 (l8+((ly.length:Nat):Int)),w64 (ig+1)))))
 else(
  some (.done l8))
def vd (slices:TA):Option TB :=
 (loop (λs=>zV slices s.1 s.2) (0,0)).bind λt4=>
 vN slices t4
abbrev zob:Type:=Option (TB×ArN 64 (ArN 64 TB))
def vD (n_:Int)(f_:ArN 64 (ArN 64 TB))(out:TB):zob :=
 bif ((out.length:Nat):Int) != n_ then(
  some ([],f_))
 else(
  (zP out).bind λr_=>
  gd (r_≠[]) <|
  some (r_,f_))
def xE (i7:Int):Option (LR Int TB) :=
 some (.next (w64 (i7+1)))
def wp (m_:z6)(t_:Int)(n_:Int)(f_:ArN 64 (ArN 64 TB))(ap:List z8)(i7:Int):Option (LR Int TB) :=
 bif decide (i7<((ap.length:Nat):Int)) then(
  (idx ap i7).bind λal=>
  (idx m_.Rows t_).bind λdu=>
  (idx du i7).bind λbp=>
  bif al.Out != bp.Out then(
   some (.done [i7]))
  else(
   bif decide (n_ > 1) then(
    bif al.To !=(-1) then(
     (idx (f_.l) al.To).bind λcell=>
     (idx (cell.l) bp.To).bind λco=>
     bif ((co.length:Nat):Int)==(w64 (n_ - 1)) then(
      (idx (f_.l) al.To).bind λiv=>
      (idx (iv.l) bp.To).bind λd9=>
      (vd ([[i7],d9])).bind λai=>
      some (.done ai))
     else(
      xE i7))
    else(
     xE i7))
   else(
    xE i7)))
 else(
  some (.done ([]:TB)))
def vI (m_:z6)(s_:Int)(t_:Int)(n_:Int)(f_:ArN 64 (ArN 64 TB)):zob :=
 (idx m_.Rows s_).bind λap=>
 (loop (λs=>wp m_ t_ n_ f_ ap s) 0).bind λt2=>
 vD n_ f_ t2
abbrev zmV:Type:=Option (ArN 64 (ArN 64 TB))
def uu (s_:Int)(t_:Int)(w_:TB)(f_:ArN 64 (ArN 64 TB)):zmV :=
 (idx (f_.l) s_).bind λcell=>
 (idx (cell.l) t_).bind λco=>
 (some (ArN.setI cell t_ w_)).bind λarr=>
 (some (ArN.setI f_ s_ arr)).bind λarr1=>
 (idx (arr1.l) t_).bind λiv=>
 (idx (iv.l) s_).bind λd9=>
 (some (ArN.setI iv s_ w_)).bind λarr2=>
 (some (ArN.setI arr1 t_ arr2)).bind λpt=>
 some pt
def ud (f_:ArN 64 (ArN 64 TB)):zmV :=
 some f_
abbrev zly:Type:=Option (LR (ArN 64 (ArN 64 TB)×Int) (ArN 64 (ArN 64 TB)))
def uc (n_:Int)(ni:ArN 64 (ArN 64 TB)):zly :=
 some (.next (ni,w64 (n_+1)))
def wN (now:List y5)(od:ArN 64 (ArN 64 TB))(pd:Int):zly :=
 bif decide (pd<((now.length:Nat):Int)) then(
  (idx now pd).bind λic=>
  (uu ic.S ic.T ic.Word od).bind λr_=>
  some (.next (r_,w64 (pd+1))))
 else(
  some (.done od))
def ub (n_:Int)(p9:ArN 64 (ArN 64 TB))(now:List y5):zly :=
 (loop (λs=>wN now s.1 s.2) (p9,0)).bind λt5=>
 uc n_ t5
def xe (m_:z6)(n_:Int)(j9:ArN 64 (ArN 64 TB))(jk:List y5)(kx:Int)(ga:Int):Option (LR (ArN 64 (ArN 64 TB)×List y5) Empty) :=
 (idx (j9.l) kx).bind λcell=>
 (idx (cell.l) ga).bind λco=>
 bif !co.isEmpty then(
  some (.next (j9,jk)))
 else(
  (vI m_ kx ga n_ j9).bind λak=>
  bif !ak.1.isEmpty then(
   gd (jk.length+[(y5.mk kx ga ak.1 false)].length<=4294967296) <|
   some (.next (ak.2,(jk++[(y5.mk kx ga ak.1 false)]))))
  else(
   some (.next (ak.2,jk))))
def ua (m_:z6)(ky:ArN 64 (ArN 64 TB))(n_:Int):zly :=
 bif decide (n_<(mx ((m_.Rows.length:Nat):Int) 2)) then(
  (UT m_).bind λai=>
  (uD ai (yOf (λs x=>xe m_ n_ s.1 s.2 x.1 x.2)) (.next (ky,([]:List y5)))).bind λt6=>
  match t6 with
  | .next (j9,jk)=>(
   ub n_ j9 jk)
  | .done z=>nomatch z)
 else(
  some (.done ky))
def ut (m_:z6):zmV :=
 (loop (λs=>ua m_ s.1 s.2) ((ArN.rep 64 (ArN.rep 64 ([]:TB))),1)).bind λt2=>
 ud t2
def qt (m_:z6)(s_:Int)(t_:Int):Option (TB×Bool×Int) :=
 (Wc m_ ([s_,t_])).bind λr_=>
 bif r_ != 0 then(
  some (([]:TB),false,r_))
 else(
  (ut m_).bind λai=>
  (idx (ai.l) s_).bind λcell=>
  (idx (cell.l) t_).bind λco=>
  (y8 co).bind λak=>
  (zP ak).bind λam=>
  some (am,decide (((am.length:Nat):Int) > 0),0))
def Zl (m_:z6)(x5:Int)(out:TA):z19 :=
 (ZD out m_.Inputs).bind λr_=>
 some (r_.1,r_.2)
abbrev zoa:Type:=Option (LR (Int×TA) ((Int×TA)))
def vR (m_:z6)(ge:Int)(aj:TA)(ft:Int)(ba:Int):zoa :=
 (Qa ft ba).bind λak=>
 bif !ak then(
  some (.next (ge,aj)))
 else(
  (qt m_ ft ba).bind λam=>
  bif am.2.2 != 0 then(
   some (.done (am.2.2,aj)))
  else(
   gd (aj.length+[am.1].length<=4294967296) <|
   some (.next (ge,(aj++[am.1])))))
def Wl (m_:z6)(is:Unit):z19 :=
 (Yt ((m_.Rows.length:Nat):Int)).bind λai=>
 (vz ai (yOf (λs x=>vR m_ s.1 s.2 x.1 x.2)) (.next (0,([]:TA)))).bind λt2=>
 match t2 with
 | .next (ge,aj)=>(
  Zl m_ ge aj)
 | .done (ge,aj)=>(
  some (([]:TA),ge))
def QG (m_:z6):z19 :=
 (wh m_).bind λr_=>
 bif r_ != 0 then(
  some (([]:TA),r_))
 else(
  (Wl m_ ()).bind λai=>
  some (ai.1,ai.2))
def Vk (inputs:Int)(k_:Int):z19 :=
 (WO inputs k_ k_).bind λr_=>
 some (r_.1,r_.2)
def Xw (l_:TA):z8M :=
 bif ((l_.length:Nat):Int)==0 then(
  some ([[]]:TA))
 else(
  some l_)
def VK (a_:Int)(b_:Int)(x2:Int):Option Bool :=
 bif a_==x2 then(
  some true)
 else(
  some (b_==x2))
def um (m_:z6)(x5:Int)(out:TA):z19 :=
 (ZD out m_.Inputs).bind λr_=>
 some (r_.1,r_.2)
def yI (m_:z6)(is:Int)(ge:Int)(aj:TA)(ft:Int)(ba:Int):zoa :=
 (VK ft ba is).bind λak=>
 bif !ak then(
  some (.next (ge,aj)))
 else(
  (qt m_ ft ba).bind λam=>
  bif am.2.2 != 0 then(
   some (.done (am.2.2,aj)))
  else(
   gd (aj.length+[am.1].length<=4294967296) <|
   some (.next (ge,(aj++[am.1])))))
def uB (m_:z6)(is:Int):z19 :=
 (Yt ((m_.Rows.length:Nat):Int)).bind λai=>
 (vz ai (yOf (λs x=>yI m_ is s.1 s.2 x.1 x.2)) (.next (0,([]:TA)))).bind λt2=>
 match t2 with
 | .next (ge,aj)=>(
  um m_ ge aj)
 | .done (ge,aj)=>(
  some (([]:TA),ge))
def Kk (m_:z6)(s_:Int):z19 :=
 (wh m_).bind λr_=>
 bif r_ != 0 then(
  some (([]:TA),r_))
 else(
  bif decide (s_<0) then(
   some (([]:TA),1))
  else(
   bif decide (s_>=((m_.Rows.length:Nat):Int)) then(
    some (([]:TA),1))
   else(
    (uB m_ s_).bind λai=>
    some (ai.1,ai.2))))
abbrev zmU:Type:=Option (Option zG×Int)
def WQ (m_:z6)(r_:TA×Int)(ai:TA×Int)(am:TA×Int)(az:TA×Int)(bn:TA)(lh:List TA):zmU :=
 some ((some (zG.mk m_ r_.1 ai.1 bn lh am.1 az.1)),0)
def xO (m_:z6)(j4:List TA)(oe:Int):Option (LR (List TA×Int) (List TA⊕(Option zG×Int))) :=
 bif decide (oe<((m_.Rows.length:Nat):Int)) then(
  (Kk m_ oe).bind λcx=>
  bif cx.2 != 0 then(
   some (.done (.inr ((none:Option zG),cx.2))))
  else(
   (Xw cx.1).bind λgb=>
   gd (j4.length+[gb].length<=4294967296) <|
   some (.next ((j4++[gb]),w64 (oe+1)))))
 else(
  some (.done (.inl j4)))
def ZI (m_:z6)(r_:TA×Int)(ai:TA×Int)(ak:TA×Int)(am:TA×Int)(az:TA×Int):zmU :=
 (Xw ak.1).bind λbn=>
 (loop (λs=>xO m_ s.1 s.2) (([]:List TA),0)).bind λt3=>
 match t3 with
 | .inl p=>WQ m_ r_ ai am az bn p
 | .inr p=>some p
def jG (m_:z6)(bound:Int):zmU :=
 (ji m_).bind λr_=>
 (vn m_).bind λai=>
 (QG m_).bind λak=>
 (WP m_.Inputs (w64 (bound - ((m_.Rows.length:Nat):Int)))).bind λam=>
 (Vk m_.Inputs (w64 (bound - ((m_.Rows.length:Nat):Int)))).bind λaz=>
 bif r_.2 != 0 then(
  some ((none:Option zG),r_.2))
 else(
  bif ai.2 != 0 then(
   some ((none:Option zG),ai.2))
  else(
   bif ak.2 != 0 then(
    some ((none:Option zG),ak.2))
   else(
    bif am.2 != 0 then(
     some ((none:Option zG),am.2))
    else(
     bif az.2 != 0 then(
      some ((none:Option zG),az.2))
     else(
      ZI m_ r_ ai ak am az)))))
abbrev zim:Type:=Option (zb×Bool)
def ZK (b_:zb)(br:List (zC Int))(cp:Int):zim :=
 bif decide (cp > b_.most_) then(
  some (b_,true))
 else(
  some ((zb.mk br cp b_.most_),false))
abbrev zo9:Type:=Option (LR (List (zC Int)×Int×Int×Bool×Int) ((List (zC Int)×Int)))
def ZJ (fq:Int)(bm:List (zC Int))(ce:Int)(ia:Int)(nj:Bool):zo9 :=
 some (.next (bm,ce,ia,nj,w64 (fq+1)))
abbrev zmT:Type:=Option (LR (List (zC Int)×Int×Int×Bool×Int) ((List (zC Int)×Int×Int×Bool)))
def vH (dy:Int)(ct:List (zC Int))(cg:Int)(nk:Bool)(next:Int):zmT :=
 some (.next (ct,cg,next,nk,w64 (dy+1)))
def yp (aq:List (zC Int))(gc:Int)(dy:Int)(dt:Int)(eg:Int):zmT :=
 (idx aq gc).bind λiw=>
 (idx (zC.toL iw) dt).bind λco=>
 (some (zC.setI iw dt (IntKind.i32.wrap (((aq.length:Nat):Int))))).bind λarr=>
 gd ((aq.set gc.toNat arr).length+([(zC.mk 0 0 0 0 0 0 0 0 0 0 0 0 0 0 0 0)]:List (zC Int)).length<=4294967296) <|
 vH dy ((aq.set gc.toNat arr)++([(zC.mk 0 0 0 0 0 0 0 0 0 0 0 0 0 0 0 0)]:List (zC Int))) eg true (IntKind.i32.wrap (((aq.length:Nat):Int)))
def vG (fl:TB)(aq:List (zC Int))(bc:Int)(gc:Int)(ka:Bool)(dy:Int):zmT :=
 bif decide (dy<((fl.length:Nat):Int)) then(
  (idx fl dy).bind λdt=>
  (idx aq gc).bind λje=>
  (idx (zC.toL je) dt).bind λcell=>
  bif cell==0 then(
   bif !ka then(
    bif gc==0 then(
     bif ((aq.length:Nat):Int)==1 then(
      yp aq gc dy dt (w64 (bc+1)))
     else(
      (idx aq gc).bind λdp=>
      bif !((dp.e0==0)&&((dp.e1==0)&&((dp.e2==0)&&((dp.e3==0)&&((dp.e4==0)&&((dp.e5==0)&&((dp.e6==0)&&((dp.e7==0)&&((dp.e8==0)&&((dp.e9==0)&&((dp.e10==0)&&((dp.e11==0)&&((dp.e12==0)&&((dp.e13==0)&&((dp.e14==0)&&((dp.e15==0)&&true)))))))))))))))) then(
       yp aq gc dy dt (w64 (bc+1)))
      else(
       yp aq gc dy dt bc)))
    else(
     (idx aq gc).bind λem=>
     bif !((em.e0==0)&&((em.e1==0)&&((em.e2==0)&&((em.e3==0)&&((em.e4==0)&&((em.e5==0)&&((em.e6==0)&&((em.e7==0)&&((em.e8==0)&&((em.e9==0)&&((em.e10==0)&&((em.e11==0)&&((em.e12==0)&&((em.e13==0)&&((em.e14==0)&&((em.e15==0)&&true)))))))))))))))) then(
      yp aq gc dy dt (w64 (bc+1)))
     else(
      yp aq gc dy dt bc)))
   else(
    yp aq gc dy dt bc))
  else(
   vH dy aq bc ka cell))
 else(
  some (.done (aq,bc,gc,ka)))
def WR (parts:TA)(bh:List (zC Int))(cj:Int)(at_:Int)(nq:Bool)(fq:Int):zo9 :=
 bif decide (fq<((parts.length:Nat):Int)) then(
  (idx parts fq).bind λfl=>
  (loop (λs=>vG fl s.1 s.2.1 s.2.2.1 s.2.2.2.1 s.2.2.2.2) (bh,cj,at_,nq,0)).bind λt4=>
  ZJ fq t4.1 t4.2.1 t4.2.2.1 t4.2.2.2)
 else(
  some (.done (bh,cj)))
def xu (parts:TA)(b_:zb):zim :=
 (loop (λs=>WR parts s.1 s.2.1 s.2.2.1 s.2.2.2.1 s.2.2.2.2) (b_.nodes_,b_.leaves_,0,false,0)).bind λt2=>
 ZK b_ t2.1 t2.2
abbrev zil:Type:=Option (LR (List (zC Int)×Int×Int×Int) ((zb×Bool)))
def Yo (ba:Int)(bh:List (zC Int))(cj:Int)(fh:Int):zil :=
 some (.next (bh,cj,fh,w64 (ba+1)))
abbrev z8L:Type:=Option (LR (List (zC Int)×Int×Int×Int) ((List (zC Int)×Int×Int)⊕(zb×Bool)))
def Yn (gk:Int)(aq:List (zC Int))(bc:Int)(fj:Int):z8L :=
 some (.next (aq,bc,fj,w64 (gk+1)))
def Yk (x_:zG)(b_:zb)(bj:TB)(a6:TB)(ct:List (zC Int))(cg:Int)(dz:Int)(ib:Int):z8L :=
 bif decide (ib<((x_.all_.length:Nat):Int)) then(
  (idx x_.all_ ib).bind λfy=>
  (xu [bj,a6,fy] (zb.mk ct cg dz)).bind λr_=>
  bif r_.2 then(
   some (.done (.inr (b_,true))))
  else(
   some (.next (r_.1.nodes_,r_.1.leaves_,r_.1.most_,w64 (ib+1)))))
 else(
  some (.done (.inl (ct,cg,dz))))
def Yl (x_:zG)(b_:zb)(bj:TB)(bm:List (zC Int))(ce:Int)(d0:Int)(gk:Int):z8L :=
 bif decide (gk<((x_.short_.length:Nat):Int)) then(
  (idx x_.short_ gk).bind λa6=>
  (loop (λs=>Yk x_ b_ bj a6 s.1 s.2.1 s.2.2.1 s.2.2.2) (bm,ce,d0,0)).bind λt5=>
  match t5 with
  | .inl p=>Yn gk p.1 p.2.1 p.2.2
  | .inr p=>some (.done (.inr p)))
 else(
  some (.done (.inl (bm,ce,d0))))
def Ym (x_:zG)(b_:zb)(br:List (zC Int))(cp:Int)(fm:Int)(ba:Int):zil :=
 bif decide (ba<((x_.p_.length:Nat):Int)) then(
  (idx x_.p_ ba).bind λbj=>
  (loop (λs=>Yl x_ b_ bj s.1 s.2.1 s.2.2.1 s.2.2.2) (br,cp,fm,0)).bind λt3=>
  match t3 with
  | .inl p=>Yo ba p.1 p.2.1 p.2.2
  | .inr p=>some (.done p))
 else(
  some (.done ((zb.mk br cp fm),false)))
def va (x0:Qk)(x_:zG)(b_:zb):zim :=
 (loop (λs=>Ym x_ b_ s.1 s.2.1 s.2.2.1 s.2.2.2) (b_.nodes_,b_.leaves_,b_.most_,0)).bind λt1=>
 some t1
def yG (x_:TA)(target:TB)(i_:Int):Option (Int×Bool) :=
 bif decide (i_<((x_.length:Nat):Int)) then(
  (idx x_ i_).bind λmq=>
  (yQ mq target).bind λr_=>
  some (i_,r_==0))
 else(
  some (i_,false))
def yz (x_:TA)(target:TB)(fk:Int)(j_:Int):R7_ :=
 bif decide (fk<j_) then(
  (idx x_ (w64 (Int.fdiv (IntKind.u64.wrap (w64 (fk+j_))) (2 ^ 1)))).bind λl7=>
  (yQ l7 target).bind λai=>
  bif decide (ai<0) then(
   some (.next (w64 ((w64 (Int.fdiv (IntKind.u64.wrap (w64 (fk+j_))) (2 ^ 1)))+1),j_)))
  else(
   some (.next (fk,w64 (Int.fdiv (IntKind.u64.wrap (w64 (fk+j_))) (2 ^ 1))))))
 else(
  some (.done fk))
def yV (x_:TA)(target:TB)(cmp:Unit):Option (Int×Bool) :=
 (loop (λs=>yz x_ target s.1 s.2) (0,((x_.length:Nat):Int))).bind λt2=>
 yG x_ target t2
def z0T (l_:TA)(w_:TB):Option Bool :=
 (yV l_ w_ ()).bind λr_=>
 some r_.2
def kL (w_:TB)(x1:TA):Option Bool :=
 (z0T x1 w_).bind λr_=>
 some r_
def uM:Option Int :=
 some (-1)
def xp (s_:TA)(f_:TA)(x8:Int):R3_ :=
 bif decide (x8<((s_.length:Nat):Int)) then(
  (idx s_ x8).bind λeb=>
  (kL eb f_).bind λr_=>
  bif r_ then(
   some (.done (.inr x8)))
  else(
   some (.next (w64 (x8+1)))))
 else(
  some (.done (.inl ())))
def vt (s_:TA)(f_:TA):Option Int :=
 (loop (λs=>xp s_ f_ s) 0).bind λt2=>
 match t2 with
 | .inl p=>uM
 | .inr p=>some p
def xa (bk:TA)(i_:Int):z8M :=
 gd ((0:Int)<=i_/\(i_:Int)<=((bk.length:Nat):Int)) <|
 gd ((0:Int)<=i_/\(i_:Int)<=((bk.length:Nat):Int)) <|
 gd ((0:Int)<=i_/\(i_:Int)<=(((bk.take i_.toNat++List.replicate (bk.length - i_.toNat) []).length:Nat):Int)) <|
 some ((bk.take i_.toNat++List.replicate (bk.length - i_.toNat) []).take i_.toNat)
def yn (j_:Int)(ng:TA)(qa:Int):zlz :=
 some (.next (ng,qa,w64 (j_+1)))
def wg (kz:TA)(da:TA)(fk:Int)(j_:Int):zlz :=
 bif decide (j_<((da.length:Nat):Int)) then(
  (idx da j_).bind λeb=>
  (kL eb kz).bind λai=>
  bif !ai then(
   (idx da fk).bind λnn=>
   yn j_ (da.set fk.toNat eb) (w64 (fk+1)))
  else(
   yn j_ da fk))
 else(
  some (.done (da,fk)))
def xK (s_:TA)(kz:TA):z8M :=
 (vt s_ kz).bind λr_=>
 bif r_==(-1) then(
  some s_)
 else(
  (loop (λs=>wg kz s.1 s.2.1 s.2.2) (s_,r_,w64 (r_+1))).bind λt2=>
  xa t2.1 t2.2)
def ZF (a_:TA)(b_:TA)(inputs:Int):z19 :=
 (Xg inputs ([a_,b_])).bind λr_=>
 bif r_ != 0 then(
  some (([]:TA),r_))
 else(
  (yx a_).bind λai=>
  (xK ai b_).bind λak=>
  (xh ak).bind λam=>
  some (am.1,am.2))
def Y9 (m_:z6)(s_:Int):Option Int :=
 (xw m_).bind λr_=>
 bif r_ != 0 then(
  some r_)
 else(
  bif decide (s_<0) then(
   some 1)
  else(
   bif decide (s_>=((m_.Rows.length:Nat):Int)) then(
    some 1)
   else(
    some 0)))
def XO (bk:Int)(out:TB):Option (TB×Int) :=
 some (out,bk)
abbrev zo8:Type:=Option (LR (Int×TB×Int) ((Int×TB)))
def vQ (aj:TB)(ba:Int)(gz:Int)(nr:Int):zo8 :=
 (idx aj ba).bind λdn=>
 some (.next (gz,(aj.set ba.toNat nr),w64 (ba+1)))
def Q8 (m_:z6)(w_:TB)(da:Int)(aj:TB)(ba:Int):zo8 :=
 bif decide (ba<((w_.length:Nat):Int)) then(
  (idx w_ ba).bind λfc=>
  (ui).bind λr_=>
  bif da !=(-1) then(
   (idx m_.Rows da).bind λap=>
   (idx ap fc).bind λal=>
   vQ aj ba al.To al.Out)
  else(
   vQ aj ba r_.To r_.Out))
 else(
  some (.done (da,aj)))
def Wk (m_:z6)(s_:Int)(w_:TB):Option (TB×Int) :=
 gd ((0:Int)<=((w_.length:Nat):Int)/\(((w_.length:Nat):Int):Int)<=4294967296) <|
 (loop (λs=>Q8 m_ w_ s.1 s.2.1 s.2.2) (s_,(List.replicate ((w_.length:Nat):Int).toNat (0:Int)),0)).bind λt2=>
 XO t2.1 t2.2
def jM (m_:z6)(s_:Int)(w_:TB):Option (Int×Int) :=
 (Y9 m_ s_).bind λr_=>
 bif r_ != 0 then(
  some (0,r_))
 else(
  (jW w_ m_.Inputs).bind λai=>
  bif ai != 0 then(
   some (0,ai))
  else(
   (Wk m_ s_ w_).bind λak=>
   some (ak.2,0)))
def xk (x_:zG)(u_:TB)(v_:TB):z8M :=
 (jM x_.m_ 0 u_).bind λr_=>
 (jM x_.m_ r_.1 v_).bind λai=>
 (idx x_.each_ ai.1).bind λpk=>
 some pk
def ZC (jg:Int)(bm:List (zC Int))(ce:Int)(d0:Int):zil :=
 some (.next (bm,ce,d0,w64 (jg+1)))
def ZB (j7:Int)(ct:List (zC Int))(cg:Int)(dz:Int):z8L :=
 some (.next (ct,cg,dz,w64 (j7+1)))
def uH (b_:zb)(u_:TB)(ez:TB)(ai:TA)(ju:List (zC Int))(eg:Int)(km:Int)(m0:Int):z8L :=
 bif decide (m0<((ai.length:Nat):Int)) then(
  (idx ai m0).bind λdm=>
  (xu [u_,ez,dm] (zb.mk ju eg km)).bind λak=>
  bif ak.2 then(
   some (.done (.inr (b_,true))))
  else(
   some (.next (ak.1.nodes_,ak.1.leaves_,ak.1.most_,w64 (m0+1)))))
 else(
  some (.done (.inl (ju,eg,km))))
def Zy (x_:zG)(b_:zb)(u_:TB)(aq:List (zC Int))(bc:Int)(fj:Int)(j7:Int):z8L :=
 bif decide (j7<((x_.exact_.length:Nat):Int)) then(
  (idx x_.exact_ j7).bind λez=>
  (xk x_ u_ ez).bind λai=>
  (loop (λs=>uH b_ u_ ez ai s.1 s.2.1 s.2.2.1 s.2.2.2) (aq,bc,fj,0)).bind λt6=>
  match t6 with
  | .inl p=>ZB j7 p.1 p.2.1 p.2.2
  | .inr p=>some (.done (.inr p)))
 else(
  some (.done (.inl (aq,bc,fj))))
def Zz (x_:zG)(b_:zb)(r_:TA×Int)(bh:List (zC Int))(cj:Int)(fh:Int)(jg:Int):zil :=
 bif decide (jg<((r_.1.length:Nat):Int)) then(
  (idx r_.1 jg).bind λu_=>
  (loop (λs=>Zy x_ b_ u_ s.1 s.2.1 s.2.2.1 s.2.2.2) (bh,cj,fh,0)).bind λt4=>
  match t4 with
  | .inl p=>ZC jg p.1 p.2.1 p.2.2
  | .inr p=>some (.done p))
 else(
  some (.done ((zb.mk bh cj fh),false)))
def uI (x_:zG)(b_:zb)(br:List (zC Int))(cp:Int)(fm:Int):zim :=
 (ZF x_.p_ x_.q_ x_.m_.Inputs).bind λr_=>
 (loop (λs=>Zz x_ b_ r_ s.1 s.2.1 s.2.2.1 s.2.2.2) (br,cp,fm,0)).bind λt2=>
 some t2
def ZA (jh:Int)(lz:List (zC Int))(lk:Int)(ml:Int):z8L :=
 some (.next (lz,lk,ml,w64 (jh+1)))
def kQ (fw:Int)(l4:List (zC Int))(ll:Int)(mp:Int):z8L :=
 some (.next (l4,ll,mp,w64 (fw+1)))
def kP (x_:zG)(b_:zb)(gq:TB)(a6:TB)(i8:List (zC Int))(ix:Int)(jv:Int)(my:Int):z8L :=
 bif decide (my<((x_.all_.length:Nat):Int)) then(
  (idx x_.all_ my).bind λfy=>
  (xu [gq,a6,fy] (zb.mk i8 ix jv)).bind λam=>
  bif am.2 then(
   some (.done (.inr (b_,true))))
  else(
   some (.next (am.1.nodes_,am.1.leaves_,am.1.most_,w64 (my+1)))))
 else(
  some (.done (.inl (i8,ix,jv))))
def Zw (x_:zG)(b_:zb)(gq:TB)(jw:List (zC Int))(ja:Int)(kn:Int)(fw:Int):z8L :=
 bif decide (fw<((x_.short_.length:Nat):Int)) then(
  (idx x_.short_ fw).bind λa6=>
  (loop (λs=>kP x_ b_ gq a6 s.1 s.2.1 s.2.2.1 s.2.2.2) (jw,ja,kn,0)).bind λsc=>
  match sc with
  | .inl p=>kQ fw p.1 p.2.1 p.2.2
  | .inr p=>some (.done (.inr p)))
 else(
  some (.done (.inl (jw,ja,kn))))
def Zx (x_:zG)(b_:zb)(jx:List (zC Int))(jb:Int)(ko:Int)(jh:Int):z8L :=
 bif decide (jh<((x_.q_.length:Nat):Int)) then(
  (idx x_.q_ jh).bind λgq=>
  (loop (λs=>Zw x_ b_ gq s.1 s.2.1 s.2.2.1 s.2.2.2) (jx,jb,ko,0)).bind λt9=>
  match t9 with
  | .inl p=>ZA jh p.1 p.2.1 p.2.2
  | .inr p=>some (.done (.inr p)))
 else(
  some (.done (.inl (jx,jb,ko))))
def wK (x0:Ug)(x_:zG)(b_:zb):zim :=
 (loop (λs=>Zx x_ b_ s.1 s.2.1 s.2.2.1 s.2.2.2) (b_.nodes_,b_.leaves_,b_.most_,0)).bind λt7=>
 match t7 with
 | .inl p=>uI x_ b_ p.1 p.2.1 p.2.2
 | .inr p=>some p
def kU (ba:Int)(bh:List (zC Int))(cj:Int)(fh:Int):zil :=
 some (.next (bh,cj,fh,w64 (ba+1)))
def kT (gk:Int)(aq:List (zC Int))(bc:Int)(fj:Int):z8L :=
 some (.next (aq,bc,fj,w64 (gk+1)))
def vX (b_:zb)(bj:TB)(a6:TB)(r_:TA)(ct:List (zC Int))(cg:Int)(dz:Int)(ib:Int):z8L :=
 bif decide (ib<((r_.length:Nat):Int)) then(
  (idx r_ ib).bind λdm=>
  (xu [bj,a6,dm] (zb.mk ct cg dz)).bind λai=>
  bif ai.2 then(
   some (.done (.inr (b_,true))))
  else(
   some (.next (ai.1.nodes_,ai.1.leaves_,ai.1.most_,w64 (ib+1)))))
 else(
  some (.done (.inl (ct,cg,dz))))
def kR (x_:zG)(b_:zb)(bj:TB)(bm:List (zC Int))(ce:Int)(d0:Int)(gk:Int):z8L :=
 bif decide (gk<((x_.short_.length:Nat):Int)) then(
  (idx x_.short_ gk).bind λa6=>
  (xk x_ bj a6).bind λr_=>
  (loop (λs=>vX b_ bj a6 r_ s.1 s.2.1 s.2.2.1 s.2.2.2) (bm,ce,d0,0)).bind λt5=>
  match t5 with
  | .inl p=>kT gk p.1 p.2.1 p.2.2
  | .inr p=>some (.done (.inr p)))
 else(
  some (.done (.inl (bm,ce,d0))))
def kS (x_:zG)(b_:zb)(br:List (zC Int))(cp:Int)(fm:Int)(ba:Int):zil :=
 bif decide (ba<((x_.p_.length:Nat):Int)) then(
  (idx x_.p_ ba).bind λbj=>
  (loop (λs=>kR x_ b_ bj s.1 s.2.1 s.2.2.1 s.2.2.2) (br,cp,fm,0)).bind λt3=>
  match t3 with
  | .inl p=>kU ba p.1 p.2.1 p.2.2
  | .inr p=>some (.done p))
 else(
  some (.done ((zb.mk br cp fm),false)))
def wo (x0:V8)(x_:zG)(b_:zb):zim :=
 (loop (λs=>kS x_ b_ s.1 s.2.1 s.2.2.1 s.2.2.2) (b_.nodes_,b_.leaves_,b_.most_,0)).bind λt1=>
 some t1
def vY (x:zG)(s:Nat)(most:Int):Option (Option zb×Bool) :=
 (match s with|0=>va ⟨⟩ x (zb.mk [zC.mk 0 0 0 0 0 0 0 0 0 0 0 0 0 0 0 0] 0 most)|1=>wK ⟨⟩ x (zb.mk [zC.mk 0 0 0 0 0 0 0 0 0 0 0 0 0 0 0 0] 0 most)|2=>wo ⟨⟩ x (zb.mk [zC.mk 0 0 0 0 0 0 0 0 0 0 0 0 0 0 0 0] 0 most)|_=>none).bind λr=>
 some (bif r.2 then none else some r.1,!r.2)
def wc (s_:TA):z8M :=
 some s_
def u9 (out:TA):z8M :=
 (wc out).bind λr_=>
 some r_
abbrev zo7:Type:=Option (LR (TA×List zj) TA)
def u7 (ax:TA)(next:List zj):zo7 :=
 some (.next (ax,next))
abbrev zmS:Type:=Option (LR (TA×List zj×Int) ((TA×List zj)))
def wM (ba:Int)(gx:TA)(ff:List zj):zmS :=
 some (.next (gx,ff,w64 (ba+1)))
def u6 (bo:TA)(ba:Int)(a8:zj)(cb:List zj)(pu:Bool):zmS :=
 bif pu then(
  (zP a8.w_).bind λai=>
  gd (bo.length+[ai].length<=4294967296) <|
  wM ba (bo++[ai]) cb)
 else(
  wM ba bo cb)
abbrev zo6:Type:=Option (LR (List zj×Bool×Int) ((List zj×Bool)))
def wL (fg:Int)(og:List zj)(oh:Bool):zo6 :=
 some (.next (og,oh,w64 (fg+1)))
def yl (a8:zj)(a7:zC Int)(iq:List zj)(l9:Bool)(fg:Int):zo6 :=
 bif decide (fg<16) then(
  (idx [a7.e0,a7.e1,a7.e2,a7.e3,a7.e4,a7.e5,a7.e6,a7.e7,a7.e8,a7.e9,a7.e10,a7.e11,a7.e12,a7.e13,a7.e14,a7.e15] fg).bind λcell=>
  bif decide (cell > 0) then(
   (zP a8.w_).bind λak=>
   gd (ak.length+[fg].length<=4294967296) <|
   gd (iq.length+[(zj.mk cell (ak++[fg]))].length<=4294967296) <|
   wL fg (iq++[(zj.mk cell (ak++[fg]))]) false)
  else(
   wL fg iq l9))
 else(
  some (.done (iq,l9)))
def ym (b_:zb)(ay:List zj)(bo:TA)(cr:List zj)(ba:Int):zmS :=
 bif decide (ba<((ay.length:Nat):Int)) then(
  (idx ay ba).bind λa8=>
  (idx b_.nodes_ a8.at_).bind λa7=>
  (loop (λs=>yl a8 a7 s.1 s.2.1 s.2.2) (cr,true,0)).bind λt7=>
  u6 bo ba a8 t7.1 t7.2)
 else(
  some (.done (bo,cr)))
def vZ (b_:zb)(aj:TA)(ay:List zj):zo7 :=
 bif decide (((ay.length:Nat):Int) > 0) then(
  (loop (λs=>ym b_ ay s.1 s.2.1 s.2.2) (aj,([]:List zj),0)).bind λt4=>
  u7 t4.1 t4.2)
 else(
  some (.done aj))
def wX (b_:zb):z8M :=
 (loop (λs=>vZ b_ s.1 s.2) (([]:TA),([(zj.mk 0 [])]:List zj))).bind λt2=>
 u9 t2
def wD (s_:Nat)(m_:z6)(bound:Int)(bf:Int):z19 :=
 (Yp m_ bound).bind λr_=>
 bif r_ != 0 then(
  some (([]:TA),r_))
 else(
  bif decide (bf<1) then(
   some (([]:TA),1))
  else(
   bif decide (bf > 4096) then(
    some (([]:TA),1))
   else(
    (jG m_ bound).bind λai=>
    bif ai.2 != 0 then(
     some (([]:TA),13))
    else(
     (ai.1).bind λthere=>
     (vY there s_ bf).bind λak=>
     bif !ak.2 then(
      some (([]:TA),13))
     else(
      (ak.1).bind λee=>
      (wX ee).bind λam=>
      (ZG am m_.Inputs).bind λaz=>
      bif az != 0 then(
       some (([]:TA),az))
      else(
       some (am,0)))))))
def YX (m_:z6)(bound:Int)(bf:Int):z19 :=
 (wD 0 m_ bound bf).bind λr_=>
 some (r_.1,r_.2)
def WT (m_:z6)(bound:Int)(bf:Int):z19 :=
 (wD 1 m_ bound bf).bind λr_=>
 some (r_.1,r_.2)
def Xh (m_:z6)(bound:Int)(bf:Int):z19 :=
 (wD 2 m_ bound bf).bind λr_=>
 some (r_.1,r_.2)
def US (n_:UI Int):Option (UI Int×Int) :=
 some (n_,0)
def z1x (ai:Option zG×Int)(ca:UI Int)(kl:Int):Option (LR (UI Int×Int) (UI Int⊕(UI Int×Int))) :=
 bif decide (kl<((([0,1,2]:TC).length:Nat):Int)) then(
  (idx ([0,1,2]) kl).bind λmj=>
  (ai.1).bind λthere=>
  (vY there mj 4096).bind λak=>
  bif !ak.2 then(
   some (.done (.inr ((UI.mk 0 0 0),3))))
  else(
   (ak.1).bind λee=>
   (idx (UI.toL ca) kl).bind λcell=>
   (some (UI.setI ca kl (mx ee.leaves_ 1))).bind λarr=>
   some (.next (arr,w64 (kl+1)))))
 else(
  some (.done (.inl ca)))
def z0l (m_:z6)(bound:Int):Option (UI Int×Int) :=
 (Yp m_ bound).bind λr_=>
 bif r_ != 0 then(
  some ((UI.mk 0 0 0),r_))
 else(
  (jG m_ bound).bind λai=>
  bif ai.2 != 0 then(
   some ((UI.mk 0 0 0),3))
  else(
   (loop (λs=>z1x ai s.1 s.2) ((UI.mk 0 0 0),0)).bind λt2=>
   match t2 with
   | .inl p=>US p
   | .inr p=>some p))
def Uc:Option Int :=
 some 0
def YB (a_:TB)(b_:TB)(i_:Int):R3_ :=
 bif decide (i_<((a_.length:Nat):Int)) then(
  (idx a_ i_).bind λdv=>
  (idx b_ i_).bind λdx=>
  bif decide (dv<dx) then(
   some (.done (.inr (-1))))
  else(
   (idx a_ i_).bind λi6=>
   (idx b_ i_).bind λl6=>
   bif decide (i6 > l6) then(
    some (.done (.inr 1)))
   else(
    some (.next (w64 (i_+1))))))
 else(
  some (.done (.inl ())))
def X1 (a_:TB)(b_:TB):Option Int :=
 bif ((a_.length:Nat):Int) !=((b_.length:Nat):Int) then(
  bif decide (((a_.length:Nat):Int)<((b_.length:Nat):Int)) then(
   some (-1))
  else(
   some 1))
 else(
  (loop (λs=>YB a_ b_ s) 0).bind λt2=>
  match t2 with
  | .inl p=>Uc
  | .inr p=>some p)
def Vt:Option Bool :=
 some true
def X2 (a_:TA)(b_:TA)(i_:Int):zmY :=
 bif decide (i_<((a_.length:Nat):Int)) then(
  (idx a_ i_).bind λdv=>
  (idx b_ i_).bind λdx=>
  (X1 dv dx).bind λr_=>
  bif r_ != 0 then(
   some (.done (.inr false)))
  else(
   some (.next (w64 (i_+1)))))
 else(
  some (.done (.inl ())))
def WW (a_:TA)(b_:TA):Option Bool :=
 bif ((a_.length:Nat):Int) !=((b_.length:Nat):Int) then(
  some false)
 else(
  (loop (λs=>X2 a_ b_ s) 0).bind λt2=>
  match t2 with
  | .inl p=>Vt
  | .inr p=>some p)
def QD (a_:TA)(b_:TA):Option Bool :=
 (WW a_ b_).bind λr_=>
 bif r_ then(
  some (((a_.length:Nat):Int)==((a_.length:Nat):Int)))
 else(
  some false)
def Kj:Option z6 :=
 some (z6.mk 2 2 ([[(z8.mk 1 0),(z8.mk 0 0)],[(z8.mk 2 0),(z8.mk 1 1)],[(z8.mk 0 1),(z8.mk 2 0)]]))
def JF:Option Bool :=
 (Kj).bind λr_=>
 (YX r_ 3 8).bind λai=>
 (WT r_ 3 4096).bind λak=>
 (Xh r_ 3 4096).bind λam=>
 bif ai.2 != 0 then(
  some false)
 else(
  bif ak.2 != 0 then(
   some false)
  else(
   bif am.2 != 0 then(
    some false)
   else(
    (QD ai.1 ([[1,0],[1,1],[0,1,0],[0,1,1],[0,0,0,0],[0,0,0,1],[0,0,1,0],[0,0,1,1]])).bind λaz=>
    bif !az then(
     some false)
    else(
     gd ((0:Int)<=0/\(0:Int)<=7/\(7:Int)<=((([[1,0],[1,1],[0,1,0],[0,1,1],[0,0,0,0],[0,0,0,1],[0,0,1,0],[0,0,1,1]]:TA).length:Nat):Int)) <|
     (QD ak.1 ((([[1,0],[1,1],[0,1,0],[0,1,1],[0,0,0,0],[0,0,0,1],[0,0,1,0],[0,0,1,1]]:TA).drop 0).take ((7:Int).toNat - 0))).bind λbn=>
     bif !bn then(
      some false)
     else(
      gd ((0:Int)<=0/\(0:Int)<=7/\(7:Int)<=((([[1,0],[1,1],[0,1,0],[0,1,1],[0,0,0,0],[0,0,0,1],[0,0,1,0],[0,0,1,1]]:TA).length:Nat):Int)) <|
      (QD am.1 ((([[1,0],[1,1],[0,1,0],[0,1,1],[0,0,0,0],[0,0,0,1],[0,0,1,0],[0,0,1,1]]:TA).drop 0).take ((7:Int).toNat - 0))).bind λcx=>
      bif !cx then(
       some false)
      else(
       (YX r_ 2 9).bind λgb=>
       (YX r_ 8 9).bind λiy=>
       (YX r_ 3 7).bind λgr=>
       (z0l r_ 3).bind λim=>
       bif gb.2==1 then(
        bif iy.2==1 then(
         bif gr.2==13 then(
          bif im.2==0 then(
           some ((im.1.e0==8)&&((im.1.e1==7)&&((im.1.e2==7)&&true))))
          else(
           some false))
         else(
          some false))
        else(
         some false))
       else(
        some false)))))))
def Xu (a_:TA)(b_:TA)(inputs:Int):z19 :=
 (Xg inputs ([a_,b_])).bind λr_=>
 bif r_ != 0 then(
  some (([]:TA),r_))
 else(
  (yx a_).bind λai=>
  gd (ai.length+b_.length<=4294967296) <|
  (xh (ai++b_)).bind λak=>
  some (ak.1,ak.2))
def uZ (b_:zA)(jy:TB):Option (Int×zA) :=
 gd (b_.nodes_.length+[(ze.mk jy false)].length<=4294967296) <|
 some (w64 ((((b_.nodes_++[(ze.mk jy false)]).length:Nat):Int) - 1),(zA.mk b_.inputs_ (b_.nodes_++[(ze.mk jy false)])))
def xj (b_:zA)(j5:TB)(kq:Int):R1_ :=
 bif decide (kq<(((List.replicate b_.inputs_.toNat (0:Int)).length:Nat):Int)) then(
  (idx j5 kq).bind λqo=>
  some (.next ((j5.set kq.toNat (-1)),w64 (kq+1))))
 else(
  some (.done j5))
def v8 (b_:zA):Option (Int×zA) :=
 gd ((0:Int)<=b_.inputs_/\(b_.inputs_:Int)<=4294967296) <|
 (loop (λs=>xj b_ s.1 s.2) ((List.replicate b_.inputs_.toNat (0:Int)),0)).bind λt2=>
 uZ b_ t2
def vC (gf:Int)(bh:List ze)(at_:Int):Option zA :=
 (idx bh at_).bind λje=>
 some (zA.mk gf (bh.set at_.toNat (ze.mk je.Next true)))
abbrev zo5:Type:=Option (LR (Int×List ze×Int×Int) ((Int×List ze×Int)))
def wk (ia:Int)(gh:Int)(fc:Int)(ln:Int)(aq:List ze):zo5 :=
 (idx aq ia).bind λiw=>
 (idx iw.Next fc).bind λjj=>
 some (.next (ln,aq,jj,w64 (gh+1)))
def jB (w_:TB)(ij:Int)(bm:List ze)(ia:Int)(gh:Int):zo5 :=
 bif decide (gh<((w_.length:Nat):Int)) then(
  (idx w_ gh).bind λfc=>
  (idx bm ia).bind λdp=>
  (idx dp.Next fc).bind λpo=>
  bif po==(-1) then(
   (v8 (zA.mk ij bm)).bind λr_=>
   (idx r_.2.nodes_ ia).bind λa7=>
   (idx a7.Next fc).bind λrb=>
   wk ia gh fc r_.2.inputs_ (r_.2.nodes_.set ia.toNat (ze.mk (a7.Next.set fc.toNat r_.1) a7.End)))
  else(
   wk ia gh fc ij bm))
 else(
  some (.done (ij,bm,ia)))
def wn (w_:TB)(io:Int)(br:List ze):Option zA :=
 (loop (λs=>jB w_ s.1 s.2.1 s.2.2.1 s.2.2.2) (io,br,0,0)).bind λt3=>
 vC t3.1 t3.2.1 t3.2.2
def qL (w_:TB)(b_:zA):Option zA :=
 bif ((b_.nodes_.length:Nat):Int)==0 then(
  (v8 b_).bind λai=>
  wn w_ ai.2.inputs_ ai.2.nodes_)
 else(
  wn w_ b_.inputs_ b_.nodes_)
def Vh (io:Int)(br:List ze):Option zA :=
 some (zA.mk io br)
def Jw (l_:TA)(gf:Int)(bh:List ze)(fq:Int):Option (LR (Int×List ze×Int) ((Int×List ze))) :=
 bif decide (fq<((l_.length:Nat):Int)) then(
  (idx l_ fq).bind λbi=>
  (qL bi (zA.mk gf bh)).bind λr_=>
  some (.next (r_.inputs_,r_.nodes_,w64 (fq+1))))
 else(
  some (.done (gf,bh)))
def z0S (l_:TA)(inputs:Int):Option zA :=
 (loop (λs=>Jw l_ s.1 s.2.1 s.2.2) (inputs,([]:List ze),0)).bind λt2=>
 Vh t2.1 t2.2
def KS (gv:List ze):Option (List ze) :=
 some gv
def Xq (js:σ)(next:List zf):Option (LR (σ×List zf) σ) :=
 some (.next (js,next))
def Xp (dy:Int)(qd:σ)(ff:List zf):Option (LR (σ×List zf×Int) ((σ×List zf)⊕σ)) :=
 some (.next (qd,ff,w64 (dy+1)))
def uX (fw:Int)(iq:List zf):Option (LR (List zf×Int) ((σ×List zf))) :=
 some (.next (iq,w64 (fw+1)))
def xX (a8:zf)(yr:σ×Bool)(lp:ze)(cb:List zf)(fw:Int):Option (LR (List zf×Int) ((σ×List zf))) :=
 bif decide (fw<((lp.Next.length:Nat):Int)) then(
  (idx lp.Next fw).bind λjj=>
  bif jj !=(-1) then(
   (zP a8.w_).bind λr_=>
   gd (r_.length+[fw].length<=4294967296) <|
   gd (cb.length+[(zf.mk jj (r_++[fw]))].length<=4294967296) <|
   uX fw (cb++[(zf.mk jj (r_++[fw]))]))
  else(
   uX fw cb))
 else(
  some (.done (yr.1,cb)))
def uV (x0:List ze)(yy:σ->zf->Option (σ×Bool))(cq:List zf)(gg:σ)(cr:List zf)(dy:Int):Option (LR (σ×List zf×Int) ((σ×List zf)⊕σ)) :=
 bif decide (dy<((cq.length:Nat):Int)) then(
  (idx cq dy).bind λa8=>
  (yy gg a8).bind λyr=>
  bif !yr.2 then(
   some (.done (.inr yr.1)))
  else(
   (idx x0 a8.at_).bind λlp=>
   (loop (λs=>xX a8 yr lp s.1 s.2) (cr,0)).bind λt6=>
   Xp dy t6.1 t6.2))
 else(
  some (.done (.inl (gg,cr))))
def uW (x0:List ze)(yy:σ->zf->Option (σ×Bool))(dw:σ)(cq:List zf):Option (LR (σ×List zf) σ) :=
 bif decide (((cq.length:Nat):Int) > 0) then(
  (loop (λs=>uV x0 yy cq s.1 s.2.1 s.2.2) (dw,([]:List zf),0)).bind λt4=>
  match t4 with
  | .inl p=>Xq p.1 p.2
  | .inr p=>some (.done p))
 else(
  some (.done dw))
def uY (x0:List ze)(yy:σ->zf->Option (σ×Bool))(sg:σ)(ay:List zf):Option σ :=
 (loop (λs=>uW x0 yy s.1 s.2) (sg,ay)).bind λt2=>
 some t2
def Yg (x0:List ze){σ:Type}(yy:σ->zf->Option (σ×Bool))(sg:σ):Option σ :=
 bif decide (((x0.length:Nat):Int) > 0) then(
  uY x0 yy sg ([(zf.mk 0 [])]:List zf))
 else(
  uY x0 yy sg ([]:List zf))
def UN (k_:Int):Option Bool :=
 some (k_ !=(-1))
def vU:Option Int :=
 some (-1)
def yT (s_:TB)(x8:Int):R3_ :=
 bif decide (x8<((s_.length:Nat):Int)) then(
  (idx s_ x8).bind λeb=>
  (UN eb).bind λr_=>
  bif r_ then(
   some (.done (.inr x8)))
  else(
   some (.next (w64 (x8+1)))))
 else(
  some (.done (.inl ())))
def wO (s_:TB)(f_:Unit):Option Int :=
 (loop (λs=>yT s_ s) 0).bind λt2=>
 match t2 with
 | .inl p=>vU
 | .inr p=>some p
def xY (s_:TB)(f_:Unit):Option Bool :=
 (wO s_ ()).bind λr_=>
 some (decide (r_>=0))
def Qn (n_:ze):Option Bool :=
 (xY n_.Next ()).bind λr_=>
 some (!r_)
def xC (s_:TA):z8M :=
 gd ((0:Int)<=0/\(0:Int)<=((s_.length:Nat):Int)/\(((s_.length:Nat):Int):Int)<=((s_.length:Nat):Int)/\(((s_.length:Nat):Int):Int)<=((s_.length:Nat):Int)) <|
 some ((s_.drop 0).take (((s_.length:Nat):Int).toNat - 0))
def jQ (out:TA):z8M :=
 (xC out).bind λr_=>
 some r_
def ur (gv:List ze)(aj:TA)(x8:zf):Option (LR TA Empty) :=
 (idx gv x8.at_).bind λoj=>
 (Qn oj).bind λak=>
 bif ak then(
  (y8 x8.w_).bind λam=>
  (zP am).bind λaz=>
  gd (aj.length+[az].length<=4294967296) <|
  some (.next (aj++[az])))
 else(
  some (.next aj))
def YV (gv:List ze)(is:Unit):z8M :=
 (KS gv).bind λai=>
 (Yg ai (yOf (λs x=>ur gv s x)) (.next ([]:TA))).bind λt2=>
 match t2 with
 | .next aj=>(
  jQ aj)
 | .done z=>nomatch z
def Wb (l_:TA)(inputs:Int):z19 :=
 (ZG l_ inputs).bind λr_=>
 bif r_ != 0 then(
  some (([]:TA),r_))
 else(
  (z0S l_ inputs).bind λai=>
  (YV ai.nodes_ ()).bind λak=>
  some (ak,0))
def wG (a_:TA)(b_:TA)(inputs:Int):Option Bool :=
 (Xu a_ b_ inputs).bind λr_=>
 (Wb r_.1 inputs).bind λai=>
 bif r_.2==0 then(
  bif ai.2==0 then(
   (WW ai.1 b_).bind λak=>
   some ak)
  else(
   some false))
 else(
  some false)
def Zk (x_:Yx)(ck:Int):Option Bool :=
 (QE x_).bind λr_=>
 gd ((2:Int)≠0) <|
 (YX r_ (w64 (((r_.Rows.length:Nat):Int)+(w64 (Int.tmod ck 2)))) 4096).bind λai=>
 (WT r_ (w64 (((r_.Rows.length:Nat):Int)+(w64 (Int.tmod ck 2)))) 4096).bind λak=>
 (Xh r_ (w64 (((r_.Rows.length:Nat):Int)+(w64 (Int.tmod ck 2)))) 4096).bind λam=>
 (YX r_ (w64 ((w64 (((r_.Rows.length:Nat):Int)+(w64 (Int.tmod ck 2))))+1)) 4096).bind λaz=>
 (WT r_ (w64 ((w64 (((r_.Rows.length:Nat):Int)+(w64 (Int.tmod ck 2))))+1)) 4096).bind λbn=>
 (Xh r_ (w64 ((w64 (((r_.Rows.length:Nat):Int)+(w64 (Int.tmod ck 2))))+1)) 4096).bind λcx=>
 bif ai.2 != 0 then(
  some false)
 else(
  bif ak.2 != 0 then(
   some false)
  else(
   bif am.2 != 0 then(
    some false)
   else(
    bif az.2 != 0 then(
     some false)
    else(
     bif bn.2 != 0 then(
      some false)
     else(
      bif cx.2 != 0 then(
       some false)
      else(
       (wG ak.1 ai.1 r_.Inputs).bind λgb=>
       bif gb then(
        (wG am.1 ai.1 r_.Inputs).bind λiy=>
        bif iy then(
         (wG ai.1 az.1 r_.Inputs).bind λgr=>
         bif gr then(
          (wG ak.1 bn.1 r_.Inputs).bind λim=>
          bif im then(
           (wG am.1 cx.1 r_.Inputs).bind λj8=>
           bif j8 then(
            (JF).bind λmv=>
            some mv)
           else(
            some false))
          else(
           some false))
         else(
          some false))
        else(
         some false))
       else(
        some false)))))))
abbrev F0_:=Kp (eI .i64)
abbrev F1_:=zmH (eI .i64)
abbrev F2_:=XU (eI .i32)
abbrev F3_:=eSl 1 false (eI .u8)
abbrev F4_:=eSl 1 true (eI .i64)
abbrev F5_:=eOs 1 true (eI .i64)
abbrev F6_:=eSl 1 false (eI .u16)
abbrev F7_:=eOs 1 false (eI .i64)
abbrev F8_:=eSl 1 false (eI .i64)
abbrev F9_:=XU F0_
abbrev uS:=wY (eI .i64) (eI .i64)
abbrev zoq:=eOs 16 false F2_
abbrev zlF:=eSl 16 false F2_
abbrev kK:=eSl 1 true F4_
abbrev zlE:=eOs 1 true F4_
abbrev z6u:=eSl 1 true F8_
abbrev zlD:=eSl 1 false F4_
abbrev vp:=eSl 1 false F8_
abbrev zi9:=eOs 1 false F8_
abbrev YN:=yq F5_ eB
abbrev z0R:=yq F8_ eB
abbrev zlC:=eSp vp
abbrev zop:=eSl 2 true uS
abbrev wv:=eSl 2 false uS
abbrev YS:=eOs 2 false uS
abbrev Zv:=XT (eI .i64) (eI .i64) (eI .i64)
abbrev zlB:=xV (eI .i64) F4_
abbrev JQ:=xV (eI .i64) F8_
abbrev UJ:=yZ (eI .i32) F8_
abbrev zoo:=eSl 1 false vp
abbrev z0A:=VR (eI .i64) F9_
abbrev zpb:=eOs 2 false YN
abbrev zn3:=eSl 2 false z0R
abbrev zpa:=eSl 1 true zop
abbrev zp9:=eSl 1 false wv
abbrev V9:=yO zlF (eI .i64) (eI .i64)
abbrev zp8:=z2l (eI .i64) zpb
abbrev zon:=jN (eI .u8) (eI .u8) (eI .u8) F3_ F6_
abbrev zfV:=uq (eI .i64) (eI .i64) zpa
abbrev xQ:=uq (eI .i64) (eI .i64) zp9
abbrev zom:=Yv zon
abbrev z3M:=eSp xQ
abbrev Jn:=qZ xQ vp vp vp zoo vp vp
abbrev zlA:=eSp Jn
def rpN {α:Type _}(n:Nat)(a:α)(l:List α):List α:=Nat.rec l (λ_ r=>a::r) n
abbrev aLn (n:Nat):H:=.a (.atom (.int .i64 ((n:Nat):Int)))
end Go.Own

namespace Go.Proofs
open Go.Proofs.Tryz
open Go.Shelf
def Tryz.so136_ren:Go.Shelf.Ren:=⟨λ|6=>136|15=>161|14=>160|28=>184|29=>185|20=>176|21=>177|22=>178|23=>179|24=>180|25=>181|26=>182|27=>183|46=>194|47=>195|48=>196|49=>197|50=>198|57=>201|n=>n,λ|22=>32|24=>51|25=>110|3=>3|39=>209|0=>0|53=>240|55=>242|4=>4|46=>233|45=>232|50=>237|5=>5|9=>9|66=>260|70=>264|76=>267|77=>268|n=>n,λ|n=>n⟩
def Tryz.so136:Go.Proofs.SlLaysF0.n6 prog Tryz.so136_ren:={
 mixed:=by kernel_rfl
 f6:=⟨f136.name,by decide,func136.trans (congrArg some (by kernel_rfl))⟩
 f14:=⟨f160.name,by decide,func160.trans (congrArg some (by kernel_rfl))⟩
 f15:=func161.trans (congrArg some (by kernel_rfl))
 f20:=⟨f176.name,by decide,func176.trans (congrArg some (by kernel_rfl))⟩
 f21:=⟨f177.name,by decide,func177.trans (congrArg some (by kernel_rfl))⟩
 f22:=⟨f178.name,by decide,func178.trans (congrArg some (by kernel_rfl))⟩
 f23:=⟨f179.name,by decide,func179.trans (congrArg some (by kernel_rfl))⟩
 f24:=⟨f180.name,by decide,func180.trans (congrArg some (by kernel_rfl))⟩
 f25:=⟨f181.name,by decide,func181.trans (congrArg some (by kernel_rfl))⟩
 f26:=⟨f182.name,by decide,func182.trans (congrArg some (by kernel_rfl))⟩
 f27:=⟨f183.name,by decide,func183.trans (congrArg some (by kernel_rfl))⟩
 f28:=func184.trans (congrArg some (by kernel_rfl))
 f29:=func185.trans (congrArg some (by kernel_rfl))
 f46:=⟨f194.name,by decide,func194.trans (congrArg some (by kernel_rfl))⟩
 f47:=func195.trans (congrArg some (by kernel_rfl))
 f48:=func196.trans (congrArg some (by kernel_rfl))
 f49:=⟨f197.name,by decide,func197.trans (congrArg some (by kernel_rfl))⟩
 f50:=⟨f198.name,by decide,func198.trans (congrArg some (by kernel_rfl))⟩
 f57:=⟨f201.name,by decide,func201.trans (congrArg some (by kernel_rfl))⟩
 t0:=underlying0
 a0:=isAgg0
 z0:=sizeOf0
 v0:=zeroValue0
 t3:=underlying3
 a3:=isAgg3
 z3:=sizeOf3
 v3:=zeroValue3
 t4:=underlying4
 a4:=isAgg4
 z4:=sizeOf4
 v4:=zeroValue4
 t5:=underlying5
 a5:=isAgg5
 z5:=sizeOf5
 v5:=zeroValue5
 t9:=underlying9
 a9:=isAgg9
 z9:=sizeOf9
 v9:=zeroValue9
 t22:=underlying32
 a22:=isAgg32
 z22:=sizeOf32
 v22:=zeroValue32
 t25:=underlying110
 a25:=isAgg110
 z25:=sizeOf110
 v25:=zeroValue110
 t39:=underlying209
 a39:=isAgg209
 z39:=sizeOf209
 v39:=zeroValue209
 t45:=underlying232
 a45:=isAgg232
 z45:=sizeOf232
 v45:=zeroValue232
 t46:=underlying233
 a46:=isAgg233
 z46:=sizeOf233
 v46:=zeroValue233
 t50:=underlying237
 a50:=isAgg237
 z50:=sizeOf237
 v50:=zeroValue237
 t53:=underlying240
 a53:=isAgg240
 z53:=sizeOf240
 v53:=zeroValue240
 t55:=underlying242
 a55:=isAgg242
 z55:=sizeOf242
 v55:=zeroValue242
 t66:=underlying260
 a66:=isAgg260
 z66:=sizeOf260
 v66:=zeroValue260
 t70:=underlying264
 a70:=isAgg264
 z70:=sizeOf264
 v70:=zeroValue264
 t76:=underlying267
 a76:=isAgg267
 z76:=sizeOf267
 v76:=zeroValue267
 t77:=underlying268
 a77:=isAgg268
 z77:=sizeOf268
 v77:=zeroValue268 }
end Go.Proofs
