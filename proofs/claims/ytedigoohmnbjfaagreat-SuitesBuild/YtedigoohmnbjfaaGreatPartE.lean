/- -/
import Derived.Test.YtedigoohmnbjfaaGreatPartB
import Derived.Test.YtedigoohmnbjfaaGreatProg
import Derived.Test.YtedigoohmnbjfaaGreatPartD
import Derived.Test.YtedigoohmnbjfaaGreatChecked
import Derived.Lib.AppendZerosOnto
import Derived.Lib.SliceRun
import Derived.WalkKit
import Derived.Lib.Walk
import Derived.Recover
import Derived.Defers
import Derived.Tactics2
import Derived.Test.YtedigoohmnbjfaaGreatPartC
import Derived.Shelf.SlSortCmp.NoneTotal
import Derived.Ground.SlsfProg
set_option linter.unusedVariables false
set_option linter.defProp false
set_option linter.unusedSimpArgs false
namespace Go.Ex
open Go.Proofs.Tryz
open Go.Proofs
def i32:EI:=⟨.slice 51,1,24,some [.slice none 0 0],false⟩
def q3:EqP prog 3 [.int .i64 0] false 1:=z1b (k:=.int .i64) underlying3 ⟨_,(by kernel_rfl:prog.info? 3=some Tryz.t3),rfl⟩ rfl
def q36:EqP prog 36 (z5Z 3 [.int .i64 0]) true 2:=Z9 underlying36 q3 ⟨_,(by kernel_rfl:prog.info? 36=some t36),rfl⟩
def q33:EqP prog 33 [.int .i64 0] false 1:=z1b (k:=.int .i64) underlying33 ⟨_,(by kernel_rfl:prog.info? 33=some t33),rfl⟩ rfl
def q45:EqP prog 45 (z5Z 3 [.int .i64 0]) true 2:=Z9 underlying45 q33 ⟨_,(by kernel_rfl:prog.info? 45=some Tryz.t45),rfl⟩
def i64:EI:=⟨.func,1,8,some [.nilFunc],false⟩
def q5:EqP prog 5 [.int .u8 0] false 1:=z1b (k:=.int .u8) underlying5 ⟨_,(by kernel_rfl:prog.info? 5=some Tryz.t5),rfl⟩ rfl
def q97:EqP prog 97 (z5Z 4 [.int .u8 0]) true 2:=Z9 underlying97 q5 ⟨_,(by kernel_rfl:prog.info? 97=some t97),rfl⟩
def q98:EqP prog 98 (V9 [([.int .i64 0],false),([.int .i64 0],false)]) true 2:=X1 underlying98 (by kernel_rfl) ⟨_,(by kernel_rfl:prog.info? 98=some t98),rfl⟩ (by decide) (y9.cons (by decide) rfl (q3.mono (by decide)) (y9.cons (by decide) rfl (q3.mono (by decide)) (y9.nil)))
def q99:EqP prog 99 (V9 [([.int .i64 0],false),([.int .i64 0],false)]) true 2:=X1 underlying99 (by kernel_rfl) ⟨_,(by kernel_rfl:prog.info? 99=some t99),rfl⟩ (by decide) (y9.cons (by decide) rfl (q3.mono (by decide)) (y9.cons (by decide) rfl (q3.mono (by decide)) (y9.nil)))
def zpl:EqP prog 120 (z5Z 5 [.int .i64 0]) true 2:=Z9 underlying120 q33 ⟨_,(by kernel_rfl:prog.info? 120=some t120),rfl⟩
def q21:EqP prog 21 [.int .i32 0] false 1:=z1b (k:=.int .i32) underlying21 ⟨_,(by kernel_rfl:prog.info? 21=some t21),rfl⟩ rfl
def zpB:EqP prog 161 (z5Z 16 [.int .i32 0]) true 2:=Z9 underlying161 q21 ⟨_,(by kernel_rfl:prog.info? 161=some t161),rfl⟩
def zpk:EqP prog 162 (z5Z 16 [.int .i32 0]) true 2:=Z9 underlying162 q21 ⟨_,(by kernel_rfl:prog.info? 162=some t162),rfl⟩
def zpA:EqP prog 216 (V9 [([.int .i64 0],false),([.int .i64 0],false),([.int .i64 0],false)]) true 2:=X1 underlying216 (by kernel_rfl) ⟨_,(by kernel_rfl:prog.info? 216=some t216),rfl⟩ (by decide) (y9.cons (by decide) rfl (q3.mono (by decide)) (y9.cons (by decide) rfl (q3.mono (by decide)) (y9.cons (by decide) rfl (q3.mono (by decide)) (y9.nil))))
def zpj:EqP prog 217 (V9 [([.int .i64 0],false),([.int .i64 0],false),([.int .i64 0],false)]) true 2:=X1 underlying217 (by kernel_rfl) ⟨_,(by kernel_rfl:prog.info? 217=some t217),rfl⟩ (by decide) (y9.cons (by decide) rfl (q3.mono (by decide)) (y9.cons (by decide) rfl (q3.mono (by decide)) (y9.cons (by decide) rfl (q3.mono (by decide)) (y9.nil))))
def zmb:EqP prog 227 (z5Z 2 [.int .i64 0]) true 2:=Z9 underlying227 q3 ⟨_,(by kernel_rfl:prog.info? 227=some t227),rfl⟩
def zpz:EqP prog 255 (z5Z 16 [.int .i64 0,.int .i64 0]) true 3:=Z9 underlying255 zmb ⟨_,(by kernel_rfl:prog.info? 255=some t255),rfl⟩
def zma:EqP prog 256 (z5Z 16 [.int .i64 0,.int .i64 0]) true 3:=Z9 underlying256 zmb ⟨_,(by kernel_rfl:prog.info? 256=some t256),rfl⟩
def zpy:EqP prog 258 (V9 [([.int .i64 0],false),([.int .i64 0,.int .i64 0,.int .i64 0,.int .i64 0,.int .i64 0,.int .i64 0,.int .i64 0,.int .i64 0,.int .i64 0,.int .i64 0,.int .i64 0,.int .i64 0,.int .i64 0,.int .i64 0,.int .i64 0,.int .i64 0,.int .i64 0,.int .i64 0,.int .i64 0,.int .i64 0,.int .i64 0,.int .i64 0,.int .i64 0,.int .i64 0,.int .i64 0,.int .i64 0,.int .i64 0,.int .i64 0,.int .i64 0,.int .i64 0,.int .i64 0,.int .i64 0],true)]) true 4:=X1 underlying258 (by kernel_rfl) ⟨_,(by kernel_rfl:prog.info? 258=some t258),rfl⟩ (by decide) (y9.cons (by decide) rfl (q3.mono (by decide)) (y9.cons (by decide) rfl (zma.mono (by decide)) (y9.nil)))
def zo3:EqP prog 259 (V9 [([.int .i64 0],false),([.int .i64 0,.int .i64 0,.int .i64 0,.int .i64 0,.int .i64 0,.int .i64 0,.int .i64 0,.int .i64 0,.int .i64 0,.int .i64 0,.int .i64 0,.int .i64 0,.int .i64 0,.int .i64 0,.int .i64 0,.int .i64 0,.int .i64 0,.int .i64 0,.int .i64 0,.int .i64 0,.int .i64 0,.int .i64 0,.int .i64 0,.int .i64 0,.int .i64 0,.int .i64 0,.int .i64 0,.int .i64 0,.int .i64 0,.int .i64 0,.int .i64 0,.int .i64 0],true)]) true 4:=X1 underlying259 (by kernel_rfl) ⟨_,(by kernel_rfl:prog.info? 259=some t259),rfl⟩ (by decide) (y9.cons (by decide) rfl (q3.mono (by decide)) (y9.cons (by decide) rfl (zma.mono (by decide)) (y9.nil)))
end Go.Ex

namespace Go.Own
open Go.Proofs.Tryz
open Go.Proofs
def zlv:Value->Bool
 |.int _ _=>true
 |_=>false
def z6F:∀{z vs us:TE} {r:Bool},z.all zlv=true->z.length=vs.length->yT vs us=some r->Go.Ex.z5h z vs=true/\Go.Ex.yT vs us=some r
 |[],[],us,r,_,_,h=>by
  cases us with
  |nil=>simp only[yT,Option.some.injEq]at h;subst h;exact⟨rfl,rfl⟩
  |cons u us=>simp[yT]at h
 |a::z,v::vs,us,r,hz,hl,h=>by
  have q:∃k x u' k' y,v=.int k x/\us=.int k' y::u'/\k=k':=by
   cases us with
   |nil=>cases v<;>simp[yT]at h
   |cons u us=>cases v<;>cases u<;>simp[yT]at h;exact⟨_,_,_,_,_,rfl,rfl,h.1⟩
  obtain⟨k,x,u',k',y,rfl,rfl,hk⟩:=q;simp only[yT,hk,if_true,pT]at h;obtain⟨r',e1,rfl⟩:=h;simp only[List.all_cons,pB]at hz;obtain⟨q1,q2⟩:=z6F hz.2 (by simpa using hl) e1;refine⟨?_,by simp[Go.Ex.yT,hk,q2]⟩;cases a<;>first|(simp[zlv]at hz;done)|simpa[Go.Ex.z5h] using q1
 |[],_::_,_,_,_,hl,_=>by simp at hl
 |_::_,[],_,_,_,hl,_=>by simp at hl
variable {P:Program}{z:TE}
def zhX {t n:Nat}{i:Go.Ex.EI}(h:Go.Ex.zcD P t i)  (hz:i.zero=some z)(hi:z.all zlv=true)(hs:i.size=n)(hn:z.length=n):zcD P t n:={
 guard:=h.guard
 run:=λvs us r w hv hu he=>by obtain⟨q1,q2⟩:=z6F hi (by rw[hn,hv]) he;exact h.run vs us r w (by rw[hs];exact hv) (by rw[hs];exact hu) (by simpa only[Go.Ex.zn3,hz] using q1) q2 }
def exq {t dep:Nat}  (q:Go.Ex.EqP P t z true dep)(h1:Nat.ble dep P.depth=true:=by kernel_rfl)(h2:dep<=10000:=by decide):Go.Ex.zcD P t ⟨.func,z.length,0,some z,true⟩:=Go.Ex.zhW q rfl rfl (Nat.le_of_ble_eq_true h1) h2
def z0C {t n dep:Nat}  (q:Go.Ex.EqP P t z true dep)(hi:z.all zlv=true)(hn:z.length=n)(h1:Nat.ble dep P.depth=true:=by kernel_rfl)(h2:dep<=10000:=by decide):zcD P t n:=zhX (exq q h1 h2) rfl hi hn hn
variable {h:Array Obj}{S:zj}
def zbV {v:Value}(hv:v.oneCell'=true):zH S h (.atom v) [v] []:=by simp only[zH,Rep];exact⟨⟨trivial,hv⟩,trivial⟩
def zeZ (sz:Nat):zH S h (.osl sz true []) [.slice none 0 0] []:=by simp only[zH];exact⟨none,0,rfl,(λ_=>rfl),pi _,pM _,by simp,.inl ⟨trivial,rfl,rfl,trivial⟩⟩
def z8Y {sz:Nat}:zH S h (.dop (nlQ sz [])) [.slice none 0 0] []:=by simp only[zH,Rep];exact⟨⟨_,rfl,zb6.2 ⟨by simp[Rep],λ_=>rfl⟩⟩,trivial⟩
variable {a:A}
def KF {c:TE}(q:zH S h a c []):∀n,zL S h (List.replicate n a) (List.replicate n c).flatten []
 |0=>by simp[zL]
 |n+1=>by rw[mV,mV,List.flatten_cons];simp only[zL];exact⟨c,_,[],[],rfl,rfl,q,KF q n⟩
def zl1 {c c':TE}(q:zH S h a c [])(e:c'=c):zH S h a c' []:=e▸q
variable {fs:List A}
def z1c {cs:TE}(q:zL S h fs cs []):zH S h (.agg fs) cs []:=by simpa only[zH] using q
def zbT:zL S h [] [] []:=by simp[zL]
def zbU {c1 c2:TE}(q1:zH S h a c1 [])(q2:zL S h fs c2 []):zL S h (a::fs) (c1++c2) []:=by simp only[zL];exact⟨c1,c2,[],[],rfl,rfl,q1,q2⟩
def zc:A->Option TE
 |.atom v=>if v.oneCell'=true then some [v] else none
 |.osl _ true []=>some [.slice none 0 0]
 |.agg fs=>zcs fs
 |_=>none
where zcs:List A->Option TE
 |[]=>some []
 |a::l=>match zc a,zcs l with|some c,some d=>some (c++d)|_,_=>none
mutual
def ziH:∀{a:A} {c:TE},zc a=some c->zH S h a c []
 |.atom v,c,e=>by
  simp only[zc]at e;split at e
  ·rename_i q;cases e;exact zbV q
  cases e
 |.osl sz true [],c,e=>by simp only[zc]at e;cases e;exact zeZ sz
 |.agg fs,c,e=>z1c (zft (by simpa only[zc] using e))
def zft:∀{l:List A} {c:TE},zc.zcs l=some c->zL S h l c []
 |[],c,e=>by simp only[zc.zcs]at e;cases e;exact zbT
 |a::l,c,e=>by
  simp only[zc.zcs]at e;split at e
  ·rename_i c d e1 e2;cases e;exact zbU (ziH e1) (zft e2)
  cases e
end
def zq (z:Option A)(v:Option Value)(n:Nat):Prop:=match z,v with|some z,some v=>z.size=n/\zc z=some v.cells.toList|none,_=>True|_,_=>False
def tiq {t:Nat}{i:TI}(f:TypeInfo)(k:z2D P t i.kind)(e:i.eqn=true->zcD P t i.size:=by intro h;cases h)(h:P.info? t=some f:=by kernel_rfl)(h2:f.size=i.size:=by rfl)(h3:f.bytes=i.bytes:=by rfl)(h4:zq i.zero f.zero i.size:=by exact And.intro rfl rfl):va P t i :=
 ⟨⟨f,h,h2,h3,λz hz=>by
  rw[hz]at h4;cases hv:f.zero with
  |none=>rw[hv]at h4;exact h4.elim
  |some v=>rw[hv]at h4;exact⟨v,rfl,h4.1,λS h=>ziH h4.2⟩⟩,k,e⟩
def ti1:TI:=⟨.other,1,8,some (.atom .nilFunc),false⟩
def zjj:va prog 1 ti1:=tiq Tryz.t1 ⟨_,underlying1,rfl⟩
def ti2:TI:=⟨.int .i64,1,8,some (.atom (.int .i64 0)),false⟩
def ziV:va prog 2 ti2:=tiq Tryz.t2 (underlying2)
def ti3:TI:=⟨.int .i64,1,8,some (.atom (.int .i64 0)),false⟩
def ziU:va prog 3 ti3:=tiq Tryz.t3 (underlying3)
def ti4:TI:=⟨.bool,1,1,some (.atom (.bool false)),false⟩
def ziT:va prog 4 ti4:=tiq Tryz.t4 (underlying4)
def ti5:TI:=⟨.int .u8,1,1,some (.atom (.int .u8 0)),false⟩
def ziS:va prog 5 ti5:=tiq Tryz.t5 (underlying5)
def ti9:TI:=⟨.str,1,16,some (.atom (.string ⟨#[]⟩)),false⟩
def ziR:va prog 9 ti9:=tiq Tryz.t9 (underlying9)
def znT:TI:=⟨.other,1,16,some (.atom .nilIface),false⟩
def zgR:va prog 20 znT:=tiq t20 ⟨_,underlying20,rfl⟩
def znS:TI:=⟨.int .i32,1,4,some (.atom (.int .i32 0)),false⟩
def zgQ:va prog 21 znS:=tiq t21 (underlying21)
def znR:TI:=⟨.slice 5,1,24,some (.osl 1 true []),false⟩
def zgP:va prog 22 znR:=tiq Tryz.t22 (underlying22)
def znQ:TI:=⟨.slice 43,1,24,some (.osl 1 true []),false⟩
def zgO:va prog 23 znQ:=tiq t23 (underlying23)
def znP:TI:=⟨.struct [(0,1),(1,1),(2,1),(3,1),(4,1)],5,56,some (.agg [.atom (.int .u8 0),.atom (.int .u8 0),.atom (.int .u8 0),.osl 1 true [],.osl 1 true []]),false⟩
def zgN:va prog 25 znP:=tiq Tryz.t25 ⟨_,underlying25,by kernel_rfl,by
  intro f hf;simp only[pl,hZ,or_false]at hf;rcases hf with rfl|rfl|rfl|rfl|rfl
  ·exact⟨Tryz.t5,by kernel_rfl⟩
  ·exact⟨Tryz.t5,by kernel_rfl⟩
  ·exact⟨Tryz.t5,by kernel_rfl⟩
  ·exact⟨Tryz.t22,by kernel_rfl⟩
  exact⟨t23,by kernel_rfl⟩⟩
def znO:TI:=⟨.struct [(0,5)],5,56,some (.agg [.agg [.atom (.int .u8 0),.atom (.int .u8 0),.atom (.int .u8 0),.osl 1 true [],.osl 1 true []]]),false⟩
def zgM:va prog 27 znO:=tiq t27 ⟨_,underlying27,by kernel_rfl,by
  intro f hf;simp only[pl,hZ,or_false]at hf;rcases hf with rfl
  ·exact⟨Tryz.t25,by kernel_rfl⟩⟩
def znN:TI:=⟨.slice 96,1,24,some (.osl 1 true []),false⟩
def zgL:va prog 28 znN:=tiq t28 (underlying28)
def znM:TI:=⟨.struct [(0,1),(1,1),(2,1)],3,40,some (.agg [.atom (.int .i64 0),.atom (.int .i64 0),.osl 1 true []]),false⟩
def zgK:va prog 30 znM:=tiq t30 ⟨_,underlying30,by kernel_rfl,by
  intro f hf;simp only[pl,hZ,or_false]at hf;rcases hf with rfl|rfl|rfl
  ·exact⟨Tryz.t3,by kernel_rfl⟩
  ·exact⟨Tryz.t3,by kernel_rfl⟩
  exact⟨t28,by kernel_rfl⟩⟩
def znL:TI:=⟨.slice 51,1,24,some (.osl 1 true []),false⟩
def zgJ:va prog 32 znL:=tiq t32 (underlying32)
def znK:TI:=⟨.int .i64,1,8,some (.atom (.int .i64 0)),false⟩
def zgI:va prog 33 znK:=tiq t33 (underlying33)
def znJ:TI:=⟨.array 3 3,3,24,some (.agg [.atom (.int .i64 0),.atom (.int .i64 0),.atom (.int .i64 0)]),true⟩
def zgH:va prog 36 znJ:=tiq t36 (underlying36) (λ_=>z0C Go.Ex.q36 rfl rfl)
def znI:TI:=⟨.other,1,8,some (.atom .nilFunc),false⟩
def zgG:va prog 41 znI:=tiq t41 ⟨_,underlying41,rfl⟩
def znH:TI:=⟨.int .u16,1,2,some (.atom (.int .u16 0)),false⟩
def zgF:va prog 43 znH:=tiq t43 (underlying43)
def znG:TI:=⟨.slice 3,1,24,some (.osl 1 true []),false⟩
def zgE:va prog 51 znG:=tiq t51 (underlying51)
def znF:TI:=⟨.struct [],0,0,some (.agg []),false⟩
def zgD:va prog 77 znF:=tiq Tryz.t77 ⟨_,underlying77,by kernel_rfl,by intro f hf;cases hf⟩
def znE:TI:=⟨.struct [],0,0,some (.agg []),false⟩
def zgC:va prog 78 znE:=tiq t78 ⟨_,underlying78,by kernel_rfl,by intro f hf;cases hf⟩
def znD:TI:=⟨.struct [],0,0,some (.agg []),false⟩
def zgB:va prog 79 znD:=tiq t79 ⟨_,underlying79,by kernel_rfl,by intro f hf;cases hf⟩
def znC:TI:=⟨.ptr 119,1,8,some (.atom (.pointer none)),false⟩
def zgA:va prog 80 znC:=tiq t80 (underlying80)
def znB:TI:=⟨.slice 85,1,24,some (.osl 1 true []),false⟩
def zgz:va prog 83 znB:=tiq t83 (underlying83)
def znA:TI:=⟨.other,1,16,some (.atom .nilIface),false⟩
def zgy:va prog 85 znA:=tiq t85 ⟨_,underlying85,rfl⟩
def znz:TI:=⟨.ptr 91,1,8,some (.atom (.pointer none)),false⟩
def zgx:va prog 86 znz:=tiq t86 (underlying86)
def zny:TI:=⟨.slice 162,1,24,some (.osl 16 true []),false⟩
def zgw:va prog 89 zny:=tiq t89 (underlying89)
def znx:TI:=⟨.struct [(0,1),(1,1),(2,1)],3,40,some (.agg [.osl 16 true [],.atom (.int .i64 0),.atom (.int .i64 0)]),false⟩
def zgv:va prog 91 znx:=tiq t91 ⟨_,underlying91,by kernel_rfl,by
  intro f hf;simp only[pl,hZ,or_false]at hf;rcases hf with rfl|rfl|rfl
  ·exact⟨t89,by kernel_rfl⟩
  ·exact⟨Tryz.t3,by kernel_rfl⟩
  exact⟨Tryz.t3,by kernel_rfl⟩⟩
def znw:TI:=⟨.slice 99,1,24,some (.osl 2 true []),false⟩
def zgu:va prog 96 znw:=tiq t96 (underlying96)
def znv:TI:=⟨.struct [(0,1),(1,1)],2,16,some (.agg [.atom (.int .i64 0),.atom (.int .i64 0)]),true⟩
def zgt:va prog 99 znv:=tiq t99 ⟨_,underlying99,by kernel_rfl,by
  intro f hf;simp only[pl,hZ,or_false]at hf;rcases hf with rfl|rfl
  ·exact⟨Tryz.t3,by kernel_rfl⟩
  exact⟨Tryz.t3,by kernel_rfl⟩⟩ (λ_=>z0C Go.Ex.q99 rfl rfl)
def zjL:TI:=⟨.slice 4,1,24,some (.osl 1 true []),false⟩
def zdt:va prog 101 zjL:=tiq t101 (underlying101)
def zjK:TI:=⟨.slice 101,1,24,some (.osl 1 true []),false⟩
def zds:va prog 102 zjK:=tiq t102 (underlying102)
def zjJ:TI:=⟨.other,1,8,some (.atom .nilFunc),false⟩
def zdr:va prog 109 zjJ:=tiq t109 ⟨_,underlying109,rfl⟩
def zjI:TI:=⟨.other,1,8,some (.atom .nilFunc),false⟩
def zdq:va prog 110 zjI:=tiq t110 ⟨_,underlying110,rfl⟩
def zjH:TI:=⟨.slice 32,1,24,some (.osl 1 true []),false⟩
def zdp:va prog 117 zjH:=tiq t117 (underlying117)
def zjG:TI:=⟨.struct [(0,3),(3,1),(4,1),(5,1),(6,1),(7,1),(8,1)],9,184,some (.agg [.agg [.atom (.int .i64 0),.atom (.int .i64 0),.osl 1 true []],.osl 1 true [],.osl 1 true [],.osl 1 true [],.osl 1 true [],.osl 1 true [],.osl 1 true []]),false⟩
def zdo:va prog 119 zjG:=tiq t119 ⟨_,underlying119,by kernel_rfl,by
  intro f hf;simp only[pl,hZ,or_false]at hf;rcases hf with rfl|rfl|rfl|rfl|rfl|rfl|rfl
  ·exact⟨t30,by kernel_rfl⟩
  ·exact⟨t32,by kernel_rfl⟩
  ·exact⟨t32,by kernel_rfl⟩
  ·exact⟨t32,by kernel_rfl⟩
  ·exact⟨t117,by kernel_rfl⟩
  ·exact⟨t32,by kernel_rfl⟩
  exact⟨t32,by kernel_rfl⟩⟩
def zjF:TI:=⟨.array 5 33,5,40,some (.agg [.atom (.int .i64 0),.atom (.int .i64 0),.atom (.int .i64 0),.atom (.int .i64 0),.atom (.int .i64 0)]),true⟩
def zdn:va prog 120 zjF:=tiq t120 (underlying120) (λ_=>z0C Go.Ex.zpl rfl rfl)
def zjE:TI:=⟨.struct [],0,0,some (.agg []),false⟩
def zdm:va prog 124 zjE:=tiq t124 ⟨_,underlying124,by kernel_rfl,by intro f hf;cases hf⟩
def zjD:TI:=⟨.other,1,8,some (.atom .nilFunc),false⟩
def zdl:va prog 130 zjD:=tiq t130 ⟨_,underlying130,rfl⟩
def zjC:TI:=⟨.other,1,8,some (.atom .nilFunc),false⟩
def zdk:va prog 132 zjC:=tiq t132 ⟨_,underlying132,rfl⟩
def zjB:TI:=⟨.other,1,8,some (.atom .nilFunc),false⟩
def zdj:va prog 133 zjB:=tiq t133 ⟨_,underlying133,rfl⟩
def zjA:TI:=⟨.other,1,8,some (.atom .nilFunc),false⟩
def zdi:va prog 134 zjA:=tiq t134 ⟨_,underlying134,rfl⟩
def zjz:TI:=⟨.struct [(0,1),(1,1)],2,16,some (.agg [.atom (.int .i64 0),.atom .nilFunc]),false⟩
def zdh:va prog 141 zjz:=tiq t141 ⟨_,underlying141,by kernel_rfl,by
  intro f hf;simp only[pl,hZ,or_false]at hf;rcases hf with rfl|rfl
  ·exact⟨t33,by kernel_rfl⟩
  exact⟨t41,by kernel_rfl⟩⟩
def zjy:TI:=⟨.array 3 141,6,48,some (.agg [.agg [.atom (.int .i64 0),.atom .nilFunc],.agg [.atom (.int .i64 0),.atom .nilFunc],.agg [.atom (.int .i64 0),.atom .nilFunc]]),false⟩
def zdg:va prog 142 zjy:=tiq t142 (underlying142)
def zjx:TI:=⟨.other,1,8,some (.atom .nilFunc),false⟩
def zdf:va prog 144 zjx:=tiq t144 ⟨_,underlying144,rfl⟩
def zjw:TI:=⟨.struct [(0,1),(1,1)],2,32,some (.agg [.atom (.int .i32 0),.osl 1 true []]),false⟩
def zde:va prog 159 zjw:=tiq t159 ⟨_,underlying159,by kernel_rfl,by
  intro f hf;simp only[pl,hZ,or_false]at hf;rcases hf with rfl|rfl
  ·exact⟨t21,by kernel_rfl⟩
  exact⟨t51,by kernel_rfl⟩⟩
def zjv:TI:=⟨.slice 159,1,24,some (.osl 2 true []),false⟩
def zdd:va prog 160 zjv:=tiq t160 (underlying160)
def zju:TI:=⟨.array 16 21,16,64,some (.agg [.atom (.int .i32 0),.atom (.int .i32 0),.atom (.int .i32 0),.atom (.int .i32 0),.atom (.int .i32 0),.atom (.int .i32 0),.atom (.int .i32 0),.atom (.int .i32 0),.atom (.int .i32 0),.atom (.int .i32 0),.atom (.int .i32 0),.atom (.int .i32 0),.atom (.int .i32 0),.atom (.int .i32 0),.atom (.int .i32 0),.atom (.int .i32 0)]),true⟩
def zdc:va prog 162 zju:=tiq t162 (underlying162) (λ_=>z0C Go.Ex.zpk rfl rfl)
def zjt:TI:=⟨.other,1,8,some (.atom .nilFunc),false⟩
def zdb:va prog 167 zjt:=tiq t167 ⟨_,underlying167,rfl⟩
def zjs:TI:=⟨.other,1,8,some (.atom .nilFunc),false⟩
def zda:va prog 168 zjs:=tiq t168 ⟨_,underlying168,rfl⟩
def zjr:TI:=⟨.other,1,8,some (.atom .nilFunc),false⟩
def zd9:va prog 174 zjr:=tiq t174 ⟨_,underlying174,rfl⟩
def zjq:TI:=⟨.other,1,8,some (.atom .nilFunc),false⟩
def zd8:va prog 175 zjq:=tiq t175 ⟨_,underlying175,rfl⟩
def zjp:TI:=⟨.struct [(0,1),(1,1)],2,32,some (.agg [.osl 1 true [],.atom (.bool false)]),false⟩
def zd7:va prog 186 zjp:=tiq t186 ⟨_,underlying186,by kernel_rfl,by
  intro f hf;simp only[pl,hZ,or_false]at hf;rcases hf with rfl|rfl
  ·exact⟨t51,by kernel_rfl⟩
  exact⟨Tryz.t4,by kernel_rfl⟩⟩
def zjo:TI:=⟨.struct [(0,1),(1,1)],2,32,some (.agg [.osl 1 true [],.atom (.bool false)]),false⟩
def zd6:va prog 187 zjo:=tiq t187 ⟨_,underlying187,by kernel_rfl,by
  intro f hf;simp only[pl,hZ,or_false]at hf;rcases hf with rfl|rfl
  ·exact⟨t51,by kernel_rfl⟩
  exact⟨Tryz.t4,by kernel_rfl⟩⟩
def zjn:TI:=⟨.other,1,8,some (.atom .nilFunc),false⟩
def zd5:va prog 189 zjn:=tiq t189 ⟨_,underlying189,rfl⟩
def zjm:TI:=⟨.other,1,8,some (.atom .nilFunc),false⟩
def zd4:va prog 191 zjm:=tiq t191 ⟨_,underlying191,rfl⟩
def zjl:TI:=⟨.other,1,8,some (.atom .nilFunc),false⟩
def zd3:va prog 192 zjl:=tiq t192 ⟨_,underlying192,rfl⟩
def zjk:TI:=⟨.other,1,8,some (.atom .nilFunc),false⟩
def zd2:va prog 199 zjk:=tiq t199 ⟨_,underlying199,rfl⟩
def zji:TI:=⟨.slice 227,1,24,some (.osl 2 true []),false⟩
def zd1:va prog 202 zji:=tiq t202 (underlying202)
def zjh:TI:=⟨.other,1,8,some (.atom .nilFunc),false⟩
def zd0:va prog 204 zjh:=tiq t204 ⟨_,underlying204,rfl⟩
def zjg:TI:=⟨.other,1,8,some (.atom .nilFunc),false⟩
def zcZ:va prog 205 zjg:=tiq t205 ⟨_,underlying205,rfl⟩
def zjf:TI:=⟨.int .u64,1,8,some (.atom (.int .u64 0)),false⟩
def zcY:va prog 209 zjf:=tiq t209 (underlying209)
def zje:TI:=⟨.other,1,8,some (.atom .nilFunc),false⟩
def zcX:va prog 213 zje:=tiq t213 ⟨_,underlying213,rfl⟩
def zjd:TI:=⟨.other,1,8,some (.atom .nilFunc),false⟩
def zcW:va prog 214 zjd:=tiq t214 ⟨_,underlying214,rfl⟩
def zjc:TI:=⟨.struct [(0,1),(1,1),(2,1)],3,24,some (.agg [.atom (.int .i64 0),.atom (.int .i64 0),.atom (.int .i64 0)]),true⟩
def zcV:va prog 217 zjc:=tiq t217 ⟨_,underlying217,by kernel_rfl,by
  intro f hf;simp only[pl,hZ,or_false]at hf;rcases hf with rfl|rfl|rfl
  ·exact⟨Tryz.t3,by kernel_rfl⟩
  ·exact⟨Tryz.t3,by kernel_rfl⟩
  exact⟨Tryz.t3,by kernel_rfl⟩⟩ (λ_=>z0C Go.Ex.zpj rfl rfl)
def zjb:TI:=⟨.other,1,8,some (.atom (.map none)),false⟩
def zcU:va prog 218 zjb:=tiq t218 ⟨_,underlying218,rfl⟩
def zja:TI:=⟨.array 64 51,64,1536,some (.agg (List.replicate 64 (.dop (nlQ 1 [])))),false⟩
def zcT:va prog 221 zja:=⟨⟨t221,by kernel_rfl,rfl,rfl,λz h=>by cases h;exact⟨_,rfl,by kernel_rfl,λS h=>zl1 (z1c (KF (z8Y) 64)) (by kernel_rfl)⟩⟩,underlying221,by intro h;cases h⟩
def zj9:TI:=⟨.ptr 246,1,8,some (.atom (.pointer none)),false⟩
def zcS:va prog 222 zj9:=tiq t222 (underlying222)
def zj8:TI:=⟨.other,1,8,some (.atom .nilFunc),false⟩
def zcR:va prog 224 zj8:=tiq t224 ⟨_,underlying224,rfl⟩
def zj7:TI:=⟨.other,1,8,some (.atom .nilFunc),false⟩
def zcQ:va prog 225 zj7:=tiq t225 ⟨_,underlying225,rfl⟩
def zj6:TI:=⟨.array 2 3,2,16,some (.agg [.atom (.int .i64 0),.atom (.int .i64 0)]),true⟩
def zcP:va prog 227 zj6:=tiq t227 (underlying227) (λ_=>z0C Go.Ex.zmb rfl rfl)
def zj5:TI:=⟨.other,1,8,some (.atom .nilFunc),false⟩
def zcO:va prog 229 zj5:=tiq t229 ⟨_,underlying229,rfl⟩
def zj4:TI:=⟨.other,1,8,some (.atom .nilFunc),false⟩
def zcN:va prog 243 zj4:=tiq t243 ⟨_,underlying243,rfl⟩
def zj3:TI:=⟨.slice 217,1,24,some (.osl 3 true []),false⟩
def zcM:va prog 244 zj3:=tiq t244 (underlying244)
def zj2:TI:=⟨.array 64 221,4096,98304,some (.agg (List.replicate 64 (.agg (List.replicate 64 (.dop (nlQ 1 [])))))),false⟩
def zcL:va prog 246 zj2:=⟨⟨t246,by kernel_rfl,rfl,rfl,λz h=>by cases h;exact⟨_,rfl,by kernel_rfl,λS h=>zl1 (z1c (KF (z1c (KF (z8Y) 64)) 64)) (by kernel_rfl)⟩⟩,underlying246,by intro h;cases h⟩
def zj1:TI:=⟨.slice 251,1,24,some (.osl 4 true []),false⟩
def zcK:va prog 247 zj1:=tiq t247 (underlying247)
def zj0:TI:=⟨.struct [(0,1),(1,1),(2,1),(3,1)],4,48,some (.agg [.atom (.int .i64 0),.atom (.int .i64 0),.osl 1 true [],.atom (.bool false)]),false⟩
def zcJ:va prog 251 zj0:=tiq t251 ⟨_,underlying251,by kernel_rfl,by
  intro f hf;simp only[pl,hZ,or_false]at hf;rcases hf with rfl|rfl|rfl|rfl
  ·exact⟨Tryz.t3,by kernel_rfl⟩
  ·exact⟨Tryz.t3,by kernel_rfl⟩
  ·exact⟨t51,by kernel_rfl⟩
  exact⟨Tryz.t4,by kernel_rfl⟩⟩
def ziZ:TI:=⟨.other,1,8,some (.atom .nilFunc),false⟩
def zcI:va prog 253 ziZ:=tiq t253 ⟨_,underlying253,rfl⟩
def ziY:TI:=⟨.other,1,8,some (.atom (.map none)),false⟩
def zcH:va prog 254 ziY:=tiq t254 ⟨_,underlying254,rfl⟩
def ziX:TI:=⟨.array 16 227,32,256,some (.agg [.agg [.atom (.int .i64 0),.atom (.int .i64 0)],.agg [.atom (.int .i64 0),.atom (.int .i64 0)],.agg [.atom (.int .i64 0),.atom (.int .i64 0)],.agg [.atom (.int .i64 0),.atom (.int .i64 0)],.agg [.atom (.int .i64 0),.atom (.int .i64 0)],.agg [.atom (.int .i64 0),.atom (.int .i64 0)],.agg [.atom (.int .i64 0),.atom (.int .i64 0)],.agg [.atom (.int .i64 0),.atom (.int .i64 0)],.agg [.atom (.int .i64 0),.atom (.int .i64 0)],.agg [.atom (.int .i64 0),.atom (.int .i64 0)],.agg [.atom (.int .i64 0),.atom (.int .i64 0)],.agg [.atom (.int .i64 0),.atom (.int .i64 0)],.agg [.atom (.int .i64 0),.atom (.int .i64 0)],.agg [.atom (.int .i64 0),.atom (.int .i64 0)],.agg [.atom (.int .i64 0),.atom (.int .i64 0)],.agg [.atom (.int .i64 0),.atom (.int .i64 0)]]),true⟩
def zcG:va prog 256 ziX:=tiq t256 (underlying256) (λ_=>z0C Go.Ex.zma rfl rfl)
def ziW:TI:=⟨.struct [(0,1),(1,32)],33,264,some (.agg [.atom (.int .i64 0),.agg [.agg [.atom (.int .i64 0),.atom (.int .i64 0)],.agg [.atom (.int .i64 0),.atom (.int .i64 0)],.agg [.atom (.int .i64 0),.atom (.int .i64 0)],.agg [.atom (.int .i64 0),.atom (.int .i64 0)],.agg [.atom (.int .i64 0),.atom (.int .i64 0)],.agg [.atom (.int .i64 0),.atom (.int .i64 0)],.agg [.atom (.int .i64 0),.atom (.int .i64 0)],.agg [.atom (.int .i64 0),.atom (.int .i64 0)],.agg [.atom (.int .i64 0),.atom (.int .i64 0)],.agg [.atom (.int .i64 0),.atom (.int .i64 0)],.agg [.atom (.int .i64 0),.atom (.int .i64 0)],.agg [.atom (.int .i64 0),.atom (.int .i64 0)],.agg [.atom (.int .i64 0),.atom (.int .i64 0)],.agg [.atom (.int .i64 0),.atom (.int .i64 0)],.agg [.atom (.int .i64 0),.atom (.int .i64 0)],.agg [.atom (.int .i64 0),.atom (.int .i64 0)]]]),true⟩
def z82:va prog 259 ziW:=tiq t259 ⟨_,underlying259,by kernel_rfl,by
  intro f hf;simp only[pl,hZ,or_false]at hf;rcases hf with rfl|rfl
  ·exact⟨Tryz.t3,by kernel_rfl⟩
  exact⟨t256,by kernel_rfl⟩⟩ (λ_=>z0C Go.Ex.zo3 rfl rfl)
def tiL:List (Nat×TI):=[(1,ti1),(2,ti2),(3,ti3),(4,ti4),(5,ti5),(9,ti9),(20,znT),(21,znS),(22,znR),(23,znQ),(25,znP),(27,znO),(28,znN),(30,znM),(32,znL),(33,znK),(36,znJ),(41,znI),(43,znH),(51,znG),(77,znF),(78,znE),(79,znD),(80,znC),(83,znB),(85,znA),(86,znz),(89,zny),(91,znx),(96,znw),(99,znv),(101,zjL),(102,zjK),(109,zjJ),(110,zjI),(117,zjH),(119,zjG),(120,zjF),(124,zjE),(130,zjD),(132,zjC),(133,zjB),(134,zjA),(141,zjz),(142,zjy),(144,zjx),(159,zjw),(160,zjv),(162,zju),(167,zjt),(168,zjs),(174,zjr),(175,zjq),(186,zjp),(187,zjo),(189,zjn),(191,zjm),(192,zjl),(199,zjk),(202,zji),(204,zjh),(205,zjg),(209,zjf),(213,zje),(214,zjd),(217,zjc),(218,zjb),(221,zja),(222,zj9),(224,zj8),(225,zj7),(227,zj6),(229,zj5),(243,zj4),(244,zj3),(246,zj2),(247,zj1),(251,zj0),(253,ziZ),(254,ziY),(256,ziX),(259,ziW)]
def wM:TT:=λt=>(tiL.find? λp=>p.1==t).map (·.2)
def zcw (P:Program):List (Nat×TI)->Prop
 |[]=>True
 |p::l=>va P p.1 p.2/\zcw P l
def zcw.mem:∀{l:List (Nat×TI)},zcw P l->∀p∈l,va P p.1 p.2
 |p::_,h,q,hq=>by
  rcases pl.1 hq with rfl|hq
  ·exact h.1
  exact zcw.mem h.2 q hq
 |[],_,_,hq=>by cases hq
def ziQ:zcw prog tiL:=⟨zjj,ziV,ziU,ziT,ziS,ziR,zgR,zgQ,zgP,zgO,zgN,zgM,zgL,zgK,zgJ,zgI,zgH,zgG,zgF,zgE,zgD,zgC,zgB,zgA,zgz,zgy,zgx,zgw,zgv,zgu,zgt,zdt,zds,zdr,zdq,zdp,zdo,zdn,zdm,zdl,zdk,zdj,zdi,zdh,zdg,zdf,zde,zdd,zdc,zdb,zda,zd9,zd8,zd7,zd6,zd5,zd4,zd3,zd2,zd1,zd0,zcZ,zcY,zcX,zcW,zcV,zcU,zcT,zcS,zcR,zcQ,zcP,zcO,zcN,zcM,zcL,zcK,zcJ,zcI,zcH,zcG,z82,trivial⟩
def zu:xN prog wM:=by intro t i h;unfold wM at h;rw[pT]at h;obtain⟨p,h1,rfl⟩:=h;have h2:=List.find?_some h1;have h3:=ziQ.mem p (List.mem_of_find?_eq_some h1);rw[beq_iff_eq.1 h2]at h3;exact h3
end Go.Own

namespace Go.Proofs
open Go.Proofs.Tryz
open Go.RowKit Go.Lib
def Tryz.groI:(prog.info? 3).map (λi=>(i.size,i.bytes,i.zero))=some (1,8,some (.int .i64 0)):=by kernel_rfl
set_option maxHeartbeats 4000000 in
set_option maxRecDepth 100000 in
def Tryz.gro_run (p:Option Addr)(n:Nat)(w:World)(h0:0<n)(h1:n<=1000000) :
  Calls prog 202 #[.slice p 0 0,.int .i64 n] w λe w'=>
   e=.returned (.slice (some ⟨w.heap.size,0,none⟩) 0 (grownCap w n 0 3)) /\
   w'=w.drew.alloc (.cells (#[]++Builtin.zeroCells (Value.int .i64 0).cells n++Builtin.zeroCells (Value.int .i64 0).cells (grownCap w n 0 3-n)) 3):=by
 obtain⟨i0,hi0,hi⟩:=pT.1 Tryz.groI;obtain⟨hs0,hi⟩:=Prod.mk.inj hi;obtain⟨hb0,hz0⟩:=Prod.mk.inj hi;have mixed:prog.follows .mixedOrders=true:=by kernel_rfl
 have h1':¬((n:Int)<0):=by omega
 have h3:wrap64 ((n:Int))=(n:Int):=by unfold wrap64;omega
 have h4:(n:Int)>0:=by omega
 have hold:(Builtin.firstCells i0.size 0 (.slice p 0 0)).run prog w.drew=.ok ([]:List Value).toArray w.drew:=by
  cases p with
  |none=>exact run_firstCells_none w.drew i0.size 0 0 0
  |some a=>exact run_firstCells_some w.drew i0.size 0 a 0 0 [] (by simp) (λj v hj=>by simp at hj)
 have hrz:∀ty,(Builtin.append_ #[51,3] ty #[.slice p 0 0,.int .i64 (n:Int)]).run prog w =
   .ok (.slice (some ⟨w.heap.size,0,none⟩) n (grownCap w n 0 3)) (w.drew.alloc (.cells (#[]++Builtin.zeroCells (Value.int .i64 0).cells n++Builtin.zeroCells (Value.int .i64 0).cells (grownCap w n 0 3-n)) 3)):=λty=>by
  have h:=Lib.run_append_grow_zeros w 51 3 ty 3 i0 (.int .i64 0) .i64 .i64 underlying51 underlying3 hi0 hz0 p 0 0 [] hold n h0 (by omega) (by omega) (by omega)
   (by rw[hb0];omega)
   (by rw[gF];exact growslice_fits h0 (by rw[hb0];omega))
  rw[gF]at h;exact h
 have hGn:n<=grownCap w n 0 3:=grownCap_ge w _ _ _;obtain⟨G,hG⟩:∃G,G=grownCap w n 0 3:=⟨_,rfl⟩;rw[<-hG]at hrz hGn⊢;have hG63:G<=9223372036854775807:=by have:=grownCap_le_maxLen w n 0 3 (by unfold maxLen;omega);rw[<-hG]at this;unfold maxLen at this;omega
 clear hold hG
 go_enter func202,ntmps202
 cases p with
 |none=>
  go_wp2_with (at_builtin;refine Lib.wpList_append_run _ rfl _ _ _ _ rfl _ _ rfl rfl _ _ (hrz _) ?_)
  all_goals (go_ret;exact⟨rfl,rfl⟩)
 |some a=>
  obtain⟨ab,ao,asp⟩:=a
  go_wp2_with (at_builtin;refine Lib.wpList_append_run _ rfl _ _ _ _ rfl _ _ rfl rfl _ _ (hrz _) ?_)
  all_goals (go_ret;exact⟨rfl,rfl⟩)
end Go.Proofs
namespace Go.Own
open Go.Proofs
def zbA (n:Int)(h0:0<n)(h1:n<=1000000):uM Tryz.prog 202 [.sl 1 true [],eI .i64 n] (.osl 1 false []):=by
 refine⟨⟨_,Tryz.func202,by kernel_rfl,by kernel_rfl⟩,?_⟩;intro S w vs F hS hq hF;obtain⟨m,rfl⟩:∃m:Nat,n=(m:Int):=⟨n.toNat,by omega⟩;match vs,hq with
 |[u,v],q=>
  obtain⟨F1,F2,rfl,q1,F3,F4,rfl,q2,q3⟩:=q;have e3:F4=[]:=q3;subst e3;have d:∀{x:A} {u:Value} {F:TC},x.isD=true->Has S w.heap x u F->wP S x u/\F=[]:=by
   intro x u F hx q;rcases q with⟨q,rfl⟩|⟨cs,q1,q2,q3⟩
   ·exact⟨q.rep1 hx,rfl⟩
   obtain⟨r,rfl⟩:=q1.isD hx;exact⟨⟨cs,r,q3⟩,rfl⟩
  obtain⟨⟨cs,r1,e1⟩,rfl⟩:=d rfl q1;obtain⟨⟨ds,r2,e2⟩,rfl⟩:=d rfl q2;simp only[Rep]at r1;obtain⟨p,c,rfl,hc,_⟩:=r1;obtain rfl:c=0:=by simpa using hc
  have hv:v=.int .i64 (m:Int):=by
   rw[e2];obtain⟨rfl,_⟩:ds=[.int .i64 (m:Int)]/\_:=by simpa only[eI,Rep] using r2
   rfl
  have hu:u=.slice p 0 0:=by rw[e1];rfl
  subst hv hu;refine(Tryz.gro_run p m w (by omega) (by omega)).mono ?_;rintro e' w' ⟨rfl,rfl⟩;have hsz:∀k,(Builtin.zeroCells (Value.int .i64 0).cells k).size=k:=λk=>by simp[Builtin.zeroCells,Value.cells]
  have hGn:m<=grownCap w m 0 3:=grownCap_ge w _ _ _;have hGm:=grownCap_le_maxLen w m 0 3 (by unfold maxLen;omega);have hfr:∀o,S w.heap.size o=none:=λo=>by
   cases hh:S w.heap.size o with
   |none=>rfl
   |some x=>have:=hS _ _ _ hh;simp[y6]at this
  generalize grownCap w m 0 3=G at hGn hGm⊢;refine⟨_,S,[w.heap.size],rfl,((YT.refl _ _).drew).alloc (.inl (pi _)) _,λ_ _ _ h=>h,λ_ _ _ _=>rfl,⟨λb o v h=>?_,hS.gok,hS.blk.of (λ_ _ _ q=>q) λg x e=>?_⟩,.inr ⟨[.slice (some ⟨w.heap.size,0,none⟩) 0 G],?_,by simp,rfl⟩,by simp,by simp⟩
  ·have h':=hS _ _ _ h;have hne:b≠w.heap.size:=by rintro rfl;rw[hfr]at h;cases h
   show y6 (w.heap.push _) b o=some v;unfold y6 at h' ⊢;rw[gS,if_neg hne];exact h'
  ·have hlt:=hS.blk.lt e;show(w.heap.push _)[g]?=_;rw[gS,if_neg (by omega)]
  simp only[zH];refine⟨_,G,rfl,by simp,by simp,hGm,by simp,.inr ⟨w.heap.size,_,3,[],[],rfl,by show(w.heap.push _)[w.heap.size]?=_;rw[gS,if_pos rfl],?_,by simp,⟨rfl,rfl⟩,rfl,hfr⟩⟩;simp only[Array.size_append,hsz,Array.size_empty];omega
end Go.Own

namespace Go.Proofs
open Go.Proofs.Tryz
open Go.RowKit Go.Lib
def Tryz.meth77 (w:World):(method 392 77 (.agg #[]) "gauntlet/suites.fill").run prog w=.ok (218,.agg #[]) w:=by kernel_rfl
def Tryz.meth78 (w:World):(method 392 78 (.agg #[]) "gauntlet/suites.fill").run prog w=.ok (220,.agg #[]) w:=by kernel_rfl
def Tryz.meth79 (w:World):(method 392 79 (.agg #[]) "gauntlet/suites.fill").run prog w=.ok (229,.agg #[]) w:=by kernel_rfl
def Tryz.tas (w:World):(Instr.typeAssert (.iface 124 (.agg #[])) 20 124 true).run prog w=.ok (.tuple #[.agg #[],.bool true]) w:=by kernel_rfl
def Tryz.mk1 (w:World):(Instr.makeSlice 89 (.int .i64 1) (.int .i64 1)).run prog w=.ok (.slice (some ⟨w.heap.size,0,none⟩) 1 1) (w.alloc (.cells (Array.replicate 16 (.int .i32 0)) 162)):=by
 have h:(prog.info? 162).map (λi=>(i.size,i.bytes,i.zero))=some (16,64,some (.agg (Array.replicate 16 (.int .i32 0)))):=by kernel_rfl
 obtain⟨i0,hi0,hi⟩:=pT.1 h;obtain⟨hs0,hi⟩:=Prod.mk.inj hi;obtain⟨hb0,hz0⟩:=Prod.mk.inj hi;have q:=run_makeSlice (P:=prog) (w:=w) 89 162 i0 _ underlying89 hi0 hz0 .i64 .i64 1 1 (by omega) (by omega) (by rw[hs0];decide) (by rw[hb0];omega) (by omega);rw[hs0,show madeCells (Value.agg (Array.replicate 16 (Value.int .i32 0))).cells (Int.toNat 1*16)=Array.replicate 16 (.int .i32 0) from by kernel_rfl]at q;exact q
def Tryz.gw4 (w:World)(most:Int):World :=
 (((w.alloc (.cells #[.pointer (some ⟨w.heap.size+1+1+1,0,none⟩)] 86)).alloc (.cells #[.bool false] 4)).alloc (.cells (Array.replicate 16 (.int .i32 0)) 162)).alloc (.cells #[.slice (some ⟨w.heap.size+1+1,0,none⟩) 1 1,.int .i64 0,.int .i64 most] 91)
def Tryz.catch_idle (p q:Addr)(w:World) :
  CallsD prog 77 #[.pointer (some p),.pointer (some q)] .returning w λe u' w'=>e=.returned (.tuple #[])/\u'=.returning/\w'=w:=by
 refine callsD_of_wpS func77 rfl λc₀ cs hu=>?_;apply wpS_seq;apply wpS_region;simp[wpOpsS,go_sem,recoverD,hu,ntmps77,Exit.thenS];apply wpS_seq;apply wpS_region;simp[wpOpsS,go_sem,recoverD,hu,ntmps77,Exit.thenS];refine wpS_cond (t:=false) (by simp[Act.eval,Array.replicate]) ?_;simp only[gf,if_false];refine wpS_of_wp (wp_skip ?_);cases c₀
 simp_all [bodyPostS,results,results77]
def Tryz.catch_panicking (n:Nat)(older:List PanicEntry)(w:World)(x:Value)(y:Value)(h1:w.heap[n]?=some (.cells #[x] 86))(h2:w.heap[n+1]?=some (.cells #[y] 4)) :
  CallsD prog 77 #[.pointer (some ⟨n,0,none⟩),.pointer (some ⟨n+1,0,none⟩)] (.panicking ({ v:=.iface 124 (.agg #[]),recovered:=false }::older)) w λe u' w'=>e=.returned (.tuple #[])/\u'=.panicking ({ v:=.iface 124 (.agg #[]),recovered:=true }::older)/\w'=((w.alloc (.cells #[] 124)).setCell ⟨n,0,none⟩ (.pointer none)).setCell ⟨n+1,0,none⟩ (.bool false):=by
 have ht:=Tryz.tas;refine callsD_of_wpS func77 rfl λc₀ cs hu=>?_;apply wpS_seq;apply wpS_region;simp[wpOpsS,go_sem,recoverD,hu,ntmps77,Exit.thenS];apply wpS_seq;apply wpS_region;simp[wpOpsS,go_sem,recoverD,hu,ntmps77,Exit.thenS];refine wpS_cond (t:=true) (by simp[Act.eval,Array.replicate]) ?_;simp only[if_true];apply wpS_seq;apply wpS_seq;apply wpS_region;simp[wpOpsS,go_sem,recoverD,hu,ntmps77,Exit.thenS,ht];apply wpS_seq;apply wpS_region;simp[wpOpsS,go_sem,recoverD,hu,ntmps77,Exit.thenS,ht];refine wpS_cond (t:=false) (by simp[Act.eval,Array.replicate]) ?_;simp only[gf,if_false];refine wpS_of_wp (wp_skip ?_);simp only[Exit.thenS];apply wpS_region;have l1:=(pE.1 h1).1;have l2:=(pE.1 h2).1;have g1:(w.alloc (.cells #[] 124)).heap[n]?=some (.cells #[x] 86):=by simp only[World.alloc];rw[gS,if_neg (by omega),h1]
 have g2:(w.alloc (.cells #[] 124)).heap[n+1]?=some (.cells #[y] 4):=by simp only[World.alloc];rw[gS,if_neg (by omega),h2]
 have hp1:(w.alloc (.cells #[] 124)).cell? ⟨n,0,none⟩=some x:=by simp[World.cell?,g1]
 have hz1:(w.alloc (.cells #[] 124)).frozen? ⟨n,0,none⟩=false:=by simp[World.frozen?,g1]
 have g3:((w.alloc (.cells #[] 124)).setCell ⟨n,0,none⟩ (.pointer none)).heap[n+1]?=some (.cells #[y] 4):=by simp only[World.setCell,mO];rw[if_neg (by omega),g2]
 have hp2:((w.alloc (.cells #[] 124)).setCell ⟨n,0,none⟩ (.pointer none)).cell? ⟨n+1,0,none⟩=some y:=by simp only[World.cell?,g3];rfl
 have hz2:((w.alloc (.cells #[] 124)).setCell ⟨n,0,none⟩ (.pointer none)).frozen? ⟨n+1,0,none⟩=false:=by simp only[World.frozen?,g3];rfl
 simp[wpOpsS,go_sem,recoverD,hu,ntmps77,Exit.thenS,ht,hp1,hz1,hp2,hz2];cases c₀
 simp_all [bodyPostS,results,results77]
set_option maxHeartbeats 4000000 in
set_option maxRecDepth 100000 in
def Tryz.gat_run (T kf:Nat)(hmeth:∀w,(method 392 T (.agg #[]) "gauntlet/suites.fill").run prog w=.ok (kf,.agg #[]) w)(hcf:∀args w,(callFunc kf args).run prog w=.ok (.enter kf args) w)(xv:Value)(most:Int)(w:World)(K:World->Prop)
  (hcall:Calls prog kf #[.agg #[],xv,.pointer (some ⟨w.heap.size+1+1+1,0,none⟩)] (Tryz.gw4 w most) λe w5=>e=.returned (.tuple #[])/\w5.heap[w.heap.size]?=some (.cells #[.pointer (some ⟨w.heap.size+1+1+1,0,none⟩)] 86)/\w5.heap[w.heap.size+1]?=some (.cells #[.bool false] 4)/\K w5) :
  Calls prog 37 #[xv,.iface T (.agg #[]),.int .i64 most] w λe w'=>e=.returned (.tuple #[.pointer (some ⟨w.heap.size+1+1+1,0,none⟩),.bool true])/\∃w5,K w5/\w'=(w5.setCell ⟨w.heap.size,0,none⟩ (.pointer (some ⟨w.heap.size+1+1+1,0,none⟩))).setCell ⟨w.heap.size+1,0,none⟩ (.bool true):=by
 have hmf:∀(fn:Fn) (first cap:Array Value) (w:World),(Instr.makeFunc fn first cap).run prog w=.ok (.func fn first cap) w:=λ_ _ _ _=>rfl;have hmk:=Tryz.mk1
 go_enter_defers func37,ntmps37
 go_wp2
 refine Calls.mono hcall ?_;rintro e w5 ⟨rfl,h1,h2,h3⟩;have hc1:w5.cell? ⟨w.heap.size,0,none⟩=some (.pointer (some ⟨w.heap.size+1+1+1,0,none⟩)):=by simp[World.cell?,h1]
 have hc2:w5.cell? ⟨w.heap.size+1,0,none⟩=some (.bool false):=by simp[World.cell?,h2]
 have hz1:w5.frozen? ⟨w.heap.size,0,none⟩=false:=by simp[World.frozen?,h1]
 have hz2:w5.frozen? ⟨w.heap.size+1,0,none⟩=false:=by simp[World.frozen?,h2]
 dsimp only
 go_wp2
 refine leaves_cons (f:=77) (args:=#[.pointer (some ⟨w.heap.size,0,none⟩),.pointer (some ⟨w.heap.size+1,0,none⟩)]) (by simp) (by simp[go_sem]) ?_;refine(Tryz.catch_idle _ _ _).mono ?_;rintro e u' w'' ⟨rfl,rfl,rfl⟩;have hcA:(w5.setCell ⟨w.heap.size,0,none⟩ (.pointer (some ⟨w.heap.size+1+1+1,0,none⟩))).cell? ⟨w.heap.size,0,none⟩=some (.pointer (some ⟨w.heap.size+1+1+1,0,none⟩)):=by simp[World.cell?,World.setCell,mO,h1]
 have hcB:((w5.setCell ⟨w.heap.size,0,none⟩ (.pointer (some ⟨w.heap.size+1+1+1,0,none⟩))).setCell ⟨w.heap.size+1,0,none⟩ (.bool true)).cell? ⟨w.heap.size+1,0,none⟩=some (.bool true):=by simp[World.cell?,World.setCell,mO,h2]
 simp[Leaves,settle,results,results37,go_sem,hcA,hcB];exact⟨w5,h3,rfl⟩
set_option maxHeartbeats 4000000 in
set_option maxRecDepth 100000 in
def Tryz.gat_die (T kf:Nat)(hmeth:∀w,(method 392 T (.agg #[]) "gauntlet/suites.fill").run prog w=.ok (kf,.agg #[]) w)(hcf:∀args w,(callFunc kf args).run prog w=.ok (.enter kf args) w)(xv:Value)(most:Int)(w:World)(K:World->Prop)
  (hcall:Calls prog kf #[.agg #[],xv,.pointer (some ⟨w.heap.size+1+1+1,0,none⟩)] (Tryz.gw4 w most) λe w5=>e=.panicked (Own.jO (.iface 124 (.agg #[])))/\w5.heap[w.heap.size]?=some (.cells #[.pointer (some ⟨w.heap.size+1+1+1,0,none⟩)] 86)/\w5.heap[w.heap.size+1]?=some (.cells #[.bool false] 4)/\K w5) :
  Calls prog 37 #[xv,.iface T (.agg #[]),.int .i64 most] w λe w'=>e=.returned (.tuple #[.pointer none,.bool false])/\∃w5,K w5/\w'=((w5.alloc (.cells #[] 124)).setCell ⟨w.heap.size,0,none⟩ (.pointer none)).setCell ⟨w.heap.size+1,0,none⟩ (.bool false):=by
 have hmf:∀(fn:Fn) (first cap:Array Value) (w:World),(Instr.makeFunc fn first cap).run prog w=.ok (.func fn first cap) w:=λ_ _ _ _=>rfl;have hmk:=Tryz.mk1
 go_enter_defers func37,ntmps37
 go_wp2
 refine Calls.mono hcall ?_;rintro e w5 ⟨rfl,h1,h2,h3⟩;have l1:=(pE.1 h1).1;have l2:=(pE.1 h2).1;have g1:(w5.alloc (.cells #[] 124)).heap[w.heap.size]?=some (.cells #[.pointer (some ⟨w.heap.size+1+1+1,0,none⟩)] 86):=by simp only[World.alloc];rw[gS,if_neg (by omega),h1]
 have g2:(w5.alloc (.cells #[] 124)).heap[w.heap.size+1]?=some (.cells #[.bool false] 4):=by simp only[World.alloc];rw[gS,if_neg (by omega),h2]
 dsimp only[Own.jO];refine leaves_cons (f:=77) (args:=#[.pointer (some ⟨w.heap.size,0,none⟩),.pointer (some ⟨w.heap.size+1,0,none⟩)]) (by simp) (by simp[go_sem]) ?_;refine(Tryz.catch_panicking w.heap.size [] w5 _ _ h1 h2).mono ?_;rintro e u' w'' ⟨rfl,rfl,rfl⟩;have hcA:((w5.alloc (.cells #[] 124)).setCell ⟨w.heap.size,0,none⟩ (.pointer none)).cell? ⟨w.heap.size,0,none⟩=some (.pointer none):=by simp[World.cell?,World.setCell,mO,g1]
 have hcB:(((w5.alloc (.cells #[] 124)).setCell ⟨w.heap.size,0,none⟩ (.pointer none)).setCell ⟨w.heap.size+1,0,none⟩ (.bool false)).cell? ⟨w.heap.size+1,0,none⟩=some (.bool false):=by simp[World.cell?,World.setCell,mO,g2]
 simp[Leaves,settle,results,results37,go_sem,hcA,hcB];exact⟨w5,h3,rfl⟩
end Go.Proofs
namespace Go.Own
open Go.Proofs
def z7I {T kf:Nat}(hmeth:∀w,(method 392 T (.agg #[]) "gauntlet/suites.fill").run Tryz.prog w=.ok (kf,.agg #[]) w)(hcf:∀args w,(callFunc kf args).run Tryz.prog w=.ok (.enter kf args) w){xs y z:A}{most:Int}{died:Bool}(hxs:xs.isD=true)(hl:y.live=true)(hz:y.shut=z)
  (hfill:∀bv,z7X Tryz.prog kf [.agg [],xs,.atom bv] [(bv,.box (.agg [.osl 16 false [.agg (List.replicate 16 (.atom (.int .i32 0)))],.atom (.int .i64 0),.atom (.int .i64 most)]))] died (.iface 124 (.agg #[])) (.tup []) [.box y]) :
  uM Tryz.prog 37 [xs,.atom (.iface T (.agg #[])),.atom (.int .i64 most)] (.tup [bif died then .atom (.pointer none) else .sptr z,.atom (.bool (!died))]):=by
 refine⟨⟨_,Tryz.func37,by kernel_rfl,by kernel_rfl⟩,?_⟩;intro S w vs F hS hq hF;match vs,hq with
 |[u,v,x],q=>
  obtain⟨F1,F2,rfl,q1,F3,F4,rfl,q2,F5,F6,rfl,q3,q4⟩:=q;have e4:F6=[]:=q4;subst e4;have d:∀{x:A} {u:Value} {F:TC},x.isD=true->Has S w.heap x u F->wP S x u/\F=[]:=by
   intro x u F hx q;rcases q with⟨q,rfl⟩|⟨cs,q1,q2,q3⟩
   ·exact⟨q.rep1 hx,rfl⟩
   obtain⟨r,rfl⟩:=q1.isD hx;exact⟨⟨cs,r,q3⟩,rfl⟩
  obtain⟨r1,rfl⟩:=d hxs q1;obtain⟨r2,rfl⟩:=d rfl q2;obtain⟨r3,rfl⟩:=d rfl q3;obtain rfl:v=.iface T (.agg #[]):=(yS.1 r2).1;obtain rfl:x=.int .i64 most:=(yS.1 r3).1;have hnew:∀b o,w.heap.size<=b->S b o=none:=λb o hb=>by
   cases hh:S b o with
   |none=>rfl
   |some x=>have:=hS _ _ _ hh;simp[y6,nN hb]at this
  have hsz:(Tryz.gw4 w most).heap.size=w.heap.size+4:=by simp only[Tryz.gw4,World.alloc,Array.size_push]
  have hold:∀b,b<w.heap.size->(Tryz.gw4 w most).heap[b]?=w.heap[b]?:=λb hb=>by simp only[Tryz.gw4,World.alloc];simp only[gS,Array.size_push];rw[if_neg (by omega),if_neg (by omega),if_neg (by omega),if_neg (by omega)]
  have c0:(Tryz.gw4 w most).heap[w.heap.size]?=some (.cells #[.pointer (some ⟨w.heap.size+1+1+1,0,none⟩)] 86):=by simp only[Tryz.gw4,World.alloc];simp only[gS,Array.size_push];rw[if_neg (by omega),if_neg (by omega),if_neg (by omega),if_pos trivial]
  have c1:(Tryz.gw4 w most).heap[w.heap.size+1]?=some (.cells #[.bool false] 4):=by simp only[Tryz.gw4,World.alloc];simp only[gS,Array.size_push];rw[if_neg (by omega),if_neg (by omega),if_pos trivial]
  have c2:(Tryz.gw4 w most).heap[w.heap.size+1+1]?=some (.cells (Array.replicate 16 (.int .i32 0)) 162):=by simp only[Tryz.gw4,World.alloc];simp only[gS,Array.size_push];rw[if_neg (by omega),if_pos trivial]
  have c3:(Tryz.gw4 w most).heap[w.heap.size+1+1+1]?=some (.cells #[.slice (some ⟨w.heap.size+1+1,0,none⟩) 1 1,.int .i64 0,.int .i64 most] 91):=by simp only[Tryz.gw4,World.alloc];simp only[gS,Array.size_push];rw[if_pos trivial]
  have hK4:YT (λk=>w.heap.size<=k\/k∈([]:TC)) w (Tryz.gw4 w most):=by
   unfold Tryz.gw4;refine((((YT.refl _ _).alloc (.inl (pi _)) _).alloc (.inl ?_) _).alloc (.inl ?_) _).alloc (.inl ?_) _
   all_goals simp only[World.alloc,Array.size_push];omega
  have hS4:yI S (Tryz.gw4 w most):=by
   refine⟨λb o u h=>?_,hS.gok,hS.blk.of (λ_ _ _ q=>q) λg x e=>hold g (hS.blk.lt e)⟩;have h':=hS _ _ _ h;have hb:b<w.heap.size:=by
    rcases pC b w.heap.size with h1|h1
    ·exact h1
    rw[hnew b o h1]at h;cases h
   unfold y6 at h' ⊢;rw[hold b hb];exact h'
  have hbag:XX S (Tryz.gw4 w most).heap [.box (.agg [.osl 16 false [.agg (List.replicate 16 (.atom (.int .i32 0)))],.atom (.int .i64 0),.atom (.int .i64 most)])] [.pointer (some ⟨w.heap.size+1+1+1,0,none⟩)] [w.heap.size+1+1+1,w.heap.size+1+1]:=by
   have hcc:∀l:TE,(∀v∈l,v.oneCell'=true)->zL S (Tryz.gw4 w most).heap (l.map .atom) l []:=by
    intro l;induction l with
    |nil=>intro _;simp[zL]
    |cons a l ih=>intro h;simp only[gE,zL];exact⟨[a],l,[],[],rfl,rfl,by simp only[zH,Rep];simp[h a (by simp)],ih λv hv=>h v (by simp[hv])⟩
   have ho:zH S (Tryz.gw4 w most).heap (.osl 16 false [.agg (List.replicate 16 (.atom (.int .i32 0)))]) [.slice (some ⟨w.heap.size+1+1,0,none⟩) 1 1] [w.heap.size+1+1]:=by
    simp only[zH];refine⟨some ⟨w.heap.size+1+1,0,none⟩,1,by simp,by simp,by simp,by unfold maxLen;omega,?_,.inr ⟨w.heap.size+1+1,_,162,List.replicate 16 (.int .i32 0),[],rfl,c2,by simp,by simp,?_,by simp,λo=>hnew _ o (by omega)⟩⟩
    ·intro x hx;simp only[pl,hZ,or_false]at hx;subst hx;rfl
    simp only[zL];exact⟨List.replicate 16 (.int .i32 0),[],[],[],by simp,rfl,by simp only[zH];exact hcc (List.replicate 16 (.int .i32 0)) (by intro v hv;rw[mE hv];rfl),rfl,rfl⟩
   refine⟨[w.heap.size+1+1+1,w.heap.size+1+1],[],by simp,.inr ⟨[.pointer (some ⟨w.heap.size+1+1+1,0,none⟩)],?_,by simp,rfl⟩,rfl⟩;simp only[zH];refine⟨w.heap.size+1+1+1,91,[.slice (some ⟨w.heap.size+1+1,0,none⟩) 1 1,.int .i64 0,.int .i64 most],[w.heap.size+1+1],rfl,c3,?_,rfl,λo=>hnew _ o (by omega)⟩;simp only[zL];exact⟨_,_,[w.heap.size+1+1],[],rfl,rfl,ho,[.int .i64 0],_,[],[],rfl,rfl,⟨by simp[Rep,Value.oneCell'],rfl⟩,[.int .i64 most],[],[],[],rfl,rfl,⟨by simp[Rep,Value.oneCell'],rfl⟩,rfl,rfl⟩
  have hfree:∀k∈[w.heap.size+1+1+1,w.heap.size+1+1],k=w.heap.size+1+1+1\/k=w.heap.size+1+1:=λk hk=>by simpa using hk
  have hargs:Yz (wP S) [.agg [],xs,.atom (.pointer (some ⟨w.heap.size+1+1+1,0,none⟩))] [.agg #[],u,.pointer (some ⟨w.heap.size+1+1+1,0,none⟩)] :=
   ⟨⟨[],by simp[Rep,yb],rfl⟩,r1,yS.2 ⟨rfl,rfl⟩,trivial⟩
  have hfv:wP S (.fn kf []) (.func (.func kf) #[] #[]):=⟨[.func (.func kf) #[] #[]],by simp[Rep,yb],rfl⟩;obtain⟨hok,hdie⟩:=hfill (.pointer (some ⟨w.heap.size+1+1+1,0,none⟩));have hkept:∀{w5:World},YT (λk=>(Tryz.gw4 w most).heap.size<=k\/k∈[w.heap.size+1+1+1,w.heap.size+1+1]) (Tryz.gw4 w most) w5->w5.heap[w.heap.size]?=some (.cells #[.pointer (some ⟨w.heap.size+1+1+1,0,none⟩)] 86)/\w5.heap[w.heap.size+1]?=some (.cells #[.bool false] 4):=λh=>
   have hm:∀k,k<w.heap.size+2->¬((Tryz.gw4 w most).heap.size<=k\/k∈[w.heap.size+1+1+1,w.heap.size+1+1]):=λk hk q=>by
    rcases q with q|q
    ·rw[hsz]at q;omega
    have:=hfree _ q;omega
   ⟨(h.block _ (hm _ (by omega))).trans c0,(h.block _ (hm _ (by omega))).trans c1⟩
  have hset:∀(w5:World) (a b:Value),YT (λk=>w.heap.size<=k\/k∈([]:TC)) w5 ((w5.setCell ⟨w.heap.size,0,none⟩ a).setCell ⟨w.heap.size+1,0,none⟩ b):=λw5 a b=>
   ⟨rfl,rfl,rfl,pi _,by simp[World.setCell],λk hk=>by simp only[World.setCell,mO];rw[if_neg (by rintro rfl;exact hk (.inl (by omega))),if_neg (by rintro rfl;exact hk (.inl (by omega)))]⟩
  have hset2:∀(w5:World) (a b:Value) (k:Nat),k≠w.heap.size->k≠w.heap.size+1->((w5.setCell ⟨w.heap.size,0,none⟩ a).setCell ⟨w.heap.size+1,0,none⟩ b).heap[k]?=w5.heap[k]?:=λw5 a b k h1 h2=>by simp only[World.setCell,mO];rw[if_neg (nI h2),if_neg (nI h1)]
  have hstay:∀{w5 w6:World} {S5:zj},yI S5 w5->(∀o,S5 w.heap.size o=none)->(∀o,S5 (w.heap.size+1) o=none)->(∀k,k<w5.heap.size->k≠w.heap.size->k≠w.heap.size+1->w6.heap[k]?=w5.heap[k]?)->yI S5 w6:=by
   intro w5 w6 S5 h k1 k2 hb;have hne:∀b o u,S5 b o=some u->b≠w.heap.size/\b≠w.heap.size+1:=λb o u q=>⟨(by rintro rfl;rw[k1]at q;cases q),(by rintro rfl;rw[k2]at q;cases q)⟩;refine⟨λb o u q=>?_,h.gok,h.blk.of (λ_ _ _ q=>q) λg x e=>?_⟩
   ·have h':=h _ _ _ q;have hlt:b<w5.heap.size:=by
     unfold y6 at h';cases hh:w5.heap[b]? with
     |none=>rw[hh]at h';cases h'
     |some y=>exact(pE.1 hh).1
    unfold y6 at h' ⊢;rw[hb b hlt (hne b o u q).1 (hne b o u q).2];exact h'
   obtain⟨_,v,hv⟩:=h.blk g x e;exact hb g (h.blk.lt e) (hne g 0 v hv).1 (hne g 0 v hv).2
  cases died with
  |false=>
   have ha:=hok rfl S (Tryz.gw4 w most) _ _ _ hS4 hfv hargs hbag (by simp);rcases ha with⟨k,caps,fn,e1,_,_,_,h5⟩|⟨L,q,e1,_⟩
   ·cases e1;refine Calls.mono (Tryz.gat_run T kf hmeth hcf u most w (λw5=>∃(S':zj) (G:TC),YT (λk=>(Tryz.gw4 w most).heap.size<=k\/k∈[w.heap.size+1+1+1,w.heap.size+1+1]) (Tryz.gw4 w most) w5/\(∀b o u,S b o=some u->S' b o=some u)/\(∀b o,b<(Tryz.gw4 w most).heap.size->b∉[w.heap.size+1+1+1,w.heap.size+1+1]->S' b o=S b o)/\yI S' w5 /\
     Has S' w5.heap (.box y) (.pointer (some ⟨w.heap.size+1+1+1,0,none⟩)) G/\G.Nodup/\∀k∈G,(Tryz.gw4 w most).heap.size<=k\/k∈[w.heap.size+1+1+1,w.heap.size+1+1]) (Calls.mono h5 ?_)) ?_
    ·rintro e w5 ⟨v,rfl,S',F',G,b1,b2,b3,b4,b5,b6,b7,b8⟩;have hv:v=.tuple #[]:=by
      rcases b5 with⟨q,_⟩|⟨cs,q,_⟩
      ·simp only[yZ]at q;obtain⟨us,rfl,q⟩:=q;cases us with
       |nil=>rfl
       |cons a l=>exact q.elim
      simp only[zH]at q
     subst hv;obtain⟨H1,H2,rfl,g1,g2⟩:=b6;have eH:H2=[]:=g2;subst eH;simp only[pL]at b7 b8;exact⟨rfl,(hkept b1).1,(hkept b1).2,S',H1,b1,b2,b3,b4,g1,(pH.1 b7).1,λk hk=>b8 k (by simp[hk])⟩
    rintro e w' ⟨rfl,w5,⟨S',G,b1,b2,b3,b4,b5,b6,b7⟩,rfl⟩;have hG:∀k∈G,w.heap.size+2<=k:=λk hk=>by
     rcases b7 k hk with q|q
     ·rw[hsz]at q;omega
     have:=hfree k q;omega
    have n1:∀o,S' w.heap.size o=none:=λo=>by rw[b3 _ _ (by rw[hsz];omega) (λq=>by have:=hfree _ q;omega)];exact hnew _ _ (pi _)
    have n2:∀o,S' (w.heap.size+1) o=none:=λo=>by rw[b3 _ _ (by rw[hsz];omega) (λq=>by have:=hfree _ q;omega)];exact hnew _ _ (by omega)
    have hown:=b5.own;have hmono:=WB (S:=S') (h:=w5.heap) (F:=G) (λk hk=>(hown k hk).2);have hm5:yI (zX S' w5.heap G) w5:=⟨λb o u q=>by
     unfold zX at q;split at q
     ·exact q
     exact b4 b o u q,Gok.mono hmono b4.gok,b4.blk.of hmono λ_ _ _=>rfl⟩
    have hng:∀k,k<w.heap.size+2->k∉G:=λk hk q=>by have:=hG k q;omega
    refine⟨_,zX S' w5.heap G,[],rfl,(hK4.trans (b1.mono (λk hk=>.inl (by
      rcases hk with q|q
      ·rw[hsz]at q;omega
      have:=hfree k q;omega)))).trans (hset _ _ _),λb o u q=>hmono b o u (b2 b o u q),λb o hb hbF=>?_,hstay hm5 (λo=>?_) (λo=>?_) (λk _ h1 h2=>hset2 _ _ _ k h1 h2),.inl ⟨?_,rfl⟩,by simp,by simp⟩
    ·unfold zX;rw[if_neg (hng b (by omega))];exact b3 b o (by rw[hsz];omega) (λq=>by have:=hfree _ q;omega)
    ·unfold zX;rw[if_neg (hng _ (by omega))];exact n1 o
    ·unfold zX;rw[if_neg (hng _ (by omega))];exact n2 o
    simp only[yZ];refine⟨[_,_],rfl,?_,yS.2 ⟨rfl,rfl⟩,trivial⟩;rcases b5 with⟨q,_⟩|⟨cs,q1,q2,q3⟩
    ·simp only[yZ,wP,Rep,false_and,exists_false]at q
    refine⟨cs,?_,q3⟩;have:=q1.shut hmono (by simpa only[A.live] using hl) (λk hk o=>by unfold zX;rw[if_pos hk]);simp only[A.shut,hz]at this;exact this
   cases e1
  |true=>
   obtain⟨_,hcall⟩:=hdie rfl;refine Calls.mono (Tryz.gat_die T kf hmeth hcf u most w (λw5=>∃S':zj,YT (λk=>(Tryz.gw4 w most).heap.size<=k\/k∈[w.heap.size+1+1+1,w.heap.size+1+1]) (Tryz.gw4 w most) w5/\(∀b o u,S b o=some u->S' b o=some u)/\(∀b o,b<(Tryz.gw4 w most).heap.size->b∉[w.heap.size+1+1+1,w.heap.size+1+1]->S' b o=S b o)/\yI S' w5) (Calls.mono (hcall S (Tryz.gw4 w most) _ _ hS4 hargs hbag (by simp)) ?_)) ?_
   ·rintro e w5 ⟨rfl,S',b1,b2,b3,b4⟩;exact⟨rfl,(hkept b1).1,(hkept b1).2,S',b1,b2,b3,b4⟩
   rintro e w' ⟨rfl,w5,⟨S',b1,b2,b3,b4⟩,rfl⟩;have n1:∀o,S' w.heap.size o=none:=λo=>by rw[b3 _ _ (by rw[hsz];omega) (λq=>by have:=hfree _ q;omega)];exact hnew _ _ (pi _)
   have n2:∀o,S' (w.heap.size+1) o=none:=λo=>by rw[b3 _ _ (by rw[hsz];omega) (λq=>by have:=hfree _ q;omega)];exact hnew _ _ (by omega)
   have hs5:w.heap.size<=w5.heap.size:=by have:=b1.size;rw[hsz]at this;omega
   refine⟨_,S',[],rfl,(hK4.trans (b1.mono (λk hk=>.inl (by
     rcases hk with q|q
     ·rw[hsz]at q;omega
     have:=hfree k q;omega)))).trans (((YT.refl _ _).alloc (.inl hs5) _).trans (hset _ _ _)),b2,λb o hb hbF=>b3 b o (by rw[hsz];omega) (λq=>by have:=hfree _ q;omega),hstay b4 n1 n2 (λk hk h1 h2=>?_),.inl ⟨?_,rfl⟩,by simp,by simp⟩
   ·rw[hset2 _ _ _ k h1 h2];show(w5.heap.push _)[k]?=_;rw[gS,if_neg (by omega)]
   simp only[yZ];exact⟨[_,_],rfl,yS.2 ⟨rfl,rfl⟩,yS.2 ⟨rfl,rfl⟩,trivial⟩
structure qQ (α:Type) where
 e0:α
 e1:α
 deriving DecidableEq
instance {α:Type}[BEq α]:BEq (qQ α):=⟨λx y=>(x.e0==y.e0)&&(x.e1==y.e1)⟩
section
variable {α:Type}
def KD (f:α->A)(x:qQ α):A:=.agg [f x.e0,f x.e1]
instance (f:α->A)[h:JU f]:JU (KD f):=⟨λx=>by simp[KD,A.isD,A.areD,h.isD]⟩
instance (f g:α->A)[h:Wh f g]:Wh (KD f) (KD g):=⟨λx=>by simp[KD,A.loose,A.looses,h.lo]⟩
instance (f g:α->A)[h:z0H f g]:z0H (KD f) (KD g):=⟨λx=>by simp[KD,A.live,A.lives,h.live],λx=>by simp[KD,A.shut,A.shuts,h.sh]⟩
instance (f:α->A)[h:jC f]:jC (KD f):=⟨λx y q=>by simp only[KD,A.agg.injEq,List.cons.injEq,and_true]at q;cases x;cases y;simp only[qQ.mk.injEq];exact⟨h.inj _ _ q.1,h.inj _ _ q.2⟩⟩
end
structure XY (α:Type) where
 e0:α
 e1:α
 e2:α
 deriving DecidableEq
section
variable {α:Type}
def zn5 (f:α->A)(x:XY α):A:=.agg [f x.e0,f x.e1,f x.e2]
end
section
variable {α:Type}
def XY.toL (x:XY α):List α:=[x.e0,x.e1,x.e2]
def XY.ofL:List α->XY α->XY α
 |[x0,x1,x2],_=>⟨x0,x1,x2⟩
 |_,d=>d
def XY.toL_ofL (l:List α)(d:XY α)(h:l.length=3):(XY.ofL l d).toL=l:=by
 match l,h with
 |[x0,x1,x2],_=>rfl
def XY.setI (x:XY α)(i:Int)(v:α):XY α:=XY.ofL (x.toL.set i.toNat v) x
def XY.setL (f:α->A)(x:XY α)(i:Int)(v:α):(x.toL.map f).set i.toNat (f v)=((XY.setI x i v).toL).map f:=by unfold XY.setI;rw[XY.toL_ofL _ _ (by simp[XY.toL]),List.map_set]
end
structure zz (α:Type) where
 e0:α
 e1:α
 e2:α
 e3:α
 e4:α
 e5:α
 e6:α
 e7:α
 e8:α
 e9:α
 e10:α
 e11:α
 e12:α
 e13:α
 e14:α
 e15:α
 deriving DecidableEq
instance {α:Type}[BEq α]:BEq (zz α):=⟨λx y=>(x.e0==y.e0)&&(x.e1==y.e1)&&(x.e2==y.e2)&&(x.e3==y.e3)&&(x.e4==y.e4)&&(x.e5==y.e5)&&(x.e6==y.e6)&&(x.e7==y.e7)&&(x.e8==y.e8)&&(x.e9==y.e9)&&(x.e10==y.e10)&&(x.e11==y.e11)&&(x.e12==y.e12)&&(x.e13==y.e13)&&(x.e14==y.e14)&&(x.e15==y.e15)⟩
section
variable {α:Type}
def XK (f:α->A)(x:zz α):A:=.agg [f x.e0,f x.e1,f x.e2,f x.e3,f x.e4,f x.e5,f x.e6,f x.e7,f x.e8,f x.e9,f x.e10,f x.e11,f x.e12,f x.e13,f x.e14,f x.e15]
instance (f:α->A)[h:JU f]:JU (XK f):=⟨λx=>by simp[XK,A.isD,A.areD,h.isD]⟩
instance (f g:α->A)[h:Wh f g]:Wh (XK f) (XK g):=⟨λx=>by simp[XK,A.loose,A.looses,h.lo]⟩
instance (f g:α->A)[h:z0H f g]:z0H (XK f) (XK g):=⟨λx=>by simp[XK,A.live,A.lives,h.live],λx=>by simp[XK,A.shut,A.shuts,h.sh]⟩
instance (f:α->A)[h:jC f]:jC (XK f):=⟨λx y q=>by simp only[XK,A.agg.injEq,List.cons.injEq,and_true]at q;cases x;cases y;simp only[zz.mk.injEq];exact⟨h.inj _ _ q.1,h.inj _ _ q.2.1,h.inj _ _ q.2.2.1,h.inj _ _ q.2.2.2.1,h.inj _ _ q.2.2.2.2.1,h.inj _ _ q.2.2.2.2.2.1,h.inj _ _ q.2.2.2.2.2.2.1,h.inj _ _ q.2.2.2.2.2.2.2.1,h.inj _ _ q.2.2.2.2.2.2.2.2.1,h.inj _ _ q.2.2.2.2.2.2.2.2.2.1,h.inj _ _ q.2.2.2.2.2.2.2.2.2.2.1,h.inj _ _ q.2.2.2.2.2.2.2.2.2.2.2.1,h.inj _ _ q.2.2.2.2.2.2.2.2.2.2.2.2.1,h.inj _ _ q.2.2.2.2.2.2.2.2.2.2.2.2.2.1,h.inj _ _ q.2.2.2.2.2.2.2.2.2.2.2.2.2.2.1,h.inj _ _ q.2.2.2.2.2.2.2.2.2.2.2.2.2.2.2⟩⟩
end
section
variable {α:Type}
def zz.toL (x:zz α):List α:=[x.e0,x.e1,x.e2,x.e3,x.e4,x.e5,x.e6,x.e7,x.e8,x.e9,x.e10,x.e11,x.e12,x.e13,x.e14,x.e15]
def zz.ofL:List α->zz α->zz α
 |[x0,x1,x2,x3,x4,x5,x6,x7,x8,x9,gi,ig,x12,fq,kq,x15],_=>⟨x0,x1,x2,x3,x4,x5,x6,x7,x8,x9,gi,ig,x12,fq,kq,x15⟩
 |_,d=>d
def zz.toL_ofL (l:List α)(d:zz α)(h:l.length=16):(zz.ofL l d).toL=l:=by
 match l,h with
 |[x0,x1,x2,x3,x4,x5,x6,x7,x8,x9,gi,ig,x12,fq,kq,x15],_=>rfl
def zz.setI (x:zz α)(i:Int)(v:α):zz α:=zz.ofL (x.toL.set i.toNat v) x
def zz.setL (f:α->A)(x:zz α)(i:Int)(v:α):(x.toL.map f).set i.toNat (f v)=((zz.setI x i v).toL).map f:=by unfold zz.setI;rw[zz.toL_ofL _ _ (by simp[zz.toL]),List.map_set]
end
structure yj where
 G:Int
 j:Int
 m:Int
 Tree:TB
 Edges:TB
def jy (f0:Int->A)(f1:Int->A)(f2:Int->A)(f3:TB->A)(f4:TB->A)(x:yj):A:=.agg [f0 x.G,f1 x.j,f2 x.m,f3 x.Tree,f4 x.Edges]
instance (f0:Int->A)(f1:Int->A)(f2:Int->A)(f3:TB->A)(f4:TB->A)(g0:Int->A)(g1:Int->A)(g2:Int->A)(g3:TB->A)(g4:TB->A)[h0:Wh f0 g0][h1:Wh f1 g1][h2:Wh f2 g2][h3:Wh f3 g3][h4:Wh f4 g4]:Wh (jy f0 f1 f2 f3 f4) (jy g0 g1 g2 g3 g4):=⟨λx=>by simp[jy,A.loose,A.looses,h0.lo,h1.lo,h2.lo,h3.lo,h4.lo]⟩
instance (f0:Int->A)(f1:Int->A)(f2:Int->A)(f3:TB->A)(f4:TB->A)[h0:jC f0][h1:jC f1][h2:jC f2][h3:jC f3][h4:jC f4]:jC (jy f0 f1 f2 f3 f4):=⟨λx y h=>by simp only[jy,A.agg.injEq,List.cons.injEq,and_true]at h;cases x;cases y;simp only[yj.mk.injEq];exact⟨h0.inj _ _ h.1,h1.inj _ _ h.2.1,h2.inj _ _ h.2.2.1,h3.inj _ _ h.2.2.2.1,h4.inj _ _ h.2.2.2.2⟩⟩
structure jA where
 C:yj
def Yh (f0:yj->A)(x:jA):A:=.agg [f0 x.C]
instance (f0:yj->A)(g0:yj->A)[h0:Wh f0 g0]:Wh (Yh f0) (Yh g0):=⟨λx=>by simp[Yh,A.loose,A.looses,h0.lo]⟩
instance (f0:yj->A)[h0:jC f0]:jC (Yh f0):=⟨λx y h=>by simp only[Yh,A.agg.injEq,List.cons.injEq,and_true]at h;cases x;cases y;simp only[jA.mk.injEq];exact h0.inj _ _ h⟩
structure z8 where
 o:Int
 r:Int
def wR (f0:Int->A)(f1:Int->A)(x:z8):A:=.agg [f0 x.o,f1 x.r]
instance (f0:Int->A)(f1:Int->A)[h0:JU f0][h1:JU f1]:JU (wR f0 f1):=⟨λx=>by simp[wR,A.isD,A.areD,h0.isD,h1.isD]⟩
instance (f0:Int->A)(f1:Int->A)(g0:Int->A)(g1:Int->A)[h0:Wh f0 g0][h1:Wh f1 g1]:Wh (wR f0 f1) (wR g0 g1):=⟨λx=>by simp[wR,A.loose,A.looses,h0.lo,h1.lo]⟩
instance (f0:Int->A)(f1:Int->A)(g0:Int->A)(g1:Int->A)[h0:z0H f0 g0][h1:z0H f1 g1]:z0H (wR f0 f1) (wR g0 g1):=⟨λx=>by simp[wR,A.live,A.lives,h0.live,h1.live],λx=>by simp[wR,A.shut,A.shuts,h0.sh,h1.sh]⟩
instance (f0:Int->A)(f1:Int->A)[h0:jC f0][h1:jC f1]:jC (wR f0 f1):=⟨λx y h=>by simp only[wR,A.agg.injEq,List.cons.injEq,and_true]at h;cases x;cases y;simp only[z8.mk.injEq];exact⟨h0.inj _ _ h.1,h1.inj _ _ h.2⟩⟩
structure z6 where
 j:Int
 m:Int
 i:List (List z8)
def ui (f0:Int->A)(f1:Int->A)(f2:List (List z8)->A)(x:z6):A:=.agg [f0 x.j,f1 x.m,f2 x.i]
instance (f0:Int->A)(f1:Int->A)(f2:List (List z8)->A)(g0:Int->A)(g1:Int->A)(g2:List (List z8)->A)[h0:Wh f0 g0][h1:Wh f1 g1][h2:Wh f2 g2]:Wh (ui f0 f1 f2) (ui g0 g1 g2):=⟨λx=>by simp[ui,A.loose,A.looses,h0.lo,h1.lo,h2.lo]⟩
instance (f0:Int->A)(f1:Int->A)(f2:List (List z8)->A)[h0:jC f0][h1:jC f1][h2:jC f2]:jC (ui f0 f1 f2):=⟨λx y h=>by simp only[ui,A.agg.injEq,List.cons.injEq,and_true]at h;cases x;cases y;simp only[z6.mk.injEq];exact⟨h0.inj _ _ h.1,h1.inj _ _ h.2.1,h2.inj _ _ h.2.2⟩⟩
structure zK where
 L:Int
 z:zz (qQ Int)
instance:BEq zK:=⟨λx y=>(x.L==y.L)&&(x.z==y.z)⟩
def VR (f0:Int->A)(f1:zz (qQ Int)->A)(x:zK):A:=.agg [f0 x.L,f1 x.z]
structure zk where
 D:Int
 from_:Int
 N:Int
def XJ (f0:Int->A)(f1:Int->A)(f2:Int->A)(x:zk):A:=.agg [f0 x.D,f1 x.from_,f2 x.N]
instance (f0:Int->A)(f1:Int->A)(f2:Int->A)[h0:JU f0][h1:JU f1][h2:JU f2]:JU (XJ f0 f1 f2):=⟨λx=>by simp[XJ,A.isD,A.areD,h0.isD,h1.isD,h2.isD]⟩
structure y4 where
 S:Int
 T:Int
 Word:TB
 Apart:Bool
def zO (f0:Int->A)(f1:Int->A)(f2:TB->A)(f3:Bool->A)(x:y4):A:=.agg [f0 x.S,f1 x.T,f2 x.Word,f3 x.Apart]
instance (f0:Int->A)(f1:Int->A)(f2:TB->A)(f3:Bool->A)[h0:JU f0][h1:JU f1][h2:JU f2][h3:JU f3]:JU (zO f0 f1 f2 f3):=⟨λx=>by simp[zO,A.isD,A.areD,h0.isD,h1.isD,h2.isD,h3.isD]⟩
instance (f0:Int->A)(f1:Int->A)(f2:TB->A)(f3:Bool->A)(g0:Int->A)(g1:Int->A)(g2:TB->A)(g3:Bool->A)[h0:z0H f0 g0][h1:z0H f1 g1][h2:z0H f2 g2][h3:z0H f3 g3]:z0H (zO f0 f1 f2 f3) (zO g0 g1 g2 g3):=⟨λx=>by simp[zO,A.live,A.lives,h0.live,h1.live,h2.live,h3.live],λx=>by simp[zO,A.shut,A.shuts,h0.sh,h1.sh,h2.sh,h3.sh]⟩
structure zF where
 m_:z6
 q_:TA
 p_:TA
 O:TA
 P:List TA
 F:TA
 K:TA
def qO (f0:z6->A)(f1:TA->A)(f2:TA->A)(f3:TA->A)(f4:List TA->A)(f5:TA->A)(f6:TA->A)(x:zF):A:=.agg [f0 x.m_,f1 x.q_,f2 x.p_,f3 x.O,f4 x.P,f5 x.F,f6 x.K]
instance (f0:z6->A)(f1:TA->A)(f2:TA->A)(f3:TA->A)(f4:List TA->A)(f5:TA->A)(f6:TA->A)(g0:z6->A)(g1:TA->A)(g2:TA->A)(g3:TA->A)(g4:List TA->A)(g5:TA->A)(g6:TA->A)[h0:Wh f0 g0][h1:Wh f1 g1][h2:Wh f2 g2][h3:Wh f3 g3][h4:Wh f4 g4][h5:Wh f5 g5][h6:Wh f6 g6]:Wh (qO f0 f1 f2 f3 f4 f5 f6) (qO g0 g1 g2 g3 g4 g5 g6):=⟨λx=>by simp[qO,A.loose,A.looses,h0.lo,h1.lo,h2.lo,h3.lo,h4.lo,h5.lo,h6.lo]⟩
instance (f0:z6->A)(f1:TA->A)(f2:TA->A)(f3:TA->A)(f4:List TA->A)(f5:TA->A)(f6:TA->A)[h0:jC f0][h1:jC f1][h2:jC f2][h3:jC f3][h4:jC f4][h5:jC f5][h6:jC f6]:jC (qO f0 f1 f2 f3 f4 f5 f6):=⟨λx y h=>by simp only[qO,A.agg.injEq,List.cons.injEq,and_true]at h;cases x;cases y;simp only[zF.mk.injEq];exact⟨h0.inj _ _ h.1,h1.inj _ _ h.2.1,h2.inj _ _ h.2.2.1,h3.inj _ _ h.2.2.2.1,h4.inj _ _ h.2.2.2.2.1,h5.inj _ _ h.2.2.2.2.2.1,h6.inj _ _ h.2.2.2.2.2.2⟩⟩
structure Qw where
structure zb where
 x:List (zz Int)
 s:Int
 w:Int
def yz (f0:List (zz Int)->A)(f1:Int->A)(f2:Int->A)(x:zb):A:=.agg [f0 x.x,f1 x.s,f2 x.w]
instance (f0:List (zz Int)->A)(f1:Int->A)(f2:Int->A)(g0:List (zz Int)->A)(g1:Int->A)(g2:Int->A)[h0:Wh f0 g0][h1:Wh f1 g1][h2:Wh f2 g2]:Wh (yz f0 f1 f2) (yz g0 g1 g2):=⟨λx=>by simp[yz,A.loose,A.looses,h0.lo,h1.lo,h2.lo]⟩
instance (f0:List (zz Int)->A)(f1:Int->A)(f2:Int->A)(g0:List (zz Int)->A)(g1:Int->A)(g2:Int->A)[h0:z0H f0 g0][h1:z0H f1 g1][h2:z0H f2 g2]:z0H (yz f0 f1 f2) (yz g0 g1 g2):=⟨λx=>by simp[yz,A.live,A.lives,h0.live,h1.live,h2.live],λx=>by simp[yz,A.shut,A.shuts,h0.sh,h1.sh,h2.sh]⟩
instance (f0:List (zz Int)->A)(f1:Int->A)(f2:Int->A)[h0:jC f0][h1:jC f1][h2:jC f2]:jC (yz f0 f1 f2):=⟨λx y h=>by simp only[yz,A.agg.injEq,List.cons.injEq,and_true]at h;cases x;cases y;simp only[zb.mk.injEq];exact⟨h0.inj _ _ h.1,h1.inj _ _ h.2.1,h2.inj _ _ h.2.2⟩⟩
structure Ug where
structure Vb where
structure zh where
 at_:Int
 w_:TB
def yU (f0:Int->A)(f1:TB->A)(x:zh):A:=.agg [f0 x.at_,f1 x.w_]
instance (f0:Int->A)(f1:TB->A)[h0:JU f0][h1:JU f1]:JU (yU f0 f1):=⟨λx=>by simp[yU,A.isD,A.areD,h0.isD,h1.isD]⟩
instance (f0:Int->A)(f1:TB->A)(g0:Int->A)(g1:TB->A)(x:zh)[∀y,LeA (f0 y) (g0 y)][∀y,LeA (f1 y) (g1 y)][∀y,SzA (f0 y) (g0 y)][∀y,SzA (f1 y) (g1 y)]:LeA (yU f0 f1 x) (yU g0 g1 x):=by unfold yU;infer_instance
instance (f0:Int->A)(f1:TB->A)(g0:Int->A)(g1:TB->A)(x y:zh)[∀y z,SzA (f0 y) (g0 z)][∀y z,SzA (f1 y) (g1 z)]:SzA (yU f0 f1 x) (yU g0 g1 y):=by unfold yU;infer_instance
instance:znp (K:=zK) (VR (eI .i64) (XK (KD (eI .i64)))):=⟨λx y=>by obtain⟨_,⟨⟨_,_⟩,⟨_,_⟩,⟨_,_⟩,⟨_,_⟩,⟨_,_⟩,⟨_,_⟩,⟨_,_⟩,⟨_,_⟩,⟨_,_⟩,⟨_,_⟩,⟨_,_⟩,⟨_,_⟩,⟨_,_⟩,⟨_,_⟩,⟨_,_⟩,⟨_,_⟩⟩⟩:=x;obtain⟨_,⟨⟨_,_⟩,⟨_,_⟩,⟨_,_⟩,⟨_,_⟩,⟨_,_⟩,⟨_,_⟩,⟨_,_⟩,⟨_,_⟩,⟨_,_⟩,⟨_,_⟩,⟨_,_⟩,⟨_,_⟩,⟨_,_⟩,⟨_,_⟩,⟨_,_⟩,⟨_,_⟩⟩⟩:=y;simp only[XK,KD,VR,eI,KN,z3d,z3d.keyLs,zP,BEq.beq,gv,Option.some.injEq,Value.agg.injEq,gL,pL,pV,Array.mk.injEq,List.cons.injEq,Value.int.injEq,true_and,and_true,pB,decide_eq_true_eq,and_assoc]⟩
def Ye (l_:TB)(k_:Int):Option Int :=
 bif decide (k_<((l_.length:Nat):Int)) then(
  (idx l_ k_).bind λbi=>
  some (w64 (bi)))
 else(
  some 0)
def VI (x_:yj)(cm:List (List z8)):Option z6 :=
 some (z6.mk (w64 (1+(w64 (Int.tmod x_.j 3)))) (w64 (1+(w64 (Int.tmod x_.m 3)))) cm)
abbrev R0_:Type:=Option (LR (List (List z8)×Int) (List (List z8)))
def VH (s_:Int)(gl:List (List z8)):R0_ :=
 some (.next (gl,w64 (s_+1)))
def YP (i_:Int)(mg:List (List z8)):R0_ :=
 some (.next (mg,w64 (i_+1)))
def YN (x_:yj)(s_:Int)(ik:List (List z8))(i_:Int):R0_ :=
 bif decide (i_<(w64 (1+(w64 (Int.tmod x_.j 3))))) then(
  (idx ik s_).bind λpj=>
  (idx pj i_).bind λom=>
  bif decide (om.o<0) then(
   (idx ik s_).bind λk0=>
   (Ye x_.Edges (w64 ((w64 (s_*(w64 (1+(w64 (Int.tmod x_.j 3))))))+i_))).bind λr_=>
   gd (((w64 (1+(w64 (Int.tmod x_.G 6)))):Int)≠0) <|
   (idx k0 i_).bind λkr=>
   YP i_ (ik.set s_.toNat (k0.set i_.toNat (z8.mk (Int.tmod r_ (w64 (1+(w64 (Int.tmod x_.G 6))))) kr.r))))
  else(
   YP i_ ik))
 else(
  some (.done ik))
def YO (x_:yj)(gu:List (List z8))(s_:Int):R0_ :=
 bif decide (s_<(w64 (1+(w64 (Int.tmod x_.G 6))))) then(
  (loop (λs=>YN x_ s_ s.1 s.2) (gu,0)).bind λt6=>
  VH s_ t6)
 else(
  some (.done gu))
def VJ (x_:yj)(bq:List (List z8)):Option z6 :=
 (loop (λs=>YO x_ s.1 s.2) (bq,0)).bind λt4=>
 VI x_ t4
def VG (bk:Int)(mh:List (List z8)):R0_ :=
 some (.next (mh,w64 (bk+1)))
def uB (x_:yj)(cn:List (List z8))(bk:Int)(k_:Int):R0_ :=
 gd (((w64 (1+(w64 (Int.tmod x_.j 3)))):Int)≠0) <|
 (idx cn (w64 (Int.tdiv k_ (w64 (1+(w64 (Int.tmod x_.j 3))))))).bind λk9=>
 gd (((w64 (1+(w64 (Int.tmod x_.j 3)))):Int)≠0) <|
 (idx k9 (Int.tmod k_ (w64 (1+(w64 (Int.tmod x_.j 3)))))).bind λku=>
 VG bk (cn.set (w64 (Int.tdiv k_ (w64 (1+(w64 (Int.tmod x_.j 3)))))).toNat (k9.set (Int.tmod k_ (w64 (1+(w64 (Int.tmod x_.j 3))))).toNat (z8.mk bk ku.r)))
def WG (x_:yj)(cn:List (List z8))(bk:Int)(free:TB):R0_ :=
 (idx free 0).bind λnz=>
 bif decide ((w64 (bk-1))<((x_.Tree.length:Nat):Int)) then(
  (idx x_.Tree (w64 (bk-1))).bind λpx=>
  gd ((((free.length:Nat):Int):Int)≠0) <|
  (idx free (Int.tmod (w64 (px)) ((free.length:Nat):Int))).bind λol=>
  uB x_ cn bk ol)
 else(
  uB x_ cn bk nz)
abbrev R1_:Type:=Option (LR (TB×Int) TB)
def ZW (de:Int)(n7:TB):R1_ :=
 some (.next (n7,w64 (de+1)))
def ZV (x_:yj)(cn:List (List z8))(bk:Int)(ke:TB)(de:Int):R1_ :=
 bif decide (de<(w64 (bk*(w64 (1+(w64 (Int.tmod x_.j 3))))))) then(
  gd (((w64 (1+(w64 (Int.tmod x_.j 3)))):Int)≠0) <|
  (idx cn (w64 (Int.tdiv de (w64 (1+(w64 (Int.tmod x_.j 3))))))).bind λoy=>
  gd (((w64 (1+(w64 (Int.tmod x_.j 3)))):Int)≠0) <|
  (idx oy (Int.tmod de (w64 (1+(w64 (Int.tmod x_.j 3)))))).bind λn8=>
  bif decide (n8.o<0) then(
   gd (ke.length+[de].length<=4294967296) <|
   ZW de (ke++[de]))
  else(
   ZW de ke))
 else(
  some (.done ke))
def YM (x_:yj)(cn:List (List z8))(bk:Int):R0_ :=
 bif decide (bk<(w64 (1+(w64 (Int.tmod x_.G 6))))) then(
  (loop (λs=>ZV x_ cn bk s.1 s.2) (([]:TB),0)).bind λt12=>
  WG x_ cn bk t12)
 else(
  some (.done cn))
def VK (x_:yj)(gj:List (List z8)):Option z6 :=
 (loop (λs=>YM x_ s.1 s.2) (gj,1)).bind λt8=>
 VJ x_ t8
def WF (da:Int)(lw:List (List z8)):R0_ :=
 some (.next (lw,w64 (da+1)))
def WE (fe:List (List z8))(da:Int)(row:List z8):R0_ :=
 gd (fe.length+[row].length<=4294967296) <|
 WF da (fe++[row])
abbrev R2_:Type:=Option (LR (List z8×Int) (List z8))
def ZT (x_:yj)(da:Int)(bu:List z8)(fk:Int):R2_ :=
 bif decide (fk<(w64 (1+(w64 (Int.tmod x_.j 3))))) then(
  (Ye x_.Edges (w64 ((w64 (da*(w64 (1+(w64 (Int.tmod x_.j 3))))))+fk))).bind λai=>
  gd (((w64 (1+(w64 (Int.tmod x_.G 6)))):Int)≠0) <|
  gd (((w64 (1+(w64 (Int.tmod x_.m 3)))):Int)≠0) <|
  gd (bu.length+([(z8.mk (-1) (Int.tmod (w64 (Int.tdiv ai (w64 (1+(w64 (Int.tmod x_.G 6)))))) (w64 (1+(w64 (Int.tmod x_.m 3))))))]:List z8).length<=4294967296) <|
  some (.next ((bu++([(z8.mk (-1) (Int.tmod (w64 (Int.tdiv ai (w64 (1+(w64 (Int.tmod x_.G 6)))))) (w64 (1+(w64 (Int.tmod x_.m 3))))))]:List z8)),w64 (fk+1))))
 else(
  some (.done bu))
def ZU (x_:yj)(fe:List (List z8))(da:Int):R0_ :=
 bif decide (da<(w64 (1+(w64 (Int.tmod x_.G 6))))) then(
  (loop (λs=>ZT x_ da s.1 s.2) (([]:List z8),0)).bind λt17=>
  WE fe da t17)
 else(
  some (.done fe))
def QM (x_:yj):Option z6 :=
 gd ((6:Int)≠0) <|
 gd ((3:Int)≠0) <|
 gd ((3:Int)≠0) <|
 (loop (λs=>ZU x_ s.1 s.2) (([]:List (List z8)),0)).bind λsa=>
 VK x_ sa
def Jq:Option Int :=
 some 0
abbrev R3_:Type:=Option (LR Int (Unit⊕Int))
def qX (i_:Int)(rc:Int)(re:Bool)(my:Bool)(rf:Bool)(rg:Bool)(oz:Bool):R3_ :=
 some (.next (w64 (i_+1)))
def ZP (m_:z6)(bl:List (List Bool))(s_:Int)(t_:Int)(i_:Int):R3_ :=
 bif decide (i_<m_.j) then(
  (idx m_.i s_).bind λap=>
  (idx ap i_).bind λal=>
  (idx m_.i t_).bind λdu=>
  (idx du i_).bind λbp=>
  bif al.r !=bp.r then(
   some (.done (.inr 1)))
  else(
   bif decide (al.o>=0) then(
    bif decide (bp.o>=0) then(
     (idx bl al.o).bind λjp=>
     (idx jp bp.o).bind λgm=>
     bif gm then(
      some (.done (.inr 1)))
     else(
      qX i_ al.o (decide (al.o>=0)) (decide (al.o>=0)) (decide (bp.o>=0)) (decide (bp.o>=0)) gm))
    else(
     qX i_ al.o (decide (al.o>=0)) (decide (al.o>=0)) (decide (bp.o>=0)) (decide (bp.o>=0)) false))
   else(
    qX i_ al.o (decide (al.o>=0)) (decide (al.o>=0)) false false false)))
 else(
  some (.done (.inl ())))
def Vw (m_:z6)(bl:List (List Bool))(s_:Int)(t_:Int):Option Int :=
 (loop (λs=>ZP m_ bl s_ t_ s) 0).bind λt2=>
 match t2 with
 |.inl p=>Jq
 |.inr p=>some p
abbrev R4_:Type:=Option (List (List Bool))
def Xv (nl:List (List Bool)):R4_ :=
 some nl
abbrev R5_:Type:=Option (LR (List (List Bool)×Int) (List (List Bool)))
def Xu (round:Int)(mi:List (List Bool)):R5_ :=
 some (.next (mi,w64 (round+1)))
def Xt (round:Int)(next:List (List Bool)):R5_ :=
 Xu round next
def Xs (s_:Int)(ff:List (List Bool)):R5_ :=
 some (.next (ff,w64 (s_+1)))
def qd (m_:z6)(dg:List (List Bool))(s_:Int)(cb:List (List Bool))(t_:Int):R5_ :=
 bif decide (t_<((m_.i.length:Nat):Int)) then(
  (idx cb s_).bind λjq=>
  (idx dg s_).bind λjp=>
  (idx jp t_).bind λgm=>
  bif gm then(
   (idx jq t_).bind λqm=>
   some (.next ((cb.set s_.toNat (jq.set t_.toNat true)),w64 (t_+1))))
  else(
   (Vw m_ dg s_ t_).bind λr_=>
   (idx jq t_).bind λpy=>
   some (.next ((cb.set s_.toNat (jq.set t_.toNat (r_==1))),w64 (t_+1)))))
 else(
  some (.done cb))
def qh (m_:z6)(dg:List (List Bool))(cr:List (List Bool))(s_:Int):R5_ :=
 bif decide (s_<((m_.i.length:Nat):Int)) then(
  gd ((0:Int)<=((m_.i.length:Nat):Int)/\(((m_.i.length:Nat):Int):Int)<=4294967296) <|
  gd (cr.length+[(List.replicate ((m_.i.length:Nat):Int).toNat false)].length<=4294967296) <|
  (loop (λs=>qd m_ dg s_ s.1 s.2) ((cr++[(List.replicate ((m_.i.length:Nat):Int).toNat false)]),0)).bind λt8=>
  Xs s_ t8)
 else(
  some (.done cr))
def qn (m_:z6)(k_:Int)(dg:List (List Bool))(round:Int):R5_ :=
 bif decide (round<k_) then(
  (loop (λs=>qh m_ dg s.1 s.2) (([]:List (List Bool)),0)).bind λt6=>
  Xt round t6)
 else(
  some (.done dg))
def Xw (m_:z6)(k_:Int)(bl:List (List Bool)):R4_ :=
 (loop (λs=>qn m_ k_ s.1 s.2) (bl,0)).bind λt3=>
 Xv t3
def qb (m_:z6)(jz:List (List Bool))(bk:Int):R5_ :=
 bif decide (bk<((m_.i.length:Nat):Int)) then(
  gd ((0:Int)<=((m_.i.length:Nat):Int)/\(((m_.i.length:Nat):Int):Int)<=4294967296) <|
  gd (jz.length+[(List.replicate ((m_.i.length:Nat):Int).toNat false)].length<=4294967296) <|
  some (.next ((jz++[(List.replicate ((m_.i.length:Nat):Int).toNat false)]),w64 (bk+1))))
 else(
  some (.done jz))
def W8 (m_:z6)(k_:Int):R4_ :=
 (loop (λs=>qb m_ s.1 s.2) (([]:List (List Bool)),0)).bind λt9=>
 Xw m_ k_ t9
def W7 (out:TB):Option TB :=
 some out
abbrev R6_:Type:=Option (LR (TB×Int×Int) TB)
def kU (s_:Int)(ax:TB)(ca:Int):R6_ :=
 some (.next (ax,ca,w64 (s_+1)))
def wZ (aj:TB)(s_:Int)(cd:Int)(kw:Int):R6_ :=
 gd (aj.length+[kw].length<=4294967296) <|
 kU s_ (aj++[kw]) cd
def kT (aj:TB)(n_:Int)(s_:Int)(b_:Int):R6_ :=
 bif decide (b_<0) then(
  wZ aj s_ (w64 (n_+1)) n_)
 else(
  wZ aj s_ n_ b_)
abbrev R7_:Type:=Option (LR (Int×Int) Int)
def uI (t_:Int)(pz:Int):R7_ :=
 some (.next (pz,w64 (t_+1)))
def kS (bl:List (List Bool))(aj:TB)(s_:Int)(oq:Int)(t_:Int):R7_ :=
 bif decide (t_<s_) then(
  (idx bl s_).bind λjp=>
  (idx jp t_).bind λgm=>
  bif !gm then(
   (idx aj t_).bind λdn=>
   uI t_ dn)
  else(
   uI t_ oq))
 else(
  some (.done oq))
def W6 (bl:List (List Bool))(aj:TB)(n_:Int)(s_:Int):R6_ :=
 bif decide (s_<((bl.length:Nat):Int)) then(
  (loop (λs=>kS bl aj s_ s.1 s.2) ((-1),0)).bind λt6=>
  kT aj n_ s_ t6)
 else(
  some (.done aj))
def kV (bl:List (List Bool)):Option TB :=
 (loop (λs=>W6 bl s.1 s.2.1 s.2.2) (([]:TB),0,0)).bind λt2=>
 W7 t2
def Qb (m_:z6)(k_:Int):Option TB :=
 (W8 m_ k_).bind λr_=>
 (kV r_).bind λai=>
 some ai
def kW (m_:z6):Option TB :=
 (Qb m_ ((m_.i.length:Nat):Int)).bind λr_=>
 some r_
def V1 (m_:z6)(s_:Int)(i_:Int):Option z8 :=
 bif decide (s_<0) then(
  some (z8.mk (-1) (-1)))
 else(
  (idx m_.i s_).bind λap=>
  (idx ap i_).bind λal=>
  some al)
def kY (mz:z6->Int->TB->Option Int)(m_:z6)(s_:Int)(w_:TB):Option Int :=
 bif ((w_.length:Nat):Int)==0 then(
  some s_)
 else(
  (idx w_ 0).bind λfc=>
  (V1 m_ s_ fc).bind λr_=>
  gd ((0:Int)<=1/\(1:Int)<=((w_.length:Nat):Int)/\(((w_.length:Nat):Int):Int)<=((w_.length:Nat):Int)) <|
  (mz m_ r_.o (w_.drop (1:Int).toNat)).bind λai=>
  some ai)
def kX (fu:Nat):z6->Int->TB->Option Int:=Nat.rec (motive:=λ_=>z6->Int->TB->Option Int) (λ_ _ _=>none) (λ_ ih=>kY ih) fu
def Xx (m_:z6)(s_:Int)(w_:TB):Option Int:=kX (w_.length+1) m_ s_ w_
def YH (out:TB):Option TB :=
 gd (out.length+([0]:TB).length<=4294967296) <|
 some (out++([0]:TB))
abbrev R8_:Type:=Option (LR (TB×Int) (TB⊕TB))
def Vx (inputs:Int)(aj:TB)(k_:Int):R8_ :=
 bif decide (k_>=0) then(
  (idx aj k_).bind λdn=>
  bif decide ((w64 (dn+1))<inputs) then(
   (idx aj k_).bind λjr=>
   (idx aj k_).bind λo7=>
   some (.done (.inr (aj.set k_.toNat (w64 (jr+1))))))
  else(
   (idx aj k_).bind λo8=>
   some (.next ((aj.set k_.toNat 0),w64 (k_-1)))))
 else(
  some (.done (.inl aj)))
def YW (w_:TB)(inputs:Int):Option TB :=
 gd (([]:TB).length+w_.length<=4294967296) <|
 (loop (λs=>Vx inputs s.1 s.2) (w_,w64 (((w_.length:Nat):Int)-1))).bind λt2=>
 match t2 with
 |.inl p=>YH p
 |.inr p=>some p
abbrev R9_:Type:=Option (TA×List Bool)
def Wy (l_:TA)(is:List Bool):R9_ :=
 some (l_,is)
abbrev zoD:Type:=Option (LR (TA×List Bool×TB) ((TA×List Bool)))
def uz (m_:z6)(w_:TB)(j6:TA)(p0:List Bool):zoD :=
 (YW w_ m_.j).bind λr_=>
 some (.next (j6,p0,r_))
def Jr (m_:z6)(from_:Int)(dr:TA)(ii:List Bool)(w_:TB):zoD :=
 bif decide (((w_.length:Nat):Int)<((m_.i.length:Nat):Int)) then(
  (Xx m_ from_ w_).bind λai=>
  bif decide (ai>=0) then(
   (idx ii ai).bind λpq=>
   bif !pq then(
    (idx ii ai).bind λr8=>
    (idx dr ai).bind λbi=>
    uz m_ w_ (dr.set ai.toNat w_) (ii.set ai.toNat true))
   else(
    uz m_ w_ dr ii))
  else(
   uz m_ w_ dr ii))
 else(
  some (.done (dr,ii)))
def Vz (m_:z6)(from_:Int):R9_ :=
 gd ((0:Int)<=((m_.i.length:Nat):Int)/\(((m_.i.length:Nat):Int):Int)<=4294967296) <|
 gd ((0:Int)<=((m_.i.length:Nat):Int)/\(((m_.i.length:Nat):Int):Int)<=4294967296) <|
 (loop (λs=>Jr m_ from_ s.1 s.2.1 s.2.2) ((List.replicate ((m_.i.length:Nat):Int).toNat ([]:TB)),(List.replicate ((m_.i.length:Nat):Int).toNat false),([]:TB))).bind λt2=>
 Wy t2.1 t2.2
def Yc (m_:z6):R9_ :=
 (Vz m_ 0).bind λr_=>
 some (r_.1,r_.2)
def Kq:Option Int :=
 some 0
def Vy (a_:TB)(b_:TB)(i_:Int):R3_ :=
 bif decide (i_<((a_.length:Nat):Int)) then(
  (idx a_ i_).bind λdv=>
  (idx b_ i_).bind λdx=>
  bif dv !=dx then(
   (idx a_ i_).bind λi6=>
   (idx b_ i_).bind λl6=>
   bif decide (i6<l6) then(
    some (.done (.inr 1)))
   else(
    some (.done (.inr 0))))
  else(
   some (.next (w64 (i_+1)))))
 else(
  some (.done (.inl ())))
def QC (a_:TB)(b_:TB):Option Int :=
 bif ((a_.length:Nat):Int) !=((b_.length:Nat):Int) then(
  bif decide (((a_.length:Nat):Int)<((b_.length:Nat):Int)) then(
   some 1)
  else(
   some 0))
 else(
  (loop (λs=>Vy a_ b_ s) 0).bind λt2=>
  match t2 with
  |.inl p=>Kq
  |.inr p=>some p)
def Wz (out:TB):Option TB :=
 some out
def uA (s_:Int)(ax:TB):R1_ :=
 some (.next (ax,w64 (s_+1)))
def ZQ (aj:TB)(s_:Int)(k_:Int):R1_ :=
 gd ((0:Int)<=0/\(0:Int)<=k_/\(k_:Int)<=((aj.length:Nat):Int)) <|
 gd (([]:TB).length+((aj.drop 0).take (k_.toNat-0)).length<=4294967296) <|
 gd (((aj.drop 0).take (k_.toNat-0)).length+[s_].length<=4294967296) <|
 gd ((0:Int)<=k_/\(k_:Int)<=((aj.length:Nat):Int)/\(((aj.length:Nat):Int):Int)<=((aj.length:Nat):Int)) <|
 gd ((((aj.drop 0).take (k_.toNat-0))++[s_]).length+(aj.drop k_.toNat).length<=4294967296) <|
 uA s_ ((((aj.drop 0).take (k_.toNat-0))++[s_])++(aj.drop k_.toNat))
def qY (r_:TA×List Bool)(aj:TB)(s_:Int)(de:Int):Option (LR Int Int) :=
 bif decide (de<((aj.length:Nat):Int)) then(
  (idx aj de).bind λdn=>
  (idx r_.1 dn).bind λqp=>
  (idx r_.1 s_).bind λqq=>
  (QC qp qq).bind λai=>
  bif ai==1 then(
   some (.next (w64 (de+1))))
  else(
   some (.done de)))
 else(
  some (.done de))
def qZ (r_:TA×List Bool)(aj:TB)(s_:Int):R1_ :=
 bif decide (s_<((r_.1.length:Nat):Int)) then(
  (idx r_.2 s_).bind λu_=>
  bif !u_ then(
   uA s_ aj)
  else(
   (loop (λs=>qY r_ aj s_ s) 0).bind λt5=>
   ZQ aj s_ t5))
 else(
  some (.done aj))
def VA (m_:z6):Option TB :=
 (Yc m_).bind λr_=>
 (loop (λs=>qZ r_ s.1 s.2) (([]:TB),0)).bind λt2=>
 Wz t2
def Xr (out:TB):Option TB :=
 some out
def q9 (k_:Int)(ax:TB):R1_ :=
 some (.next (ax,w64 (k_+1)))
def Xq (ai:TB)(aj:TB)(k_:Int)(there:Int):R1_ :=
 bif there==0 then(
  (idx ai k_).bind λdm=>
  gd (aj.length+[dm].length<=4294967296) <|
  q9 k_ (aj++[dm]))
 else(
  q9 k_ aj)
def kR (n_:Int)(nc:Int):R7_ :=
 some (.next (nc,w64 (n_+1)))
def Xp (r_:TB)(ai:TB)(k_:Int)(ee:Int)(n_:Int):R7_ :=
 bif decide (n_<k_) then(
  (idx ai n_).bind λip=>
  (idx r_ ip).bind λn9=>
  (idx ai k_).bind λoa=>
  (idx r_ oa).bind λqr=>
  bif n9==qr then(
   kR n_ 1)
  else(
   kR n_ ee))
 else(
  some (.done ee))
def Qa (r_:TB)(ai:TB)(aj:TB)(k_:Int):R1_ :=
 bif decide (k_<((ai.length:Nat):Int)) then(
  (loop (λs=>Xp r_ ai k_ s.1 s.2) (0,0)).bind λt5=>
  Xq ai aj k_ t5)
 else(
  some (.done aj))
def jW (m_:z6):Option TB :=
 (kW m_).bind λr_=>
 (VA m_).bind λai=>
 (loop (λs=>Qa r_ ai s.1 s.2) (([]:TB),0)).bind λt2=>
 Xr t2
def Yw (out:List Bool):Option (List Bool) :=
 some out
abbrev ziE:Type:=Option (LR (List Bool×Int) (List Bool))
def Yv (round:Int)(ax:List Bool):ziE :=
 some (.next (ax,w64 (round+1)))
def Yu (s_:Int)(gx:List Bool):ziE :=
 some (.next (gx,w64 (s_+1)))
def uo (i_:Int)(o9:List Bool):ziE :=
 some (.next (o9,w64 (i_+1)))
def Ys (m_:z6)(s_:Int)(kg:List Bool)(i_:Int):ziE :=
 bif decide (i_<m_.j) then(
  (idx m_.i s_).bind λap=>
  (idx ap i_).bind λal=>
  (idx kg s_).bind λdn=>
  bif dn then(
   bif decide (al.o>=0) then(
    (idx kg al.o).bind λjr=>
    uo i_ (kg.set al.o.toNat true))
   else(
    uo i_ kg))
  else(
   uo i_ kg))
 else(
  some (.done kg))
def Yt (m_:z6)(bo:List Bool)(s_:Int):ziE :=
 bif decide (s_<((m_.i.length:Nat):Int)) then(
  (loop (λs=>Ys m_ s_ s.1 s.2) (bo,0)).bind λt6=>
  Yu s_ t6)
 else(
  some (.done bo))
def Uc (m_:z6)(aj:List Bool)(round:Int):ziE :=
 bif decide (round<((m_.i.length:Nat):Int)) then(
  (loop (λs=>Yt m_ s.1 s.2) (aj,0)).bind λt4=>
  Yv round t4)
 else(
  some (.done aj))
def YI (m_:z6)(from_:Int):Option (List Bool) :=
 gd ((0:Int)<=((m_.i.length:Nat):Int)/\(((m_.i.length:Nat):Int):Int)<=4294967296) <|
 (idx (List.replicate ((m_.i.length:Nat):Int).toNat false) from_).bind λmj=>
 (loop (λs=>Uc m_ s.1 s.2) (((List.replicate ((m_.i.length:Nat):Int).toNat false).set from_.toNat true),0)).bind λt2=>
 Yw t2
def Q9 (out:TB):Option TB :=
 some out
def Q8 (s_:Int)(ax:TB):R1_ :=
 some (.next (ax,w64 (s_+1)))
def Q7 (aj:TB)(s_:Int)(k_:Int):R1_ :=
 gd (aj.length+[k_].length<=4294967296) <|
 Q8 s_ (aj++[k_])
def Yb (n_:Int)(kj:Int):R7_ :=
 some (.next (kj,w64 (n_+1)))
def Q6 (r_:TB)(ai:TB)(ak:List Bool)(s_:Int)(de:Int)(n_:Int):R7_ :=
 bif decide (n_<((ai.length:Nat):Int)) then(
  (idx ak s_).bind λdm=>
  bif dm then(
   (idx ai n_).bind λip=>
   (idx r_ ip).bind λn9=>
   (idx r_ s_).bind λoa=>
   bif n9==oa then(
    Yb n_ n_)
   else(
    Yb n_ de))
  else(
   Yb n_ de))
 else(
  some (.done de))
def z0u (r_:TB)(ai:TB)(ak:List Bool)(aj:TB)(s_:Int):R1_ :=
 bif decide (s_<((r_.length:Nat):Int)) then(
  (loop (λs=>Q6 r_ ai ak s_ s.1 s.2) ((-1),0)).bind λt5=>
  Q7 aj s_ t5)
 else(
  some (.done aj))
def Ko (m_:z6):Option TB :=
 (kW m_).bind λr_=>
 (jW m_).bind λai=>
 (YI m_ 0).bind λak=>
 (loop (λs=>z0u r_ ai ak s.1 s.2) (([]:TB),0)).bind λt2=>
 Q9 t2
def Yr (m_:z6)(gy:List (List z8)):Option z6 :=
 some (z6.mk m_.j m_.m gy)
def Yq (k_:Int)(gp:List (List z8)):R0_ :=
 some (.next (gp,w64 (k_+1)))
def Yp (bt:List (List z8))(k_:Int)(row:List z8):R0_ :=
 gd (bt.length+[row].length<=4294967296) <|
 Yq k_ (bt++[row])
def um (bu:List z8)(i_:Int)(al:z8)(gz:Int):R2_ :=
 gd (bu.length+[(z8.mk gz al.r)].length<=4294967296) <|
 some (.next ((bu++[(z8.mk gz al.r)]),w64 (i_+1)))
def Yn (m_:z6)(r_:TB)(ai:TB)(k_:Int)(bu:List z8)(i_:Int):R2_ :=
 bif decide (i_<m_.j) then(
  (idx r_ k_).bind λdm=>
  (idx m_.i dm).bind λap=>
  (idx ap i_).bind λal=>
  bif decide (al.o>=0) then(
   (idx ai al.o).bind λip=>
   um bu i_ al ip)
  else(
   um bu i_ al al.o))
 else(
  some (.done bu))
def Yo (m_:z6)(r_:TB)(ai:TB)(bt:List (List z8))(k_:Int):R0_ :=
 bif decide (k_<((r_.length:Nat):Int)) then(
  (loop (λs=>Yn m_ r_ ai k_ s.1 s.2) (([]:List z8),0)).bind λt5=>
  Yp bt k_ t5)
 else(
  some (.done bt))
def YG (m_:z6):Option z6 :=
 (jW m_).bind λr_=>
 (Ko m_).bind λai=>
 (loop (λs=>Yo m_ r_ ai s.1 s.2) (([]:List (List z8)),0)).bind λt2=>
 Yr m_ t2
def QL (x_:jA):Option z6 :=
 gd ((5:Int)≠0) <|
 (QM (yj.mk (Int.tmod x_.C.G 5) x_.C.j x_.C.m x_.C.Tree x_.C.Edges)).bind λr_=>
 (YG r_).bind λai=>
 some ai
def uc:Option z8 :=
 some (z8.mk (-1) (-1))
def YL (m_:z6)(x_:z8):Option Bool :=
 (uc).bind λr_=>
 bif (x_.o==r_.o)&&((x_.r==r_.r)&&true) then(
  some true)
 else(
  bif decide (x_.o>=0) then(
   bif decide (x_.o<((m_.i.length:Nat):Int)) then(
    bif decide (x_.r>=0) then(
     some (decide (x_.r<m_.m)))
    else(
     some false))
   else(
    some false))
  else(
   some false))
def Yy (x_:z8)(x1:z6):Option Bool :=
 (YL x1 x_).bind λr_=>
 some (!r_)
def wg:Option Int :=
 some (-1)
def yc (s_:List z8)(f_:z6)(x8:Int):R3_ :=
 bif decide (x8<((s_.length:Nat):Int)) then(
  (idx s_ x8).bind λeb=>
  (Yy eb f_).bind λr_=>
  bif r_ then(
   some (.done (.inr x8)))
  else(
   some (.next (w64 (x8+1)))))
 else(
  some (.done (.inl ())))
def xj (s_:List z8)(f_:z6):Option Int :=
 (loop (λs=>yc s_ f_ s) 0).bind λt2=>
 match t2 with
 |.inl p=>wg
 |.inr p=>some p
def yd (s_:List z8)(f_:z6):Option Bool :=
 (xj s_ f_).bind λr_=>
 some (decide (r_>=0))
def V5:Option Int :=
 some 0
def qK (m_:z6)(kl:Int):R3_ :=
 bif decide (kl<((m_.i.length:Nat):Int)) then(
  (idx m_.i kl).bind λap=>
  bif ((ap.length:Nat):Int) !=m_.j then(
   some (.done (.inr 1)))
  else(
   (yd ap m_).bind λr_=>
   bif r_ then(
    some (.done (.inr 1)))
   else(
    some (.next (w64 (kl+1))))))
 else(
  some (.done (.inl ())))
def xo (m_:z6):Option Int :=
 bif decide (m_.j>16) then(
  some 3)
 else(
  bif decide (m_.m>16) then(
   some 3)
  else(
   bif decide (((m_.i.length:Nat):Int)>64) then(
    some 3)
   else(
    bif decide (m_.j<1) then(
     some 1)
    else(
     bif decide (m_.m<1) then(
      some 1)
     else(
      bif decide (((m_.i.length:Nat):Int)<1) then(
       some 1)
      else(
       (loop (λs=>qK m_ s) 0).bind λt2=>
       match t2 with
       |.inl p=>V5
       |.inr p=>some p))))))
def Xy (m_:z6):Option ((Int×z6)×(Int×z6)×(Int×z6)) :=
 some ((9,m_),(11,m_),(12,m_))
def WC (m_:z6):Option z6 :=
 some m_
variable {σ:Type}
def jM (gi:Int)(js:σ):Option (LR (σ×Int) σ) :=
 some (.next (js,w64 (gi+1)))
def wI (yy:σ->(qQ Int×z8)->Option (σ×Bool))(gi:Int)(ap:List z8)(gg:σ)(ba:Int):Option (LR (σ×Int) (σ⊕σ)) :=
 bif decide (ba<((ap.length:Nat):Int)) then(
  (idx ap ba).bind λal=>
  (yy gg ((qQ.mk gi ba),al)).bind λyr=>
  bif !yr.2 then(
   some (.done (.inr yr.1)))
  else(
   some (.next (yr.1,w64 (ba+1)))))
 else(
  some (.done (.inl gg)))
def ud (x0:z6)(yy:σ->(qQ Int×z8)->Option (σ×Bool))(dw:σ)(gi:Int):Option (LR (σ×Int) σ) :=
 bif decide (gi<((x0.i.length:Nat):Int)) then(
  (idx x0.i gi).bind λap=>
  (loop (λs=>wI yy gi ap s.1 s.2) (dw,0)).bind λt3=>
  match t3 with
  |.inl p=>jM gi p
  |.inr p=>some (.done p))
 else(
  some (.done dw))
def jI (x0:z6){σ:Type}(yy:σ->(qQ Int×z8)->Option (σ×Bool))(sg:σ):Option σ :=
 (loop (λs=>ud x0 yy s.1 s.2) (sg,0)).bind λt1=>
 some t1
abbrev znk:Type:=Option (List (qQ Int))
def ua (s_:List (qQ Int)):znk :=
 gd ((0:Int)<=0/\(0:Int)<=((s_.length:Nat):Int)/\(((s_.length:Nat):Int):Int)<=((s_.length:Nat):Int)/\(((s_.length:Nat):Int):Int)<=((s_.length:Nat):Int)) <|
 some ((s_.drop 0).take (((s_.length:Nat):Int).toNat-0))
def qo (out:List (qQ Int)):znk :=
 (ua out).bind λr_=>
 some r_
def yw (aj:List (qQ Int))(x8:qQ Int)(x9:z8):Option (LR (List (qQ Int)) Empty) :=
 (uc).bind λak=>
 bif (x9.o==ak.o)&&((x9.r==ak.r)&&true) then(
  gd (aj.length+[x8].length<=4294967296) <|
  some (.next (aj++[x8])))
 else(
  some (.next aj))
def kZ (m_:z6):znk :=
 (WC m_).bind λai=>
 (jI ai (yOf (λs x=>yw s x.1 x.2)) (.next ([]:List (qQ Int)))).bind λt2=>
 match t2 with
 |.next aj=>(
  qo aj)
 |.done z=>nomatch z
def qJ (m_:z6):Option (Bool×Int) :=
 (xo m_).bind λr_=>
 bif r_ !=0 then(
  some (false,r_))
 else(
  (kZ m_).bind λai=>
  some (((ai.length:Nat):Int)==0,0))
def ZA (x0:z6):Option Bool :=
 (qJ x0).bind λr_=>
 some r_.1
def wn (mz:Int->(List Bool)->z6->Option (List Bool×z6))(ap:List z8)(x1:List Bool)(jt:Int)(jd:Int)(la:List (List z8))(ga:Int):Option (LR (List Bool×Int×Int×List (List z8)×Int) ((List Bool×z6))) :=
 bif decide (ga<((ap.length:Nat):Int)) then(
  (idx ap ga).bind λal=>
  (mz al.o x1 (z6.mk jt jd la)).bind λr_=>
  some (.next (r_.1,r_.2.j,r_.2.m,r_.2.i,w64 (ga+1))))
 else(
  some (.done (x1,(z6.mk jt jd la))))
def wL (mz:Int->(List Bool)->z6->Option (List Bool×z6))(s_:Int)(y0:List Bool)(y1:z6):Option (List Bool×z6) :=
 bif s_==(-1) then(
  some (y0,y1))
 else(
  (idx y0 s_).bind λsb=>
  bif sb then(
   some (y0,y1))
  else(
   (idx y0 s_).bind λsf=>
   (idx y1.i s_).bind λap=>
   (loop (λs=>wn mz ap s.1 s.2.1 s.2.2.1 s.2.2.2.1 s.2.2.2.2) ((y0.set s_.toNat true),y1.j,y1.m,y1.i,0)).bind λt1=>
   some t1))
def yf (fu:Nat):Int->(List Bool)->z6->Option (List Bool×z6):=Nat.rec (motive:=λ_=>Int->(List Bool)->z6->Option (List Bool×z6)) (λ_ _ _=>none) (λ_ ih=>wL ih) fu
def qW:Option Int :=
 some (-1)
def xO (s_:List Bool)(v_:Bool)(x8:Int):R3_ :=
 bif decide (x8<((s_.length:Nat):Int)) then(
  (idx s_ x8).bind λeb=>
  bif v_==eb then(
   some (.done (.inr x8)))
  else(
   some (.next (w64 (x8+1)))))
 else(
  some (.done (.inl ())))
def uE (s_:List Bool)(v_:Bool):Option Int :=
 (loop (λs=>xO s_ v_ s) 0).bind λt2=>
 match t2 with
 |.inl p=>qW
 |.inr p=>some p
def xP (s_:List Bool)(v_:Bool):Option Bool :=
 (uE s_ v_).bind λr_=>
 some (decide (r_>=0))
def v6 (m_:z6):Option (Bool×Int) :=
 (xo m_).bind λr_=>
 bif r_ !=0 then(
  some (false,r_))
 else(
  gd ((0:Int)<=((m_.i.length:Nat):Int)/\(((m_.i.length:Nat):Int):Int)<=4294967296) <|
  (yf Um 0 (List.replicate ((m_.i.length:Nat):Int).toNat false) m_).bind λai=>
  (xP ai.1 false).bind λak=>
  some (!ak,0))
def Zz (x0:z6):Option Bool :=
 (v6 x0).bind λr_=>
 some r_.1
def Wo (m_:z6):Option z6 :=
 some m_
def Xi (out:zz (qQ Int)):Option (zz (qQ Int)) :=
 some out
abbrev zoC:Type:=Option (LR (zz (qQ Int)×Int) (zz (qQ Int)))
def kK (ft:Int)(ax:zz (qQ Int)):zoC :=
 some (.next (ax,w64 (ft+1)))
def Xh (p_:TB)(ap:List z8)(aj:zz (qQ Int))(ft:Int):zoC :=
 bif decide (ft<((ap.length:Nat):Int)) then(
  (idx ap ft).bind λal=>
  (idx (zz.toL aj) ft).bind λcell=>
  (some (zz.setI aj ft (qQ.mk al.r (-1)))).bind λarr=>
  bif al.o !=(-1) then(
   (idx p_ al.o).bind λbj=>
   (idx (zz.toL arr) ft).bind λco=>
   (some (zz.setI arr ft (qQ.mk co.e0 bj))).bind λarr1=>
   kK ft arr1)
  else(
   kK ft arr))
 else(
  some (.done aj))
def jU (m_:z6)(p_:TB)(s_:Int):Option (zz (qQ Int)) :=
 (idx m_.i s_).bind λap=>
 (loop (λs=>Xh p_ ap s.1 s.2) ((zz.mk (qQ.mk 0 0) (qQ.mk 0 0) (qQ.mk 0 0) (qQ.mk 0 0) (qQ.mk 0 0) (qQ.mk 0 0) (qQ.mk 0 0) (qQ.mk 0 0) (qQ.mk 0 0) (qQ.mk 0 0) (qQ.mk 0 0) (qQ.mk 0 0) (qQ.mk 0 0) (qQ.mk 0 0) (qQ.mk 0 0) (qQ.mk 0 0)),0)).bind λt2=>
 Xi t2
def kM (out:TB):Option TB :=
 some out
abbrev zoB:Type:=Option (LR ((List (zK×Int))×TB×Int) TB)
def wW (aj:TB)(gh:Int)(bj:Int)(r_:zz (qQ Int))(jf:List (zK×Int)):zoB :=
 (some ((Vf jf (zK.mk bj r_)).getD 0)).bind λval=>
 (idx aj gh).bind λdn=>
 some (.next (jf,(aj.set gh.toNat val),w64 (gh+1)))
def kL (m_:z6)(p_:TB)(names:List (zK×Int))(aj:TB)(gh:Int):zoB :=
 bif decide (gh<((p_.length:Nat):Int)) then(
  (idx p_ gh).bind λbj=>
  (jU m_ p_ gh).bind λr_=>
  (some ((Vf names (zK.mk bj r_)).getD 0)).bind λrh=>
  bif !((Vf names (zK.mk bj r_)).isSome) then(
   wW aj gh bj r_ (z29 names (zK.mk bj r_) ((names.length:Nat):Int)))
  else(
   wW aj gh bj r_ names))
 else(
  some (.done aj))
def kN (m_:z6)(p_:TB):Option TB :=
 gd ((0:Int)<=((p_.length:Nat):Int)/\(((p_.length:Nat):Int):Int)<=4294967296) <|
 (loop (λs=>kL m_ p_ s.1 s.2.1 s.2.2) (([]:List (zK×Int)),(List.replicate ((p_.length:Nat):Int).toNat (0:Int)),0)).bind λt2=>
 kM t2
def u9:Option Bool :=
 some true
abbrev zlB:Type:=Option (LR Int (Unit⊕Bool))
def wj (s1:TB)(s2:TB)(fq:Int):zlB :=
 bif decide (fq<((s1.length:Nat):Int)) then(
  (idx s1 fq).bind λpa=>
  (idx s2 fq).bind λnw=>
  bif pa !=nw then(
   some (.done (.inr false)))
  else(
   some (.next (w64 (fq+1)))))
 else(
  some (.done (.inl ())))
def vt (s1:TB)(s2:TB):Option Bool :=
 bif ((s1.length:Nat):Int) !=((s2.length:Nat):Int) then(
  some false)
 else(
  (loop (λs=>wj s1 s2 s) 0).bind λt2=>
  match t2 with
  |.inl p=>u9
  |.inr p=>some p)
def ub (x0:z6)(yy:σ->TB->Option (σ×Bool))(dw:σ)(p_:TB):Option (LR (σ×TB) σ) :=
 (yy dw p_).bind λyr=>
 bif yr.2 then(
  (kN x0 p_).bind λr_=>
  (vt p_ r_).bind λai=>
  bif ai then(
   some (.done yr.1))
  else(
   some (.next (yr.1,r_))))
 else(
  some (.done yr.1))
def jF (x0:z6){σ:Type}(yy:σ->TB->Option (σ×Bool))(sg:σ):Option σ :=
 gd ((0:Int)<=((x0.i.length:Nat):Int)/\(((x0.i.length:Nat):Int):Int)<=4294967296) <|
 (loop (λs=>ub x0 yy s.1 s.2) (sg,(List.replicate ((x0.i.length:Nat):Int).toNat (0:Int)))).bind λt1=>
 some t1
def kO (p_:TB)(n_:Int):Option (TB×Int×Int) :=
 some (p_,n_,0)
def wX (nv:TB)(ca:Int)(kq:TB):Option (LR (TB×Int) Empty) :=
 some (.next (kq,w64 (ca+1)))
def kP (m_:z6):Option (TB×Int×Int) :=
 (xo m_).bind λr_=>
 bif r_ !=0 then(
  some (([]:TB),0,r_))
 else(
  (Wo m_).bind λai=>
  (jF ai (yOf (λs x=>wX s.1 s.2 x)) (.next (([]:TB),(-1)))).bind λt2=>
  match t2 with
  |.next (nv,ca)=>(
   kO nv ca)
  |.done z=>nomatch z)
def uW (m_:Int):Option Int :=
 some m_
def uV (x_:TB)(pb:Int)(i_:Int):R7_ :=
 bif decide (i_<((x_.length:Nat):Int)) then(
  (idx x_ i_).bind λl7=>
  some (.next ((mx pb l7),w64 (i_+1))))
 else(
  some (.done pb))
def uG (x_:TB):Option Int :=
 bif decide (((x_.length:Nat):Int)<1) then(
  none)
 else(
  (idx x_ 0).bind λmq=>
  (loop (λs=>uV x_ s.1 s.2) (mq,1)).bind λt2=>
  uW t2)
def Zy (x0:z6):Option Bool :=
 (kP x0).bind λr_=>
 (uG r_.1).bind λai=>
 some (ai==(w64 (((r_.1.length:Nat):Int)-1)))
def jL:Option Int :=
 some 0
def w8 (m_:z6):Option Int :=
 (xo m_).bind λr_=>
 bif r_ !=0 then(
  some r_)
 else(
  (Xy m_).bind λai=>
  (ZA ai.1.2).bind λak=>
  bif !ak then(
   some ai.1.1)
  else(
   (Zz ai.2.1.2).bind λam=>
   bif !am then(
    some ai.2.1.1)
   else(
    (Zy ai.2.2.2).bind λaz=>
    bif !az then(
     some ai.2.2.1)
    else(
     jL))))
def Y8 (m_:z6)(bound:Int):Option Int :=
 (w8 m_).bind λr_=>
 bif r_ !=0 then(
  some r_)
 else(
  bif decide (bound<((m_.i.length:Nat):Int)) then(
   some 1)
  else(
   bif decide (bound>(w64 (((m_.i.length:Nat):Int)+4))) then(
    some 1)
   else(
    some 0)))
def Wj (m_:z6)(from_:Int):Option (z6×Int) :=
 some (m_,from_)
def yX (jl:Int)(eu:List Bool)(nd:List zk):Option (LR (List Bool×List zk×Int) ((σ×List Bool×List zk))) :=
 some (.next (eu,nd,w64 (jl+1)))
def wz (cw:zk)(yr:σ×Bool)(ap:List z8)(gn:List Bool)(fx:List zk)(jl:Int):Option (LR (List Bool×List zk×Int) ((σ×List Bool×List zk))) :=
 bif decide (jl<((ap.length:Nat):Int)) then(
  (idx ap jl).bind λal=>
  bif al.o !=(-1) then(
   (idx gn al.o).bind λp7=>
   bif !p7 then(
    (idx gn al.o).bind λra=>
    gd (fx.length+[(zk.mk al.o cw.D jl)].length<=4294967296) <|
    yX jl (gn.set al.o.toNat true) (fx++[(zk.mk al.o cw.D jl)]))
   else(
    yX jl gn fx))
  else(
   yX jl gn fx))
 else(
  some (.done (yr.1,gn,fx)))
def vR (x0:z6)(yy:σ->zk->Option (σ×Bool))(dw:σ)(kh:List Bool)(d8:List zk):Option (LR (σ×List Bool×List zk) σ) :=
 bif decide (((d8.length:Nat):Int)>0) then(
  (idx d8 0).bind λcw=>
  gd ((0:Int)<=1/\(1:Int)<=((d8.length:Nat):Int)) <|
  (yy dw cw).bind λyr=>
  bif !yr.2 then(
   some (.done yr.1))
  else(
   (idx x0.i cw.D).bind λap=>
   (loop (λs=>wz cw yr ap s.1 s.2.1 s.2.2) (kh,(d8.drop (1:Int).toNat),0)).bind λt2=>
   some (.next t2)))
 else(
  some (.done dw))
def jD (x0:z6)(x1:Int){σ:Type}(yy:σ->zk->Option (σ×Bool))(sg:σ):Option σ :=
 gd ((0:Int)<=((x0.i.length:Nat):Int)/\(((x0.i.length:Nat):Int):Int)<=4294967296) <|
 (idx (List.replicate ((x0.i.length:Nat):Int).toNat false) x1).bind λmj=>
 (loop (λs=>vR x0 yy s.1 s.2.1 s.2.2) (sg,((List.replicate ((x0.i.length:Nat):Int).toNat false).set x1.toNat true),([(zk.mk x1 (-1) (-1))]:List zk))).bind λt1=>
 some t1
def ye (s_:TB):Option TB :=
 gd (([]:TB).length+s_.length<=4294967296) <|
 some s_
def zQ (s_:TB):Option TB :=
 gd ((0:Int)<=0/\(0:Int)<=((s_.length:Nat):Int)/\(((s_.length:Nat):Int):Int)<=((s_.length:Nat):Int)/\(((s_.length:Nat):Int):Int)<=((s_.length:Nat):Int)) <|
 some ((s_.drop 0).take (((s_.length:Nat):Int).toNat-0))
def Wi (l_:TA)(is:List Bool):R9_ :=
 some (l_,is)
def wq (dr:TA)(ii:List Bool)(jn:zk):Option (LR (TA×List Bool) Empty) :=
 (idx ii jn.D).bind λpq=>
 bif jn.from_ !=(-1) then(
  (idx dr jn.from_).bind λbi=>
  (ye bi).bind λai=>
  gd (ai.length+[jn.N].length<=4294967296) <|
  (zQ (ai++[jn.N])).bind λak=>
  (idx dr jn.D).bind λew=>
  some (.next ((dr.set jn.D.toNat ak),(ii.set jn.D.toNat true))))
 else(
  some (.next (dr,(ii.set jn.D.toNat true))))
def Vh (m_:z6)(from_:Int):R9_ :=
 gd ((0:Int)<=((m_.i.length:Nat):Int)/\(((m_.i.length:Nat):Int):Int)<=4294967296) <|
 gd ((0:Int)<=((m_.i.length:Nat):Int)/\(((m_.i.length:Nat):Int):Int)<=4294967296) <|
 (Wj m_ from_).bind λr_=>
 (jD r_.1 r_.2 (yOf (λs x=>wq s.1 s.2 x)) (.next ((List.replicate ((m_.i.length:Nat):Int).toNat ([]:TB)),(List.replicate ((m_.i.length:Nat):Int).toNat false)))).bind λt2=>
 match t2 with
 |.next (dr,ii)=>(
  Wi dr ii)
 |.done z=>nomatch z
def W0 (m_:z6):Option (TA×List Bool×Int) :=
 (xo m_).bind λr_=>
 bif r_ !=0 then(
  some (([]:TA),([]:List Bool),r_))
 else(
  (Vh m_ 0).bind λai=>
  some (ai.1,ai.2,0))
def Vg (c_:Int)(x1:Int):Option Bool :=
 bif decide (c_<0) then(
  some true)
 else(
  some (decide (c_>=x1)))
def uX:Option Int :=
 some (-1)
def xq (s_:TB)(f_:Int)(x8:Int):R3_ :=
 bif decide (x8<((s_.length:Nat):Int)) then(
  (idx s_ x8).bind λeb=>
  (Vg eb f_).bind λr_=>
  bif r_ then(
   some (.done (.inr x8)))
  else(
   some (.next (w64 (x8+1)))))
 else(
  some (.done (.inl ())))
def vC (s_:TB)(f_:Int):Option Int :=
 (loop (λs=>xq s_ f_ s) 0).bind λt2=>
 match t2 with
 |.inl p=>uX
 |.inr p=>some p
def wH (s_:TB)(f_:Int):Option Bool :=
 (vC s_ f_).bind λr_=>
 some (decide (r_>=0))
def jK (w_:TB)(inputs:Int):Option Int :=
 bif decide (inputs>16) then(
  some 3)
 else(
  bif decide (((w_.length:Nat):Int)>256) then(
   some 3)
  else(
   bif decide (inputs<1) then(
    some 1)
   else(
    (wH w_ inputs).bind λr_=>
    bif r_ then(
     some 1)
    else(
     some 0))))
def Jk:Option Int :=
 some 0
def ZK (l_:TA)(inputs:Int)(dy:Int):R3_ :=
 bif decide (dy<((l_.length:Nat):Int)) then(
  (idx l_ dy).bind λbi=>
  (jK bi inputs).bind λr_=>
  bif r_ !=0 then(
   some (.done (.inr r_)))
  else(
   some (.next (w64 (dy+1)))))
 else(
  some (.done (.inl ())))
def X9 (l_:TA)(inputs:Int):Option Int :=
 bif decide (inputs>16) then(
  some 3)
 else(
  bif decide (((l_.length:Nat):Int)>4096) then(
   some 3)
  else(
   bif decide (inputs<1) then(
    some 1)
   else(
    (loop (λs=>ZK l_ inputs s) 0).bind λt2=>
    match t2 with
    |.inl p=>Jk
    |.inr p=>some p)))
abbrev Vc:Type:=Option TA
def xT (s_:TA):Vc :=
 gd (([]:TA).length+s_.length<=4294967296) <|
 some s_
def YQ (x_:Int):Option Bool :=
 some (x_ !=x_)
def qt (x_:Int)(y_:Int):Option Int :=
 (YQ x_).bind λr_=>
 (YQ y_).bind λai=>
 bif r_ then(
  bif ai then(
   some 0)
  else(
   some (-1)))
 else(
  bif ai then(
   some 1)
  else(
   bif decide (x_<y_) then(
    some (-1))
   else(
    bif decide (x_>y_) then(
     some 1)
    else(
     some 0))))
def ve (s1:TB)(s2:TB):Option Int :=
 bif decide (((s1.length:Nat):Int)<((s2.length:Nat):Int)) then(
  some (-1))
 else(
  some 0)
def xQ (s1:TB)(s2:TB)(ig:Int):R3_ :=
 bif decide (ig<((s1.length:Nat):Int)) then(
  (idx s1 ig).bind λpa=>
  bif decide (ig>=((s2.length:Nat):Int)) then(
   some (.done (.inr 1)))
  else(
   (idx s2 ig).bind λnw=>
   (qt pa nw).bind λr_=>
   bif r_ !=0 then(
    some (.done (.inr r_)))
   else(
    some (.next (w64 (ig+1))))))
 else(
  some (.done (.inl ())))
def wK (s1:TB)(s2:TB):Option Int :=
 (loop (λs=>xQ s1 s2 s) 0).bind λt2=>
 match t2 with
 |.inl p=>ve s1 s2
 |.inr p=>some p
def VS:Option Int :=
 some 0
def YR (vals:TB)(x8:Int):R3_ :=
 bif decide (x8<((vals.length:Nat):Int)) then(
  (idx vals x8).bind λpr=>
  bif pr !=0 then(
   some (.done (.inr pr)))
  else(
   some (.next (w64 (x8+1)))))
 else(
  some (.done (.inl ())))
def QO (vals:TB):Option Int :=
 (loop (λs=>YR vals s) 0).bind λt2=>
 match t2 with
 |.inl p=>VS
 |.inr p=>some p
def yG (a_:TB)(b_:TB):Option Int :=
 (qt ((a_.length:Nat):Int) ((b_.length:Nat):Int)).bind λr_=>
 (wK a_ b_).bind λai=>
 (QO ([r_,ai])).bind λak=>
 some ak
def qS (a_:TB)(b_:TB):Option Bool :=
 (yG a_ b_).bind λr_=>
 some (r_==0)
def vQ (s_:TA):Vc :=
 some s_
abbrev znj:Type:=Option (LR Int (Unit⊕TA))
def xS (k_:Int):znj :=
 some (.next (w64 (k_+1)))
def yh (bk:TA)(de:Int):znj :=
 gd ((0:Int)<=de/\(de:Int)<=((bk.length:Nat):Int)) <|
 gd ((0:Int)<=de/\(de:Int)<=((bk.length:Nat):Int)) <|
 gd ((0:Int)<=de/\(de:Int)<=(((bk.take de.toNat++List.replicate (bk.length-de.toNat) []).length:Nat):Int)) <|
 some (.done (.inr ((bk.take de.toNat++List.replicate (bk.length-de.toNat) []).take de.toNat)))
abbrev zlA:Type:=Option (LR (TA×Int×Int) ((TA×Int)))
def yg (k2:Int)(ng:TA)(p8:Int):zlA :=
 some (.next (ng,p8,w64 (k2+1)))
def yO (k_:Int)(da:TA)(kj:Int)(k2:Int):zlA :=
 bif decide (k2<((da.length-k_.toNat:Nat):Int)) then(
  gd ((0:Int)<=k_/\(0:Int)<=k2) <|
  (idx da (k_+k2)).bind λot=>
  gd ((0:Int)<=k_/\(0:Int)<=w64 (k2-1)) <|
  (idx da (k_+(w64 (k2-1)))).bind λou=>
  (qS ot ou).bind λai=>
  bif !ai then(
   gd ((0:Int)<=k_/\(0:Int)<=k2) <|
   (idx da (k_+k2)).bind λov=>
   (idx da kj).bind λr9=>
   yg k2 (da.set kj.toNat ov) (w64 (kj+1)))
  else(
   yg k2 da kj))
 else(
  some (.done (da,kj)))
def xR (s_:TA)(k_:Int):znj :=
 bif decide (k_<((s_.length:Nat):Int)) then(
  (idx s_ k_).bind λeb=>
  (idx s_ (w64 (k_-1))).bind λnn=>
  (qS eb nn).bind λr_=>
  bif r_ then(
   gd ((0:Int)<=k_/\(k_:Int)<=((s_.length:Nat):Int)) <|
   (loop (λs=>yO k_ s.1 s.2.1 s.2.2) (s_,k_,1)).bind λt5=>
   yh t5.1 t5.2)
  else(
   xS k_))
 else(
  some (.done (.inl ())))
def xw (s_:TA)(eq:Unit):Vc :=
 bif decide (((s_.length:Nat):Int)<2) then(
  some s_)
 else(
  (loop (λs=>xR s_ s) 1).bind λt2=>
  match t2 with
  |.inl p=>vQ s_
  |.inr p=>some p)
def wk (s_:TA):Vc :=
 some s_
def Jj (n_:Int):Option Int :=
 some n_
def ZJ (l_:TA)(ca:Int)(x7:Int):R7_ :=
 bif decide (x7<((l_.length:Nat):Int)) then(
  (idx l_ x7).bind λbi=>
  some (.next (w64 (ca+((bi.length:Nat):Int)),w64 (x7+1))))
 else(
  some (.done ca))
def X7 (l_:TA):Option Int :=
 (loop (λs=>ZJ l_ s.1 s.2) (0,0)).bind λt2=>
 Jj t2
abbrev z2H:Type:=Option (TA×Int)
def X8 (out:List (TB×Bool)):z2H :=
 gd (∀q∈out,q.2=true) <|
 some ((out.map (·.1)),0)
def wB (ak:TA)(ax:List (TB×Bool))(ga:Int):Option (LR ((List (TB×Bool))×Int) ((List (TB×Bool)))) :=
 bif decide (ga<((ak.length-(0:Int).toNat:Nat):Int)) then(
  gd ((0:Int)<=0/\(0:Int)<=ga) <|
  (idx ax (0+ga)).bind λdn=>
  (ye dn.1).bind λaz=>
  (zQ az).bind λbn=>
  (idx ax ga).bind λjr=>
  some (.next ((ax.set ga.toNat (bn,true)),w64 (ga+1))))
 else(
  some (.done ax))
def xA (l_:TA):z2H :=
 (xT l_).bind λr_=>
 (zah (λx y=>yG x y) r_).bind λsorted=>
 (xw sorted ()).bind λai=>
 (wk ai).bind λak=>
 bif decide (((ak.length:Nat):Int)>4096) then(
  some (([]:TA),3))
 else(
  (X7 ak).bind λam=>
  bif decide (am>65536) then(
   some (([]:TA),3))
  else(
   (loop (λs=>wB ak s.1 s.2) ((ak.map λq=>(q,false)),0)).bind λt2=>
   X8 t2))
def Zo (l_:TA)(inputs:Int):z2H :=
 (X9 l_ inputs).bind λr_=>
 bif r_ !=0 then(
  some (([]:TA),r_))
 else(
  (xA l_).bind λai=>
  some (ai.1,ai.2))
def qP (m_:z6):z2H :=
 (v6 m_).bind λr_=>
 bif r_.2 !=0 then(
  some (([]:TA),r_.2))
 else(
  bif !r_.1 then(
   some (([]:TA),11))
  else(
   (W0 m_).bind λai=>
   bif ai.2.2 !=0 then(
    some (([]:TA),ai.2.2))
   else(
    (Zo ai.1 m_.j).bind λak=>
    some (ak.1,ak.2))))
abbrev zld:Type:=Option (LR (TA×TA×Int×Int) ((TA×Int)))
def UO (k_:Int)(aj:TA)(cq:TA)(ca:Int)(ri:Int)(nh:Bool)(oz:Bool):zld :=
 some (.next (aj,cq,ca,w64 (k_+1)))
def UN (k_:Int)(ax:TA)(cd:Int)(il:Bool)(next:TA):zld :=
 UO k_ ax next cd cd (decide (cd>65536)) il
abbrev z10:Type:=Option (LR (TA×Int) TA)
def UM (lc:Int)(ff:TA):z10 :=
 some (.next (ff,w64 (lc+1)))
def uR (inputs:Int)(a8:TB)(cb:TA)(ld:Int):z10 :=
 bif decide (ld<inputs) then(
  (zQ a8).bind λai=>
  gd (ai.length+[ld].length<=4294967296) <|
  gd (cb.length+[(ai++[ld])].length<=4294967296) <|
  some (.next ((cb++[(ai++[ld])]),w64 (ld+1))))
 else(
  some (.done cb))
def uS (inputs:Int)(ay:TA)(cr:TA)(lc:Int):z10 :=
 bif decide (lc<((ay.length:Nat):Int)) then(
  (idx ay lc).bind λa8=>
  (loop (λs=>uR inputs a8 s.1 s.2) (cr,0)).bind λt8=>
  UM lc t8)
 else(
  some (.done cr))
def ZZ (inputs:Int)(to:Int)(ay:TA)(k_:Int)(ax:TA)(cd:Int)(il:Bool):zld :=
 bif k_==to then(
  (xA ax).bind λr_=>
  some (.done (r_.1,r_.2)))
 else(
  (loop (λs=>uS inputs ay s.1 s.2) (([]:TA),0)).bind λt6=>
  UN k_ ax cd il t6)
def Y0 (inputs:Int)(to:Int)(ay:TA)(k_:Int)(ax:TA)(cd:Int):zld :=
 bif decide (((ax.length:Nat):Int)>4096) then(
  some (.done (([]:TA),3)))
 else(
  bif decide (cd>65536) then(
   some (.done (([]:TA),3)))
  else(
   bif decide (k_<to) then(
    bif decide ((w64 (((ay.length:Nat):Int)*inputs))>4096) then(
     some (.done (([]:TA),3)))
    else(
     ZZ inputs to ay k_ ax cd (decide ((w64 (((ay.length:Nat):Int)*inputs))>4096))))
   else(
    ZZ inputs to ay k_ ax cd false)))
def jQ (inputs:Int)(from_:Int)(to:Int)(out:TA)(ay:TA)(n_:Int)(k_:Int):zld :=
 bif decide (k_>=from_) then(
  gd (out.length+ay.length<=4294967296) <|
  Y0 inputs to ay k_ (out++ay) (w64 (n_+(w64 (k_*((ay.length:Nat):Int))))))
 else(
  Y0 inputs to ay k_ out n_)
def WR (inputs:Int)(from_:Int)(to:Int):z2H :=
 bif decide (inputs>16) then(
  some (([]:TA),3))
 else(
  bif decide (inputs<1) then(
   some (([]:TA),1))
  else(
   bif decide (to<0) then(
    some (([]:TA),1))
   else(
    bif decide (to>256) then(
     some (([]:TA),3))
    else(
     (loop (λs=>jQ inputs from_ to s.1 s.2.1 s.2.2.1 s.2.2.2) (([]:TA),([[]]:TA),0,0)).bind λt1=>
     some t1))))
def WT (inputs:Int)(k_:Int):z2H :=
 (WR inputs 0 k_).bind λr_=>
 some (r_.1,r_.2)
def Wm:Option Bool :=
 some true
def ZL (l_:TA)(i_:Int):zlB :=
 bif decide (i_<((l_.length:Nat):Int)) then(
  (idx l_ (w64 (i_-1))).bind λbi=>
  (idx l_ i_).bind λew=>
  (yG bi ew).bind λr_=>
  bif decide (r_>=0) then(
   some (.done (.inr false)))
  else(
   some (.next (w64 (i_+1)))))
 else(
  some (.done (.inl ())))
def Vl (l_:TA):Option Bool :=
 (loop (λs=>ZL l_ s) 1).bind λt2=>
 match t2 with
 |.inl p=>Wm
 |.inr p=>some p
def Xb (l_:TA)(inputs:Int):Option Int :=
 (X9 l_ inputs).bind λr_=>
 bif r_ !=0 then(
  some r_)
 else(
  (Vl l_).bind λai=>
  bif !ai then(
   some 1)
  else(
   (X7 l_).bind λak=>
   bif decide (ak>65536) then(
    some 3)
   else(
    some 0)))
def Vk:Option Int :=
 some 0
def YE (inputs:Int)(l_:List TA)(gi:Int):R3_ :=
 bif decide (gi<((l_.length:Nat):Int)) then(
  (idx l_ gi).bind λbi=>
  (Xb bi inputs).bind λr_=>
  bif r_ !=0 then(
   some (.done (.inr r_)))
  else(
   some (.next (w64 (gi+1)))))
 else(
  some (.done (.inl ())))
def WQ (inputs:Int)(l_:List TA):Option Int :=
 (loop (λs=>YE inputs l_ s) 0).bind λt2=>
 match t2 with
 |.inl p=>Vk
 |.inr p=>some p
def z0r (b_:TB):Option (List UInt8) :=
 some (u8s b_)
def jP (w_:TB)(kw:TB)(ig:Int):R1_ :=
 bif decide (ig<((w_.length:Nat):Int)) then(
  (idx w_ ig).bind λfc=>
  (idx kw ig).bind λdx=>
  some (.next ((kw.set ig.toNat (IntKind.u8.wrap (fc))),w64 (ig+1))))
 else(
  some (.done kw))
def K4 (w_:TB):Option (List UInt8) :=
 gd ((0:Int)<=((w_.length:Nat):Int)/\(((w_.length:Nat):Int):Int)<=4294967296) <|
 (loop (λs=>jP w_ s.1 s.2) ((List.replicate ((w_.length:Nat):Int).toNat (0:Int)),0)).bind λt2=>
 z0r t2
def kB (out:TA):z2H :=
 (xA out).bind λai=>
 some (ai.1,ai.2)
abbrev zoA:Type:=Option (LR ((List ((List UInt8)×Bool))×Int×TA×Int) (TA⊕(TA×Int)))
def kA (fg:Int)(gn:List ((List UInt8)×Bool))(ca:Int)(ax:TA):zoA :=
 some (.next (gn,ca,ax,w64 (fg+1)))
abbrev zoz:Type:=Option (LR ((List ((List UInt8)×Bool))×Int×TA×Int) (((List ((List UInt8)×Bool))×Int×TA)⊕(TA×Int)))
def uT (ib:Int)(oc:List ((List UInt8)×Bool))(lf:Int)(gx:TA):zoz :=
 bif decide (((gx.length:Nat):Int)>4096) then(
  some (.done (.inr (([]:TA),3))))
 else(
  bif decide (lf>65536) then(
   some (.done (.inr (([]:TA),3))))
  else(
   some (.next (oc,lf,gx,w64 (ib+1)))))
def kp (b_:TA)(dv:TB)(eu:List ((List UInt8)×Bool))(cd:Int)(bo:TA)(ib:Int):zoz :=
 bif decide (ib<((b_.length:Nat):Int)) then(
  (idx b_ ib).bind λdx=>
  (zQ dv).bind λak=>
  gd (ak.length+dx.length<=4294967296) <|
  bif decide ((((ak++dx).length:Nat):Int)>256) then(
   some (.done (.inr (([]:TA),3))))
  else(
   (K4 (ak++dx)).bind λam=>
   (some ((Vf eu am).getD false)).bind λval=>
   bif !val then(
    gd (bo.length+[(ak++dx)].length<=4294967296) <|
    uT ib (z29 eu am true) (w64 (cd+(((ak++dx).length:Nat):Int))) (bo++[(ak++dx)]))
   else(
    uT ib eu cd bo)))
 else(
  some (.done (.inl (eu,cd,bo))))
def Xa (a_:TA)(b_:TA)(kh:List ((List UInt8)×Bool))(n_:Int)(aj:TA)(fg:Int):zoA :=
 bif decide (fg<((a_.length:Nat):Int)) then(
  (idx a_ fg).bind λdv=>
  (loop (λs=>kp b_ dv s.1 s.2.1 s.2.2.1 s.2.2.2) (kh,n_,aj,0)).bind λt4=>
  match t4 with
  |.inl p=>kA fg p.1 p.2.1 p.2.2
  |.inr p=>some (.done (.inr p)))
 else(
  some (.done (.inl aj)))
def Y1 (a_:TA)(b_:TA)(inputs:Int):z2H :=
 (WQ inputs ([a_,b_])).bind λr_=>
 bif r_ !=0 then(
  some (([]:TA),r_))
 else(
  (loop (λs=>Xa a_ b_ s.1 s.2.1 s.2.2.1 s.2.2.2) (([]:List ((List UInt8)×Bool)),0,([]:TA),0)).bind λt2=>
  match t2 with
  |.inl p=>kB p
  |.inr p=>some p)
def Za (m_:z6)(k_:Int):z2H :=
 (qP m_).bind λr_=>
 bif r_.2 !=0 then(
  some (([]:TA),r_.2))
 else(
  bif decide (k_<0) then(
   some (([]:TA),1))
  else(
   (WT m_.j k_).bind λai=>
   bif ai.2 !=0 then(
    some (([]:TA),ai.2))
   else(
    (Y1 r_.1 ai.1 m_.j).bind λak=>
    some (ak.1,ak.2))))
def v7 (m_:z6):z2H :=
 (Za m_ 1).bind λr_=>
 some (r_.1,r_.2)
def Yf (n_:Int):Option Int :=
 some n_
def ZG (x6:Int)(js:σ):Option (LR (σ×Int) σ) :=
 some (.next (js,w64 (x6+1)))
def qM (x0:Int)(yy:σ->(Int×Int)->Option (σ×Bool))(x6:Int)(gg:σ)(b_:Int):Option (LR (σ×Int) (σ⊕σ)) :=
 bif decide (b_<x0) then(
  (yy gg (x6,b_)).bind λyr=>
  bif !yr.2 then(
   some (.done (.inr yr.1)))
  else(
   some (.next (yr.1,w64 (b_+1)))))
 else(
  some (.done (.inl gg)))
def ZF (x0:Int)(yy:σ->(Int×Int)->Option (σ×Bool))(dw:σ)(x6:Int):Option (LR (σ×Int) σ) :=
 bif decide (x6<x0) then(
  (loop (λs=>qM x0 yy x6 s.1 s.2) (dw,w64 (x6+1))).bind λt3=>
  match t3 with
  |.inl p=>ZG x6 p
  |.inr p=>some (.done p))
 else(
  some (.done dw))
def vn (x0:Int){σ:Type}(yy:σ->(Int×Int)->Option (σ×Bool))(sg:σ):Option σ :=
 (loop (λs=>ZF x0 yy s.1 s.2) (sg,0)).bind λt1=>
 some t1
def Qn (a_:Int)(b_:Int):Option Bool :=
 some true
def ZM (s_:Int)(x1:z6):Option Bool :=
 bif decide (s_<0) then(
  some true)
 else(
  some (decide (s_>=((x1.i.length:Nat):Int))))
def vB:Option Int :=
 some (-1)
def yH (s_:TB)(f_:z6)(x8:Int):R3_ :=
 bif decide (x8<((s_.length:Nat):Int)) then(
  (idx s_ x8).bind λeb=>
  (ZM eb f_).bind λr_=>
  bif r_ then(
   some (.done (.inr x8)))
  else(
   some (.next (w64 (x8+1)))))
 else(
  some (.done (.inl ())))
def xe (s_:TB)(f_:z6):Option Int :=
 (loop (λs=>yH s_ f_ s) 0).bind λt2=>
 match t2 with
 |.inl p=>vB
 |.inr p=>some p
def xL (s_:TB)(f_:z6):Option Bool :=
 (xe s_ f_).bind λr_=>
 some (decide (r_>=0))
def W2 (m_:z6)(l_:TB):Option Int :=
 (xo m_).bind λr_=>
 bif r_ !=0 then(
  some r_)
 else(
  (xL l_ m_).bind λai=>
  bif ai then(
   some 1)
  else(
   some 0))
def UQ (m_:z6):Option z6 :=
 some m_
def Zv (x8:Int)(js:σ):Option (LR (σ×Int) σ) :=
 some (.next (js,w64 (x8+1)))
def qB (x0:z6)(yy:σ->(Int×Int)->Option (σ×Bool))(x8:Int)(gg:σ)(t_:Int):Option (LR (σ×Int) (σ⊕σ)) :=
 bif decide (t_<((x0.i.length:Nat):Int)) then(
  (yy gg (x8,t_)).bind λyr=>
  bif !yr.2 then(
   some (.done (.inr yr.1)))
  else(
   some (.next (yr.1,w64 (t_+1)))))
 else(
  some (.done (.inl gg)))
def Zu (x0:z6)(yy:σ->(Int×Int)->Option (σ×Bool))(dw:σ)(x8:Int):Option (LR (σ×Int) σ) :=
 bif decide (x8<((x0.i.length:Nat):Int)) then(
  (loop (λs=>qB x0 yy x8 s.1 s.2) (dw,w64 (x8+1))).bind λt3=>
  match t3 with
  |.inl p=>Zv x8 p
  |.inr p=>some (.done p))
 else(
  some (.done dw))
def ut (x0:z6){σ:Type}(yy:σ->(Int×Int)->Option (σ×Bool))(sg:σ):Option σ :=
 (loop (λs=>Zu x0 yy s.1 s.2) (sg,0)).bind λt1=>
 some t1
def xu (l:TB)(n:Int):Option TB:=bif l.isEmpty&&(decide (0<n)&&decide (n<=1000000)) then some [] else none
def vD (mr:TB):Option TB :=
 some mr
def zU (slices:TA)(iu:TB)(pc:Int):R1_ :=
 bif decide (pc<((slices.length:Nat):Int)) then(
  (idx slices pc).bind λlu=>
  gd (iu.length+lu.length<=4294967296) <|
  some (.next ((iu++lu),w64 (pc+1))))
 else(
  some (.done iu))
def vF (slices:TA)(size:Int):Option TB :=
 (xu [] size).bind λr_=>
 (loop (λs=>zU slices s.1 s.2) (r_,0)).bind λt3=>
 vD t3
def zT (slices:TA)(l8:Int)(ig:Int):R7_ :=
 bif decide (ig<((slices.length:Nat):Int)) then(
  (idx slices ig).bind λly=>
  bif decide ((w64 (l8+((ly.length:Nat):Int)))<0) then(
   none)
  else(
   some (.next (w64 (l8+((ly.length:Nat):Int)),w64 (ig+1)))))
 else(
  some (.done l8))
def wV (slices:TA):Option TB :=
 (loop (λs=>zT slices s.1 s.2) (0,0)).bind λt4=>
 vF slices t4
abbrev zoy:Type:=Option (TB×ArN 64 (ArN 64 TB))
def vq (n_:Int)(f_:ArN 64 (ArN 64 TB))(out:TB):zoy :=
 bif ((out.length:Nat):Int) !=n_ then(
  some ([],f_))
 else(
  (zQ out).bind λr_=>
  gd (r_≠[]) <|
  some (r_,f_))
def xy (i7:Int):Option (LR Int TB) :=
 some (.next (w64 (i7+1)))
def we (m_:z6)(t_:Int)(n_:Int)(f_:ArN 64 (ArN 64 TB))(ap:List z8)(i7:Int):Option (LR Int TB) :=
 bif decide (i7<((ap.length:Nat):Int)) then(
  (idx ap i7).bind λal=>
  (idx m_.i t_).bind λdu=>
  (idx du i7).bind λbp=>
  bif al.r !=bp.r then(
   some (.done [i7]))
  else(
   bif decide (n_>1) then(
    bif al.o !=(-1) then(
     (idx (f_.l) al.o).bind λcell=>
     (idx (cell.l) bp.o).bind λco=>
     bif ((co.length:Nat):Int)==(w64 (n_-1)) then(
      (idx (f_.l) al.o).bind λiv=>
      (idx (iv.l) bp.o).bind λd9=>
      (wV ([[i7],d9])).bind λai=>
      some (.done ai))
     else(
      xy i7))
    else(
     xy i7))
   else(
    xy i7)))
 else(
  some (.done ([]:TB)))
def vz (m_:z6)(s_:Int)(t_:Int)(n_:Int)(f_:ArN 64 (ArN 64 TB)):zoy :=
 (idx m_.i s_).bind λap=>
 (loop (λs=>we m_ t_ n_ f_ ap s) 0).bind λt2=>
 vq n_ f_ t2
abbrev zni:Type:=Option (ArN 64 (ArN 64 TB))
def uk (s_:Int)(t_:Int)(w_:TB)(f_:ArN 64 (ArN 64 TB)):zni :=
 (idx (f_.l) s_).bind λcell=>
 (idx (cell.l) t_).bind λco=>
 (some (ArN.setI cell t_ w_)).bind λarr=>
 (some (ArN.setI f_ s_ arr)).bind λarr1=>
 (idx (arr1.l) t_).bind λiv=>
 (idx (iv.l) s_).bind λd9=>
 (some (ArN.setI iv s_ w_)).bind λarr2=>
 (some (ArN.setI arr1 t_ arr2)).bind λpt=>
 some pt
def u7 (f_:ArN 64 (ArN 64 TB)):zni :=
 some f_
abbrev zlz:Type:=Option (LR (ArN 64 (ArN 64 TB)×Int) (ArN 64 (ArN 64 TB)))
def u6 (n_:Int)(ni:ArN 64 (ArN 64 TB)):zlz :=
 some (.next (ni,w64 (n_+1)))
def wG (now:List y4)(od:ArN 64 (ArN 64 TB))(pd:Int):zlz :=
 bif decide (pd<((now.length:Nat):Int)) then(
  (idx now pd).bind λic=>
  (uk ic.S ic.T ic.Word od).bind λr_=>
  some (.next (r_,w64 (pd+1))))
 else(
  some (.done od))
def vZ (n_:Int)(p9:ArN 64 (ArN 64 TB))(now:List y4):zlz :=
 (loop (λs=>wG now s.1 s.2) (p9,0)).bind λt5=>
 u6 n_ t5
def yY (m_:z6)(n_:Int)(j9:ArN 64 (ArN 64 TB))(jk:List y4)(kx:Int)(ga:Int):Option (LR (ArN 64 (ArN 64 TB)×List y4) Empty) :=
 (idx (j9.l) kx).bind λcell=>
 (idx (cell.l) ga).bind λco=>
 bif !co.isEmpty then(
  some (.next (j9,jk)))
 else(
  (vz m_ kx ga n_ j9).bind λak=>
  bif !ak.1.isEmpty then(
   gd (jk.length+[(y4.mk kx ga ak.1 false)].length<=4294967296) <|
   some (.next (ak.2,(jk++[(y4.mk kx ga ak.1 false)]))))
  else(
   some (.next (ak.2,jk))))
def vY (m_:z6)(ky:ArN 64 (ArN 64 TB))(n_:Int):zlz :=
 bif decide (n_<(mx ((m_.i.length:Nat):Int) 2)) then(
  (UQ m_).bind λai=>
  (ut ai (yOf (λs x=>yY m_ n_ s.1 s.2 x.1 x.2)) (.next (ky,([]:List y4)))).bind λt6=>
  match t6 with
  |.next (j9,jk)=>(
   vZ n_ j9 jk)
  |.done z=>nomatch z)
 else(
  some (.done ky))
def uj (m_:z6):zni :=
 (loop (λs=>vY m_ s.1 s.2) ((ArN.rep 64 (ArN.rep 64 ([]:TB))),1)).bind λt2=>
 u7 t2
def uU (m_:z6)(s_:Int)(t_:Int):Option (TB×Bool×Int) :=
 (W2 m_ ([s_,t_])).bind λr_=>
 bif r_ !=0 then(
  some (([]:TB),false,r_))
 else(
  (uj m_).bind λai=>
  (idx (ai.l) s_).bind λcell=>
  (idx (cell.l) t_).bind λco=>
  (ye co).bind λak=>
  (zQ ak).bind λam=>
  some (am,decide (((am.length:Nat):Int)>0),0))
def Z7 (m_:z6)(x5:Int)(out:TA):z2H :=
 (Zo out m_.j).bind λr_=>
 some (r_.1,r_.2)
abbrev zox:Type:=Option (LR (Int×TA) ((Int×TA)))
def vM (m_:z6)(ge:Int)(aj:TA)(ft:Int)(ba:Int):zox :=
 (Qn ft ba).bind λak=>
 bif !ak then(
  some (.next (ge,aj)))
 else(
  (uU m_ ft ba).bind λam=>
  bif am.2.2 !=0 then(
   some (.done (am.2.2,aj)))
  else(
   gd (aj.length+[am.1].length<=4294967296) <|
   some (.next (ge,(aj++[am.1])))))
def Wc (m_:z6)(is:Unit):z2H :=
 (Yf ((m_.i.length:Nat):Int)).bind λai=>
 (vn ai (yOf (λs x=>vM m_ s.1 s.2 x.1 x.2)) (.next (0,([]:TA)))).bind λt2=>
 match t2 with
 |.next (ge,aj)=>(
  Z7 m_ ge aj)
 |.done (ge,aj)=>(
  some (([]:TA),ge))
def QN (m_:z6):z2H :=
 (w8 m_).bind λr_=>
 bif r_ !=0 then(
  some (([]:TA),r_))
 else(
  (Wc m_ ()).bind λai=>
  some (ai.1,ai.2))
def Vm (inputs:Int)(k_:Int):z2H :=
 (WR inputs k_ k_).bind λr_=>
 some (r_.1,r_.2)
def Xc (l_:TA):Vc :=
 bif ((l_.length:Nat):Int)==0 then(
  some ([[]]:TA))
 else(
  some l_)
def VL (a_:Int)(b_:Int)(x2:Int):Option Bool :=
 bif a_==x2 then(
  some true)
 else(
  some (b_==x2))
def uf (m_:z6)(x5:Int)(out:TA):z2H :=
 (Zo out m_.j).bind λr_=>
 some (r_.1,r_.2)
def yx (m_:z6)(is:Int)(ge:Int)(aj:TA)(ft:Int)(ba:Int):zox :=
 (VL ft ba is).bind λak=>
 bif !ak then(
  some (.next (ge,aj)))
 else(
  (uU m_ ft ba).bind λam=>
  bif am.2.2 !=0 then(
   some (.done (am.2.2,aj)))
  else(
   gd (aj.length+[am.1].length<=4294967296) <|
   some (.next (ge,(aj++[am.1])))))
def ur (m_:z6)(is:Int):z2H :=
 (Yf ((m_.i.length:Nat):Int)).bind λai=>
 (vn ai (yOf (λs x=>yx m_ is s.1 s.2 x.1 x.2)) (.next (0,([]:TA)))).bind λt2=>
 match t2 with
 |.next (ge,aj)=>(
  uf m_ ge aj)
 |.done (ge,aj)=>(
  some (([]:TA),ge))
def Kz (m_:z6)(s_:Int):z2H :=
 (w8 m_).bind λr_=>
 bif r_ !=0 then(
  some (([]:TA),r_))
 else(
  bif decide (s_<0) then(
   some (([]:TA),1))
  else(
   bif decide (s_>=((m_.i.length:Nat):Int)) then(
    some (([]:TA),1))
   else(
    (ur m_ s_).bind λai=>
    some (ai.1,ai.2))))
abbrev znh:Type:=Option (Option zF×Int)
def WU (m_:z6)(r_:TA×Int)(ai:TA×Int)(am:TA×Int)(az:TA×Int)(bn:TA)(lh:List TA):znh :=
 some ((some (zF.mk m_ r_.1 ai.1 bn lh am.1 az.1)),0)
def xK (m_:z6)(j4:List TA)(oe:Int):Option (LR (List TA×Int) (List TA⊕(Option zF×Int))) :=
 bif decide (oe<((m_.i.length:Nat):Int)) then(
  (Kz m_ oe).bind λcx=>
  bif cx.2 !=0 then(
   some (.done (.inr ((none:Option zF),cx.2))))
  else(
   (Xc cx.1).bind λgb=>
   gd (j4.length+[gb].length<=4294967296) <|
   some (.next ((j4++[gb]),w64 (oe+1)))))
 else(
  some (.done (.inl j4)))
def Zr (m_:z6)(r_:TA×Int)(ai:TA×Int)(ak:TA×Int)(am:TA×Int)(az:TA×Int):znh :=
 (Xc ak.1).bind λbn=>
 (loop (λs=>xK m_ s.1 s.2) (([]:List TA),0)).bind λt3=>
 match t3 with
 |.inl p=>WU m_ r_ ai am az bn p
 |.inr p=>some p
def qU (m_:z6)(bound:Int):znh :=
 (qP m_).bind λr_=>
 (v7 m_).bind λai=>
 (QN m_).bind λak=>
 (WT m_.j (w64 (bound-((m_.i.length:Nat):Int)))).bind λam=>
 (Vm m_.j (w64 (bound-((m_.i.length:Nat):Int)))).bind λaz=>
 bif r_.2 !=0 then(
  some ((none:Option zF),r_.2))
 else(
  bif ai.2 !=0 then(
   some ((none:Option zF),ai.2))
  else(
   bif ak.2 !=0 then(
    some ((none:Option zF),ak.2))
   else(
    bif am.2 !=0 then(
     some ((none:Option zF),am.2))
    else(
     bif az.2 !=0 then(
      some ((none:Option zF),az.2))
     else(
      Zr m_ r_ ai ak am az)))))
abbrev ziD:Type:=Option (zb×Bool)
def Zt (b_:zb)(br:List (zz Int))(cp:Int):ziD :=
 bif decide (cp>b_.w) then(
  some (b_,true))
 else(
  some ((zb.mk br cp b_.w),false))
abbrev zow:Type:=Option (LR (List (zz Int)×Int×Int×Bool×Int) ((List (zz Int)×Int)))
def Zs (fq:Int)(bm:List (zz Int))(ce:Int)(ia:Int)(nj:Bool):zow :=
 some (.next (bm,ce,ia,nj,w64 (fq+1)))
abbrev zng:Type:=Option (LR (List (zz Int)×Int×Int×Bool×Int) ((List (zz Int)×Int×Int×Bool)))
def vw (dy:Int)(ct:List (zz Int))(cg:Int)(nk:Bool)(next:Int):zng :=
 some (.next (ct,cg,next,nk,w64 (dy+1)))
def yn (aq:List (zz Int))(gc:Int)(dy:Int)(dt:Int)(eg:Int):zng :=
 (idx aq gc).bind λiw=>
 (idx (zz.toL iw) dt).bind λco=>
 (some (zz.setI iw dt (IntKind.i32.wrap (((aq.length:Nat):Int))))).bind λarr=>
 gd ((aq.set gc.toNat arr).length+([(zz.mk 0 0 0 0 0 0 0 0 0 0 0 0 0 0 0 0)]:List (zz Int)).length<=4294967296) <|
 vw dy ((aq.set gc.toNat arr)++([(zz.mk 0 0 0 0 0 0 0 0 0 0 0 0 0 0 0 0)]:List (zz Int))) eg true (IntKind.i32.wrap (((aq.length:Nat):Int)))
def vu (fl:TB)(aq:List (zz Int))(bc:Int)(gc:Int)(ka:Bool)(dy:Int):zng :=
 bif decide (dy<((fl.length:Nat):Int)) then(
  (idx fl dy).bind λdt=>
  (idx aq gc).bind λje=>
  (idx (zz.toL je) dt).bind λcell=>
  bif cell==0 then(
   bif !ka then(
    bif gc==0 then(
     bif ((aq.length:Nat):Int)==1 then(
      yn aq gc dy dt (w64 (bc+1)))
     else(
      (idx aq gc).bind λdp=>
      bif !((dp.e0==0)&&((dp.e1==0)&&((dp.e2==0)&&((dp.e3==0)&&((dp.e4==0)&&((dp.e5==0)&&((dp.e6==0)&&((dp.e7==0)&&((dp.e8==0)&&((dp.e9==0)&&((dp.e10==0)&&((dp.e11==0)&&((dp.e12==0)&&((dp.e13==0)&&((dp.e14==0)&&((dp.e15==0)&&true)))))))))))))))) then(
       yn aq gc dy dt (w64 (bc+1)))
      else(
       yn aq gc dy dt bc)))
    else(
     (idx aq gc).bind λem=>
     bif !((em.e0==0)&&((em.e1==0)&&((em.e2==0)&&((em.e3==0)&&((em.e4==0)&&((em.e5==0)&&((em.e6==0)&&((em.e7==0)&&((em.e8==0)&&((em.e9==0)&&((em.e10==0)&&((em.e11==0)&&((em.e12==0)&&((em.e13==0)&&((em.e14==0)&&((em.e15==0)&&true)))))))))))))))) then(
      yn aq gc dy dt (w64 (bc+1)))
     else(
      yn aq gc dy dt bc)))
   else(
    yn aq gc dy dt bc))
  else(
   vw dy aq bc ka cell))
 else(
  some (.done (aq,bc,gc,ka)))
def WV (parts:TA)(bh:List (zz Int))(cj:Int)(at_:Int)(nq:Bool)(fq:Int):zow :=
 bif decide (fq<((parts.length:Nat):Int)) then(
  (idx parts fq).bind λfl=>
  (loop (λs=>vu fl s.1 s.2.1 s.2.2.1 s.2.2.2.1 s.2.2.2.2) (bh,cj,at_,nq,0)).bind λt4=>
  Zs fq t4.1 t4.2.1 t4.2.2.1 t4.2.2.2)
 else(
  some (.done (bh,cj)))
def xm (parts:TA)(b_:zb):ziD :=
 (loop (λs=>WV parts s.1 s.2.1 s.2.2.1 s.2.2.2.1 s.2.2.2.2) (b_.x,b_.s,0,false,0)).bind λt2=>
 Zt b_ t2.1 t2.2
abbrev ziC:Type:=Option (LR (List (zz Int)×Int×Int×Int) ((zb×Bool)))
def Y6 (ba:Int)(bh:List (zz Int))(cj:Int)(fh:Int):ziC :=
 some (.next (bh,cj,fh,w64 (ba+1)))
abbrev z9c:Type:=Option (LR (List (zz Int)×Int×Int×Int) ((List (zz Int)×Int×Int)⊕(zb×Bool)))
def Y5 (gk:Int)(aq:List (zz Int))(bc:Int)(fj:Int):z9c :=
 some (.next (aq,bc,fj,w64 (gk+1)))
def Y2 (x_:zF)(b_:zb)(bj:TB)(a6:TB)(ct:List (zz Int))(cg:Int)(dz:Int)(ib:Int):z9c :=
 bif decide (ib<((x_.O.length:Nat):Int)) then(
  (idx x_.O ib).bind λfy=>
  (xm [bj,a6,fy] (zb.mk ct cg dz)).bind λr_=>
  bif r_.2 then(
   some (.done (.inr (b_,true))))
  else(
   some (.next (r_.1.x,r_.1.s,r_.1.w,w64 (ib+1)))))
 else(
  some (.done (.inl (ct,cg,dz))))
def Y3 (x_:zF)(b_:zb)(bj:TB)(bm:List (zz Int))(ce:Int)(d0:Int)(gk:Int):z9c :=
 bif decide (gk<((x_.F.length:Nat):Int)) then(
  (idx x_.F gk).bind λa6=>
  (loop (λs=>Y2 x_ b_ bj a6 s.1 s.2.1 s.2.2.1 s.2.2.2) (bm,ce,d0,0)).bind λt5=>
  match t5 with
  |.inl p=>Y5 gk p.1 p.2.1 p.2.2
  |.inr p=>some (.done (.inr p)))
 else(
  some (.done (.inl (bm,ce,d0))))
def Y4 (x_:zF)(b_:zb)(br:List (zz Int))(cp:Int)(fm:Int)(ba:Int):ziC :=
 bif decide (ba<((x_.p_.length:Nat):Int)) then(
  (idx x_.p_ ba).bind λbj=>
  (loop (λs=>Y3 x_ b_ bj s.1 s.2.1 s.2.2.1 s.2.2.2) (br,cp,fm,0)).bind λt3=>
  match t3 with
  |.inl p=>Y6 ba p.1 p.2.1 p.2.2
  |.inr p=>some (.done p))
 else(
  some (.done ((zb.mk br cp fm),false)))
def wU (x0:Qw)(x_:zF)(b_:zb):ziD :=
 (loop (λs=>Y4 x_ b_ s.1 s.2.1 s.2.2.1 s.2.2.2) (b_.x,b_.s,b_.w,0)).bind λt1=>
 some t1
def yu (x_:TA)(target:TB)(i_:Int):Option (Int×Bool) :=
 bif decide (i_<((x_.length:Nat):Int)) then(
  (idx x_ i_).bind λmq=>
  (yG mq target).bind λr_=>
  some (i_,r_==0))
 else(
  some (i_,false))
def yq (x_:TA)(target:TB)(fk:Int)(j_:Int):R7_ :=
 bif decide (fk<j_) then(
  (idx x_ (w64 (Int.fdiv (IntKind.u64.wrap (w64 (fk+j_))) (2^1)))).bind λl7=>
  (yG l7 target).bind λai=>
  bif decide (ai<0) then(
   some (.next (w64 ((w64 (Int.fdiv (IntKind.u64.wrap (w64 (fk+j_))) (2^1)))+1),j_)))
  else(
   some (.next (fk,w64 (Int.fdiv (IntKind.u64.wrap (w64 (fk+j_))) (2^1))))))
 else(
  some (.done fk))
def yR (x_:TA)(target:TB)(cmp:Unit):Option (Int×Bool) :=
 (loop (λs=>yq x_ target s.1 s.2) (0,((x_.length:Nat):Int))).bind λt2=>
 yu x_ target t2
def z11 (l_:TA)(w_:TB):Option Bool :=
 (yR l_ w_ ()).bind λr_=>
 some r_.2
def ki (w_:TB)(x1:TA):Option Bool :=
 (z11 x1 w_).bind λr_=>
 some r_
def uH:Option Int :=
 some (-1)
def xg (s_:TA)(f_:TA)(x8:Int):R3_ :=
 bif decide (x8<((s_.length:Nat):Int)) then(
  (idx s_ x8).bind λeb=>
  (ki eb f_).bind λr_=>
  bif r_ then(
   some (.done (.inr x8)))
  else(
   some (.next (w64 (x8+1)))))
 else(
  some (.done (.inl ())))
def vd (s_:TA)(f_:TA):Option Int :=
 (loop (λs=>xg s_ f_ s) 0).bind λt2=>
 match t2 with
 |.inl p=>uH
 |.inr p=>some p
def yV (bk:TA)(i_:Int):Vc :=
 gd ((0:Int)<=i_/\(i_:Int)<=((bk.length:Nat):Int)) <|
 gd ((0:Int)<=i_/\(i_:Int)<=((bk.length:Nat):Int)) <|
 gd ((0:Int)<=i_/\(i_:Int)<=(((bk.take i_.toNat++List.replicate (bk.length-i_.toNat) []).length:Nat):Int)) <|
 some ((bk.take i_.toNat++List.replicate (bk.length-i_.toNat) []).take i_.toNat)
def ym (j_:Int)(ng:TA)(qa:Int):zlA :=
 some (.next (ng,qa,w64 (j_+1)))
def w7 (kz:TA)(da:TA)(fk:Int)(j_:Int):zlA :=
 bif decide (j_<((da.length:Nat):Int)) then(
  (idx da j_).bind λeb=>
  (ki eb kz).bind λai=>
  bif !ai then(
   (idx da fk).bind λnn=>
   ym j_ (da.set fk.toNat eb) (w64 (fk+1)))
  else(
   ym j_ da fk))
 else(
  some (.done (da,fk)))
def xG (s_:TA)(kz:TA):Vc :=
 (vd s_ kz).bind λr_=>
 bif r_==(-1) then(
  some s_)
 else(
  (loop (λs=>w7 kz s.1 s.2.1 s.2.2) (s_,r_,w64 (r_+1))).bind λt2=>
  yV t2.1 t2.2)
def Zp (a_:TA)(b_:TA)(inputs:Int):z2H :=
 (WQ inputs ([a_,b_])).bind λr_=>
 bif r_ !=0 then(
  some (([]:TA),r_))
 else(
  (xT a_).bind λai=>
  (xG ai b_).bind λak=>
  (xA ak).bind λam=>
  some (am.1,am.2))
def ZS (m_:z6)(s_:Int):Option Int :=
 (xo m_).bind λr_=>
 bif r_ !=0 then(
  some r_)
 else(
  bif decide (s_<0) then(
   some 1)
  else(
   bif decide (s_>=((m_.i.length:Nat):Int)) then(
    some 1)
   else(
    some 0)))
def XC (bk:Int)(out:TB):Option (TB×Int) :=
 some (out,bk)
abbrev zov:Type:=Option (LR (Int×TB×Int) ((Int×TB)))
def vL (aj:TB)(ba:Int)(gz:Int)(nr:Int):zov :=
 (idx aj ba).bind λdn=>
 some (.next (gz,(aj.set ba.toNat nr),w64 (ba+1)))
def Qk (m_:z6)(w_:TB)(da:Int)(aj:TB)(ba:Int):zov :=
 bif decide (ba<((w_.length:Nat):Int)) then(
  (idx w_ ba).bind λfc=>
  (uc).bind λr_=>
  bif da !=(-1) then(
   (idx m_.i da).bind λap=>
   (idx ap fc).bind λal=>
   vL aj ba al.o al.r)
  else(
   vL aj ba r_.o r_.r))
 else(
  some (.done (da,aj)))
def Wb (m_:z6)(s_:Int)(w_:TB):Option (TB×Int) :=
 gd ((0:Int)<=((w_.length:Nat):Int)/\(((w_.length:Nat):Int):Int)<=4294967296) <|
 (loop (λs=>Qk m_ w_ s.1 s.2.1 s.2.2) (s_,(List.replicate ((w_.length:Nat):Int).toNat (0:Int)),0)).bind λt2=>
 XC t2.1 t2.2
def jj (m_:z6)(s_:Int)(w_:TB):Option (Int×Int) :=
 (ZS m_ s_).bind λr_=>
 bif r_ !=0 then(
  some (0,r_))
 else(
  (jK w_ m_.j).bind λai=>
  bif ai !=0 then(
   some (0,ai))
  else(
   (Wb m_ s_ w_).bind λak=>
   some (ak.2,0)))
def xc (x_:zF)(u_:TB)(v_:TB):Vc :=
 (jj x_.m_ 0 u_).bind λr_=>
 (jj x_.m_ r_.1 v_).bind λai=>
 (idx x_.P ai.1).bind λpk=>
 some pk
def Zm (jg:Int)(bm:List (zz Int))(ce:Int)(d0:Int):ziC :=
 some (.next (bm,ce,d0,w64 (jg+1)))
def Zl (j7:Int)(ct:List (zz Int))(cg:Int)(dz:Int):z9c :=
 some (.next (ct,cg,dz,w64 (j7+1)))
def uC (b_:zb)(u_:TB)(ez:TB)(ai:TA)(ju:List (zz Int))(eg:Int)(km:Int)(m0:Int):z9c :=
 bif decide (m0<((ai.length:Nat):Int)) then(
  (idx ai m0).bind λdm=>
  (xm [u_,ez,dm] (zb.mk ju eg km)).bind λak=>
  bif ak.2 then(
   some (.done (.inr (b_,true))))
  else(
   some (.next (ak.1.x,ak.1.s,ak.1.w,w64 (m0+1)))))
 else(
  some (.done (.inl (ju,eg,km))))
def Zi (x_:zF)(b_:zb)(u_:TB)(aq:List (zz Int))(bc:Int)(fj:Int)(j7:Int):z9c :=
 bif decide (j7<((x_.K.length:Nat):Int)) then(
  (idx x_.K j7).bind λez=>
  (xc x_ u_ ez).bind λai=>
  (loop (λs=>uC b_ u_ ez ai s.1 s.2.1 s.2.2.1 s.2.2.2) (aq,bc,fj,0)).bind λt6=>
  match t6 with
  |.inl p=>Zl j7 p.1 p.2.1 p.2.2
  |.inr p=>some (.done (.inr p)))
 else(
  some (.done (.inl (aq,bc,fj))))
def Zj (x_:zF)(b_:zb)(r_:TA×Int)(bh:List (zz Int))(cj:Int)(fh:Int)(jg:Int):ziC :=
 bif decide (jg<((r_.1.length:Nat):Int)) then(
  (idx r_.1 jg).bind λu_=>
  (loop (λs=>Zi x_ b_ u_ s.1 s.2.1 s.2.2.1 s.2.2.2) (bh,cj,fh,0)).bind λt4=>
  match t4 with
  |.inl p=>Zm jg p.1 p.2.1 p.2.2
  |.inr p=>some (.done p))
 else(
  some (.done ((zb.mk bh cj fh),false)))
def uD (x_:zF)(b_:zb)(br:List (zz Int))(cp:Int)(fm:Int):ziD :=
 (Zp x_.p_ x_.q_ x_.m_.j).bind λr_=>
 (loop (λs=>Zj x_ b_ r_ s.1 s.2.1 s.2.2.1 s.2.2.2) (br,cp,fm,0)).bind λt2=>
 some t2
def Zk (jh:Int)(lz:List (zz Int))(lk:Int)(ml:Int):z9c :=
 some (.next (lz,lk,ml,w64 (jh+1)))
def kD (fw:Int)(l4:List (zz Int))(ll:Int)(mp:Int):z9c :=
 some (.next (l4,ll,mp,w64 (fw+1)))
def kC (x_:zF)(b_:zb)(gq:TB)(a6:TB)(i8:List (zz Int))(ix:Int)(jv:Int)(my:Int):z9c :=
 bif decide (my<((x_.O.length:Nat):Int)) then(
  (idx x_.O my).bind λfy=>
  (xm [gq,a6,fy] (zb.mk i8 ix jv)).bind λam=>
  bif am.2 then(
   some (.done (.inr (b_,true))))
  else(
   some (.next (am.1.x,am.1.s,am.1.w,w64 (my+1)))))
 else(
  some (.done (.inl (i8,ix,jv))))
def Zg (x_:zF)(b_:zb)(gq:TB)(jw:List (zz Int))(ja:Int)(kn:Int)(fw:Int):z9c :=
 bif decide (fw<((x_.F.length:Nat):Int)) then(
  (idx x_.F fw).bind λa6=>
  (loop (λs=>kC x_ b_ gq a6 s.1 s.2.1 s.2.2.1 s.2.2.2) (jw,ja,kn,0)).bind λsc=>
  match sc with
  |.inl p=>kD fw p.1 p.2.1 p.2.2
  |.inr p=>some (.done (.inr p)))
 else(
  some (.done (.inl (jw,ja,kn))))
def Zh (x_:zF)(b_:zb)(jx:List (zz Int))(jb:Int)(ko:Int)(jh:Int):z9c :=
 bif decide (jh<((x_.q_.length:Nat):Int)) then(
  (idx x_.q_ jh).bind λgq=>
  (loop (λs=>Zg x_ b_ gq s.1 s.2.1 s.2.2.1 s.2.2.2) (jx,jb,ko,0)).bind λt9=>
  match t9 with
  |.inl p=>Zk jh p.1 p.2.1 p.2.2
  |.inr p=>some (.done (.inr p)))
 else(
  some (.done (.inl (jx,jb,ko))))
def wC (x0:Ug)(x_:zF)(b_:zb):ziD :=
 (loop (λs=>Zh x_ b_ s.1 s.2.1 s.2.2.1 s.2.2.2) (b_.x,b_.s,b_.w,0)).bind λt7=>
 match t7 with
 |.inl p=>uD x_ b_ p.1 p.2.1 p.2.2
 |.inr p=>some p
def kH (ba:Int)(bh:List (zz Int))(cj:Int)(fh:Int):ziC :=
 some (.next (bh,cj,fh,w64 (ba+1)))
def kG (gk:Int)(aq:List (zz Int))(bc:Int)(fj:Int):z9c :=
 some (.next (aq,bc,fj,w64 (gk+1)))
def vS (b_:zb)(bj:TB)(a6:TB)(r_:TA)(ct:List (zz Int))(cg:Int)(dz:Int)(ib:Int):z9c :=
 bif decide (ib<((r_.length:Nat):Int)) then(
  (idx r_ ib).bind λdm=>
  (xm [bj,a6,dm] (zb.mk ct cg dz)).bind λai=>
  bif ai.2 then(
   some (.done (.inr (b_,true))))
  else(
   some (.next (ai.1.x,ai.1.s,ai.1.w,w64 (ib+1)))))
 else(
  some (.done (.inl (ct,cg,dz))))
def kE (x_:zF)(b_:zb)(bj:TB)(bm:List (zz Int))(ce:Int)(d0:Int)(gk:Int):z9c :=
 bif decide (gk<((x_.F.length:Nat):Int)) then(
  (idx x_.F gk).bind λa6=>
  (xc x_ bj a6).bind λr_=>
  (loop (λs=>vS b_ bj a6 r_ s.1 s.2.1 s.2.2.1 s.2.2.2) (bm,ce,d0,0)).bind λt5=>
  match t5 with
  |.inl p=>kG gk p.1 p.2.1 p.2.2
  |.inr p=>some (.done (.inr p)))
 else(
  some (.done (.inl (bm,ce,d0))))
def kF (x_:zF)(b_:zb)(br:List (zz Int))(cp:Int)(fm:Int)(ba:Int):ziC :=
 bif decide (ba<((x_.p_.length:Nat):Int)) then(
  (idx x_.p_ ba).bind λbj=>
  (loop (λs=>kE x_ b_ bj s.1 s.2.1 s.2.2.1 s.2.2.2) (br,cp,fm,0)).bind λt3=>
  match t3 with
  |.inl p=>kH ba p.1 p.2.1 p.2.2
  |.inr p=>some (.done p))
 else(
  some (.done ((zb.mk br cp fm),false)))
def wc (x0:Vb)(x_:zF)(b_:zb):ziD :=
 (loop (λs=>kF x_ b_ s.1 s.2.1 s.2.2.1 s.2.2.2) (b_.x,b_.s,b_.w,0)).bind λt1=>
 some t1
def vT (x:zF)(s:Nat)(most:Int):Option (Option zb×Bool) :=
 (match s with|0=>wU ⟨⟩ x (zb.mk [zz.mk 0 0 0 0 0 0 0 0 0 0 0 0 0 0 0 0] 0 most)|1=>wC ⟨⟩ x (zb.mk [zz.mk 0 0 0 0 0 0 0 0 0 0 0 0 0 0 0 0] 0 most)|2=>wc ⟨⟩ x (zb.mk [zz.mk 0 0 0 0 0 0 0 0 0 0 0 0 0 0 0 0] 0 most)|_=>none).bind λr=>
 some (bif r.2 then none else some r.1,!r.2)
def xX (s_:TA):Vc :=
 some s_
def vX (out:TA):Vc :=
 (xX out).bind λr_=>
 some r_
abbrev zou:Type:=Option (LR (TA×List zh) TA)
def vW (ax:TA)(next:List zh):zou :=
 some (.next (ax,next))
abbrev znf:Type:=Option (LR (TA×List zh×Int) ((TA×List zh)))
def wF (ba:Int)(gx:TA)(ff:List zh):znf :=
 some (.next (gx,ff,w64 (ba+1)))
def vV (bo:TA)(ba:Int)(a8:zh)(cb:List zh)(pu:Bool):znf :=
 bif pu then(
  (zQ a8.w_).bind λai=>
  gd (bo.length+[ai].length<=4294967296) <|
  wF ba (bo++[ai]) cb)
 else(
  wF ba bo cb)
abbrev zot:Type:=Option (LR (List zh×Bool×Int) ((List zh×Bool)))
def wD (fg:Int)(og:List zh)(oh:Bool):zot :=
 some (.next (og,oh,w64 (fg+1)))
def yk (a8:zh)(a7:zz Int)(iq:List zh)(l9:Bool)(fg:Int):zot :=
 bif decide (fg<16) then(
  (idx [a7.e0,a7.e1,a7.e2,a7.e3,a7.e4,a7.e5,a7.e6,a7.e7,a7.e8,a7.e9,a7.e10,a7.e11,a7.e12,a7.e13,a7.e14,a7.e15] fg).bind λcell=>
  bif decide (cell>0) then(
   (zQ a8.w_).bind λak=>
   gd (ak.length+[fg].length<=4294967296) <|
   gd (iq.length+[(zh.mk cell (ak++[fg]))].length<=4294967296) <|
   wD fg (iq++[(zh.mk cell (ak++[fg]))]) false)
  else(
   wD fg iq l9))
 else(
  some (.done (iq,l9)))
def yl (b_:zb)(ay:List zh)(bo:TA)(cr:List zh)(ba:Int):znf :=
 bif decide (ba<((ay.length:Nat):Int)) then(
  (idx ay ba).bind λa8=>
  (idx b_.x a8.at_).bind λa7=>
  (loop (λs=>yk a8 a7 s.1 s.2.1 s.2.2) (cr,true,0)).bind λt7=>
  vV bo ba a8 t7.1 t7.2)
 else(
  some (.done (bo,cr)))
def vU (b_:zb)(aj:TA)(ay:List zh):zou :=
 bif decide (((ay.length:Nat):Int)>0) then(
  (loop (λs=>yl b_ ay s.1 s.2.1 s.2.2) (aj,([]:List zh),0)).bind λt4=>
  vW t4.1 t4.2)
 else(
  some (.done aj))
def wQ (b_:zb):Vc :=
 (loop (λs=>vU b_ s.1 s.2) (([]:TA),([(zh.mk 0 [])]:List zh))).bind λt2=>
 vX t2
def wt (s_:Nat)(m_:z6)(bound:Int)(bf:Int):z2H :=
 (Y8 m_ bound).bind λr_=>
 bif r_ !=0 then(
  some (([]:TA),r_))
 else(
  bif decide (bf<1) then(
   some (([]:TA),1))
  else(
   bif decide (bf>4096) then(
    some (([]:TA),1))
   else(
    (qU m_ bound).bind λai=>
    bif ai.2 !=0 then(
     some (([]:TA),13))
    else(
     (ai.1).bind λthere=>
     (vT there s_ bf).bind λak=>
     bif !ak.2 then(
      some (([]:TA),13))
     else(
      (ak.1).bind λee=>
      (wQ ee).bind λam=>
      (Xb am m_.j).bind λaz=>
      bif az !=0 then(
       some (([]:TA),az))
      else(
       some (am,0)))))))
def W1 (m_:z6)(bound:Int)(bf:Int):z2H :=
 (wt 0 m_ bound bf).bind λr_=>
 some (r_.1,r_.2)
def UP (m_:z6)(bound:Int)(bf:Int):z2H :=
 (wt 1 m_ bound bf).bind λr_=>
 some (r_.1,r_.2)
def WW (m_:z6)(bound:Int)(bf:Int):z2H :=
 (wt 2 m_ bound bf).bind λr_=>
 some (r_.1,r_.2)
def Xd (n_:XY Int):Option (XY Int×Int) :=
 some (n_,0)
def kI (ai:Option zF×Int)(ca:XY Int)(kl:Int):Option (LR (XY Int×Int) (XY Int⊕(XY Int×Int))) :=
 bif decide (kl<((([0,1,2]:TC).length:Nat):Int)) then(
  (idx ([0,1,2]) kl).bind λmj=>
  (ai.1).bind λthere=>
  (vT there mj 4096).bind λak=>
  bif !ak.2 then(
   some (.done (.inr ((XY.mk 0 0 0),3))))
  else(
   (ak.1).bind λee=>
   (idx (XY.toL ca) kl).bind λcell=>
   (some (XY.setI ca kl (mx ee.s 1))).bind λarr=>
   some (.next (arr,w64 (kl+1)))))
 else(
  some (.done (.inl ca)))
def Y7 (m_:z6)(bound:Int):Option (XY Int×Int) :=
 (Y8 m_ bound).bind λr_=>
 bif r_ !=0 then(
  some ((XY.mk 0 0 0),r_))
 else(
  (qU m_ bound).bind λai=>
  bif ai.2 !=0 then(
   some ((XY.mk 0 0 0),3))
  else(
   (loop (λs=>kI ai s.1 s.2) ((XY.mk 0 0 0),0)).bind λt2=>
   match t2 with
   |.inl p=>Xd p
   |.inr p=>some p))
def Jp (out:TA):Vc :=
 some out
def Ww (n_:Int)(ax:TA):z10 :=
 some (.next (ax,w64 (n_+1)))
def Wv (n_:Int)(next:TA):z10 :=
 Ww n_ next
def Wu (i_:Int)(ff:TA):z10 :=
 some (.next (ff,w64 (i_+1)))
def vh (inputs:Int)(aj:TA)(i_:Int)(cb:TA)(s_:Int):z10 :=
 bif decide (s_<inputs) then(
  (idx aj i_).bind λdn=>
  gd (([]:TB).length+dn.length<=4294967296) <|
  gd (dn.length+[s_].length<=4294967296) <|
  gd (cb.length+[(dn++[s_])].length<=4294967296) <|
  some (.next ((cb++[(dn++[s_])]),w64 (s_+1))))
 else(
  some (.done cb))
def vj (inputs:Int)(aj:TA)(cr:TA)(i_:Int):z10 :=
 bif decide (i_<((aj.length:Nat):Int)) then(
  (loop (λs=>vh inputs aj i_ s.1 s.2) (cr,0)).bind λt7=>
  Wu i_ t7)
 else(
  some (.done cr))
def uw (inputs:Int)(k_:Int)(aj:TA)(n_:Int):z10 :=
 bif decide (n_<k_) then(
  (loop (λs=>vj inputs aj s.1 s.2) (([]:TA),0)).bind λt5=>
  Wv n_ t5)
 else(
  some (.done aj))
def Xn (inputs:Int)(k_:Int):Vc :=
 (loop (λs=>uw inputs k_ s.1 s.2) (([[]]:TA),0)).bind λt2=>
 Jp t2
def Kl (out:TA):Vc :=
 some out
def qE (inputs:Int)(k_:Int)(aj:TA)(n_:Int):z10 :=
 bif decide (n_<=k_) then(
  (Xn inputs n_).bind λr_=>
  gd (aj.length+r_.length<=4294967296) <|
  some (.next ((aj++r_),w64 (n_+1))))
 else(
  some (.done aj))
def qG (inputs:Int)(k_:Int):Vc :=
 (loop (λs=>qE inputs k_ s.1 s.2) (([]:TA),0)).bind λt2=>
 Kl t2
def Ub:Option Int :=
 some 0
def Ym (a_:TB)(b_:TB)(i_:Int):R3_ :=
 bif decide (i_<((a_.length:Nat):Int)) then(
  (idx a_ i_).bind λdv=>
  (idx b_ i_).bind λdx=>
  bif decide (dv<dx) then(
   some (.done (.inr (-1))))
  else(
   (idx a_ i_).bind λi6=>
   (idx b_ i_).bind λl6=>
   bif decide (i6>l6) then(
    some (.done (.inr 1)))
   else(
    some (.next (w64 (i_+1))))))
 else(
  some (.done (.inl ())))
def wY (a_:TB)(b_:TB):Option Int :=
 bif ((a_.length:Nat):Int) !=((b_.length:Nat):Int) then(
  bif decide (((a_.length:Nat):Int)<((b_.length:Nat):Int)) then(
   some (-1))
  else(
   some 1))
 else(
  (loop (λs=>Ym a_ b_ s) 0).bind λt2=>
  match t2 with
  |.inl p=>Ub
  |.inr p=>some p)
def Q0 (w_:TB)(ir:Int)(dr:TA):Vc :=
 gd (([]:TB).length+w_.length<=4294967296) <|
 (idx dr ir).bind λbi=>
 some (dr.set ir.toNat w_)
def UZ (ir:Int)(j6:TA)(i_:Int):z10 :=
 bif decide (i_>ir) then(
  (idx j6 (w64 (i_-1))).bind λew=>
  (idx j6 i_).bind λnu=>
  some (.next ((j6.set i_.toNat ew),w64 (i_-1))))
 else(
  some (.done j6))
def Ya (l_:TA)(w_:TB)(ir:Int):Vc :=
 gd (l_.length+([[]]:TA).length<=4294967296) <|
 (loop (λs=>UZ ir s.1 s.2) ((l_++([[]]:TA)),w64 ((((l_++([[]]:TA)).length:Nat):Int)-1))).bind λt4=>
 Q0 w_ ir t4
def Q1 (l_:TA)(w_:TB)(ir:Int):Vc :=
 bif decide (ir<((l_.length:Nat):Int)) then(
  (idx l_ ir).bind λow=>
  (wY ow w_).bind λr_=>
  bif r_==0 then(
   some l_)
  else(
   Ya l_ w_ ir))
 else(
  Ya l_ w_ ir)
def UY (l_:TA)(w_:TB)(lb:Int)(l5:Int):R7_ :=
 bif decide (lb<l5) then(
  gd ((2:Int)≠0) <|
  (idx l_ (w64 (Int.tdiv (w64 (lb+l5)) 2))).bind λox=>
  (wY ox w_).bind λai=>
  bif decide (ai<0) then(
   some (.next (w64 ((w64 (Int.tdiv (w64 (lb+l5)) 2))+1),l5)))
  else(
   some (.next (lb,w64 (Int.tdiv (w64 (lb+l5)) 2)))))
 else(
  some (.done lb))
def Q2 (l_:TA)(w_:TB):Vc :=
 (loop (λs=>UY l_ w_ s.1 s.2) (0,((l_.length:Nat):Int))).bind λt5=>
 Q1 l_ w_ t5
def Km (out:TA):Vc :=
 some out
def qH (l_:TA)(aj:TA)(i_:Int):z10 :=
 bif decide (i_<((l_.length:Nat):Int)) then(
  (idx l_ i_).bind λbi=>
  (Q2 aj bi).bind λr_=>
  some (.next (r_,w64 (i_+1))))
 else(
  some (.done aj))
def YV (l_:TA):Vc :=
 (loop (λs=>qH l_ s.1 s.2) (([]:TA),0)).bind λt2=>
 Km t2
def jV (m_:z6):Vc :=
 (Yc m_).bind λr_=>
 (YV r_.1).bind λai=>
 some ai
def Q5 (out:TA):Vc :=
 some out
def Xo (i_:Int)(ax:TA):z10 :=
 some (.next (ax,w64 (i_+1)))
def vJ (a_:TA)(b_:TA)(i_:Int)(bo:TA)(k_:Int):z10 :=
 bif decide (k_<((b_.length:Nat):Int)) then(
  (idx a_ i_).bind λdv=>
  gd (([]:TB).length+dv.length<=4294967296) <|
  (idx b_ k_).bind λdx=>
  gd (dv.length+dx.length<=4294967296) <|
  (Q2 bo (dv++dx)).bind λr_=>
  some (.next (r_,w64 (k_+1))))
 else(
  some (.done bo))
def vK (a_:TA)(b_:TA)(aj:TA)(i_:Int):z10 :=
 bif decide (i_<((a_.length:Nat):Int)) then(
  (loop (λs=>vJ a_ b_ i_ s.1 s.2) (aj,0)).bind λt4=>
  Xo i_ t4)
 else(
  some (.done aj))
def xC (a_:TA)(b_:TA):Vc :=
 (loop (λs=>vK a_ b_ s.1 s.2) (([]:TA),0)).bind λt2=>
 Q5 t2
def Wt (m_:z6)(k_:Int):Vc :=
 (jV m_).bind λr_=>
 (qG m_.j k_).bind λai=>
 (xC r_ ai).bind λak=>
 some ak
def wy (m_:z6):Vc :=
 (Wt m_ 1).bind λr_=>
 some r_
def Qd (out:TB):Option TB :=
 some out
def Qc (m_:z6)(w_:TB)(bk:Int)(aj:TB)(k_:Int):Option (LR (Int×TB×Int) TB) :=
 bif decide (k_<((w_.length:Nat):Int)) then(
  (idx w_ k_).bind λfc=>
  (V1 m_ bk fc).bind λr_=>
  gd (aj.length+[r_.r].length<=4294967296) <|
  some (.next (r_.o,(aj++[r_.r]),w64 (k_+1))))
 else(
  some (.done aj))
def Qe (m_:z6)(s_:Int)(w_:TB):Option TB :=
 (loop (λs=>Qc m_ w_ s.1 s.2.1 s.2.2) (s_,([]:TB),0)).bind λt2=>
 Qd t2
def Yx:Option Int :=
 some 0
def jG (a_:TB)(b_:TB)(i_:Int):R3_ :=
 bif decide (i_<((a_.length:Nat):Int)) then(
  (idx a_ i_).bind λdv=>
  (idx b_ i_).bind λdx=>
  bif decide (dv<dx) then(
   some (.done (.inr (-1))))
  else(
   (idx a_ i_).bind λi6=>
   (idx b_ i_).bind λl6=>
   bif decide (i6>l6) then(
    some (.done (.inr 1)))
   else(
    some (.next (w64 (i_+1))))))
 else(
  some (.done (.inl ())))
def VB (a_:TB)(b_:TB):Option Int :=
 bif decide (((a_.length:Nat):Int)<((b_.length:Nat):Int)) then(
  some (-1))
 else(
  bif decide (((a_.length:Nat):Int)>((b_.length:Nat):Int)) then(
   some 1)
  else(
   (loop (λs=>jG a_ b_ s) 0).bind λt2=>
   match t2 with
   |.inl p=>Yx
   |.inr p=>some p))
def QD (a_:TB)(b_:TB):Option Bool :=
 (VB a_ b_).bind λr_=>
 some (r_==0)
def W5 (m_:z6)(w_:TB)(s_:Int)(t_:Int):Option Int :=
 (Qe m_ s_ w_).bind λr_=>
 (Qe m_ t_ w_).bind λai=>
 (QD r_ ai).bind λak=>
 bif ak then(
  some 0)
 else(
  some 1)
def Kp (out:TB):Option TB :=
 gd (out.length+([0]:TB).length<=4294967296) <|
 some (out++([0]:TB))
def z4C (inputs:Int)(aj:TB)(k_:Int):R8_ :=
 bif decide (k_>=0) then(
  (idx aj k_).bind λdn=>
  bif decide ((w64 (dn+1))<inputs) then(
   (idx aj k_).bind λjr=>
   (idx aj k_).bind λo7=>
   some (.done (.inr (aj.set k_.toNat (w64 (jr+1))))))
  else(
   (idx aj k_).bind λo8=>
   some (.next ((aj.set k_.toNat 0),w64 (k_-1)))))
 else(
  some (.done (.inl aj)))
def z04 (w_:TB)(inputs:Int):Option TB :=
 gd (([]:TB).length+w_.length<=4294967296) <|
 (loop (λs=>z4C inputs s.1 s.2) (w_,w64 (((w_.length:Nat):Int)-1))).bind λt2=>
 match t2 with
 |.inl p=>Kp p
 |.inr p=>some p
abbrev zos:Type:=Option (TB×Bool)
def V0:zos :=
 some (([]:TB),false)
def WZ (m_:z6)(s_:Int)(t_:Int)(w_:TB):Option (LR TB (Unit⊕(TB×Bool))) :=
 bif decide (((w_.length:Nat):Int)<(mx ((m_.i.length:Nat):Int) 2)) then(
  (W5 m_ w_ s_ t_).bind λr_=>
  bif r_==1 then(
   some (.done (.inr (w_,true))))
  else(
   (z04 w_ m_.j).bind λai=>
   some (.next ai)))
 else(
  some (.done (.inl ())))
def wv (m_:z6)(s_:Int)(t_:Int):zos :=
 (loop (λs=>WZ m_ s_ t_ s) ([]:TB)).bind λt2=>
 match t2 with
 |.inl p=>V0
 |.inr p=>some p
def Ws (out:TA):Vc :=
 (YV out).bind λr_=>
 some r_
def Wr (a_:Int)(ax:TA):z10 :=
 some (.next (ax,w64 (a_+1)))
def wu (b_:Int)(gx:TA):z10 :=
 some (.next (gx,w64 (b_+1)))
def Wp (m_:z6)(s_:Int)(a_:Int)(bo:TA)(b_:Int):z10 :=
 bif decide (b_<((m_.i.length:Nat):Int)) then(
  bif decide (s_<0) then(
   (wv m_ a_ b_).bind λai=>
   gd (bo.length+[ai.1].length<=4294967296) <|
   wu b_ (bo++[ai.1]))
  else(
   bif a_==s_ then(
    (wv m_ a_ b_).bind λak=>
    gd (bo.length+[ak.1].length<=4294967296) <|
    wu b_ (bo++[ak.1]))
   else(
    bif b_==s_ then(
     (wv m_ a_ b_).bind λam=>
     gd (bo.length+[am.1].length<=4294967296) <|
     wu b_ (bo++[am.1]))
    else(
     wu b_ bo))))
 else(
  some (.done bo))
def Jn (m_:z6)(s_:Int)(aj:TA)(a_:Int):z10 :=
 bif decide (a_<((m_.i.length:Nat):Int)) then(
  (loop (λs=>Wp m_ s_ a_ s.1 s.2) (aj,w64 (a_+1))).bind λt4=>
  Wr a_ t4)
 else(
  some (.done aj))
def Xj (m_:z6)(s_:Int):Vc :=
 (loop (λs=>Jn m_ s_ s.1 s.2) (([]:TA),0)).bind λt2=>
 Ws t2
def UX (m_:z6):Vc :=
 (Xj m_ (-1)).bind λr_=>
 some r_
def YU (l_:TA):Vc :=
 bif ((l_.length:Nat):Int)==0 then(
  some ([[]]:TA))
 else(
  some l_)
def W3 (a_:TB)(b_:TB):Option Bool :=
 bif decide (((a_.length:Nat):Int)<((b_.length:Nat):Int)) then(
  gd ((0:Int)<=0/\(0:Int)<=((a_.length:Nat):Int)/\(((a_.length:Nat):Int):Int)<=((b_.length:Nat):Int)) <|
  (wY a_ ((b_.drop 0).take (((a_.length:Nat):Int).toNat-0))).bind λr_=>
  some (r_==0))
 else(
  some false)
def Q3 (out:TA):Vc :=
 some out
def kQ (i_:Int)(ax:TA):z10 :=
 some (.next (ax,w64 (i_+1)))
def Xl (l_:TA)(aj:TA)(i_:Int)(oi:Bool):z10 :=
 bif !oi then(
  (idx l_ i_).bind λbi=>
  gd (aj.length+[bi].length<=4294967296) <|
  kQ i_ (aj++[bi]))
 else(
  kQ i_ aj)
def vH (l_:TA)(i_:Int)(lv:Bool)(k_:Int):Option (LR (Bool×Int) Bool) :=
 bif decide (k_<((l_.length:Nat):Int)) then(
  bif lv then(
   some (.next (true,w64 (k_+1))))
  else(
   (idx l_ i_).bind λew=>
   (idx l_ k_).bind λnu=>
   (W3 ew nu).bind λr_=>
   some (.next (r_,w64 (k_+1)))))
 else(
  some (.done lv))
def vI (l_:TA)(aj:TA)(i_:Int):z10 :=
 bif decide (i_<((l_.length:Nat):Int)) then(
  (loop (λs=>vH l_ i_ s.1 s.2) (false,0)).bind λt5=>
  Xl l_ aj i_ t5)
 else(
  some (.done aj))
def uZ (l_:TA):Vc :=
 (loop (λs=>vI l_ s.1 s.2) (([]:TA),0)).bind λt2=>
 Q3 t2
def z4B (m_:z6)(bound:Int):Vc :=
 (qG m_.j (w64 (bound-((m_.i.length:Nat):Int)))).bind λr_=>
 (wy m_).bind λai=>
 (xC ai r_).bind λak=>
 (UX m_).bind λam=>
 (YU am).bind λaz=>
 (xC ak az).bind λbn=>
 (uZ bn).bind λcx=>
 some cx
def Vv:Option Bool :=
 some true
def YF (a_:TA)(b_:TA)(i_:Int):zlB :=
 bif decide (i_<((a_.length:Nat):Int)) then(
  (idx a_ i_).bind λdv=>
  (idx b_ i_).bind λdx=>
  (wY dv dx).bind λr_=>
  bif r_ !=0 then(
   some (.done (.inr false)))
  else(
   some (.next (w64 (i_+1)))))
 else(
  some (.done (.inl ())))
def QB (a_:TA)(b_:TA):Option Bool :=
 bif ((a_.length:Nat):Int) !=((b_.length:Nat):Int) then(
  some false)
 else(
  (loop (λs=>YF a_ b_ s) 0).bind λt2=>
  match t2 with
  |.inl p=>Vv
  |.inr p=>some p)
def qL (a_:TA)(b_:TA):Option Bool :=
 (QB a_ b_).bind λr_=>
 bif r_ then(
  some (((a_.length:Nat):Int)==((a_.length:Nat):Int)))
 else(
  some false)
def Q4:Option Bool :=
 some false
def W4 (l_:TA)(w_:TB)(i_:Int):zlB :=
 bif decide (i_<((l_.length:Nat):Int)) then(
  (idx l_ i_).bind λbi=>
  (wY bi w_).bind λr_=>
  bif r_==0 then(
   some (.done (.inr true)))
  else(
   some (.next (w64 (i_+1)))))
 else(
  some (.done (.inl ())))
def Kn (l_:TA)(w_:TB):Option Bool :=
 (loop (λs=>W4 l_ w_ s) 0).bind λt2=>
 match t2 with
 |.inl p=>Q4
 |.inr p=>some p
def Jo (out:TA):Vc :=
 some out
def ZO (i_:Int)(ax:TA):z10 :=
 some (.next (ax,w64 (i_+1)))
def uv (a_:TA)(b_:TA)(aj:TA)(i_:Int):z10 :=
 bif decide (i_<((a_.length:Nat):Int)) then(
  (idx a_ i_).bind λdv=>
  (Kn b_ dv).bind λr_=>
  bif !r_ then(
   (idx a_ i_).bind λi6=>
   gd (aj.length+[i6].length<=4294967296) <|
   ZO i_ (aj++[i6]))
  else(
   ZO i_ aj))
 else(
  some (.done aj))
def Xm (a_:TA)(b_:TA):Vc :=
 (loop (λs=>uv a_ b_ s.1 s.2) (([]:TA),0)).bind λt2=>
 Jo t2
def z15 (m_:z6)(s_:Int):Vc :=
 (Xj m_ s_).bind λr_=>
 some r_
def Xk (a_:TA)(b_:TA):Vc :=
 gd (([]:TA).length+a_.length<=4294967296) <|
 gd (a_.length+b_.length<=4294967296) <|
 (YV (a_++b_)).bind λr_=>
 some r_
def WY (out:TA):Vc :=
 some out
def xM (m_:z6)(l_:TA)(aj:TA)(i_:Int):z10 :=
 bif decide (i_<((l_.length:Nat):Int)) then(
  (idx l_ i_).bind λbi=>
  (Xx m_ 0 bi).bind λr_=>
  (z15 m_ r_).bind λai=>
  (YU ai).bind λak=>
  gd ((0:Int)<=i_/\(i_:Int)<=w64 (i_+1)/\(w64 (i_+1):Int)<=((l_.length:Nat):Int)) <|
  (xC ((l_.drop i_.toNat).take ((w64 (i_+1)).toNat-i_.toNat)) ak).bind λam=>
  (Xk aj am).bind λaz=>
  some (.next (az,w64 (i_+1))))
 else(
  some (.done aj))
def uu (m_:z6)(l_:TA):Vc :=
 (loop (λs=>xM m_ l_ s.1 s.2) (([]:TA),0)).bind λt2=>
 WY t2
def z14 (m_:z6)(bound:Int):Vc :=
 (jV m_).bind λr_=>
 (wy m_).bind λai=>
 (Xm ai r_).bind λak=>
 (qG m_.j (w64 (bound-((m_.i.length:Nat):Int)))).bind λam=>
 (xC r_ am).bind λaz=>
 (UX m_).bind λbn=>
 (YU bn).bind λcx=>
 (xC az cx).bind λgb=>
 (Xn m_.j (w64 (bound-((m_.i.length:Nat):Int)))).bind λiy=>
 (xC ak iy).bind λgr=>
 (uu m_ gr).bind λim=>
 (Xk gb im).bind λj8=>
 (uZ j8).bind λmv=>
 some mv
def Kk (m_:z6)(bound:Int):Vc :=
 (qG m_.j (w64 (bound-((m_.i.length:Nat):Int)))).bind λr_=>
 (wy m_).bind λai=>
 (xC ai r_).bind λak=>
 (uu m_ ak).bind λam=>
 (uZ am).bind λaz=>
 some az
def Ky:Option z6 :=
 some (z6.mk 2 2 ([[(z8.mk 1 0),(z8.mk 0 0)],[(z8.mk 2 0),(z8.mk 1 1)],[(z8.mk 0 1),(z8.mk 2 0)]]))
def JK:Option Bool :=
 (Ky).bind λr_=>
 (W1 r_ 3 8).bind λai=>
 (UP r_ 3 4096).bind λak=>
 (WW r_ 3 4096).bind λam=>
 bif ai.2 !=0 then(
  some false)
 else(
  bif ak.2 !=0 then(
   some false)
  else(
   bif am.2 !=0 then(
    some false)
   else(
    (qL ai.1 ([[1,0],[1,1],[0,1,0],[0,1,1],[0,0,0,0],[0,0,0,1],[0,0,1,0],[0,0,1,1]])).bind λaz=>
    bif !az then(
     some false)
    else(
     gd ((0:Int)<=0/\(0:Int)<=7/\(7:Int)<=((([[1,0],[1,1],[0,1,0],[0,1,1],[0,0,0,0],[0,0,0,1],[0,0,1,0],[0,0,1,1]]:TA).length:Nat):Int)) <|
     (qL ak.1 ((([[1,0],[1,1],[0,1,0],[0,1,1],[0,0,0,0],[0,0,0,1],[0,0,1,0],[0,0,1,1]]:TA).drop 0).take ((7:Int).toNat-0))).bind λbn=>
     bif !bn then(
      some false)
     else(
      gd ((0:Int)<=0/\(0:Int)<=7/\(7:Int)<=((([[1,0],[1,1],[0,1,0],[0,1,1],[0,0,0,0],[0,0,0,1],[0,0,1,0],[0,0,1,1]]:TA).length:Nat):Int)) <|
      (qL am.1 ((([[1,0],[1,1],[0,1,0],[0,1,1],[0,0,0,0],[0,0,0,1],[0,0,1,0],[0,0,1,1]]:TA).drop 0).take ((7:Int).toNat-0))).bind λcx=>
      bif !cx then(
       some false)
      else(
       (W1 r_ 2 9).bind λgb=>
       (W1 r_ 8 9).bind λiy=>
       (W1 r_ 3 7).bind λgr=>
       (Y7 r_ 3).bind λim=>
       bif gb.2==1 then(
        bif iy.2==1 then(
         bif gr.2==13 then(
          bif im.2==0 then(
           some ((im.1.e0==8)&&((im.1.e1==7)&&((im.1.e2==7)&&true))))
          else(
           some false))
         else(
          some false))
        else(
         some false))
       else(
        some false)))))))
def ZB (x_:jA)(ck:Int):Option Bool :=
 (QL (jA.mk x_.C)).bind λr_=>
 gd ((3:Int)≠0) <|
 (W1 r_ (w64 (((r_.i.length:Nat):Int)+(w64 (Int.tmod ck 3)))) 4096).bind λai=>
 (UP r_ (w64 (((r_.i.length:Nat):Int)+(w64 (Int.tmod ck 3)))) 4096).bind λak=>
 (WW r_ (w64 (((r_.i.length:Nat):Int)+(w64 (Int.tmod ck 3)))) 4096).bind λam=>
 (Y7 r_ (w64 (((r_.i.length:Nat):Int)+(w64 (Int.tmod ck 3))))).bind λaz=>
 bif ai.2 !=0 then(
  some false)
 else(
  bif ak.2 !=0 then(
   some false)
  else(
   bif am.2 !=0 then(
    some false)
   else(
    bif az.2 !=0 then(
     some false)
    else(
     (z4B r_ (w64 (((r_.i.length:Nat):Int)+(w64 (Int.tmod ck 3))))).bind λbn=>
     (qL ai.1 bn).bind λcx=>
     bif !cx then(
      some false)
     else(
      (z14 r_ (w64 (((r_.i.length:Nat):Int)+(w64 (Int.tmod ck 3))))).bind λgb=>
      (qL ak.1 gb).bind λiy=>
      bif !iy then(
       some false)
      else(
       (Kk r_ (w64 (((r_.i.length:Nat):Int)+(w64 (Int.tmod ck 3))))).bind λgr=>
       (qL am.1 gr).bind λim=>
       bif !im then(
        some false)
       else(
        bif (az.1.e0==((ai.1.length:Nat):Int))&&((az.1.e1==((ak.1.length:Nat):Int))&&((az.1.e2==((am.1.length:Nat):Int))&&true)) then(
         (JK).bind λj8=>
         some j8)
        else(
         some false))))))))
abbrev F0_:=KD (eI .i64)
abbrev F1_:=zn5 (eI .i64)
abbrev F2_:=XK (eI .i32)
abbrev F3_:=eSl 1 false (eI .u8)
abbrev F4_:=eSl 1 true (eI .i64)
abbrev F5_:=eOs 1 true (eI .i64)
abbrev F6_:=eSl 1 false (eI .u16)
abbrev F7_:=eOs 1 false (eI .i64)
abbrev F8_:=eSl 1 false (eI .i64)
abbrev F9_:=XK F0_
abbrev uO:=wR (eI .i64) (eI .i64)
abbrev zoO:=eOs 16 false F2_
abbrev zlF:=eSl 16 false F2_
abbrev ZX:=eSl 1 true F4_
abbrev zlE:=eOs 1 true F4_
abbrev z6S:=eSl 1 true F8_
abbrev zoN:=eSl 1 false F4_
abbrev yQ:=eSl 1 false F8_
abbrev z0F:=eOs 1 false F8_
abbrev zlD:=eSp yQ
abbrev zoM:=eSl 2 true uO
abbrev xW:=eSl 2 false uO
abbrev YB:=eOs 2 false uO
abbrev Zf:=XJ (eI .i64) (eI .i64) (eI .i64)
abbrev UI:=yU (eI .i32) F8_
abbrev zoL:=eSl 1 false yQ
abbrev z0E:=VR (eI .i64) F9_
abbrev zpx:=eSl 1 true zoM
abbrev zpw:=eSl 1 false xW
abbrev Vd:=yz zlF (eI .i64) (eI .i64)
abbrev zoK:=jy (eI .u8) (eI .u8) (eI .u8) F3_ F6_
abbrev zgj:=ui (eI .i64) (eI .i64) zpx
abbrev xa:=ui (eI .i64) (eI .i64) zpw
abbrev zoJ:=Yh zoK
abbrev z3W:=eSp xa
abbrev Jv:=qO xa yQ yQ yQ zoL yQ yQ
abbrev zlC:=eSp Jv
def rpN {α:Type _}(n:Nat)(a:α)(l:List α):List α:=Nat.rec l (λ_ r=>a::r) n
abbrev aLn (n:Nat):H:=.a (.atom (.int .i64 ((n:Nat):Int)))
end Go.Own

namespace Go.Proofs
open Go.Proofs.Tryz
open Go.Shelf
def Tryz.so136_ren:Go.Shelf.Ren:=⟨λ|6=>136|15=>161|14=>160|28=>184|29=>185|20=>176|21=>177|22=>178|23=>179|24=>180|25=>181|26=>182|27=>183|46=>194|47=>195|48=>196|49=>197|50=>198|57=>201|n=>n,λ|22=>32|24=>51|25=>110|3=>3|39=>209|0=>0|53=>240|55=>242|4=>4|46=>233|45=>232|50=>237|5=>5|9=>9|66=>260|70=>264|76=>267|77=>268|n=>n,λ|n=>n⟩
def Tryz.so136:Go.Proofs.SlLaysF0.n6 prog Tryz.so136_ren:={
 mixed:=by kernel_rfl
 f6:=⟨f136.name,by decide,func136.trans (congrArg some (by kernel_rfl))⟩
 f14:=⟨f160.name,by decide,func160.trans (congrArg some (by kernel_rfl))⟩
 f15:=func161.trans (congrArg some (by kernel_rfl))
 f20:=⟨f176.name,by decide,func176.trans (congrArg some (by kernel_rfl))⟩
 f21:=⟨f177.name,by decide,func177.trans (congrArg some (by kernel_rfl))⟩
 f22:=⟨f178.name,by decide,func178.trans (congrArg some (by kernel_rfl))⟩
 f23:=⟨f179.name,by decide,func179.trans (congrArg some (by kernel_rfl))⟩
 f24:=⟨f180.name,by decide,func180.trans (congrArg some (by kernel_rfl))⟩
 f25:=⟨f181.name,by decide,func181.trans (congrArg some (by kernel_rfl))⟩
 f26:=⟨f182.name,by decide,func182.trans (congrArg some (by kernel_rfl))⟩
 f27:=⟨f183.name,by decide,func183.trans (congrArg some (by kernel_rfl))⟩
 f28:=func184.trans (congrArg some (by kernel_rfl))
 f29:=func185.trans (congrArg some (by kernel_rfl))
 f46:=⟨f194.name,by decide,func194.trans (congrArg some (by kernel_rfl))⟩
 f47:=func195.trans (congrArg some (by kernel_rfl))
 f48:=func196.trans (congrArg some (by kernel_rfl))
 f49:=⟨f197.name,by decide,func197.trans (congrArg some (by kernel_rfl))⟩
 f50:=⟨f198.name,by decide,func198.trans (congrArg some (by kernel_rfl))⟩
 f57:=⟨f201.name,by decide,func201.trans (congrArg some (by kernel_rfl))⟩
 t0:=underlying0
 a0:=isAgg0
 z0:=sizeOf0
 v0:=zeroValue0
 t3:=underlying3
 a3:=isAgg3
 z3:=sizeOf3
 v3:=zeroValue3
 t4:=underlying4
 a4:=isAgg4
 z4:=sizeOf4
 v4:=zeroValue4
 t5:=underlying5
 a5:=isAgg5
 z5:=sizeOf5
 v5:=zeroValue5
 t9:=underlying9
 a9:=isAgg9
 z9:=sizeOf9
 v9:=zeroValue9
 t22:=underlying32
 a22:=isAgg32
 z22:=sizeOf32
 v22:=zeroValue32
 t25:=underlying110
 a25:=isAgg110
 z25:=sizeOf110
 v25:=zeroValue110
 t39:=underlying209
 a39:=isAgg209
 z39:=sizeOf209
 v39:=zeroValue209
 t45:=underlying232
 a45:=isAgg232
 z45:=sizeOf232
 v45:=zeroValue232
 t46:=underlying233
 a46:=isAgg233
 z46:=sizeOf233
 v46:=zeroValue233
 t50:=underlying237
 a50:=isAgg237
 z50:=sizeOf237
 v50:=zeroValue237
 t53:=underlying240
 a53:=isAgg240
 z53:=sizeOf240
 v53:=zeroValue240
 t55:=underlying242
 a55:=isAgg242
 z55:=sizeOf242
 v55:=zeroValue242
 t66:=underlying260
 a66:=isAgg260
 z66:=sizeOf260
 v66:=zeroValue260
 t70:=underlying264
 a70:=isAgg264
 z70:=sizeOf264
 v70:=zeroValue264
 t76:=underlying267
 a76:=isAgg267
 z76:=sizeOf267
 v76:=zeroValue267
 t77:=underlying268
 a77:=isAgg268
 z77:=sizeOf268
 v77:=zeroValue268 }
end Go.Proofs
