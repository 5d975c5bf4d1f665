/- -/
import Derived.Test.YtedigoohmnbjfaaGreatPartB
import Derived.Test.YtedigoohmnbjfaaGreatProg
import Derived.Test.YtedigoohmnbjfaaGreatPartD
import Derived.Test.YtedigoohmnbjfaaGreatChecked
import Derived.Lib.AppendZerosOnto
import Derived.Lib.SliceRun
import Derived.WalkKit
import Derived.Lib.Walk
import Derived.Recover
import Derived.Defers
import Derived.Tactics2
import Derived.Test.YtedigoohmnbjfaaGreatPartC
import Derived.Shelf.SlSortCmp.NoneTotal
import Derived.Ground.SlsfProg
set_option linter.unusedVariables false
set_option linter.defProp false
set_option linter.unusedSimpArgs false
namespace Go.Ex
open Go.Proofs.Tryz
open Go.Proofs
def i32:EI:=⟨.slice 51,1,24,some [.slice none 0 0],false⟩
def q3:EqP prog 3 [.int .i64 0] false 1:=z1i (k:=.int .i64) underlying3 ⟨_,(by kernel_rfl:prog.info? 3=some Tryz.t3),rfl⟩ rfl
def q36:EqP prog 36 (z64 3 [.int .i64 0]) true 2:=Zi underlying36 q3 ⟨_,(by kernel_rfl:prog.info? 36=some t36),rfl⟩
def q33:EqP prog 33 [.int .i64 0] false 1:=z1i (k:=.int .i64) underlying33 ⟨_,(by kernel_rfl:prog.info? 33=some t33),rfl⟩ rfl
def q45:EqP prog 45 (z64 3 [.int .i64 0]) true 2:=Zi underlying45 q33 ⟨_,(by kernel_rfl:prog.info? 45=some Tryz.t45),rfl⟩
def i64:EI:=⟨.func,1,8,some [.nilFunc],false⟩
def q5:EqP prog 5 [.int .u8 0] false 1:=z1i (k:=.int .u8) underlying5 ⟨_,(by kernel_rfl:prog.info? 5=some Tryz.t5),rfl⟩ rfl
def q97:EqP prog 97 (z64 4 [.int .u8 0]) true 2:=Zi underlying97 q5 ⟨_,(by kernel_rfl:prog.info? 97=some t97),rfl⟩
def q98:EqP prog 98 (Vd [([.int .i64 0],false),([.int .i64 0],false)]) true 2:=X7 underlying98 (by kernel_rfl) ⟨_,(by kernel_rfl:prog.info? 98=some t98),rfl⟩ (by decide) (y8.cons (by decide) rfl (q3.mono (by decide)) (y8.cons (by decide) rfl (q3.mono (by decide)) (y8.nil)))
def q99:EqP prog 99 (Vd [([.int .i64 0],false),([.int .i64 0],false)]) true 2:=X7 underlying99 (by kernel_rfl) ⟨_,(by kernel_rfl:prog.info? 99=some t99),rfl⟩ (by decide) (y8.cons (by decide) rfl (q3.mono (by decide)) (y8.cons (by decide) rfl (q3.mono (by decide)) (y8.nil)))
def zpw:EqP prog 120 (z64 5 [.int .i64 0]) true 2:=Zi underlying120 q33 ⟨_,(by kernel_rfl:prog.info? 120=some t120),rfl⟩
def q21:EqP prog 21 [.int .i32 0] false 1:=z1i (k:=.int .i32) underlying21 ⟨_,(by kernel_rfl:prog.info? 21=some t21),rfl⟩ rfl
def zpM:EqP prog 161 (z64 16 [.int .i32 0]) true 2:=Zi underlying161 q21 ⟨_,(by kernel_rfl:prog.info? 161=some t161),rfl⟩
def zpv:EqP prog 162 (z64 16 [.int .i32 0]) true 2:=Zi underlying162 q21 ⟨_,(by kernel_rfl:prog.info? 162=some t162),rfl⟩
def zpL:EqP prog 216 (Vd [([.int .i64 0],false),([.int .i64 0],false),([.int .i64 0],false)]) true 2:=X7 underlying216 (by kernel_rfl) ⟨_,(by kernel_rfl:prog.info? 216=some t216),rfl⟩ (by decide) (y8.cons (by decide) rfl (q3.mono (by decide)) (y8.cons (by decide) rfl (q3.mono (by decide)) (y8.cons (by decide) rfl (q3.mono (by decide)) (y8.nil))))
def zpu:EqP prog 217 (Vd [([.int .i64 0],false),([.int .i64 0],false),([.int .i64 0],false)]) true 2:=X7 underlying217 (by kernel_rfl) ⟨_,(by kernel_rfl:prog.info? 217=some t217),rfl⟩ (by decide) (y8.cons (by decide) rfl (q3.mono (by decide)) (y8.cons (by decide) rfl (q3.mono (by decide)) (y8.cons (by decide) rfl (q3.mono (by decide)) (y8.nil))))
def zml:EqP prog 227 (z64 2 [.int .i64 0]) true 2:=Zi underlying227 q3 ⟨_,(by kernel_rfl:prog.info? 227=some t227),rfl⟩
def zpK:EqP prog 255 (z64 16 [.int .i64 0,.int .i64 0]) true 3:=Zi underlying255 zml ⟨_,(by kernel_rfl:prog.info? 255=some t255),rfl⟩
def zmk:EqP prog 256 (z64 16 [.int .i64 0,.int .i64 0]) true 3:=Zi underlying256 zml ⟨_,(by kernel_rfl:prog.info? 256=some t256),rfl⟩
def zpJ:EqP prog 258 (Vd [([.int .i64 0],false),([.int .i64 0,.int .i64 0,.int .i64 0,.int .i64 0,.int .i64 0,.int .i64 0,.int .i64 0,.int .i64 0,.int .i64 0,.int .i64 0,.int .i64 0,.int .i64 0,.int .i64 0,.int .i64 0,.int .i64 0,.int .i64 0,.int .i64 0,.int .i64 0,.int .i64 0,.int .i64 0,.int .i64 0,.int .i64 0,.int .i64 0,.int .i64 0,.int .i64 0,.int .i64 0,.int .i64 0,.int .i64 0,.int .i64 0,.int .i64 0,.int .i64 0,.int .i64 0],true)]) true 4:=X7 underlying258 (by kernel_rfl) ⟨_,(by kernel_rfl:prog.info? 258=some t258),rfl⟩ (by decide) (y8.cons (by decide) rfl (q3.mono (by decide)) (y8.cons (by decide) rfl (zmk.mono (by decide)) (y8.nil)))
def zof:EqP prog 259 (Vd [([.int .i64 0],false),([.int .i64 0,.int .i64 0,.int .i64 0,.int .i64 0,.int .i64 0,.int .i64 0,.int .i64 0,.int .i64 0,.int .i64 0,.int .i64 0,.int .i64 0,.int .i64 0,.int .i64 0,.int .i64 0,.int .i64 0,.int .i64 0,.int .i64 0,.int .i64 0,.int .i64 0,.int .i64 0,.int .i64 0,.int .i64 0,.int .i64 0,.int .i64 0,.int .i64 0,.int .i64 0,.int .i64 0,.int .i64 0,.int .i64 0,.int .i64 0,.int .i64 0,.int .i64 0],true)]) true 4:=X7 underlying259 (by kernel_rfl) ⟨_,(by kernel_rfl:prog.info? 259=some t259),rfl⟩ (by decide) (y8.cons (by decide) rfl (q3.mono (by decide)) (y8.cons (by decide) rfl (zmk.mono (by decide)) (y8.nil)))
end Go.Ex

namespace Go.Own
open Go.Proofs.Tryz
open Go.Proofs
def zlF:Value->Bool
 |.int _ _=>true
 |_=>false
def z6I:∀{z vs us:TE} {r:Bool},z.all zlF=true->z.length=vs.length->yU vs us=some r->Go.Ex.z5m z vs=true/\Go.Ex.yU vs us=some r
 |[],[],us,r,_,_,h=>by
  cases us with
  |nil=>simp only[yU,Option.some.injEq]at h;subst h;exact⟨rfl,rfl⟩
  |cons u us=>simp[yU]at h
 |a::z,v::vs,us,r,hz,hl,h=>by
  have q:∃k x u' k' y,v=.int k x/\us=.int k' y::u'/\k=k':=by
   cases us with
   |nil=>cases v<;>simp[yU]at h
   |cons u us=>cases v<;>cases u<;>simp[yU]at h;exact⟨_,_,_,_,_,rfl,rfl,h.1⟩
  obtain⟨k,x,u',k',y,rfl,rfl,hk⟩:=q;simp only[yU,hk,if_true,pT]at h;obtain⟨r',e1,rfl⟩:=h;simp only[List.all_cons,pB]at hz;obtain⟨q1,q2⟩:=z6I hz.2 (by simpa using hl) e1;refine⟨?_,by simp[Go.Ex.yU,hk,q2]⟩;cases a<;>first|(simp[zlF]at hz;done)|simpa[Go.Ex.z5m] using q1
 |[],_::_,_,_,_,hl,_=>by simp at hl
 |_::_,[],_,_,_,hl,_=>by simp at hl
variable {P:Program}{z:TE}
def zi5 {t n:Nat}{i:Go.Ex.EI}(h:Go.Ex.zcI P t i)  (hz:i.zero=some z)(hi:z.all zlF=true)(hs:i.size=n)(hn:z.length=n):zcI P t n:={
 guard:=h.guard
 run:=λvs us r w hv hu he=>by obtain⟨q1,q2⟩:=z6I hi (by rw[hn,hv]) he;exact h.run vs us r w (by rw[hs];exact hv) (by rw[hs];exact hu) (by simpa only[Go.Ex.znd,hz] using q1) q2 }
def exq {t dep:Nat}  (q:Go.Ex.EqP P t z true dep)(h1:Nat.ble dep P.depth=true:=by kernel_rfl)(h2:dep<=10000:=by decide):Go.Ex.zcI P t ⟨.func,z.length,0,some z,true⟩:=Go.Ex.zi4 q rfl rfl (Nat.le_of_ble_eq_true h1) h2
def KI {t n dep:Nat}  (q:Go.Ex.EqP P t z true dep)(hi:z.all zlF=true)(hn:z.length=n)(h1:Nat.ble dep P.depth=true:=by kernel_rfl)(h2:dep<=10000:=by decide):zcI P t n:=zi5 (exq q h1 h2) rfl hi hn hn
variable {h:Array Obj}{S:zj}
def zc0 {v:Value}(hv:v.oneCell'=true):zH S h (.atom v) [v] []:=by simp only[zH,Rep];exact⟨⟨trivial,hv⟩,trivial⟩
def zfa (sz:Nat):zH S h (.osl sz true []) [.slice none 0 0] []:=by simp only[zH];exact⟨none,0,rfl,(λ_=>rfl),pi _,pM _,by simp,.inl ⟨trivial,rfl,rfl,trivial⟩⟩
def z93 {sz:Nat}:zH S h (.dop (nlQ sz [])) [.slice none 0 0] []:=by simp only[zH,Rep];exact⟨⟨_,rfl,zbb.2 ⟨by simp[Rep],λ_=>rfl⟩⟩,trivial⟩
variable {a:A}
def KN {c:TE}(q:zH S h a c []):∀n,zL S h (List.replicate n a) (List.replicate n c).flatten []
 |0=>by simp[zL]
 |n+1=>by rw[mY,mY,List.flatten_cons];simp only[zL];exact⟨c,_,[],[],rfl,rfl,q,KN q n⟩
def zlb {c c':TE}(q:zH S h a c [])(e:c'=c):zH S h a c' []:=e▸q
variable {fs:List A}
def z1j {cs:TE}(q:zL S h fs cs []):zH S h (.agg fs) cs []:=by simpa only[zH] using q
def zbY:zL S h [] [] []:=by simp[zL]
def zbZ {c1 c2:TE}(q1:zH S h a c1 [])(q2:zL S h fs c2 []):zL S h (a::fs) (c1++c2) []:=by simp only[zL];exact⟨c1,c2,[],[],rfl,rfl,q1,q2⟩
def zc:A->Option TE
 |.atom v=>if v.oneCell'=true then some [v] else none
 |.osl _ true []=>some [.slice none 0 0]
 |.agg fs=>zcs fs
 |_=>none
where zcs:List A->Option TE
 |[]=>some []
 |a::l=>match zc a,zcs l with|some c,some d=>some (c++d)|_,_=>none
mutual
def ziQ:∀{a:A} {c:TE},zc a=some c->zH S h a c []
 |.atom v,c,e=>by
  simp only[zc]at e;split at e
  ·rename_i q;cases e;exact zc0 q
  cases e
 |.osl sz true [],c,e=>by simp only[zc]at e;cases e;exact zfa sz
 |.agg fs,c,e=>z1j (zfA (by simpa only[zc] using e))
def zfA:∀{l:List A} {c:TE},zc.zcs l=some c->zL S h l c []
 |[],c,e=>by simp only[zc.zcs]at e;cases e;exact zbY
 |a::l,c,e=>by
  simp only[zc.zcs]at e;split at e
  ·rename_i c d e1 e2;cases e;exact zbZ (ziQ e1) (zfA e2)
  cases e
end
def zq (z:Option A)(v:Option Value)(n:Nat):Prop:=match z,v with|some z,some v=>z.size=n/\zc z=some v.cells.toList|none,_=>True|_,_=>False
def tiq {t:Nat}{i:TI}(f:TypeInfo)(k:z2L P t i.kind)(e:i.eqn=true->zcI P t i.size:=by intro h;cases h)(h:P.info? t=some f:=by kernel_rfl)(h2:f.size=i.size:=by rfl)(h3:f.bytes=i.bytes:=by rfl)(h4:zq i.zero f.zero i.size:=by exact And.intro rfl rfl):wV P t i :=
 ⟨⟨f,h,h2,h3,λz hz=>by
  rw[hz]at h4;cases hv:f.zero with
  |none=>rw[hv]at h4;exact h4.elim
  |some v=>rw[hv]at h4;exact⟨v,rfl,h4.1,λS h=>ziQ h4.2⟩⟩,k,e⟩
def ti1:TI:=⟨.other,1,8,some (.atom .nilFunc),false⟩
def zjs:wV prog 1 ti1:=tiq Tryz.t1 ⟨_,underlying1,rfl⟩
def ti2:TI:=⟨.int .i64,1,8,some (.atom (.int .i64 0)),false⟩
def zj4:wV prog 2 ti2:=tiq Tryz.t2 (underlying2)
def ti3:TI:=⟨.int .i64,1,8,some (.atom (.int .i64 0)),false⟩
def zj3:wV prog 3 ti3:=tiq Tryz.t3 (underlying3)
def ti4:TI:=⟨.bool,1,1,some (.atom (.bool false)),false⟩
def zj2:wV prog 4 ti4:=tiq Tryz.t4 (underlying4)
def ti5:TI:=⟨.int .u8,1,1,some (.atom (.int .u8 0)),false⟩
def zj1:wV prog 5 ti5:=tiq Tryz.t5 (underlying5)
def ti9:TI:=⟨.str,1,16,some (.atom (.string ⟨#[]⟩)),false⟩
def zj0:wV prog 9 ti9:=tiq Tryz.t9 (underlying9)
def zo4:TI:=⟨.other,1,16,some (.atom .nilIface),false⟩
def zgZ:wV prog 20 zo4:=tiq t20 ⟨_,underlying20,rfl⟩
def zo3:TI:=⟨.int .i32,1,4,some (.atom (.int .i32 0)),false⟩
def zgY:wV prog 21 zo3:=tiq t21 (underlying21)
def zo2:TI:=⟨.slice 5,1,24,some (.osl 1 true []),false⟩
def zgX:wV prog 22 zo2:=tiq Tryz.t22 (underlying22)
def zo1:TI:=⟨.slice 43,1,24,some (.osl 1 true []),false⟩
def zgW:wV prog 23 zo1:=tiq t23 (underlying23)
def zo0:TI:=⟨.struct [(0,1),(1,1),(2,1),(3,1),(4,1)],5,56,some (.agg [.atom (.int .u8 0),.atom (.int .u8 0),.atom (.int .u8 0),.osl 1 true [],.osl 1 true []]),false⟩
def zgV:wV prog 25 zo0:=tiq Tryz.t25 ⟨_,underlying25,by kernel_rfl,by
  intro f hf;simp only[pl,hZ,or_false]at hf;rcases hf with rfl|rfl|rfl|rfl|rfl
  ·exact⟨Tryz.t5,by kernel_rfl⟩
  ·exact⟨Tryz.t5,by kernel_rfl⟩
  ·exact⟨Tryz.t5,by kernel_rfl⟩
  ·exact⟨Tryz.t22,by kernel_rfl⟩
  exact⟨t23,by kernel_rfl⟩⟩
def znZ:TI:=⟨.struct [(0,5)],5,56,some (.agg [.agg [.atom (.int .u8 0),.atom (.int .u8 0),.atom (.int .u8 0),.osl 1 true [],.osl 1 true []]]),false⟩
def zgU:wV prog 27 znZ:=tiq t27 ⟨_,underlying27,by kernel_rfl,by
  intro f hf;simp only[pl,hZ,or_false]at hf;rcases hf with rfl
  ·exact⟨Tryz.t25,by kernel_rfl⟩⟩
def znY:TI:=⟨.slice 96,1,24,some (.osl 1 true []),false⟩
def zgT:wV prog 28 znY:=tiq t28 (underlying28)
def znX:TI:=⟨.struct [(0,1),(1,1),(2,1)],3,40,some (.agg [.atom (.int .i64 0),.atom (.int .i64 0),.osl 1 true []]),false⟩
def zgS:wV prog 30 znX:=tiq t30 ⟨_,underlying30,by kernel_rfl,by
  intro f hf;simp only[pl,hZ,or_false]at hf;rcases hf with rfl|rfl|rfl
  ·exact⟨Tryz.t3,by kernel_rfl⟩
  ·exact⟨Tryz.t3,by kernel_rfl⟩
  exact⟨t28,by kernel_rfl⟩⟩
def znW:TI:=⟨.slice 51,1,24,some (.osl 1 true []),false⟩
def zgR:wV prog 32 znW:=tiq t32 (underlying32)
def znV:TI:=⟨.int .i64,1,8,some (.atom (.int .i64 0)),false⟩
def zgQ:wV prog 33 znV:=tiq t33 (underlying33)
def znU:TI:=⟨.array 3 3,3,24,some (.agg [.atom (.int .i64 0),.atom (.int .i64 0),.atom (.int .i64 0)]),true⟩
def zgP:wV prog 36 znU:=tiq t36 (underlying36) (λ_=>KI Go.Ex.q36 rfl rfl)
def znT:TI:=⟨.other,1,8,some (.atom .nilFunc),false⟩
def zgO:wV prog 41 znT:=tiq t41 ⟨_,underlying41,rfl⟩
def znS:TI:=⟨.int .u16,1,2,some (.atom (.int .u16 0)),false⟩
def zgN:wV prog 43 znS:=tiq t43 (underlying43)
def znR:TI:=⟨.array 3 32,3,72,some (.agg [.osl 1 true [],.osl 1 true [],.osl 1 true []]),false⟩
def zgM:wV prog 44 znR:=tiq t44 (underlying44)
def znQ:TI:=⟨.array 3 33,3,24,some (.agg [.atom (.int .i64 0),.atom (.int .i64 0),.atom (.int .i64 0)]),true⟩
def zgL:wV prog 45 znQ:=tiq Tryz.t45 (underlying45) (λ_=>KI Go.Ex.q45 rfl rfl)
def znP:TI:=⟨.slice 3,1,24,some (.osl 1 true []),false⟩
def zgK:wV prog 51 znP:=tiq t51 (underlying51)
def znO:TI:=⟨.struct [],0,0,some (.agg []),false⟩
def zgJ:wV prog 77 znO:=tiq Tryz.t77 ⟨_,underlying77,by kernel_rfl,by intro f hf;cases hf⟩
def znN:TI:=⟨.struct [],0,0,some (.agg []),false⟩
def zgI:wV prog 78 znN:=tiq t78 ⟨_,underlying78,by kernel_rfl,by intro f hf;cases hf⟩
def znM:TI:=⟨.struct [],0,0,some (.agg []),false⟩
def zgH:wV prog 79 znM:=tiq t79 ⟨_,underlying79,by kernel_rfl,by intro f hf;cases hf⟩
def znL:TI:=⟨.ptr 119,1,8,some (.atom (.pointer none)),false⟩
def zgG:wV prog 80 znL:=tiq t80 (underlying80)
def znK:TI:=⟨.slice 85,1,24,some (.osl 1 true []),false⟩
def zgF:wV prog 83 znK:=tiq t83 (underlying83)
def znJ:TI:=⟨.other,1,16,some (.atom .nilIface),false⟩
def zgE:wV prog 85 znJ:=tiq t85 ⟨_,underlying85,rfl⟩
def znI:TI:=⟨.ptr 91,1,8,some (.atom (.pointer none)),false⟩
def zgD:wV prog 86 znI:=tiq t86 (underlying86)
def znH:TI:=⟨.slice 162,1,24,some (.osl 16 true []),false⟩
def zgC:wV prog 89 znH:=tiq t89 (underlying89)
def znG:TI:=⟨.struct [(0,1),(1,1),(2,1)],3,40,some (.agg [.osl 16 true [],.atom (.int .i64 0),.atom (.int .i64 0)]),false⟩
def zgB:wV prog 91 znG:=tiq t91 ⟨_,underlying91,by kernel_rfl,by
  intro f hf;simp only[pl,hZ,or_false]at hf;rcases hf with rfl|rfl|rfl
  ·exact⟨t89,by kernel_rfl⟩
  ·exact⟨Tryz.t3,by kernel_rfl⟩
  exact⟨Tryz.t3,by kernel_rfl⟩⟩
def znF:TI:=⟨.slice 99,1,24,some (.osl 2 true []),false⟩
def zgA:wV prog 96 znF:=tiq t96 (underlying96)
def znE:TI:=⟨.struct [(0,1),(1,1)],2,16,some (.agg [.atom (.int .i64 0),.atom (.int .i64 0)]),true⟩
def zgz:wV prog 99 znE:=tiq t99 ⟨_,underlying99,by kernel_rfl,by
  intro f hf;simp only[pl,hZ,or_false]at hf;rcases hf with rfl|rfl
  ·exact⟨Tryz.t3,by kernel_rfl⟩
  exact⟨Tryz.t3,by kernel_rfl⟩⟩ (λ_=>KI Go.Ex.q99 rfl rfl)
def zjU:TI:=⟨.slice 4,1,24,some (.osl 1 true []),false⟩
def zdy:wV prog 101 zjU:=tiq t101 (underlying101)
def zjT:TI:=⟨.slice 101,1,24,some (.osl 1 true []),false⟩
def zdx:wV prog 102 zjT:=tiq t102 (underlying102)
def zjS:TI:=⟨.other,1,8,some (.atom .nilFunc),false⟩
def zdw:wV prog 109 zjS:=tiq t109 ⟨_,underlying109,rfl⟩
def zjR:TI:=⟨.other,1,8,some (.atom .nilFunc),false⟩
def zdv:wV prog 110 zjR:=tiq t110 ⟨_,underlying110,rfl⟩
def zjQ:TI:=⟨.slice 32,1,24,some (.osl 1 true []),false⟩
def zdu:wV prog 117 zjQ:=tiq t117 (underlying117)
def zjP:TI:=⟨.struct [(0,3),(3,1),(4,1),(5,1),(6,1),(7,1),(8,1)],9,184,some (.agg [.agg [.atom (.int .i64 0),.atom (.int .i64 0),.osl 1 true []],.osl 1 true [],.osl 1 true [],.osl 1 true [],.osl 1 true [],.osl 1 true [],.osl 1 true []]),false⟩
def zdt:wV prog 119 zjP:=tiq t119 ⟨_,underlying119,by kernel_rfl,by
  intro f hf;simp only[pl,hZ,or_false]at hf;rcases hf with rfl|rfl|rfl|rfl|rfl|rfl|rfl
  ·exact⟨t30,by kernel_rfl⟩
  ·exact⟨t32,by kernel_rfl⟩
  ·exact⟨t32,by kernel_rfl⟩
  ·exact⟨t32,by kernel_rfl⟩
  ·exact⟨t117,by kernel_rfl⟩
  ·exact⟨t32,by kernel_rfl⟩
  exact⟨t32,by kernel_rfl⟩⟩
def zjO:TI:=⟨.array 5 33,5,40,some (.agg [.atom (.int .i64 0),.atom (.int .i64 0),.atom (.int .i64 0),.atom (.int .i64 0),.atom (.int .i64 0)]),true⟩
def zds:wV prog 120 zjO:=tiq t120 (underlying120) (λ_=>KI Go.Ex.zpw rfl rfl)
def zjN:TI:=⟨.struct [],0,0,some (.agg []),false⟩
def zdr:wV prog 124 zjN:=tiq t124 ⟨_,underlying124,by kernel_rfl,by intro f hf;cases hf⟩
def zjM:TI:=⟨.other,1,8,some (.atom .nilFunc),false⟩
def zdq:wV prog 130 zjM:=tiq t130 ⟨_,underlying130,rfl⟩
def zjL:TI:=⟨.other,1,8,some (.atom .nilFunc),false⟩
def zdp:wV prog 132 zjL:=tiq t132 ⟨_,underlying132,rfl⟩
def zjK:TI:=⟨.other,1,8,some (.atom .nilFunc),false⟩
def zdo:wV prog 133 zjK:=tiq t133 ⟨_,underlying133,rfl⟩
def zjJ:TI:=⟨.other,1,8,some (.atom .nilFunc),false⟩
def zdn:wV prog 134 zjJ:=tiq t134 ⟨_,underlying134,rfl⟩
def zjI:TI:=⟨.struct [(0,1),(1,1)],2,16,some (.agg [.atom (.int .i64 0),.atom .nilFunc]),false⟩
def zdm:wV prog 141 zjI:=tiq t141 ⟨_,underlying141,by kernel_rfl,by
  intro f hf;simp only[pl,hZ,or_false]at hf;rcases hf with rfl|rfl
  ·exact⟨t33,by kernel_rfl⟩
  exact⟨t41,by kernel_rfl⟩⟩
def zjH:TI:=⟨.array 3 141,6,48,some (.agg [.agg [.atom (.int .i64 0),.atom .nilFunc],.agg [.atom (.int .i64 0),.atom .nilFunc],.agg [.atom (.int .i64 0),.atom .nilFunc]]),false⟩
def zdl:wV prog 142 zjH:=tiq t142 (underlying142)
def zjG:TI:=⟨.other,1,8,some (.atom .nilFunc),false⟩
def zdk:wV prog 144 zjG:=tiq t144 ⟨_,underlying144,rfl⟩
def zjF:TI:=⟨.struct [(0,1),(1,1)],2,32,some (.agg [.atom (.int .i32 0),.osl 1 true []]),false⟩
def zdj:wV prog 159 zjF:=tiq t159 ⟨_,underlying159,by kernel_rfl,by
  intro f hf;simp only[pl,hZ,or_false]at hf;rcases hf with rfl|rfl
  ·exact⟨t21,by kernel_rfl⟩
  exact⟨t51,by kernel_rfl⟩⟩
def zjE:TI:=⟨.slice 159,1,24,some (.osl 2 true []),false⟩
def zdi:wV prog 160 zjE:=tiq t160 (underlying160)
def zjD:TI:=⟨.array 16 21,16,64,some (.agg [.atom (.int .i32 0),.atom (.int .i32 0),.atom (.int .i32 0),.atom (.int .i32 0),.atom (.int .i32 0),.atom (.int .i32 0),.atom (.int .i32 0),.atom (.int .i32 0),.atom (.int .i32 0),.atom (.int .i32 0),.atom (.int .i32 0),.atom (.int .i32 0),.atom (.int .i32 0),.atom (.int .i32 0),.atom (.int .i32 0),.atom (.int .i32 0)]),true⟩
def zdh:wV prog 162 zjD:=tiq t162 (underlying162) (λ_=>KI Go.Ex.zpv rfl rfl)
def zjC:TI:=⟨.other,1,8,some (.atom .nilFunc),false⟩
def zdg:wV prog 167 zjC:=tiq t167 ⟨_,underlying167,rfl⟩
def zjB:TI:=⟨.other,1,8,some (.atom .nilFunc),false⟩
def zdf:wV prog 168 zjB:=tiq t168 ⟨_,underlying168,rfl⟩
def zjA:TI:=⟨.other,1,8,some (.atom .nilFunc),false⟩
def zde:wV prog 174 zjA:=tiq t174 ⟨_,underlying174,rfl⟩
def zjz:TI:=⟨.other,1,8,some (.atom .nilFunc),false⟩
def zdd:wV prog 175 zjz:=tiq t175 ⟨_,underlying175,rfl⟩
def zjy:TI:=⟨.struct [(0,1),(1,1)],2,32,some (.agg [.osl 1 true [],.atom (.bool false)]),false⟩
def zdc:wV prog 186 zjy:=tiq t186 ⟨_,underlying186,by kernel_rfl,by
  intro f hf;simp only[pl,hZ,or_false]at hf;rcases hf with rfl|rfl
  ·exact⟨t51,by kernel_rfl⟩
  exact⟨Tryz.t4,by kernel_rfl⟩⟩
def zjx:TI:=⟨.struct [(0,1),(1,1)],2,32,some (.agg [.osl 1 true [],.atom (.bool false)]),false⟩
def zdb:wV prog 187 zjx:=tiq t187 ⟨_,underlying187,by kernel_rfl,by
  intro f hf;simp only[pl,hZ,or_false]at hf;rcases hf with rfl|rfl
  ·exact⟨t51,by kernel_rfl⟩
  exact⟨Tryz.t4,by kernel_rfl⟩⟩
def zjw:TI:=⟨.other,1,8,some (.atom .nilFunc),false⟩
def zda:wV prog 189 zjw:=tiq t189 ⟨_,underlying189,rfl⟩
def zjv:TI:=⟨.other,1,8,some (.atom .nilFunc),false⟩
def zd9:wV prog 191 zjv:=tiq t191 ⟨_,underlying191,rfl⟩
def zju:TI:=⟨.other,1,8,some (.atom .nilFunc),false⟩
def zd8:wV prog 192 zju:=tiq t192 ⟨_,underlying192,rfl⟩
def zjt:TI:=⟨.other,1,8,some (.atom .nilFunc),false⟩
def zd7:wV prog 199 zjt:=tiq t199 ⟨_,underlying199,rfl⟩
def zjr:TI:=⟨.slice 227,1,24,some (.osl 2 true []),false⟩
def zd6:wV prog 202 zjr:=tiq t202 (underlying202)
def zjq:TI:=⟨.other,1,8,some (.atom .nilFunc),false⟩
def zd5:wV prog 204 zjq:=tiq t204 ⟨_,underlying204,rfl⟩
def zjp:TI:=⟨.other,1,8,some (.atom .nilFunc),false⟩
def zd4:wV prog 205 zjp:=tiq t205 ⟨_,underlying205,rfl⟩
def zjo:TI:=⟨.int .u64,1,8,some (.atom (.int .u64 0)),false⟩
def zd3:wV prog 209 zjo:=tiq t209 (underlying209)
def zjn:TI:=⟨.other,1,8,some (.atom .nilFunc),false⟩
def zd2:wV prog 213 zjn:=tiq t213 ⟨_,underlying213,rfl⟩
def zjm:TI:=⟨.other,1,8,some (.atom .nilFunc),false⟩
def zd1:wV prog 214 zjm:=tiq t214 ⟨_,underlying214,rfl⟩
def zjl:TI:=⟨.struct [(0,1),(1,1),(2,1)],3,24,some (.agg [.atom (.int .i64 0),.atom (.int .i64 0),.atom (.int .i64 0)]),true⟩
def zd0:wV prog 217 zjl:=tiq t217 ⟨_,underlying217,by kernel_rfl,by
  intro f hf;simp only[pl,hZ,or_false]at hf;rcases hf with rfl|rfl|rfl
  ·exact⟨Tryz.t3,by kernel_rfl⟩
  ·exact⟨Tryz.t3,by kernel_rfl⟩
  exact⟨Tryz.t3,by kernel_rfl⟩⟩ (λ_=>KI Go.Ex.zpu rfl rfl)
def zjk:TI:=⟨.other,1,8,some (.atom (.map none)),false⟩
def zcZ:wV prog 218 zjk:=tiq t218 ⟨_,underlying218,rfl⟩
def zjj:TI:=⟨.array 64 51,64,1536,some (.agg (List.replicate 64 (.dop (nlQ 1 [])))),false⟩
def zcY:wV prog 221 zjj:=⟨⟨t221,by kernel_rfl,rfl,rfl,λz h=>by cases h;exact⟨_,rfl,by kernel_rfl,λS h=>zlb (z1j (KN (z93) 64)) (by kernel_rfl)⟩⟩,underlying221,by intro h;cases h⟩
def zji:TI:=⟨.ptr 246,1,8,some (.atom (.pointer none)),false⟩
def zcX:wV prog 222 zji:=tiq t222 (underlying222)
def zjh:TI:=⟨.other,1,8,some (.atom .nilFunc),false⟩
def zcW:wV prog 224 zjh:=tiq t224 ⟨_,underlying224,rfl⟩
def zjg:TI:=⟨.other,1,8,some (.atom .nilFunc),false⟩
def zcV:wV prog 225 zjg:=tiq t225 ⟨_,underlying225,rfl⟩
def zjf:TI:=⟨.array 2 3,2,16,some (.agg [.atom (.int .i64 0),.atom (.int .i64 0)]),true⟩
def zcU:wV prog 227 zjf:=tiq t227 (underlying227) (λ_=>KI Go.Ex.zml rfl rfl)
def zje:TI:=⟨.other,1,8,some (.atom .nilFunc),false⟩
def zcT:wV prog 229 zje:=tiq t229 ⟨_,underlying229,rfl⟩
def zjd:TI:=⟨.other,1,8,some (.atom .nilFunc),false⟩
def zcS:wV prog 243 zjd:=tiq t243 ⟨_,underlying243,rfl⟩
def zjc:TI:=⟨.slice 217,1,24,some (.osl 3 true []),false⟩
def zcR:wV prog 244 zjc:=tiq t244 (underlying244)
def zjb:TI:=⟨.array 64 221,4096,98304,some (.agg (List.replicate 64 (.agg (List.replicate 64 (.dop (nlQ 1 [])))))),false⟩
def zcQ:wV prog 246 zjb:=⟨⟨t246,by kernel_rfl,rfl,rfl,λz h=>by cases h;exact⟨_,rfl,by kernel_rfl,λS h=>zlb (z1j (KN (z1j (KN (z93) 64)) 64)) (by kernel_rfl)⟩⟩,underlying246,by intro h;cases h⟩
def zja:TI:=⟨.slice 251,1,24,some (.osl 4 true []),false⟩
def zcP:wV prog 247 zja:=tiq t247 (underlying247)
def zj9:TI:=⟨.struct [(0,1),(1,1),(2,1),(3,1)],4,48,some (.agg [.atom (.int .i64 0),.atom (.int .i64 0),.osl 1 true [],.atom (.bool false)]),false⟩
def zcO:wV prog 251 zj9:=tiq t251 ⟨_,underlying251,by kernel_rfl,by
  intro f hf;simp only[pl,hZ,or_false]at hf;rcases hf with rfl|rfl|rfl|rfl
  ·exact⟨Tryz.t3,by kernel_rfl⟩
  ·exact⟨Tryz.t3,by kernel_rfl⟩
  ·exact⟨t51,by kernel_rfl⟩
  exact⟨Tryz.t4,by kernel_rfl⟩⟩
def zj8:TI:=⟨.other,1,8,some (.atom .nilFunc),false⟩
def zcN:wV prog 253 zj8:=tiq t253 ⟨_,underlying253,rfl⟩
def zj7:TI:=⟨.other,1,8,some (.atom (.map none)),false⟩
def zcM:wV prog 254 zj7:=tiq t254 ⟨_,underlying254,rfl⟩
def zj6:TI:=⟨.array 16 227,32,256,some (.agg [.agg [.atom (.int .i64 0),.atom (.int .i64 0)],.agg [.atom (.int .i64 0),.atom (.int .i64 0)],.agg [.atom (.int .i64 0),.atom (.int .i64 0)],.agg [.atom (.int .i64 0),.atom (.int .i64 0)],.agg [.atom (.int .i64 0),.atom (.int .i64 0)],.agg [.atom (.int .i64 0),.atom (.int .i64 0)],.agg [.atom (.int .i64 0),.atom (.int .i64 0)],.agg [.atom (.int .i64 0),.atom (.int .i64 0)],.agg [.atom (.int .i64 0),.atom (.int .i64 0)],.agg [.atom (.int .i64 0),.atom (.int .i64 0)],.agg [.atom (.int .i64 0),.atom (.int .i64 0)],.agg [.atom (.int .i64 0),.atom (.int .i64 0)],.agg [.atom (.int .i64 0),.atom (.int .i64 0)],.agg [.atom (.int .i64 0),.atom (.int .i64 0)],.agg [.atom (.int .i64 0),.atom (.int .i64 0)],.agg [.atom (.int .i64 0),.atom (.int .i64 0)]]),true⟩
def zcL:wV prog 256 zj6:=tiq t256 (underlying256) (λ_=>KI Go.Ex.zmk rfl rfl)
def zj5:TI:=⟨.struct [(0,1),(1,32)],33,264,some (.agg [.atom (.int .i64 0),.agg [.agg [.atom (.int .i64 0),.atom (.int .i64 0)],.agg [.atom (.int .i64 0),.atom (.int .i64 0)],.agg [.atom (.int .i64 0),.atom (.int .i64 0)],.agg [.atom (.int .i64 0),.atom (.int .i64 0)],.agg [.atom (.int .i64 0),.atom (.int .i64 0)],.agg [.atom (.int .i64 0),.atom (.int .i64 0)],.agg [.atom (.int .i64 0),.atom (.int .i64 0)],.agg [.atom (.int .i64 0),.atom (.int .i64 0)],.agg [.atom (.int .i64 0),.atom (.int .i64 0)],.agg [.atom (.int .i64 0),.atom (.int .i64 0)],.agg [.atom (.int .i64 0),.atom (.int .i64 0)],.agg [.atom (.int .i64 0),.atom (.int .i64 0)],.agg [.atom (.int .i64 0),.atom (.int .i64 0)],.agg [.atom (.int .i64 0),.atom (.int .i64 0)],.agg [.atom (.int .i64 0),.atom (.int .i64 0)],.agg [.atom (.int .i64 0),.atom (.int .i64 0)]]]),true⟩
def z87:wV prog 259 zj5:=tiq t259 ⟨_,underlying259,by kernel_rfl,by
  intro f hf;simp only[pl,hZ,or_false]at hf;rcases hf with rfl|rfl
  ·exact⟨Tryz.t3,by kernel_rfl⟩
  exact⟨t256,by kernel_rfl⟩⟩ (λ_=>KI Go.Ex.zof rfl rfl)
def tiL:List (Nat×TI):=[(1,ti1),(2,ti2),(3,ti3),(4,ti4),(5,ti5),(9,ti9),(20,zo4),(21,zo3),(22,zo2),(23,zo1),(25,zo0),(27,znZ),(28,znY),(30,znX),(32,znW),(33,znV),(36,znU),(41,znT),(43,znS),(44,znR),(45,znQ),(51,znP),(77,znO),(78,znN),(79,znM),(80,znL),(83,znK),(85,znJ),(86,znI),(89,znH),(91,znG),(96,znF),(99,znE),(101,zjU),(102,zjT),(109,zjS),(110,zjR),(117,zjQ),(119,zjP),(120,zjO),(124,zjN),(130,zjM),(132,zjL),(133,zjK),(134,zjJ),(141,zjI),(142,zjH),(144,zjG),(159,zjF),(160,zjE),(162,zjD),(167,zjC),(168,zjB),(174,zjA),(175,zjz),(186,zjy),(187,zjx),(189,zjw),(191,zjv),(192,zju),(199,zjt),(202,zjr),(204,zjq),(205,zjp),(209,zjo),(213,zjn),(214,zjm),(217,zjl),(218,zjk),(221,zjj),(222,zji),(224,zjh),(225,zjg),(227,zjf),(229,zje),(243,zjd),(244,zjc),(246,zjb),(247,zja),(251,zj9),(253,zj8),(254,zj7),(256,zj6),(259,zj5)]
def wD:TT:=λt=>(tiL.find? λp=>p.1==t).map (·.2)
def zcB (P:Program):List (Nat×TI)->Prop
 |[]=>True
 |p::l=>wV P p.1 p.2/\zcB P l
def zcB.mem:∀{l:List (Nat×TI)},zcB P l->∀p∈l,wV P p.1 p.2
 |p::_,h,q,hq=>by
  rcases pl.1 hq with rfl|hq
  ·exact h.1
  exact zcB.mem h.2 q hq
 |[],_,_,hq=>by cases hq
def ziZ:zcB prog tiL:=⟨zjs,zj4,zj3,zj2,zj1,zj0,zgZ,zgY,zgX,zgW,zgV,zgU,zgT,zgS,zgR,zgQ,zgP,zgO,zgN,zgM,zgL,zgK,zgJ,zgI,zgH,zgG,zgF,zgE,zgD,zgC,zgB,zgA,zgz,zdy,zdx,zdw,zdv,zdu,zdt,zds,zdr,zdq,zdp,zdo,zdn,zdm,zdl,zdk,zdj,zdi,zdh,zdg,zdf,zde,zdd,zdc,zdb,zda,zd9,zd8,zd7,zd6,zd5,zd4,zd3,zd2,zd1,zd0,zcZ,zcY,zcX,zcW,zcV,zcU,zcT,zcS,zcR,zcQ,zcP,zcO,zcN,zcM,zcL,z87,trivial⟩
def zu:xP prog wD:=by intro t i h;unfold wD at h;rw[pT]at h;obtain⟨p,h1,rfl⟩:=h;have h2:=List.find?_some h1;have h3:=ziZ.mem p (List.mem_of_find?_eq_some h1);rw[beq_iff_eq.1 h2]at h3;exact h3
end Go.Own

namespace Go.Proofs
open Go.Proofs.Tryz
open Go.RowKit Go.Lib
def Tryz.groI:(prog.info? 3).map (λi=>(i.size,i.bytes,i.zero))=some (1,8,some (.int .i64 0)):=by kernel_rfl
set_option maxHeartbeats 4000000 in
set_option maxRecDepth 100000 in
def Tryz.gro_run (p:Option Addr)(n:Nat)(w:World)(h0:0<n)(h1:n<=1000000) :
  Calls prog 202 #[.slice p 0 0,.int .i64 n] w λe w'=>
   e=.returned (.slice (some ⟨w.heap.size,0,none⟩) 0 (grownCap w n 0 3)) /\
   w'=w.drew.alloc (.cells (#[]++Builtin.zeroCells (Value.int .i64 0).cells n++Builtin.zeroCells (Value.int .i64 0).cells (grownCap w n 0 3-n)) 3):=by
 obtain⟨i0,hi0,hi⟩:=pT.1 Tryz.groI;obtain⟨hs0,hi⟩:=Prod.mk.inj hi;obtain⟨hb0,hz0⟩:=Prod.mk.inj hi;have mixed:prog.follows .mixedOrders=true:=by kernel_rfl
 have h1':¬((n:Int)<0):=by omega
 have h3:wrap64 ((n:Int))=(n:Int):=by unfold wrap64;omega
 have h4:(n:Int)>0:=by omega
 have hold:(Builtin.firstCells i0.size 0 (.slice p 0 0)).run prog w.drew=.ok ([]:List Value).toArray w.drew:=by
  cases p with
  |none=>exact run_firstCells_none w.drew i0.size 0 0 0
  |some a=>exact run_firstCells_some w.drew i0.size 0 a 0 0 [] (by simp) (λj v hj=>by simp at hj)
 have hrz:∀ty,(Builtin.append_ #[51,3] ty #[.slice p 0 0,.int .i64 (n:Int)]).run prog w =
   .ok (.slice (some ⟨w.heap.size,0,none⟩) n (grownCap w n 0 3)) (w.drew.alloc (.cells (#[]++Builtin.zeroCells (Value.int .i64 0).cells n++Builtin.zeroCells (Value.int .i64 0).cells (grownCap w n 0 3-n)) 3)):=λty=>by
  have h:=Lib.run_append_grow_zeros w 51 3 ty 3 i0 (.int .i64 0) .i64 .i64 underlying51 underlying3 hi0 hz0 p 0 0 [] hold n h0 (by omega) (by omega) (by omega)
   (by rw[hb0];omega)
   (by rw[gF];exact growslice_fits h0 (by rw[hb0];omega))
  rw[gF]at h;exact h
 have hGn:n<=grownCap w n 0 3:=grownCap_ge w _ _ _;obtain⟨G,hG⟩:∃G,G=grownCap w n 0 3:=⟨_,rfl⟩;rw[<-hG]at hrz hGn⊢;have hG63:G<=9223372036854775807:=by have:=grownCap_le_maxLen w n 0 3 (by unfold maxLen;omega);rw[<-hG]at this;unfold maxLen at this;omega
 clear hold hG
 go_enter func202,ntmps202
 cases p with
 |none=>
  go_wp2_with (at_builtin;refine Lib.wpList_append_run _ rfl _ _ _ _ rfl _ _ rfl rfl _ _ (hrz _) ?_)
  all_goals (go_ret;exact⟨rfl,rfl⟩)
 |some a=>
  obtain⟨ab,ao,asp⟩:=a
  go_wp2_with (at_builtin;refine Lib.wpList_append_run _ rfl _ _ _ _ rfl _ _ rfl rfl _ _ (hrz _) ?_)
  all_goals (go_ret;exact⟨rfl,rfl⟩)
end Go.Proofs
namespace Go.Own
open Go.Proofs
def zbF (n:Int)(h0:0<n)(h1:n<=1000000):uQ Tryz.prog 202 [.sl 1 true [],eI .i64 n] (.osl 1 false []):=by
 refine⟨⟨_,Tryz.func202,by kernel_rfl,by kernel_rfl⟩,?_⟩;intro S w vs F hS hq hF;obtain⟨m,rfl⟩:∃m:Nat,n=(m:Int):=⟨n.toNat,by omega⟩;match vs,hq with
 |[u,v],q=>
  obtain⟨F1,F2,rfl,q1,F3,F4,rfl,q2,q3⟩:=q;have e3:F4=[]:=q3;subst e3;have d:∀{x:A} {u:Value} {F:TC},x.isD=true->Has S w.heap x u F->wS S x u/\F=[]:=by
   intro x u F hx q;rcases q with⟨q,rfl⟩|⟨cs,q1,q2,q3⟩
   ·exact⟨q.rep1 hx,rfl⟩
   obtain⟨r,rfl⟩:=q1.isD hx;exact⟨⟨cs,r,q3⟩,rfl⟩
  obtain⟨⟨cs,r1,e1⟩,rfl⟩:=d rfl q1;obtain⟨⟨ds,r2,e2⟩,rfl⟩:=d rfl q2;simp only[Rep]at r1;obtain⟨p,c,rfl,hc,_⟩:=r1;obtain rfl:c=0:=by simpa using hc
  have hv:v=.int .i64 (m:Int):=by
   rw[e2];obtain⟨rfl,_⟩:ds=[.int .i64 (m:Int)]/\_:=by simpa only[eI,Rep] using r2
   rfl
  have hu:u=.slice p 0 0:=by rw[e1];rfl
  subst hv hu;refine(Tryz.gro_run p m w (by omega) (by omega)).mono ?_;rintro e' w' ⟨rfl,rfl⟩;have hsz:∀k,(Builtin.zeroCells (Value.int .i64 0).cells k).size=k:=λk=>by simp[Builtin.zeroCells,Value.cells]
  have hGn:m<=grownCap w m 0 3:=grownCap_ge w _ _ _;have hGm:=grownCap_le_maxLen w m 0 3 (by unfold maxLen;omega);have hfr:∀o,S w.heap.size o=none:=λo=>by
   cases hh:S w.heap.size o with
   |none=>rfl
   |some x=>have:=hS _ _ _ hh;simp[y6]at this
  generalize grownCap w m 0 3=G at hGn hGm⊢;refine⟨_,S,[w.heap.size],rfl,((X1.refl _ _).drew).alloc (.inl (pi _)) _,λ_ _ _ h=>h,λ_ _ _ _=>rfl,⟨λb o v h=>?_,hS.gok,hS.blk.of (λ_ _ _ q=>q) λg x e=>?_⟩,.inr ⟨[.slice (some ⟨w.heap.size,0,none⟩) 0 G],?_,by simp,rfl⟩,by simp,by simp⟩
  ·have h':=hS _ _ _ h;have hne:b≠w.heap.size:=by rintro rfl;rw[hfr]at h;cases h
   show y6 (w.heap.push _) b o=some v;unfold y6 at h' ⊢;rw[gS,if_neg hne];exact h'
  ·have hlt:=hS.blk.lt e;show(w.heap.push _)[g]?=_;rw[gS,if_neg (by omega)]
  simp only[zH];refine⟨_,G,rfl,by simp,by simp,hGm,by simp,.inr ⟨w.heap.size,_,3,[],[],rfl,by show(w.heap.push _)[w.heap.size]?=_;rw[gS,if_pos rfl],?_,by simp,⟨rfl,rfl⟩,rfl,hfr⟩⟩;simp only[Array.size_append,hsz,Array.size_empty];omega
end Go.Own

namespace Go.Proofs
open Go.Proofs.Tryz
open Go.RowKit Go.Lib
def Tryz.meth77 (w:World):(method 392 77 (.agg #[]) "gauntlet/suites.fill").run prog w=.ok (218,.agg #[]) w:=by kernel_rfl
def Tryz.meth78 (w:World):(method 392 78 (.agg #[]) "gauntlet/suites.fill").run prog w=.ok (220,.agg #[]) w:=by kernel_rfl
def Tryz.meth79 (w:World):(method 392 79 (.agg #[]) "gauntlet/suites.fill").run prog w=.ok (229,.agg #[]) w:=by kernel_rfl
def Tryz.tas (w:World):(Instr.typeAssert (.iface 124 (.agg #[])) 20 124 true).run prog w=.ok (.tuple #[.agg #[],.bool true]) w:=by kernel_rfl
def Tryz.mk1 (w:World):(Instr.makeSlice 89 (.int .i64 1) (.int .i64 1)).run prog w=.ok (.slice (some ⟨w.heap.size,0,none⟩) 1 1) (w.alloc (.cells (Array.replicate 16 (.int .i32 0)) 162)):=by
 have h:(prog.info? 162).map (λi=>(i.size,i.bytes,i.zero))=some (16,64,some (.agg (Array.replicate 16 (.int .i32 0)))):=by kernel_rfl
 obtain⟨i0,hi0,hi⟩:=pT.1 h;obtain⟨hs0,hi⟩:=Prod.mk.inj hi;obtain⟨hb0,hz0⟩:=Prod.mk.inj hi;have q:=run_makeSlice (P:=prog) (w:=w) 89 162 i0 _ underlying89 hi0 hz0 .i64 .i64 1 1 (by omega) (by omega) (by rw[hs0];decide) (by rw[hb0];omega) (by omega);rw[hs0,show madeCells (Value.agg (Array.replicate 16 (Value.int .i32 0))).cells (Int.toNat 1*16)=Array.replicate 16 (.int .i32 0) from by kernel_rfl]at q;exact q
def Tryz.gw4 (w:World)(most:Int):World :=
 (((w.alloc (.cells #[.pointer (some ⟨w.heap.size+1+1+1,0,none⟩)] 86)).alloc (.cells #[.bool false] 4)).alloc (.cells (Array.replicate 16 (.int .i32 0)) 162)).alloc (.cells #[.slice (some ⟨w.heap.size+1+1,0,none⟩) 1 1,.int .i64 0,.int .i64 most] 91)
def Tryz.catch_idle (p q:Addr)(w:World) :
  CallsD prog 77 #[.pointer (some p),.pointer (some q)] .returning w λe u' w'=>e=.returned (.tuple #[])/\u'=.returning/\w'=w:=by
 refine callsD_of_wpS func77 rfl λc₀ cs hu=>?_;apply wpS_seq;apply wpS_region;simp[wpOpsS,go_sem,recoverD,hu,ntmps77,Exit.thenS];apply wpS_seq;apply wpS_region;simp[wpOpsS,go_sem,recoverD,hu,ntmps77,Exit.thenS];refine wpS_cond (t:=false) (by simp[Act.eval,Array.replicate]) ?_;simp only[gf,if_false];refine wpS_of_wp (wp_skip ?_);cases c₀
 simp_all [bodyPostS,results,results77]
def Tryz.catch_panicking (n:Nat)(older:List PanicEntry)(w:World)(x:Value)(y:Value)(h1:w.heap[n]?=some (.cells #[x] 86))(h2:w.heap[n+1]?=some (.cells #[y] 4)) :
  CallsD prog 77 #[.pointer (some ⟨n,0,none⟩),.pointer (some ⟨n+1,0,none⟩)] (.panicking ({ v:=.iface 124 (.agg #[]),recovered:=false }::older)) w λe u' w'=>e=.returned (.tuple #[])/\u'=.panicking ({ v:=.iface 124 (.agg #[]),recovered:=true }::older)/\w'=((w.alloc (.cells #[] 124)).setCell ⟨n,0,none⟩ (.pointer none)).setCell ⟨n+1,0,none⟩ (.bool false):=by
 have ht:=Tryz.tas;refine callsD_of_wpS func77 rfl λc₀ cs hu=>?_;apply wpS_seq;apply wpS_region;simp[wpOpsS,go_sem,recoverD,hu,ntmps77,Exit.thenS];apply wpS_seq;apply wpS_region;simp[wpOpsS,go_sem,recoverD,hu,ntmps77,Exit.thenS];refine wpS_cond (t:=true) (by simp[Act.eval,Array.replicate]) ?_;simp only[if_true];apply wpS_seq;apply wpS_seq;apply wpS_region;simp[wpOpsS,go_sem,recoverD,hu,ntmps77,Exit.thenS,ht];apply wpS_seq;apply wpS_region;simp[wpOpsS,go_sem,recoverD,hu,ntmps77,Exit.thenS,ht];refine wpS_cond (t:=false) (by simp[Act.eval,Array.replicate]) ?_;simp only[gf,if_false];refine wpS_of_wp (wp_skip ?_);simp only[Exit.thenS];apply wpS_region;have l1:=(pE.1 h1).1;have l2:=(pE.1 h2).1;have g1:(w.alloc (.cells #[] 124)).heap[n]?=some (.cells #[x] 86):=by simp only[World.alloc];rw[gS,if_neg (by omega),h1]
 have g2:(w.alloc (.cells #[] 124)).heap[n+1]?=some (.cells #[y] 4):=by simp only[World.alloc];rw[gS,if_neg (by omega),h2]
 have hp1:(w.alloc (.cells #[] 124)).cell? ⟨n,0,none⟩=some x:=by simp[World.cell?,g1]
 have hz1:(w.alloc (.cells #[] 124)).frozen? ⟨n,0,none⟩=false:=by simp[World.frozen?,g1]
 have g3:((w.alloc (.cells #[] 124)).setCell ⟨n,0,none⟩ (.pointer none)).heap[n+1]?=some (.cells #[y] 4):=by simp only[World.setCell,mR];rw[if_neg (by omega),g2]
 have hp2:((w.alloc (.cells #[] 124)).setCell ⟨n,0,none⟩ (.pointer none)).cell? ⟨n+1,0,none⟩=some y:=by simp only[World.cell?,g3];rfl
 have hz2:((w.alloc (.cells #[] 124)).setCell ⟨n,0,none⟩ (.pointer none)).frozen? ⟨n+1,0,none⟩=false:=by simp only[World.frozen?,g3];rfl
 simp[wpOpsS,go_sem,recoverD,hu,ntmps77,Exit.thenS,ht,hp1,hz1,hp2,hz2];cases c₀
 simp_all [bodyPostS,results,results77]
set_option maxHeartbeats 4000000 in
set_option maxRecDepth 100000 in
def Tryz.gat_run (T kf:Nat)(hmeth:∀w,(method 392 T (.agg #[]) "gauntlet/suites.fill").run prog w=.ok (kf,.agg #[]) w)(hcf:∀args w,(callFunc kf args).run prog w=.ok (.enter kf args) w)(xv:Value)(most:Int)(w:World)(K:World->Prop)
  (hcall:Calls prog kf #[.agg #[],xv,.pointer (some ⟨w.heap.size+1+1+1,0,none⟩)] (Tryz.gw4 w most) λe w5=>e=.returned (.tuple #[])/\w5.heap[w.heap.size]?=some (.cells #[.pointer (some ⟨w.heap.size+1+1+1,0,none⟩)] 86)/\w5.heap[w.heap.size+1]?=some (.cells #[.bool false] 4)/\K w5) :
  Calls prog 37 #[xv,.iface T (.agg #[]),.int .i64 most] w λe w'=>e=.returned (.tuple #[.pointer (some ⟨w.heap.size+1+1+1,0,none⟩),.bool true])/\∃w5,K w5/\w'=(w5.setCell ⟨w.heap.size,0,none⟩ (.pointer (some ⟨w.heap.size+1+1+1,0,none⟩))).setCell ⟨w.heap.size+1,0,none⟩ (.bool true):=by
 have hmf:∀(fn:Fn) (first cap:Array Value) (w:World),(Instr.makeFunc fn first cap).run prog w=.ok (.func fn first cap) w:=λ_ _ _ _=>rfl;have hmk:=Tryz.mk1
 go_enter_defers func37,ntmps37
 go_wp2
 refine Calls.mono hcall ?_;rintro e w5 ⟨rfl,h1,h2,h3⟩;have hc1:w5.cell? ⟨w.heap.size,0,none⟩=some (.pointer (some ⟨w.heap.size+1+1+1,0,none⟩)):=by simp[World.cell?,h1]
 have hc2:w5.cell? ⟨w.heap.size+1,0,none⟩=some (.bool false):=by simp[World.cell?,h2]
 have hz1:w5.frozen? ⟨w.heap.size,0,none⟩=false:=by simp[World.frozen?,h1]
 have hz2:w5.frozen? ⟨w.heap.size+1,0,none⟩=false:=by simp[World.frozen?,h2]
 dsimp only
 go_wp2
 refine leaves_cons (f:=77) (args:=#[.pointer (some ⟨w.heap.size,0,none⟩),.pointer (some ⟨w.heap.size+1,0,none⟩)]) (by simp) (by simp[go_sem]) ?_;refine(Tryz.catch_idle _ _ _).mono ?_;rintro e u' w'' ⟨rfl,rfl,rfl⟩;have hcA:(w5.setCell ⟨w.heap.size,0,none⟩ (.pointer (some ⟨w.heap.size+1+1+1,0,none⟩))).cell? ⟨w.heap.size,0,none⟩=some (.pointer (some ⟨w.heap.size+1+1+1,0,none⟩)):=by simp[World.cell?,World.setCell,mR,h1]
 have hcB:((w5.setCell ⟨w.heap.size,0,none⟩ (.pointer (some ⟨w.heap.size+1+1+1,0,none⟩))).setCell ⟨w.heap.size+1,0,none⟩ (.bool true)).cell? ⟨w.heap.size+1,0,none⟩=some (.bool true):=by simp[World.cell?,World.setCell,mR,h2]
 simp[Leaves,settle,results,results37,go_sem,hcA,hcB];exact⟨w5,h3,rfl⟩
set_option maxHeartbeats 4000000 in
set_option maxRecDepth 100000 in
def Tryz.gat_die (T kf:Nat)(hmeth:∀w,(method 392 T (.agg #[]) "gauntlet/suites.fill").run prog w=.ok (kf,.agg #[]) w)(hcf:∀args w,(callFunc kf args).run prog w=.ok (.enter kf args) w)(xv:Value)(most:Int)(w:World)(K:World->Prop)
  (hcall:Calls prog kf #[.agg #[],xv,.pointer (some ⟨w.heap.size+1+1+1,0,none⟩)] (Tryz.gw4 w most) λe w5=>e=.panicked (Own.jW (.iface 124 (.agg #[])))/\w5.heap[w.heap.size]?=some (.cells #[.pointer (some ⟨w.heap.size+1+1+1,0,none⟩)] 86)/\w5.heap[w.heap.size+1]?=some (.cells #[.bool false] 4)/\K w5) :
  Calls prog 37 #[xv,.iface T (.agg #[]),.int .i64 most] w λe w'=>e=.returned (.tuple #[.pointer none,.bool false])/\∃w5,K w5/\w'=((w5.alloc (.cells #[] 124)).setCell ⟨w.heap.size,0,none⟩ (.pointer none)).setCell ⟨w.heap.size+1,0,none⟩ (.bool false):=by
 have hmf:∀(fn:Fn) (first cap:Array Value) (w:World),(Instr.makeFunc fn first cap).run prog w=.ok (.func fn first cap) w:=λ_ _ _ _=>rfl;have hmk:=Tryz.mk1
 go_enter_defers func37,ntmps37
 go_wp2
 refine Calls.mono hcall ?_;rintro e w5 ⟨rfl,h1,h2,h3⟩;have l1:=(pE.1 h1).1;have l2:=(pE.1 h2).1;have g1:(w5.alloc (.cells #[] 124)).heap[w.heap.size]?=some (.cells #[.pointer (some ⟨w.heap.size+1+1+1,0,none⟩)] 86):=by simp only[World.alloc];rw[gS,if_neg (by omega),h1]
 have g2:(w5.alloc (.cells #[] 124)).heap[w.heap.size+1]?=some (.cells #[.bool false] 4):=by simp only[World.alloc];rw[gS,if_neg (by omega),h2]
 dsimp only[Own.jW];refine leaves_cons (f:=77) (args:=#[.pointer (some ⟨w.heap.size,0,none⟩),.pointer (some ⟨w.heap.size+1,0,none⟩)]) (by simp) (by simp[go_sem]) ?_;refine(Tryz.catch_panicking w.heap.size [] w5 _ _ h1 h2).mono ?_;rintro e u' w'' ⟨rfl,rfl,rfl⟩;have hcA:((w5.alloc (.cells #[] 124)).setCell ⟨w.heap.size,0,none⟩ (.pointer none)).cell? ⟨w.heap.size,0,none⟩=some (.pointer none):=by simp[World.cell?,World.setCell,mR,g1]
 have hcB:(((w5.alloc (.cells #[] 124)).setCell ⟨w.heap.size,0,none⟩ (.pointer none)).setCell ⟨w.heap.size+1,0,none⟩ (.bool false)).cell? ⟨w.heap.size+1,0,none⟩=some (.bool false):=by simp[World.cell?,World.setCell,mR,g2]
 simp[Leaves,settle,results,results37,go_sem,hcA,hcB];exact⟨w5,h3,rfl⟩
end Go.Proofs
namespace Go.Own
open Go.Proofs
def z7M {T kf:Nat}(hmeth:∀w,(method 392 T (.agg #[]) "gauntlet/suites.fill").run Tryz.prog w=.ok (kf,.agg #[]) w)(hcf:∀args w,(callFunc kf args).run Tryz.prog w=.ok (.enter kf args) w){xs y z:A}{most:Int}{died:Bool}(hxs:xs.isD=true)(hl:y.live=true)(hz:y.shut=z)
  (hfill:∀bv,z82 Tryz.prog kf [.agg [],xs,.atom bv] [(bv,.box (.agg [.osl 16 false [.agg (List.replicate 16 (.atom (.int .i32 0)))],.atom (.int .i64 0),.atom (.int .i64 most)]))] died (.iface 124 (.agg #[])) (.tup []) [.box y]) :
  uQ Tryz.prog 37 [xs,.atom (.iface T (.agg #[])),.atom (.int .i64 most)] (.tup [bif died then .atom (.pointer none) else .sptr z,.atom (.bool (!died))]):=by
 refine⟨⟨_,Tryz.func37,by kernel_rfl,by kernel_rfl⟩,?_⟩;intro S w vs F hS hq hF;match vs,hq with
 |[u,v,x],q=>
  obtain⟨F1,F2,rfl,q1,F3,F4,rfl,q2,F5,F6,rfl,q3,q4⟩:=q;have e4:F6=[]:=q4;subst e4;have d:∀{x:A} {u:Value} {F:TC},x.isD=true->Has S w.heap x u F->wS S x u/\F=[]:=by
   intro x u F hx q;rcases q with⟨q,rfl⟩|⟨cs,q1,q2,q3⟩
   ·exact⟨q.rep1 hx,rfl⟩
   obtain⟨r,rfl⟩:=q1.isD hx;exact⟨⟨cs,r,q3⟩,rfl⟩
  obtain⟨r1,rfl⟩:=d hxs q1;obtain⟨r2,rfl⟩:=d rfl q2;obtain⟨r3,rfl⟩:=d rfl q3;obtain rfl:v=.iface T (.agg #[]):=(yT.1 r2).1;obtain rfl:x=.int .i64 most:=(yT.1 r3).1;have hnew:∀b o,w.heap.size<=b->S b o=none:=λb o hb=>by
   cases hh:S b o with
   |none=>rfl
   |some x=>have:=hS _ _ _ hh;simp[y6,nQ hb]at this
  have hsz:(Tryz.gw4 w most).heap.size=w.heap.size+4:=by simp only[Tryz.gw4,World.alloc,Array.size_push]
  have hold:∀b,b<w.heap.size->(Tryz.gw4 w most).heap[b]?=w.heap[b]?:=λb hb=>by simp only[Tryz.gw4,World.alloc];simp only[gS,Array.size_push];rw[if_neg (by omega),if_neg (by omega),if_neg (by omega),if_neg (by omega)]
  have c0:(Tryz.gw4 w most).heap[w.heap.size]?=some (.cells #[.pointer (some ⟨w.heap.size+1+1+1,0,none⟩)] 86):=by simp only[Tryz.gw4,World.alloc];simp only[gS,Array.size_push];rw[if_neg (by omega),if_neg (by omega),if_neg (by omega),if_pos trivial]
  have c1:(Tryz.gw4 w most).heap[w.heap.size+1]?=some (.cells #[.bool false] 4):=by simp only[Tryz.gw4,World.alloc];simp only[gS,Array.size_push];rw[if_neg (by omega),if_neg (by omega),if_pos trivial]
  have c2:(Tryz.gw4 w most).heap[w.heap.size+1+1]?=some (.cells (Array.replicate 16 (.int .i32 0)) 162):=by simp only[Tryz.gw4,World.alloc];simp only[gS,Array.size_push];rw[if_neg (by omega),if_pos trivial]
  have c3:(Tryz.gw4 w most).heap[w.heap.size+1+1+1]?=some (.cells #[.slice (some ⟨w.heap.size+1+1,0,none⟩) 1 1,.int .i64 0,.int .i64 most] 91):=by simp only[Tryz.gw4,World.alloc];simp only[gS,Array.size_push];rw[if_pos trivial]
  have hK4:X1 (λk=>w.heap.size<=k\/k∈([]:TC)) w (Tryz.gw4 w most):=by
   unfold Tryz.gw4;refine((((X1.refl _ _).alloc (.inl (pi _)) _).alloc (.inl ?_) _).alloc (.inl ?_) _).alloc (.inl ?_) _
   all_goals simp only[World.alloc,Array.size_push];omega
  have hS4:yQ S (Tryz.gw4 w most):=by
   refine⟨λb o u h=>?_,hS.gok,hS.blk.of (λ_ _ _ q=>q) λg x e=>hold g (hS.blk.lt e)⟩;have h':=hS _ _ _ h;have hb:b<w.heap.size:=by
    rcases pD b w.heap.size with h1|h1
    ·exact h1
    rw[hnew b o h1]at h;cases h
   unfold y6 at h' ⊢;rw[hold b hb];exact h'
  have hbag:W2 S (Tryz.gw4 w most).heap [.box (.agg [.osl 16 false [.agg (List.replicate 16 (.atom (.int .i32 0)))],.atom (.int .i64 0),.atom (.int .i64 most)])] [.pointer (some ⟨w.heap.size+1+1+1,0,none⟩)] [w.heap.size+1+1+1,w.heap.size+1+1]:=by
   have hcc:∀l:TE,(∀v∈l,v.oneCell'=true)->zL S (Tryz.gw4 w most).heap (l.map .atom) l []:=by
    intro l;induction l with
    |nil=>intro _;simp[zL]
    |cons a l ih=>intro h;simp only[gE,zL];exact⟨[a],l,[],[],rfl,rfl,by simp only[zH,Rep];simp[h a (by simp)],ih λv hv=>h v (by simp[hv])⟩
   have ho:zH S (Tryz.gw4 w most).heap (.osl 16 false [.agg (List.replicate 16 (.atom (.int .i32 0)))]) [.slice (some ⟨w.heap.size+1+1,0,none⟩) 1 1] [w.heap.size+1+1]:=by
    simp only[zH];refine⟨some ⟨w.heap.size+1+1,0,none⟩,1,by simp,by simp,by simp,by unfold maxLen;omega,?_,.inr ⟨w.heap.size+1+1,_,162,List.replicate 16 (.int .i32 0),[],rfl,c2,by simp,by simp,?_,by simp,λo=>hnew _ o (by omega)⟩⟩
    ·intro x hx;simp only[pl,hZ,or_false]at hx;subst hx;rfl
    simp only[zL];exact⟨List.replicate 16 (.int .i32 0),[],[],[],by simp,rfl,by simp only[zH];exact hcc (List.replicate 16 (.int .i32 0)) (by intro v hv;rw[mH hv];rfl),rfl,rfl⟩
   refine⟨[w.heap.size+1+1+1,w.heap.size+1+1],[],by simp,.inr ⟨[.pointer (some ⟨w.heap.size+1+1+1,0,none⟩)],?_,by simp,rfl⟩,rfl⟩;simp only[zH];refine⟨w.heap.size+1+1+1,91,[.slice (some ⟨w.heap.size+1+1,0,none⟩) 1 1,.int .i64 0,.int .i64 most],[w.heap.size+1+1],rfl,c3,?_,rfl,λo=>hnew _ o (by omega)⟩;simp only[zL];exact⟨_,_,[w.heap.size+1+1],[],rfl,rfl,ho,[.int .i64 0],_,[],[],rfl,rfl,⟨by simp[Rep,Value.oneCell'],rfl⟩,[.int .i64 most],[],[],[],rfl,rfl,⟨by simp[Rep,Value.oneCell'],rfl⟩,rfl,rfl⟩
  have hfree:∀k∈[w.heap.size+1+1+1,w.heap.size+1+1],k=w.heap.size+1+1+1\/k=w.heap.size+1+1:=λk hk=>by simpa using hk
  have hargs:YF (wS S) [.agg [],xs,.atom (.pointer (some ⟨w.heap.size+1+1+1,0,none⟩))] [.agg #[],u,.pointer (some ⟨w.heap.size+1+1+1,0,none⟩)] :=
   ⟨⟨[],by simp[Rep,yb],rfl⟩,r1,yT.2 ⟨rfl,rfl⟩,trivial⟩
  have hfv:wS S (.fn kf []) (.func (.func kf) #[] #[]):=⟨[.func (.func kf) #[] #[]],by simp[Rep,yb],rfl⟩;obtain⟨hok,hdie⟩:=hfill (.pointer (some ⟨w.heap.size+1+1+1,0,none⟩));have hkept:∀{w5:World},X1 (λk=>(Tryz.gw4 w most).heap.size<=k\/k∈[w.heap.size+1+1+1,w.heap.size+1+1]) (Tryz.gw4 w most) w5->w5.heap[w.heap.size]?=some (.cells #[.pointer (some ⟨w.heap.size+1+1+1,0,none⟩)] 86)/\w5.heap[w.heap.size+1]?=some (.cells #[.bool false] 4):=λh=>
   have hm:∀k,k<w.heap.size+2->¬((Tryz.gw4 w most).heap.size<=k\/k∈[w.heap.size+1+1+1,w.heap.size+1+1]):=λk hk q=>by
    rcases q with q|q
    ·rw[hsz]at q;omega
    have:=hfree _ q;omega
   ⟨(h.block _ (hm _ (by omega))).trans c0,(h.block _ (hm _ (by omega))).trans c1⟩
  have hset:∀(w5:World) (a b:Value),X1 (λk=>w.heap.size<=k\/k∈([]:TC)) w5 ((w5.setCell ⟨w.heap.size,0,none⟩ a).setCell ⟨w.heap.size+1,0,none⟩ b):=λw5 a b=>
   ⟨rfl,rfl,rfl,pi _,by simp[World.setCell],λk hk=>by simp only[World.setCell,mR];rw[if_neg (by rintro rfl;exact hk (.inl (by omega))),if_neg (by rintro rfl;exact hk (.inl (by omega)))]⟩
  have hset2:∀(w5:World) (a b:Value) (k:Nat),k≠w.heap.size->k≠w.heap.size+1->((w5.setCell ⟨w.heap.size,0,none⟩ a).setCell ⟨w.heap.size+1,0,none⟩ b).heap[k]?=w5.heap[k]?:=λw5 a b k h1 h2=>by simp only[World.setCell,mR];rw[if_neg (nL h2),if_neg (nL h1)]
  have hstay:∀{w5 w6:World} {S5:zj},yQ S5 w5->(∀o,S5 w.heap.size o=none)->(∀o,S5 (w.heap.size+1) o=none)->(∀k,k<w5.heap.size->k≠w.heap.size->k≠w.heap.size+1->w6.heap[k]?=w5.heap[k]?)->yQ S5 w6:=by
   intro w5 w6 S5 h k1 k2 hb;have hne:∀b o u,S5 b o=some u->b≠w.heap.size/\b≠w.heap.size+1:=λb o u q=>⟨(by rintro rfl;rw[k1]at q;cases q),(by rintro rfl;rw[k2]at q;cases q)⟩;refine⟨λb o u q=>?_,h.gok,h.blk.of (λ_ _ _ q=>q) λg x e=>?_⟩
   ·have h':=h _ _ _ q;have hlt:b<w5.heap.size:=by
     unfold y6 at h';cases hh:w5.heap[b]? with
     |none=>rw[hh]at h';cases h'
     |some y=>exact(pE.1 hh).1
    unfold y6 at h' ⊢;rw[hb b hlt (hne b o u q).1 (hne b o u q).2];exact h'
   obtain⟨_,v,hv⟩:=h.blk g x e;exact hb g (h.blk.lt e) (hne g 0 v hv).1 (hne g 0 v hv).2
  cases died with
  |false=>
   have ha:=hok rfl S (Tryz.gw4 w most) _ _ _ hS4 hfv hargs hbag (by simp);rcases ha with⟨k,caps,fn,e1,_,_,_,h5⟩|⟨L,q,e1,_⟩
   ·cases e1;refine Calls.mono (Tryz.gat_run T kf hmeth hcf u most w (λw5=>∃(S':zj) (G:TC),X1 (λk=>(Tryz.gw4 w most).heap.size<=k\/k∈[w.heap.size+1+1+1,w.heap.size+1+1]) (Tryz.gw4 w most) w5/\(∀b o u,S b o=some u->S' b o=some u)/\(∀b o,b<(Tryz.gw4 w most).heap.size->b∉[w.heap.size+1+1+1,w.heap.size+1+1]->S' b o=S b o)/\yQ S' w5 /\
     Has S' w5.heap (.box y) (.pointer (some ⟨w.heap.size+1+1+1,0,none⟩)) G/\G.Nodup/\∀k∈G,(Tryz.gw4 w most).heap.size<=k\/k∈[w.heap.size+1+1+1,w.heap.size+1+1]) (Calls.mono h5 ?_)) ?_
    ·rintro e w5 ⟨v,rfl,S',F',G,b1,b2,b3,b4,b5,b6,b7,b8⟩;have hv:v=.tuple #[]:=by
      rcases b5 with⟨q,_⟩|⟨cs,q,_⟩
      ·simp only[xc]at q;obtain⟨us,rfl,q⟩:=q;cases us with
       |nil=>rfl
       |cons a l=>exact q.elim
      simp only[zH]at q
     subst hv;obtain⟨H1,H2,rfl,g1,g2⟩:=b6;have eH:H2=[]:=g2;subst eH;simp only[pL]at b7 b8;exact⟨rfl,(hkept b1).1,(hkept b1).2,S',H1,b1,b2,b3,b4,g1,(pH.1 b7).1,λk hk=>b8 k (by simp[hk])⟩
    rintro e w' ⟨rfl,w5,⟨S',G,b1,b2,b3,b4,b5,b6,b7⟩,rfl⟩;have hG:∀k∈G,w.heap.size+2<=k:=λk hk=>by
     rcases b7 k hk with q|q
     ·rw[hsz]at q;omega
     have:=hfree k q;omega
    have n1:∀o,S' w.heap.size o=none:=λo=>by rw[b3 _ _ (by rw[hsz];omega) (λq=>by have:=hfree _ q;omega)];exact hnew _ _ (pi _)
    have n2:∀o,S' (w.heap.size+1) o=none:=λo=>by rw[b3 _ _ (by rw[hsz];omega) (λq=>by have:=hfree _ q;omega)];exact hnew _ _ (by omega)
    have hown:=b5.own;have hmono:=WF (S:=S') (h:=w5.heap) (F:=G) (λk hk=>(hown k hk).2);have hm5:yQ (zX S' w5.heap G) w5:=⟨λb o u q=>by
     unfold zX at q;split at q
     ·exact q
     exact b4 b o u q,Gok.mono hmono b4.gok,b4.blk.of hmono λ_ _ _=>rfl⟩
    have hng:∀k,k<w.heap.size+2->k∉G:=λk hk q=>by have:=hG k q;omega
    refine⟨_,zX S' w5.heap G,[],rfl,(hK4.trans (b1.mono (λk hk=>.inl (by
      rcases hk with q|q
      ·rw[hsz]at q;omega
      have:=hfree k q;omega)))).trans (hset _ _ _),λb o u q=>hmono b o u (b2 b o u q),λb o hb hbF=>?_,hstay hm5 (λo=>?_) (λo=>?_) (λk _ h1 h2=>hset2 _ _ _ k h1 h2),.inl ⟨?_,rfl⟩,by simp,by simp⟩
    ·unfold zX;rw[if_neg (hng b (by omega))];exact b3 b o (by rw[hsz];omega) (λq=>by have:=hfree _ q;omega)
    ·unfold zX;rw[if_neg (hng _ (by omega))];exact n1 o
    ·unfold zX;rw[if_neg (hng _ (by omega))];exact n2 o
    simp only[xc];refine⟨[_,_],rfl,?_,yT.2 ⟨rfl,rfl⟩,trivial⟩;rcases b5 with⟨q,_⟩|⟨cs,q1,q2,q3⟩
    ·simp only[xc,wS,Rep,false_and,exists_false]at q
    refine⟨cs,?_,q3⟩;have:=q1.shut hmono (by simpa only[A.live] using hl) (λk hk o=>by unfold zX;rw[if_pos hk]);simp only[A.shut,hz]at this;exact this
   cases e1
  |true=>
   obtain⟨_,hcall⟩:=hdie rfl;refine Calls.mono (Tryz.gat_die T kf hmeth hcf u most w (λw5=>∃S':zj,X1 (λk=>(Tryz.gw4 w most).heap.size<=k\/k∈[w.heap.size+1+1+1,w.heap.size+1+1]) (Tryz.gw4 w most) w5/\(∀b o u,S b o=some u->S' b o=some u)/\(∀b o,b<(Tryz.gw4 w most).heap.size->b∉[w.heap.size+1+1+1,w.heap.size+1+1]->S' b o=S b o)/\yQ S' w5) (Calls.mono (hcall S (Tryz.gw4 w most) _ _ hS4 hargs hbag (by simp)) ?_)) ?_
   ·rintro e w5 ⟨rfl,S',b1,b2,b3,b4⟩;exact⟨rfl,(hkept b1).1,(hkept b1).2,S',b1,b2,b3,b4⟩
   rintro e w' ⟨rfl,w5,⟨S',b1,b2,b3,b4⟩,rfl⟩;have n1:∀o,S' w.heap.size o=none:=λo=>by rw[b3 _ _ (by rw[hsz];omega) (λq=>by have:=hfree _ q;omega)];exact hnew _ _ (pi _)
   have n2:∀o,S' (w.heap.size+1) o=none:=λo=>by rw[b3 _ _ (by rw[hsz];omega) (λq=>by have:=hfree _ q;omega)];exact hnew _ _ (by omega)
   have hs5:w.heap.size<=w5.heap.size:=by have:=b1.size;rw[hsz]at this;omega
   refine⟨_,S',[],rfl,(hK4.trans (b1.mono (λk hk=>.inl (by
     rcases hk with q|q
     ·rw[hsz]at q;omega
     have:=hfree k q;omega)))).trans (((X1.refl _ _).alloc (.inl hs5) _).trans (hset _ _ _)),b2,λb o hb hbF=>b3 b o (by rw[hsz];omega) (λq=>by have:=hfree _ q;omega),hstay b4 n1 n2 (λk hk h1 h2=>?_),.inl ⟨?_,rfl⟩,by simp,by simp⟩
   ·rw[hset2 _ _ _ k h1 h2];show(w5.heap.push _)[k]?=_;rw[gS,if_neg (by omega)]
   simp only[xc];exact⟨[_,_],rfl,yT.2 ⟨rfl,rfl⟩,yT.2 ⟨rfl,rfl⟩,trivial⟩
structure qY (α:Type) where
 e0:α
 e1:α
 deriving DecidableEq
instance {α:Type}[BEq α]:BEq (qY α):=⟨λx y=>(x.e0==y.e0)&&(x.e1==y.e1)⟩
section
variable {α:Type}
def KK (f:α->A)(x:qY α):A:=.agg [f x.e0,f x.e1]
instance (f:α->A)[h:K0 f]:K0 (KK f):=⟨λx=>by simp[KK,A.isD,A.areD,h.isD]⟩
instance (f g:α->A)[h:Wl f g]:Wl (KK f) (KK g):=⟨λx=>by simp[KK,A.loose,A.looses,h.lo]⟩
instance (f g:α->A)[h:z0O f g]:z0O (KK f) (KK g):=⟨λx=>by simp[KK,A.live,A.lives,h.live],λx=>by simp[KK,A.shut,A.shuts,h.sh]⟩
instance (f:α->A)[h:jK f]:jK (KK f):=⟨λx y q=>by simp only[KK,A.agg.injEq,List.cons.injEq,and_true]at q;cases x;cases y;simp only[qY.mk.injEq];exact⟨h.inj _ _ q.1,h.inj _ _ q.2⟩⟩
end
structure xT (α:Type) where
 e0:α
 e1:α
 e2:α
 deriving DecidableEq
section
variable {α:Type}
def znf (f:α->A)(x:xT α):A:=.agg [f x.e0,f x.e1,f x.e2]
end
section
variable {α:Type}
def xT.toL (x:xT α):List α:=[x.e0,x.e1,x.e2]
def xT.ofL:List α->xT α->xT α
 |[x0,x1,x2],_=>⟨x0,x1,x2⟩
 |_,d=>d
def xT.toL_ofL (l:List α)(d:xT α)(h:l.length=3):(xT.ofL l d).toL=l:=by
 match l,h with
 |[x0,x1,x2],_=>rfl
def xT.setI (x:xT α)(i:Int)(v:α):xT α:=xT.ofL (x.toL.set i.toNat v) x
def xT.setL (f:α->A)(x:xT α)(i:Int)(v:α):(x.toL.map f).set i.toNat (f v)=((xT.setI x i v).toL).map f:=by unfold xT.setI;rw[xT.toL_ofL _ _ (by simp[xT.toL]),List.map_set]
end
structure zz (α:Type) where
 e0:α
 e1:α
 e2:α
 e3:α
 e4:α
 e5:α
 e6:α
 e7:α
 e8:α
 e9:α
 e10:α
 e11:α
 e12:α
 e13:α
 e14:α
 e15:α
 deriving DecidableEq
instance {α:Type}[BEq α]:BEq (zz α):=⟨λx y=>(x.e0==y.e0)&&(x.e1==y.e1)&&(x.e2==y.e2)&&(x.e3==y.e3)&&(x.e4==y.e4)&&(x.e5==y.e5)&&(x.e6==y.e6)&&(x.e7==y.e7)&&(x.e8==y.e8)&&(x.e9==y.e9)&&(x.e10==y.e10)&&(x.e11==y.e11)&&(x.e12==y.e12)&&(x.e13==y.e13)&&(x.e14==y.e14)&&(x.e15==y.e15)⟩
section
variable {α:Type}
def XP (f:α->A)(x:zz α):A:=.agg [f x.e0,f x.e1,f x.e2,f x.e3,f x.e4,f x.e5,f x.e6,f x.e7,f x.e8,f x.e9,f x.e10,f x.e11,f x.e12,f x.e13,f x.e14,f x.e15]
instance (f:α->A)[h:K0 f]:K0 (XP f):=⟨λx=>by simp[XP,A.isD,A.areD,h.isD]⟩
instance (f g:α->A)[h:Wl f g]:Wl (XP f) (XP g):=⟨λx=>by simp[XP,A.loose,A.looses,h.lo]⟩
instance (f g:α->A)[h:z0O f g]:z0O (XP f) (XP g):=⟨λx=>by simp[XP,A.live,A.lives,h.live],λx=>by simp[XP,A.shut,A.shuts,h.sh]⟩
instance (f:α->A)[h:jK f]:jK (XP f):=⟨λx y q=>by simp only[XP,A.agg.injEq,List.cons.injEq,and_true]at q;cases x;cases y;simp only[zz.mk.injEq];exact⟨h.inj _ _ q.1,h.inj _ _ q.2.1,h.inj _ _ q.2.2.1,h.inj _ _ q.2.2.2.1,h.inj _ _ q.2.2.2.2.1,h.inj _ _ q.2.2.2.2.2.1,h.inj _ _ q.2.2.2.2.2.2.1,h.inj _ _ q.2.2.2.2.2.2.2.1,h.inj _ _ q.2.2.2.2.2.2.2.2.1,h.inj _ _ q.2.2.2.2.2.2.2.2.2.1,h.inj _ _ q.2.2.2.2.2.2.2.2.2.2.1,h.inj _ _ q.2.2.2.2.2.2.2.2.2.2.2.1,h.inj _ _ q.2.2.2.2.2.2.2.2.2.2.2.2.1,h.inj _ _ q.2.2.2.2.2.2.2.2.2.2.2.2.2.1,h.inj _ _ q.2.2.2.2.2.2.2.2.2.2.2.2.2.2.1,h.inj _ _ q.2.2.2.2.2.2.2.2.2.2.2.2.2.2.2⟩⟩
end
section
variable {α:Type}
def zz.toL (x:zz α):List α:=[x.e0,x.e1,x.e2,x.e3,x.e4,x.e5,x.e6,x.e7,x.e8,x.e9,x.e10,x.e11,x.e12,x.e13,x.e14,x.e15]
def zz.ofL:List α->zz α->zz α
 |[x0,x1,x2,x3,x4,x5,x6,x7,x8,x9,gi,ig,x12,fq,kq,x15],_=>⟨x0,x1,x2,x3,x4,x5,x6,x7,x8,x9,gi,ig,x12,fq,kq,x15⟩
 |_,d=>d
def zz.toL_ofL (l:List α)(d:zz α)(h:l.length=16):(zz.ofL l d).toL=l:=by
 match l,h with
 |[x0,x1,x2,x3,x4,x5,x6,x7,x8,x9,gi,ig,x12,fq,kq,x15],_=>rfl
def zz.setI (x:zz α)(i:Int)(v:α):zz α:=zz.ofL (x.toL.set i.toNat v) x
def zz.setL (f:α->A)(x:zz α)(i:Int)(v:α):(x.toL.map f).set i.toNat (f v)=((zz.setI x i v).toL).map f:=by unfold zz.setI;rw[zz.toL_ofL _ _ (by simp[zz.toL]),List.map_set]
end
structure yj where
 G:Int
 j:Int
 m:Int
 Tree:TB
 Edges:TB
def jH (f0:Int->A)(f1:Int->A)(f2:Int->A)(f3:TB->A)(f4:TB->A)(x:yj):A:=.agg [f0 x.G,f1 x.j,f2 x.m,f3 x.Tree,f4 x.Edges]
instance (f0:Int->A)(f1:Int->A)(f2:Int->A)(f3:TB->A)(f4:TB->A)(g0:Int->A)(g1:Int->A)(g2:Int->A)(g3:TB->A)(g4:TB->A)[h0:Wl f0 g0][h1:Wl f1 g1][h2:Wl f2 g2][h3:Wl f3 g3][h4:Wl f4 g4]:Wl (jH f0 f1 f2 f3 f4) (jH g0 g1 g2 g3 g4):=⟨λx=>by simp[jH,A.loose,A.looses,h0.lo,h1.lo,h2.lo,h3.lo,h4.lo]⟩
instance (f0:Int->A)(f1:Int->A)(f2:Int->A)(f3:TB->A)(f4:TB->A)[h0:jK f0][h1:jK f1][h2:jK f2][h3:jK f3][h4:jK f4]:jK (jH f0 f1 f2 f3 f4):=⟨λx y h=>by simp only[jH,A.agg.injEq,List.cons.injEq,and_true]at h;cases x;cases y;simp only[yj.mk.injEq];exact⟨h0.inj _ _ h.1,h1.inj _ _ h.2.1,h2.inj _ _ h.2.2.1,h3.inj _ _ h.2.2.2.1,h4.inj _ _ h.2.2.2.2⟩⟩
structure Yn where
 C:yj
def Yl (f0:yj->A)(x:Yn):A:=.agg [f0 x.C]
instance (f0:yj->A)(g0:yj->A)[h0:Wl f0 g0]:Wl (Yl f0) (Yl g0):=⟨λx=>by simp[Yl,A.loose,A.looses,h0.lo]⟩
instance (f0:yj->A)[h0:jK f0]:jK (Yl f0):=⟨λx y h=>by simp only[Yl,A.agg.injEq,List.cons.injEq,and_true]at h;cases x;cases y;simp only[Yn.mk.injEq];exact h0.inj _ _ h⟩
structure z8 where
 o:Int
 r:Int
def wU (f0:Int->A)(f1:Int->A)(x:z8):A:=.agg [f0 x.o,f1 x.r]
instance (f0:Int->A)(f1:Int->A)[h0:K0 f0][h1:K0 f1]:K0 (wU f0 f1):=⟨λx=>by simp[wU,A.isD,A.areD,h0.isD,h1.isD]⟩
instance (f0:Int->A)(f1:Int->A)(g0:Int->A)(g1:Int->A)[h0:Wl f0 g0][h1:Wl f1 g1]:Wl (wU f0 f1) (wU g0 g1):=⟨λx=>by simp[wU,A.loose,A.looses,h0.lo,h1.lo]⟩
instance (f0:Int->A)(f1:Int->A)(g0:Int->A)(g1:Int->A)[h0:z0O f0 g0][h1:z0O f1 g1]:z0O (wU f0 f1) (wU g0 g1):=⟨λx=>by simp[wU,A.live,A.lives,h0.live,h1.live],λx=>by simp[wU,A.shut,A.shuts,h0.sh,h1.sh]⟩
instance (f0:Int->A)(f1:Int->A)[h0:jK f0][h1:jK f1]:jK (wU f0 f1):=⟨λx y h=>by simp only[wU,A.agg.injEq,List.cons.injEq,and_true]at h;cases x;cases y;simp only[z8.mk.injEq];exact⟨h0.inj _ _ h.1,h1.inj _ _ h.2⟩⟩
structure z6 where
 j:Int
 m:Int
 i:List (List z8)
def um (f0:Int->A)(f1:Int->A)(f2:List (List z8)->A)(x:z6):A:=.agg [f0 x.j,f1 x.m,f2 x.i]
instance (f0:Int->A)(f1:Int->A)(f2:List (List z8)->A)(g0:Int->A)(g1:Int->A)(g2:List (List z8)->A)[h0:Wl f0 g0][h1:Wl f1 g1][h2:Wl f2 g2]:Wl (um f0 f1 f2) (um g0 g1 g2):=⟨λx=>by simp[um,A.loose,A.looses,h0.lo,h1.lo,h2.lo]⟩
instance (f0:Int->A)(f1:Int->A)(f2:List (List z8)->A)[h0:jK f0][h1:jK f1][h2:jK f2]:jK (um f0 f1 f2):=⟨λx y h=>by simp only[um,A.agg.injEq,List.cons.injEq,and_true]at h;cases x;cases y;simp only[z6.mk.injEq];exact⟨h0.inj _ _ h.1,h1.inj _ _ h.2.1,h2.inj _ _ h.2.2⟩⟩
structure zK where
 L:Int
 z:zz (qY Int)
instance:BEq zK:=⟨λx y=>(x.L==y.L)&&(x.z==y.z)⟩
def VV (f0:Int->A)(f1:zz (qY Int)->A)(x:zK):A:=.agg [f0 x.L,f1 x.z]
structure zk where
 D:Int
 from_:Int
 N:Int
def XO (f0:Int->A)(f1:Int->A)(f2:Int->A)(x:zk):A:=.agg [f0 x.D,f1 x.from_,f2 x.N]
instance (f0:Int->A)(f1:Int->A)(f2:Int->A)[h0:K0 f0][h1:K0 f1][h2:K0 f2]:K0 (XO f0 f1 f2):=⟨λx=>by simp[XO,A.isD,A.areD,h0.isD,h1.isD,h2.isD]⟩
structure y4 where
 S:Int
 T:Int
 Word:TB
 Apart:Bool
def zO (f0:Int->A)(f1:Int->A)(f2:TB->A)(f3:Bool->A)(x:y4):A:=.agg [f0 x.S,f1 x.T,f2 x.Word,f3 x.Apart]
instance (f0:Int->A)(f1:Int->A)(f2:TB->A)(f3:Bool->A)[h0:K0 f0][h1:K0 f1][h2:K0 f2][h3:K0 f3]:K0 (zO f0 f1 f2 f3):=⟨λx=>by simp[zO,A.isD,A.areD,h0.isD,h1.isD,h2.isD,h3.isD]⟩
instance (f0:Int->A)(f1:Int->A)(f2:TB->A)(f3:Bool->A)(g0:Int->A)(g1:Int->A)(g2:TB->A)(g3:Bool->A)[h0:z0O f0 g0][h1:z0O f1 g1][h2:z0O f2 g2][h3:z0O f3 g3]:z0O (zO f0 f1 f2 f3) (zO g0 g1 g2 g3):=⟨λx=>by simp[zO,A.live,A.lives,h0.live,h1.live,h2.live,h3.live],λx=>by simp[zO,A.shut,A.shuts,h0.sh,h1.sh,h2.sh,h3.sh]⟩
structure zF where
 m_:z6
 q_:TA
 p_:TA
 O:TA
 P:List TA
 F:TA
 K:TA
def qW (f0:z6->A)(f1:TA->A)(f2:TA->A)(f3:TA->A)(f4:List TA->A)(f5:TA->A)(f6:TA->A)(x:zF):A:=.agg [f0 x.m_,f1 x.q_,f2 x.p_,f3 x.O,f4 x.P,f5 x.F,f6 x.K]
instance (f0:z6->A)(f1:TA->A)(f2:TA->A)(f3:TA->A)(f4:List TA->A)(f5:TA->A)(f6:TA->A)(g0:z6->A)(g1:TA->A)(g2:TA->A)(g3:TA->A)(g4:List TA->A)(g5:TA->A)(g6:TA->A)[h0:Wl f0 g0][h1:Wl f1 g1][h2:Wl f2 g2][h3:Wl f3 g3][h4:Wl f4 g4][h5:Wl f5 g5][h6:Wl f6 g6]:Wl (qW f0 f1 f2 f3 f4 f5 f6) (qW g0 g1 g2 g3 g4 g5 g6):=⟨λx=>by simp[qW,A.loose,A.looses,h0.lo,h1.lo,h2.lo,h3.lo,h4.lo,h5.lo,h6.lo]⟩
instance (f0:z6->A)(f1:TA->A)(f2:TA->A)(f3:TA->A)(f4:List TA->A)(f5:TA->A)(f6:TA->A)[h0:jK f0][h1:jK f1][h2:jK f2][h3:jK f3][h4:jK f4][h5:jK f5][h6:jK f6]:jK (qW f0 f1 f2 f3 f4 f5 f6):=⟨λx y h=>by simp only[qW,A.agg.injEq,List.cons.injEq,and_true]at h;cases x;cases y;simp only[zF.mk.injEq];exact⟨h0.inj _ _ h.1,h1.inj _ _ h.2.1,h2.inj _ _ h.2.2.1,h3.inj _ _ h.2.2.2.1,h4.inj _ _ h.2.2.2.2.1,h5.inj _ _ h.2.2.2.2.2.1,h6.inj _ _ h.2.2.2.2.2.2⟩⟩
structure QC where
structure zb where
 x:List (zz Int)
 s:Int
 w:Int
def yH (f0:List (zz Int)->A)(f1:Int->A)(f2:Int->A)(x:zb):A:=.agg [f0 x.x,f1 x.s,f2 x.w]
instance (f0:List (zz Int)->A)(f1:Int->A)(f2:Int->A)(g0:List (zz Int)->A)(g1:Int->A)(g2:Int->A)[h0:Wl f0 g0][h1:Wl f1 g1][h2:Wl f2 g2]:Wl (yH f0 f1 f2) (yH g0 g1 g2):=⟨λx=>by simp[yH,A.loose,A.looses,h0.lo,h1.lo,h2.lo]⟩
instance (f0:List (zz Int)->A)(f1:Int->A)(f2:Int->A)(g0:List (zz Int)->A)(g1:Int->A)(g2:Int->A)[h0:z0O f0 g0][h1:z0O f1 g1][h2:z0O f2 g2]:z0O (yH f0 f1 f2) (yH g0 g1 g2):=⟨λx=>by simp[yH,A.live,A.lives,h0.live,h1.live,h2.live],λx=>by simp[yH,A.shut,A.shuts,h0.sh,h1.sh,h2.sh]⟩
instance (f0:List (zz Int)->A)(f1:Int->A)(f2:Int->A)[h0:jK f0][h1:jK f1][h2:jK f2]:jK (yH f0 f1 f2):=⟨λx y h=>by simp only[yH,A.agg.injEq,List.cons.injEq,and_true]at h;cases x;cases y;simp only[zb.mk.injEq];exact⟨h0.inj _ _ h.1,h1.inj _ _ h.2.1,h2.inj _ _ h.2.2⟩⟩
structure Ul where
structure Vf where
structure zh where
 at_:Int
 w_:TB
def yV (f0:Int->A)(f1:TB->A)(x:zh):A:=.agg [f0 x.at_,f1 x.w_]
instance (f0:Int->A)(f1:TB->A)[h0:K0 f0][h1:K0 f1]:K0 (yV f0 f1):=⟨λx=>by simp[yV,A.isD,A.areD,h0.isD,h1.isD]⟩
instance (f0:Int->A)(f1:TB->A)(g0:Int->A)(g1:TB->A)(x:zh)[∀y,LeA (f0 y) (g0 y)][∀y,LeA (f1 y) (g1 y)][∀y,SzA (f0 y) (g0 y)][∀y,SzA (f1 y) (g1 y)]:LeA (yV f0 f1 x) (yV g0 g1 x):=by unfold yV;infer_instance
instance (f0:Int->A)(f1:TB->A)(g0:Int->A)(g1:TB->A)(x y:zh)[∀y z,SzA (f0 y) (g0 z)][∀y z,SzA (f1 y) (g1 z)]:SzA (yV f0 f1 x) (yV g0 g1 y):=by unfold yV;infer_instance
instance:zny (K:=zK) (VV (eI .i64) (XP (KK (eI .i64)))):=⟨λx y=>by obtain⟨_,⟨⟨_,_⟩,⟨_,_⟩,⟨_,_⟩,⟨_,_⟩,⟨_,_⟩,⟨_,_⟩,⟨_,_⟩,⟨_,_⟩,⟨_,_⟩,⟨_,_⟩,⟨_,_⟩,⟨_,_⟩,⟨_,_⟩,⟨_,_⟩,⟨_,_⟩,⟨_,_⟩⟩⟩:=x;obtain⟨_,⟨⟨_,_⟩,⟨_,_⟩,⟨_,_⟩,⟨_,_⟩,⟨_,_⟩,⟨_,_⟩,⟨_,_⟩,⟨_,_⟩,⟨_,_⟩,⟨_,_⟩,⟨_,_⟩,⟨_,_⟩,⟨_,_⟩,⟨_,_⟩,⟨_,_⟩,⟨_,_⟩⟩⟩:=y;simp only[XP,KK,VV,eI,KU,z3l,z3l.keyLs,zP,BEq.beq,gt,Option.some.injEq,Value.agg.injEq,gK,pL,pV,Array.mk.injEq,List.cons.injEq,Value.int.injEq,true_and,and_true,pB,decide_eq_true_eq,and_assoc]⟩
def Yi (l_:TB)(k_:Int):Option Int :=
 bif decide (k_<((l_.length:Nat):Int)) then(
  (idx l_ k_).bind λbi=>
  some (w64 (bi)))
 else(
  some 0)
def VN (x_:yj)(cm:List (List z8)):Option z6 :=
 some (z6.mk (w64 (1+(w64 (Int.tmod x_.j 3)))) (w64 (1+(w64 (Int.tmod x_.m 3)))) cm)
abbrev R0_:Type:=Option (LR (List (List z8)×Int) (List (List z8)))
def VL (s_:Int)(gl:List (List z8)):R0_ :=
 some (.next (gl,w64 (s_+1)))
def YV (i_:Int)(mg:List (List z8)):R0_ :=
 some (.next (mg,w64 (i_+1)))
def YT (x_:yj)(s_:Int)(ik:List (List z8))(i_:Int):R0_ :=
 bif decide (i_<(w64 (1+(w64 (Int.tmod x_.j 3))))) then(
  (idx ik s_).bind λpj=>
  (idx pj i_).bind λom=>
  bif decide (om.o<0) then(
   (idx ik s_).bind λk0=>
   (Yi x_.Edges (w64 ((w64 (s_*(w64 (1+(w64 (Int.tmod x_.j 3))))))+i_))).bind λr_=>
   gd (((w64 (1+(w64 (Int.tmod x_.G 6)))):Int)≠0) <|
   (idx k0 i_).bind λkr=>
   YV i_ (ik.set s_.toNat (k0.set i_.toNat (z8.mk (Int.tmod r_ (w64 (1+(w64 (Int.tmod x_.G 6))))) kr.r))))
  else(
   YV i_ ik))
 else(
  some (.done ik))
def YU (x_:yj)(gu:List (List z8))(s_:Int):R0_ :=
 bif decide (s_<(w64 (1+(w64 (Int.tmod x_.G 6))))) then(
  (loop (λs=>YT x_ s_ s.1 s.2) (gu,0)).bind λt6=>
  VL s_ t6)
 else(
  some (.done gu))
def VO (x_:yj)(bq:List (List z8)):Option z6 :=
 (loop (λs=>YU x_ s.1 s.2) (bq,0)).bind λt4=>
 VN x_ t4
def VK (bk:Int)(mh:List (List z8)):R0_ :=
 some (.next (mh,w64 (bk+1)))
def uF (x_:yj)(cn:List (List z8))(bk:Int)(k_:Int):R0_ :=
 gd (((w64 (1+(w64 (Int.tmod x_.j 3)))):Int)≠0) <|
 (idx cn (w64 (Int.tdiv k_ (w64 (1+(w64 (Int.tmod x_.j 3))))))).bind λk9=>
 gd (((w64 (1+(w64 (Int.tmod x_.j 3)))):Int)≠0) <|
 (idx k9 (Int.tmod k_ (w64 (1+(w64 (Int.tmod x_.j 3)))))).bind λku=>
 VK bk (cn.set (w64 (Int.tdiv k_ (w64 (1+(w64 (Int.tmod x_.j 3)))))).toNat (k9.set (Int.tmod k_ (w64 (1+(w64 (Int.tmod x_.j 3))))).toNat (z8.mk bk ku.r)))
def WK (x_:yj)(cn:List (List z8))(bk:Int)(free:TB):R0_ :=
 (idx free 0).bind λnz=>
 bif decide ((w64 (bk-1))<((x_.Tree.length:Nat):Int)) then(
  (idx x_.Tree (w64 (bk-1))).bind λpx=>
  gd ((((free.length:Nat):Int):Int)≠0) <|
  (idx free (Int.tmod (w64 (px)) ((free.length:Nat):Int))).bind λol=>
  uF x_ cn bk ol)
 else(
  uF x_ cn bk nz)
abbrev R1_:Type:=Option (LR (TB×Int) TB)
def Y1 (de:Int)(n7:TB):R1_ :=
 some (.next (n7,w64 (de+1)))
def Y0 (x_:yj)(cn:List (List z8))(bk:Int)(ke:TB)(de:Int):R1_ :=
 bif decide (de<(w64 (bk*(w64 (1+(w64 (Int.tmod x_.j 3))))))) then(
  gd (((w64 (1+(w64 (Int.tmod x_.j 3)))):Int)≠0) <|
  (idx cn (w64 (Int.tdiv de (w64 (1+(w64 (Int.tmod x_.j 3))))))).bind λoy=>
  gd (((w64 (1+(w64 (Int.tmod x_.j 3)))):Int)≠0) <|
  (idx oy (Int.tmod de (w64 (1+(w64 (Int.tmod x_.j 3)))))).bind λn8=>
  bif decide (n8.o<0) then(
   gd (ke.length+[de].length<=4294967296) <|
   Y1 de (ke++[de]))
  else(
   Y1 de ke))
 else(
  some (.done ke))
def YS (x_:yj)(cn:List (List z8))(bk:Int):R0_ :=
 bif decide (bk<(w64 (1+(w64 (Int.tmod x_.G 6))))) then(
  (loop (λs=>Y0 x_ cn bk s.1 s.2) (([]:TB),0)).bind λt12=>
  WK x_ cn bk t12)
 else(
  some (.done cn))
def VP (x_:yj)(gj:List (List z8)):Option z6 :=
 (loop (λs=>YS x_ s.1 s.2) (gj,1)).bind λt8=>
 VO x_ t8
def WJ (da:Int)(lw:List (List z8)):R0_ :=
 some (.next (lw,w64 (da+1)))
def WI (fe:List (List z8))(da:Int)(row:List z8):R0_ :=
 gd (fe.length+[row].length<=4294967296) <|
 WJ da (fe++[row])
abbrev R2_:Type:=Option (LR (List z8×Int) (List z8))
def ZY (x_:yj)(da:Int)(bu:List z8)(fk:Int):R2_ :=
 bif decide (fk<(w64 (1+(w64 (Int.tmod x_.j 3))))) then(
  (Yi x_.Edges (w64 ((w64 (da*(w64 (1+(w64 (Int.tmod x_.j 3))))))+fk))).bind λai=>
  gd (((w64 (1+(w64 (Int.tmod x_.G 6)))):Int)≠0) <|
  gd (((w64 (1+(w64 (Int.tmod x_.m 3)))):Int)≠0) <|
  gd (bu.length+([(z8.mk (-1) (Int.tmod (w64 (Int.tdiv ai (w64 (1+(w64 (Int.tmod x_.G 6)))))) (w64 (1+(w64 (Int.tmod x_.m 3))))))]:List z8).length<=4294967296) <|
  some (.next ((bu++([(z8.mk (-1) (Int.tmod (w64 (Int.tdiv ai (w64 (1+(w64 (Int.tmod x_.G 6)))))) (w64 (1+(w64 (Int.tmod x_.m 3))))))]:List z8)),w64 (fk+1))))
 else(
  some (.done bu))
def ZZ (x_:yj)(fe:List (List z8))(da:Int):R0_ :=
 bif decide (da<(w64 (1+(w64 (Int.tmod x_.G 6))))) then(
  (loop (λs=>ZY x_ da s.1 s.2) (([]:List z8),0)).bind λt17=>
  WI fe da t17)
 else(
  some (.done fe))
def QS (x_:yj):Option z6 :=
 gd ((6:Int)≠0) <|
 gd ((3:Int)≠0) <|
 gd ((3:Int)≠0) <|
 (loop (λs=>ZZ x_ s.1 s.2) (([]:List (List z8)),0)).bind λsa=>
 VP x_ sa
def Jy:Option Int :=
 some 0
abbrev R3_:Type:=Option (LR Int (Unit⊕Int))
def jC (i_:Int)(rc:Int)(re:Bool)(my:Bool)(rf:Bool)(rg:Bool)(oz:Bool):R3_ :=
 some (.next (w64 (i_+1)))
def ZU (m_:z6)(bl:List (List Bool))(s_:Int)(t_:Int)(i_:Int):R3_ :=
 bif decide (i_<m_.j) then(
  (idx m_.i s_).bind λap=>
  (idx ap i_).bind λal=>
  (idx m_.i t_).bind λdu=>
  (idx du i_).bind λbp=>
  bif al.r !=bp.r then(
   some (.done (.inr 1)))
  else(
   bif decide (al.o>=0) then(
    bif decide (bp.o>=0) then(
     (idx bl al.o).bind λjp=>
     (idx jp bp.o).bind λgm=>
     bif gm then(
      some (.done (.inr 1)))
     else(
      jC i_ al.o (decide (al.o>=0)) (decide (al.o>=0)) (decide (bp.o>=0)) (decide (bp.o>=0)) gm))
    else(
     jC i_ al.o (decide (al.o>=0)) (decide (al.o>=0)) (decide (bp.o>=0)) (decide (bp.o>=0)) false))
   else(
    jC i_ al.o (decide (al.o>=0)) (decide (al.o>=0)) false false false)))
 else(
  some (.done (.inl ())))
def VA (m_:z6)(bl:List (List Bool))(s_:Int)(t_:Int):Option Int :=
 (loop (λs=>ZU m_ bl s_ t_ s) 0).bind λt2=>
 match t2 with
 |.inl p=>Jy
 |.inr p=>some p
abbrev R4_:Type:=Option (List (List Bool))
def XA (nl:List (List Bool)):R4_ :=
 some nl
abbrev R5_:Type:=Option (LR (List (List Bool)×Int) (List (List Bool)))
def Xz (round:Int)(mi:List (List Bool)):R5_ :=
 some (.next (mi,w64 (round+1)))
def Xy (round:Int)(next:List (List Bool)):R5_ :=
 Xz round next
def Xx (s_:Int)(ff:List (List Bool)):R5_ :=
 some (.next (ff,w64 (s_+1)))
def qA (m_:z6)(dg:List (List Bool))(s_:Int)(cb:List (List Bool))(t_:Int):R5_ :=
 bif decide (t_<((m_.i.length:Nat):Int)) then(
  (idx cb s_).bind λjq=>
  (idx dg s_).bind λjp=>
  (idx jp t_).bind λgm=>
  bif gm then(
   (idx jq t_).bind λqm=>
   some (.next ((cb.set s_.toNat (jq.set t_.toNat true)),w64 (t_+1))))
  else(
   (VA m_ dg s_ t_).bind λr_=>
   (idx jq t_).bind λpy=>
   some (.next ((cb.set s_.toNat (jq.set t_.toNat (r_==1))),w64 (t_+1)))))
 else(
  some (.done cb))
def qB (m_:z6)(dg:List (List Bool))(cr:List (List Bool))(s_:Int):R5_ :=
 bif decide (s_<((m_.i.length:Nat):Int)) then(
  gd ((0:Int)<=((m_.i.length:Nat):Int)/\(((m_.i.length:Nat):Int):Int)<=4294967296) <|
  gd (cr.length+[(List.replicate ((m_.i.length:Nat):Int).toNat false)].length<=4294967296) <|
  (loop (λs=>qA m_ dg s_ s.1 s.2) ((cr++[(List.replicate ((m_.i.length:Nat):Int).toNat false)]),0)).bind λt8=>
  Xx s_ t8)
 else(
  some (.done cr))
def qC (m_:z6)(k_:Int)(dg:List (List Bool))(round:Int):R5_ :=
 bif decide (round<k_) then(
  (loop (λs=>qB m_ dg s.1 s.2) (([]:List (List Bool)),0)).bind λt6=>
  Xy round t6)
 else(
  some (.done dg))
def XB (m_:z6)(k_:Int)(bl:List (List Bool)):R4_ :=
 (loop (λs=>qC m_ k_ s.1 s.2) (bl,0)).bind λt3=>
 XA t3
def qz (m_:z6)(jz:List (List Bool))(bk:Int):R5_ :=
 bif decide (bk<((m_.i.length:Nat):Int)) then(
  gd ((0:Int)<=((m_.i.length:Nat):Int)/\(((m_.i.length:Nat):Int):Int)<=4294967296) <|
  gd (jz.length+[(List.replicate ((m_.i.length:Nat):Int).toNat false)].length<=4294967296) <|
  some (.next ((jz++[(List.replicate ((m_.i.length:Nat):Int).toNat false)]),w64 (bk+1))))
 else(
  some (.done jz))
def Wc (m_:z6)(k_:Int):R4_ :=
 (loop (λs=>qz m_ s.1 s.2) (([]:List (List Bool)),0)).bind λt9=>
 XB m_ k_ t9
def Wb (out:TB):Option TB :=
 some out
abbrev R6_:Type:=Option (LR (TB×Int×Int) TB)
def Z9 (s_:Int)(ax:TB)(ca:Int):R6_ :=
 some (.next (ax,ca,w64 (s_+1)))
def va (aj:TB)(s_:Int)(cd:Int)(kw:Int):R6_ :=
 gd (aj.length+[kw].length<=4294967296) <|
 Z9 s_ (aj++[kw]) cd
def kZ (aj:TB)(n_:Int)(s_:Int)(b_:Int):R6_ :=
 bif decide (b_<0) then(
  va aj s_ (w64 (n_+1)) n_)
 else(
  va aj s_ n_ b_)
abbrev R7_:Type:=Option (LR (Int×Int) Int)
def uM (t_:Int)(pz:Int):R7_ :=
 some (.next (pz,w64 (t_+1)))
def kY (bl:List (List Bool))(aj:TB)(s_:Int)(oq:Int)(t_:Int):R7_ :=
 bif decide (t_<s_) then(
  (idx bl s_).bind λjp=>
  (idx jp t_).bind λgm=>
  bif !gm then(
   (idx aj t_).bind λdn=>
   uM t_ dn)
  else(
   uM t_ oq))
 else(
  some (.done oq))
def Wa (bl:List (List Bool))(aj:TB)(n_:Int)(s_:Int):R6_ :=
 bif decide (s_<((bl.length:Nat):Int)) then(
  (loop (λs=>kY bl aj s_ s.1 s.2) ((-1),0)).bind λt6=>
  kZ aj n_ s_ t6)
 else(
  some (.done aj))
def Za (bl:List (List Bool)):Option TB :=
 (loop (λs=>Wa bl s.1 s.2.1 s.2.2) (([]:TB),0,0)).bind λt2=>
 Wb t2
def Qi (m_:z6)(k_:Int):Option TB :=
 (Wc m_ k_).bind λr_=>
 (Za r_).bind λai=>
 some ai
def Zb (m_:z6):Option TB :=
 (Qi m_ ((m_.i.length:Nat):Int)).bind λr_=>
 some r_
def V5 (m_:z6)(s_:Int)(i_:Int):Option z8 :=
 bif decide (s_<0) then(
  some (z8.mk (-1) (-1)))
 else(
  (idx m_.i s_).bind λap=>
  (idx ap i_).bind λal=>
  some al)
def Zd (mz:z6->Int->TB->Option Int)(m_:z6)(s_:Int)(w_:TB):Option Int :=
 bif ((w_.length:Nat):Int)==0 then(
  some s_)
 else(
  (idx w_ 0).bind λfc=>
  (V5 m_ s_ fc).bind λr_=>
  gd ((0:Int)<=1/\(1:Int)<=((w_.length:Nat):Int)/\(((w_.length:Nat):Int):Int)<=((w_.length:Nat):Int)) <|
  (mz m_ r_.o (w_.drop (1:Int).toNat)).bind λai=>
  some ai)
def Zc (fu:Nat):z6->Int->TB->Option Int:=Nat.rec (motive:=λ_=>z6->Int->TB->Option Int) (λ_ _ _=>none) (λ_ ih=>Zd ih) fu
def XC (m_:z6)(s_:Int)(w_:TB):Option Int:=Zc (w_.length+1) m_ s_ w_
def YN (out:TB):Option TB :=
 gd (out.length+([0]:TB).length<=4294967296) <|
 some (out++([0]:TB))
abbrev R8_:Type:=Option (LR (TB×Int) (TB⊕TB))
def VB (inputs:Int)(aj:TB)(k_:Int):R8_ :=
 bif decide (k_>=0) then(
  (idx aj k_).bind λdn=>
  bif decide ((w64 (dn+1))<inputs) then(
   (idx aj k_).bind λjr=>
   (idx aj k_).bind λo7=>
   some (.done (.inr (aj.set k_.toNat (w64 (jr+1))))))
  else(
   (idx aj k_).bind λo8=>
   some (.next ((aj.set k_.toNat 0),w64 (k_-1)))))
 else(
  some (.done (.inl aj)))
def X4 (w_:TB)(inputs:Int):Option TB :=
 gd (([]:TB).length+w_.length<=4294967296) <|
 (loop (λs=>VB inputs s.1 s.2) (w_,w64 (((w_.length:Nat):Int)-1))).bind λt2=>
 match t2 with
 |.inl p=>YN p
 |.inr p=>some p
abbrev R9_:Type:=Option (TA×List Bool)
def WD (l_:TA)(is:List Bool):R9_ :=
 some (l_,is)
abbrev zoP:Type:=Option (LR (TA×List Bool×TB) ((TA×List Bool)))
def uD (m_:z6)(w_:TB)(j6:TA)(p0:List Bool):zoP :=
 (X4 w_ m_.j).bind λr_=>
 some (.next (j6,p0,r_))
def Jz (m_:z6)(from_:Int)(dr:TA)(ii:List Bool)(w_:TB):zoP :=
 bif decide (((w_.length:Nat):Int)<((m_.i.length:Nat):Int)) then(
  (XC m_ from_ w_).bind λai=>
  bif decide (ai>=0) then(
   (idx ii ai).bind λpq=>
   bif !pq then(
    (idx ii ai).bind λr8=>
    (idx dr ai).bind λbi=>
    uD m_ w_ (dr.set ai.toNat w_) (ii.set ai.toNat true))
   else(
    uD m_ w_ dr ii))
  else(
   uD m_ w_ dr ii))
 else(
  some (.done (dr,ii)))
def VD (m_:z6)(from_:Int):R9_ :=
 gd ((0:Int)<=((m_.i.length:Nat):Int)/\(((m_.i.length:Nat):Int):Int)<=4294967296) <|
 gd ((0:Int)<=((m_.i.length:Nat):Int)/\(((m_.i.length:Nat):Int):Int)<=4294967296) <|
 (loop (λs=>Jz m_ from_ s.1 s.2.1 s.2.2) ((List.replicate ((m_.i.length:Nat):Int).toNat ([]:TB)),(List.replicate ((m_.i.length:Nat):Int).toNat false),([]:TB))).bind λt2=>
 WD t2.1 t2.2
def Yf (m_:z6):R9_ :=
 (VD m_ 0).bind λr_=>
 some (r_.1,r_.2)
def Kw:Option Int :=
 some 0
def VC (a_:TB)(b_:TB)(i_:Int):R3_ :=
 bif decide (i_<((a_.length:Nat):Int)) then(
  (idx a_ i_).bind λdv=>
  (idx b_ i_).bind λdx=>
  bif dv !=dx then(
   (idx a_ i_).bind λi6=>
   (idx b_ i_).bind λl6=>
   bif decide (i6<l6) then(
    some (.done (.inr 1)))
   else(
    some (.done (.inr 0))))
  else(
   some (.next (w64 (i_+1)))))
 else(
  some (.done (.inl ())))
def QI (a_:TB)(b_:TB):Option Int :=
 bif ((a_.length:Nat):Int) !=((b_.length:Nat):Int) then(
  bif decide (((a_.length:Nat):Int)<((b_.length:Nat):Int)) then(
   some 1)
  else(
   some 0))
 else(
  (loop (λs=>VC a_ b_ s) 0).bind λt2=>
  match t2 with
  |.inl p=>Kw
  |.inr p=>some p)
def WE (out:TB):Option TB :=
 some out
def uE (s_:Int)(ax:TB):R1_ :=
 some (.next (ax,w64 (s_+1)))
def ZV (aj:TB)(s_:Int)(k_:Int):R1_ :=
 gd ((0:Int)<=0/\(0:Int)<=k_/\(k_:Int)<=((aj.length:Nat):Int)) <|
 gd (([]:TB).length+((aj.drop 0).take (k_.toNat-0)).length<=4294967296) <|
 gd (((aj.drop 0).take (k_.toNat-0)).length+[s_].length<=4294967296) <|
 gd ((0:Int)<=k_/\(k_:Int)<=((aj.length:Nat):Int)/\(((aj.length:Nat):Int):Int)<=((aj.length:Nat):Int)) <|
 gd ((((aj.drop 0).take (k_.toNat-0))++[s_]).length+(aj.drop k_.toNat).length<=4294967296) <|
 uE s_ ((((aj.drop 0).take (k_.toNat-0))++[s_])++(aj.drop k_.toNat))
def jD (r_:TA×List Bool)(aj:TB)(s_:Int)(de:Int):Option (LR Int Int) :=
 bif decide (de<((aj.length:Nat):Int)) then(
  (idx aj de).bind λdn=>
  (idx r_.1 dn).bind λqp=>
  (idx r_.1 s_).bind λqq=>
  (QI qp qq).bind λai=>
  bif ai==1 then(
   some (.next (w64 (de+1))))
  else(
   some (.done de)))
 else(
  some (.done de))
def jE (r_:TA×List Bool)(aj:TB)(s_:Int):R1_ :=
 bif decide (s_<((r_.1.length:Nat):Int)) then(
  (idx r_.2 s_).bind λu_=>
  bif !u_ then(
   uE s_ aj)
  else(
   (loop (λs=>jD r_ aj s_ s) 0).bind λt5=>
   ZV aj s_ t5))
 else(
  some (.done aj))
def VE (m_:z6):Option TB :=
 (Yf m_).bind λr_=>
 (loop (λs=>jE r_ s.1 s.2) (([]:TB),0)).bind λt2=>
 WE t2
def Xw (out:TB):Option TB :=
 some out
def qo (k_:Int)(ax:TB):R1_ :=
 some (.next (ax,w64 (k_+1)))
def Xv (ai:TB)(aj:TB)(k_:Int)(there:Int):R1_ :=
 bif there==0 then(
  (idx ai k_).bind λdm=>
  gd (aj.length+[dm].length<=4294967296) <|
  qo k_ (aj++[dm]))
 else(
  qo k_ aj)
def kX (n_:Int)(nc:Int):R7_ :=
 some (.next (nc,w64 (n_+1)))
def Xu (r_:TB)(ai:TB)(k_:Int)(ee:Int)(n_:Int):R7_ :=
 bif decide (n_<k_) then(
  (idx ai n_).bind λip=>
  (idx r_ ip).bind λn9=>
  (idx ai k_).bind λoa=>
  (idx r_ oa).bind λqr=>
  bif n9==qr then(
   kX n_ 1)
  else(
   kX n_ ee))
 else(
  some (.done ee))
def Qh (r_:TB)(ai:TB)(aj:TB)(k_:Int):R1_ :=
 bif decide (k_<((ai.length:Nat):Int)) then(
  (loop (λs=>Xu r_ ai k_ s.1 s.2) (0,0)).bind λt5=>
  Xv ai aj k_ t5)
 else(
  some (.done aj))
def kA (m_:z6):Option TB :=
 (Zb m_).bind λr_=>
 (VE m_).bind λai=>
 (loop (λs=>Qh r_ ai s.1 s.2) (([]:TB),0)).bind λt2=>
 Xw t2
def YC (out:List Bool):Option (List Bool) :=
 some out
abbrev ziN:Type:=Option (LR (List Bool×Int) (List Bool))
def YB (round:Int)(ax:List Bool):ziN :=
 some (.next (ax,w64 (round+1)))
def YA (s_:Int)(gx:List Bool):ziN :=
 some (.next (gx,w64 (s_+1)))
def uu (i_:Int)(o9:List Bool):ziN :=
 some (.next (o9,w64 (i_+1)))
def Yy (m_:z6)(s_:Int)(kg:List Bool)(i_:Int):ziN :=
 bif decide (i_<m_.j) then(
  (idx m_.i s_).bind λap=>
  (idx ap i_).bind λal=>
  (idx kg s_).bind λdn=>
  bif dn then(
   bif decide (al.o>=0) then(
    (idx kg al.o).bind λjr=>
    uu i_ (kg.set al.o.toNat true))
   else(
    uu i_ kg))
  else(
   uu i_ kg))
 else(
  some (.done kg))
def Yz (m_:z6)(bo:List Bool)(s_:Int):ziN :=
 bif decide (s_<((m_.i.length:Nat):Int)) then(
  (loop (λs=>Yy m_ s_ s.1 s.2) (bo,0)).bind λt6=>
  YA s_ t6)
 else(
  some (.done bo))
def Uh (m_:z6)(aj:List Bool)(round:Int):ziN :=
 bif decide (round<((m_.i.length:Nat):Int)) then(
  (loop (λs=>Yz m_ s.1 s.2) (aj,0)).bind λt4=>
  YB round t4)
 else(
  some (.done aj))
def YO (m_:z6)(from_:Int):Option (List Bool) :=
 gd ((0:Int)<=((m_.i.length:Nat):Int)/\(((m_.i.length:Nat):Int):Int)<=4294967296) <|
 (idx (List.replicate ((m_.i.length:Nat):Int).toNat false) from_).bind λmj=>
 (loop (λs=>Uh m_ s.1 s.2) (((List.replicate ((m_.i.length:Nat):Int).toNat false).set from_.toNat true),0)).bind λt2=>
 YC t2
def Qg (out:TB):Option TB :=
 some out
def Qe (s_:Int)(ax:TB):R1_ :=
 some (.next (ax,w64 (s_+1)))
def Qd (aj:TB)(s_:Int)(k_:Int):R1_ :=
 gd (aj.length+[k_].length<=4294967296) <|
 Qe s_ (aj++[k_])
def Ye (n_:Int)(kj:Int):R7_ :=
 some (.next (kj,w64 (n_+1)))
def Qc (r_:TB)(ai:TB)(ak:List Bool)(s_:Int)(de:Int)(n_:Int):R7_ :=
 bif decide (n_<((ai.length:Nat):Int)) then(
  (idx ak s_).bind λdm=>
  bif dm then(
   (idx ai n_).bind λip=>
   (idx r_ ip).bind λn9=>
   (idx r_ s_).bind λoa=>
   bif n9==oa then(
    Ye n_ n_)
   else(
    Ye n_ de))
  else(
   Ye n_ de))
 else(
  some (.done de))
def z0C (r_:TB)(ai:TB)(ak:List Bool)(aj:TB)(s_:Int):R1_ :=
 bif decide (s_<((r_.length:Nat):Int)) then(
  (loop (λs=>Qc r_ ai ak s_ s.1 s.2) ((-1),0)).bind λt5=>
  Qd aj s_ t5)
 else(
  some (.done aj))
def Ku (m_:z6):Option TB :=
 (Zb m_).bind λr_=>
 (kA m_).bind λai=>
 (YO m_ 0).bind λak=>
 (loop (λs=>z0C r_ ai ak s.1 s.2) (([]:TB),0)).bind λt2=>
 Qg t2
def Yx (m_:z6)(gy:List (List z8)):Option z6 :=
 some (z6.mk m_.j m_.m gy)
def Yw (k_:Int)(gp:List (List z8)):R0_ :=
 some (.next (gp,w64 (k_+1)))
def Yv (bt:List (List z8))(k_:Int)(row:List z8):R0_ :=
 gd (bt.length+[row].length<=4294967296) <|
 Yw k_ (bt++[row])
def ut (bu:List z8)(i_:Int)(al:z8)(gz:Int):R2_ :=
 gd (bu.length+[(z8.mk gz al.r)].length<=4294967296) <|
 some (.next ((bu++[(z8.mk gz al.r)]),w64 (i_+1)))
def Yt (m_:z6)(r_:TB)(ai:TB)(k_:Int)(bu:List z8)(i_:Int):R2_ :=
 bif decide (i_<m_.j) then(
  (idx r_ k_).bind λdm=>
  (idx m_.i dm).bind λap=>
  (idx ap i_).bind λal=>
  bif decide (al.o>=0) then(
   (idx ai al.o).bind λip=>
   ut bu i_ al ip)
  else(
   ut bu i_ al al.o))
 else(
  some (.done bu))
def Yu (m_:z6)(r_:TB)(ai:TB)(bt:List (List z8))(k_:Int):R0_ :=
 bif decide (k_<((r_.length:Nat):Int)) then(
  (loop (λs=>Yt m_ r_ ai k_ s.1 s.2) (([]:List z8),0)).bind λt5=>
  Yv bt k_ t5)
 else(
  some (.done bt))
def YM (m_:z6):Option z6 :=
 (kA m_).bind λr_=>
 (Ku m_).bind λai=>
 (loop (λs=>Yu m_ r_ ai s.1 s.2) (([]:List (List z8)),0)).bind λt2=>
 Yx m_ t2
def QR (x_:Yn):Option z6 :=
 gd ((5:Int)≠0) <|
 (QS (yj.mk (Int.tmod x_.C.G 5) x_.C.j x_.C.m x_.C.Tree x_.C.Edges)).bind λr_=>
 (YM r_).bind λai=>
 some ai
def ug:Option z8 :=
 some (z8.mk (-1) (-1))
def YR (m_:z6)(x_:z8):Option Bool :=
 (ug).bind λr_=>
 bif (x_.o==r_.o)&&((x_.r==r_.r)&&true) then(
  some true)
 else(
  bif decide (x_.o>=0) then(
   bif decide (x_.o<((m_.i.length:Nat):Int)) then(
    bif decide (x_.r>=0) then(
     some (decide (x_.r<m_.m)))
    else(
     some false))
   else(
    some false))
  else(
   some false))
def YE (x_:z8)(x1:z6):Option Bool :=
 (YR x1 x_).bind λr_=>
 some (!r_)
def wk:Option Int :=
 some (-1)
def yc (s_:List z8)(f_:z6)(x8:Int):R3_ :=
 bif decide (x8<((s_.length:Nat):Int)) then(
  (idx s_ x8).bind λeb=>
  (YE eb f_).bind λr_=>
  bif r_ then(
   some (.done (.inr x8)))
  else(
   some (.next (w64 (x8+1)))))
 else(
  some (.done (.inl ())))
def xm (s_:List z8)(f_:z6):Option Int :=
 (loop (λs=>yc s_ f_ s) 0).bind λt2=>
 match t2 with
 |.inl p=>wk
 |.inr p=>some p
def yd (s_:List z8)(f_:z6):Option Bool :=
 (xm s_ f_).bind λr_=>
 some (decide (r_>=0))
def V9:Option Int :=
 some 0
def qR (m_:z6)(kl:Int):R3_ :=
 bif decide (kl<((m_.i.length:Nat):Int)) then(
  (idx m_.i kl).bind λap=>
  bif ((ap.length:Nat):Int) !=m_.j then(
   some (.done (.inr 1)))
  else(
   (yd ap m_).bind λr_=>
   bif r_ then(
    some (.done (.inr 1)))
   else(
    some (.next (w64 (kl+1))))))
 else(
  some (.done (.inl ())))
def xq (m_:z6):Option Int :=
 bif decide (m_.j>16) then(
  some 3)
 else(
  bif decide (m_.m>16) then(
   some 3)
  else(
   bif decide (((m_.i.length:Nat):Int)>64) then(
    some 3)
   else(
    bif decide (m_.j<1) then(
     some 1)
    else(
     bif decide (m_.m<1) then(
      some 1)
     else(
      bif decide (((m_.i.length:Nat):Int)<1) then(
       some 1)
      else(
       (loop (λs=>qR m_ s) 0).bind λt2=>
       match t2 with
       |.inl p=>V9
       |.inr p=>some p))))))
def XD (m_:z6):Option ((Int×z6)×(Int×z6)×(Int×z6)) :=
 some ((9,m_),(11,m_),(12,m_))
def WG (m_:z6):Option z6 :=
 some m_
variable {σ:Type}
def jU (gi:Int)(js:σ):Option (LR (σ×Int) σ) :=
 some (.next (js,w64 (gi+1)))
def wM (yy:σ->(qY Int×z8)->Option (σ×Bool))(gi:Int)(ap:List z8)(gg:σ)(ba:Int):Option (LR (σ×Int) (σ⊕σ)) :=
 bif decide (ba<((ap.length:Nat):Int)) then(
  (idx ap ba).bind λal=>
  (yy gg ((qY.mk gi ba),al)).bind λyr=>
  bif !yr.2 then(
   some (.done (.inr yr.1)))
  else(
   some (.next (yr.1,w64 (ba+1)))))
 else(
  some (.done (.inl gg)))
def uh (x0:z6)(yy:σ->(qY Int×z8)->Option (σ×Bool))(dw:σ)(gi:Int):Option (LR (σ×Int) σ) :=
 bif decide (gi<((x0.i.length:Nat):Int)) then(
  (idx x0.i gi).bind λap=>
  (loop (λs=>wM yy gi ap s.1 s.2) (dw,0)).bind λt3=>
  match t3 with
  |.inl p=>jU gi p
  |.inr p=>some (.done p))
 else(
  some (.done dw))
def jQ (x0:z6){σ:Type}(yy:σ->(qY Int×z8)->Option (σ×Bool))(sg:σ):Option σ :=
 (loop (λs=>uh x0 yy s.1 s.2) (sg,0)).bind λt1=>
 some t1
abbrev znu:Type:=Option (List (qY Int))
def ue (s_:List (qY Int)):znu :=
 gd ((0:Int)<=0/\(0:Int)<=((s_.length:Nat):Int)/\(((s_.length:Nat):Int):Int)<=((s_.length:Nat):Int)/\(((s_.length:Nat):Int):Int)<=((s_.length:Nat):Int)) <|
 some ((s_.drop 0).take (((s_.length:Nat):Int).toNat-0))
def qD (out:List (qY Int)):znu :=
 (ue out).bind λr_=>
 some r_
def yx (aj:List (qY Int))(x8:qY Int)(x9:z8):Option (LR (List (qY Int)) Empty) :=
 (ug).bind λak=>
 bif (x9.o==ak.o)&&((x9.r==ak.r)&&true) then(
  gd (aj.length+[x8].length<=4294967296) <|
  some (.next (aj++[x8])))
 else(
  some (.next aj))
def Ze (m_:z6):znu :=
 (WG m_).bind λai=>
 (jQ ai (yOf (λs x=>yx s x.1 x.2)) (.next ([]:List (qY Int)))).bind λt2=>
 match t2 with
 |.next aj=>(
  qD aj)
 |.done z=>nomatch z
def qQ (m_:z6):Option (Bool×Int) :=
 (xq m_).bind λr_=>
 bif r_ !=0 then(
  some (false,r_))
 else(
  (Ze m_).bind λai=>
  some (((ai.length:Nat):Int)==0,0))
def ZH (x0:z6):Option Bool :=
 (qQ x0).bind λr_=>
 some r_.1
def wq (mz:Int->(List Bool)->z6->Option (List Bool×z6))(ap:List z8)(x1:List Bool)(jt:Int)(jd:Int)(la:List (List z8))(ga:Int):Option (LR (List Bool×Int×Int×List (List z8)×Int) ((List Bool×z6))) :=
 bif decide (ga<((ap.length:Nat):Int)) then(
  (idx ap ga).bind λal=>
  (mz al.o x1 (z6.mk jt jd la)).bind λr_=>
  some (.next (r_.1,r_.2.j,r_.2.m,r_.2.i,w64 (ga+1))))
 else(
  some (.done (x1,(z6.mk jt jd la))))
def wP (mz:Int->(List Bool)->z6->Option (List Bool×z6))(s_:Int)(y0:List Bool)(y1:z6):Option (List Bool×z6) :=
 bif s_==(-1) then(
  some (y0,y1))
 else(
  (idx y0 s_).bind λsb=>
  bif sb then(
   some (y0,y1))
  else(
   (idx y0 s_).bind λsf=>
   (idx y1.i s_).bind λap=>
   (loop (λs=>wq mz ap s.1 s.2.1 s.2.2.1 s.2.2.2.1 s.2.2.2.2) ((y0.set s_.toNat true),y1.j,y1.m,y1.i,0)).bind λt1=>
   some t1))
def yf (fu:Nat):Int->(List Bool)->z6->Option (List Bool×z6):=Nat.rec (motive:=λ_=>Int->(List Bool)->z6->Option (List Bool×z6)) (λ_ _ _=>none) (λ_ ih=>wP ih) fu
def jB:Option Int :=
 some (-1)
def xQ (s_:List Bool)(v_:Bool)(x8:Int):R3_ :=
 bif decide (x8<((s_.length:Nat):Int)) then(
  (idx s_ x8).bind λeb=>
  bif v_==eb then(
   some (.done (.inr x8)))
  else(
   some (.next (w64 (x8+1)))))
 else(
  some (.done (.inl ())))
def uI (s_:List Bool)(v_:Bool):Option Int :=
 (loop (λs=>xQ s_ v_ s) 0).bind λt2=>
 match t2 with
 |.inl p=>jB
 |.inr p=>some p
def xR (s_:List Bool)(v_:Bool):Option Bool :=
 (uI s_ v_).bind λr_=>
 some (decide (r_>=0))
def vb (m_:z6):Option (Bool×Int) :=
 (xq m_).bind λr_=>
 bif r_ !=0 then(
  some (false,r_))
 else(
  gd ((0:Int)<=((m_.i.length:Nat):Int)/\(((m_.i.length:Nat):Int):Int)<=4294967296) <|
  (yf Ur 0 (List.replicate ((m_.i.length:Nat):Int).toNat false) m_).bind λai=>
  (xR ai.1 false).bind λak=>
  some (!ak,0))
def ZG (x0:z6):Option Bool :=
 (vb x0).bind λr_=>
 some r_.1
def Wt (m_:z6):Option z6 :=
 some m_
def Xn (out:zz (qY Int)):Option (zz (qY Int)) :=
 some out
abbrev zoO:Type:=Option (LR (zz (qY Int)×Int) (zz (qY Int)))
def kQ (ft:Int)(ax:zz (qY Int)):zoO :=
 some (.next (ax,w64 (ft+1)))
def Xm (p_:TB)(ap:List z8)(aj:zz (qY Int))(ft:Int):zoO :=
 bif decide (ft<((ap.length:Nat):Int)) then(
  (idx ap ft).bind λal=>
  (idx (zz.toL aj) ft).bind λcell=>
  (some (zz.setI aj ft (qY.mk al.r (-1)))).bind λarr=>
  bif al.o !=(-1) then(
   (idx p_ al.o).bind λbj=>
   (idx (zz.toL arr) ft).bind λco=>
   (some (zz.setI arr ft (qY.mk co.e0 bj))).bind λarr1=>
   kQ ft arr1)
  else(
   kQ ft arr))
 else(
  some (.done aj))
def ki (m_:z6)(p_:TB)(s_:Int):Option (zz (qY Int)) :=
 (idx m_.i s_).bind λap=>
 (loop (λs=>Xm p_ ap s.1 s.2) ((zz.mk (qY.mk 0 0) (qY.mk 0 0) (qY.mk 0 0) (qY.mk 0 0) (qY.mk 0 0) (qY.mk 0 0) (qY.mk 0 0) (qY.mk 0 0) (qY.mk 0 0) (qY.mk 0 0) (qY.mk 0 0) (qY.mk 0 0) (qY.mk 0 0) (qY.mk 0 0) (qY.mk 0 0) (qY.mk 0 0)),0)).bind λt2=>
 Xn t2
def kS (out:TB):Option TB :=
 some out
abbrev zoN:Type:=Option (LR ((List (zK×Int))×TB×Int) TB)
def v6 (aj:TB)(gh:Int)(bj:Int)(r_:zz (qY Int))(jf:List (zK×Int)):zoN :=
 (some ((Vj jf (zK.mk bj r_)).getD 0)).bind λval=>
 (idx aj gh).bind λdn=>
 some (.next (jf,(aj.set gh.toNat val),w64 (gh+1)))
def kR (m_:z6)(p_:TB)(names:List (zK×Int))(aj:TB)(gh:Int):zoN :=
 bif decide (gh<((p_.length:Nat):Int)) then(
  (idx p_ gh).bind λbj=>
  (ki m_ p_ gh).bind λr_=>
  (some ((Vj names (zK.mk bj r_)).getD 0)).bind λrh=>
  bif !((Vj names (zK.mk bj r_)).isSome) then(
   v6 aj gh bj r_ (z2h names (zK.mk bj r_) ((names.length:Nat):Int)))
  else(
   v6 aj gh bj r_ names))
 else(
  some (.done aj))
def kT (m_:z6)(p_:TB):Option TB :=
 gd ((0:Int)<=((p_.length:Nat):Int)/\(((p_.length:Nat):Int):Int)<=4294967296) <|
 (loop (λs=>kR m_ p_ s.1 s.2.1 s.2.2) (([]:List (zK×Int)),(List.replicate ((p_.length:Nat):Int).toNat (0:Int)),0)).bind λt2=>
 kS t2
def ud:Option Bool :=
 some true
abbrev ziM:Type:=Option (LR Int (Unit⊕Bool))
def wo (s1:TB)(s2:TB)(fq:Int):ziM :=
 bif decide (fq<((s1.length:Nat):Int)) then(
  (idx s1 fq).bind λpa=>
  (idx s2 fq).bind λnw=>
  bif pa !=nw then(
   some (.done (.inr false)))
  else(
   some (.next (w64 (fq+1)))))
 else(
  some (.done (.inl ())))
def vA (s1:TB)(s2:TB):Option Bool :=
 bif ((s1.length:Nat):Int) !=((s2.length:Nat):Int) then(
  some false)
 else(
  (loop (λs=>wo s1 s2 s) 0).bind λt2=>
  match t2 with
  |.inl p=>ud
  |.inr p=>some p)
def uf (x0:z6)(yy:σ->TB->Option (σ×Bool))(dw:σ)(p_:TB):Option (LR (σ×TB) σ) :=
 (yy dw p_).bind λyr=>
 bif yr.2 then(
  (kT x0 p_).bind λr_=>
  (vA p_ r_).bind λai=>
  bif ai then(
   some (.done yr.1))
  else(
   some (.next (yr.1,r_))))
 else(
  some (.done yr.1))
def jN (x0:z6){σ:Type}(yy:σ->TB->Option (σ×Bool))(sg:σ):Option σ :=
 gd ((0:Int)<=((x0.i.length:Nat):Int)/\(((x0.i.length:Nat):Int):Int)<=4294967296) <|
 (loop (λs=>uf x0 yy s.1 s.2) (sg,(List.replicate ((x0.i.length:Nat):Int).toNat (0:Int)))).bind λt1=>
 some t1
def kU (p_:TB)(n_:Int):Option (TB×Int×Int) :=
 some (p_,n_,0)
def v7 (nv:TB)(ca:Int)(kq:TB):Option (LR (TB×Int) Empty) :=
 some (.next (kq,w64 (ca+1)))
def kV (m_:z6):Option (TB×Int×Int) :=
 (xq m_).bind λr_=>
 bif r_ !=0 then(
  some (([]:TB),0,r_))
 else(
  (Wt m_).bind λai=>
  (jN ai (yOf (λs x=>v7 s.1 s.2 x)) (.next (([]:TB),(-1)))).bind λt2=>
  match t2 with
  |.next (nv,ca)=>(
   kU nv ca)
  |.done z=>nomatch z)
def q9 (m_:Int):Option Int :=
 some m_
def uZ (x_:TB)(pb:Int)(i_:Int):R7_ :=
 bif decide (i_<((x_.length:Nat):Int)) then(
  (idx x_ i_).bind λl7=>
  some (.next ((mx pb l7),w64 (i_+1))))
 else(
  some (.done pb))
def uK (x_:TB):Option Int :=
 bif decide (((x_.length:Nat):Int)<1) then(
  none)
 else(
  (idx x_ 0).bind λmq=>
  (loop (λs=>uZ x_ s.1 s.2) (mq,1)).bind λt2=>
  q9 t2)
def ZF (x0:z6):Option Bool :=
 (kV x0).bind λr_=>
 (uK r_.1).bind λai=>
 some (ai==(w64 (((r_.1.length:Nat):Int)-1)))
def jT:Option Int :=
 some 0
def we (m_:z6):Option Int :=
 (xq m_).bind λr_=>
 bif r_ !=0 then(
  some r_)
 else(
  (XD m_).bind λai=>
  (ZH ai.1.2).bind λak=>
  bif !ak then(
   some ai.1.1)
  else(
   (ZG ai.2.1.2).bind λam=>
   bif !am then(
    some ai.2.1.1)
   else(
    (ZF ai.2.2.2).bind λaz=>
    bif !az then(
     some ai.2.2.1)
    else(
     jT))))
def Yb (m_:z6)(bound:Int):Option Int :=
 (we m_).bind λr_=>
 bif r_ !=0 then(
  some r_)
 else(
  bif decide (bound<((m_.i.length:Nat):Int)) then(
   some 1)
  else(
   bif decide (bound>(w64 (((m_.i.length:Nat):Int)+4))) then(
    some 1)
   else(
    some 0)))
def Wn (m_:z6)(from_:Int):Option (z6×Int) :=
 some (m_,from_)
def yZ (jl:Int)(eu:List Bool)(nd:List zk):Option (LR (List Bool×List zk×Int) ((σ×List Bool×List zk))) :=
 some (.next (eu,nd,w64 (jl+1)))
def wF (cw:zk)(yr:σ×Bool)(ap:List z8)(gn:List Bool)(fx:List zk)(jl:Int):Option (LR (List Bool×List zk×Int) ((σ×List Bool×List zk))) :=
 bif decide (jl<((ap.length:Nat):Int)) then(
  (idx ap jl).bind λal=>
  bif al.o !=(-1) then(
   (idx gn al.o).bind λp7=>
   bif !p7 then(
    (idx gn al.o).bind λra=>
    gd (fx.length+[(zk.mk al.o cw.D jl)].length<=4294967296) <|
    yZ jl (gn.set al.o.toNat true) (fx++[(zk.mk al.o cw.D jl)]))
   else(
    yZ jl gn fx))
  else(
   yZ jl gn fx))
 else(
  some (.done (yr.1,gn,fx)))
def vV (x0:z6)(yy:σ->zk->Option (σ×Bool))(dw:σ)(kh:List Bool)(d8:List zk):Option (LR (σ×List Bool×List zk) σ) :=
 bif decide (((d8.length:Nat):Int)>0) then(
  (idx d8 0).bind λcw=>
  gd ((0:Int)<=1/\(1:Int)<=((d8.length:Nat):Int)) <|
  (yy dw cw).bind λyr=>
  bif !yr.2 then(
   some (.done yr.1))
  else(
   (idx x0.i cw.D).bind λap=>
   (loop (λs=>wF cw yr ap s.1 s.2.1 s.2.2) (kh,(d8.drop (1:Int).toNat),0)).bind λt2=>
   some (.next t2)))
 else(
  some (.done dw))
def jL (x0:z6)(x1:Int){σ:Type}(yy:σ->zk->Option (σ×Bool))(sg:σ):Option σ :=
 gd ((0:Int)<=((x0.i.length:Nat):Int)/\(((x0.i.length:Nat):Int):Int)<=4294967296) <|
 (idx (List.replicate ((x0.i.length:Nat):Int).toNat false) x1).bind λmj=>
 (loop (λs=>vV x0 yy s.1 s.2.1 s.2.2) (sg,((List.replicate ((x0.i.length:Nat):Int).toNat false).set x1.toNat true),([(zk.mk x1 (-1) (-1))]:List zk))).bind λt1=>
 some t1
def ye (s_:TB):Option TB :=
 gd (([]:TB).length+s_.length<=4294967296) <|
 some s_
def zQ (s_:TB):Option TB :=
 gd ((0:Int)<=0/\(0:Int)<=((s_.length:Nat):Int)/\(((s_.length:Nat):Int):Int)<=((s_.length:Nat):Int)/\(((s_.length:Nat):Int):Int)<=((s_.length:Nat):Int)) <|
 some ((s_.drop 0).take (((s_.length:Nat):Int).toNat-0))
def Wm (l_:TA)(is:List Bool):R9_ :=
 some (l_,is)
def wv (dr:TA)(ii:List Bool)(jn:zk):Option (LR (TA×List Bool) Empty) :=
 (idx ii jn.D).bind λpq=>
 bif jn.from_ !=(-1) then(
  (idx dr jn.from_).bind λbi=>
  (ye bi).bind λai=>
  gd (ai.length+[jn.N].length<=4294967296) <|
  (zQ (ai++[jn.N])).bind λak=>
  (idx dr jn.D).bind λew=>
  some (.next ((dr.set jn.D.toNat ak),(ii.set jn.D.toNat true))))
 else(
  some (.next (dr,(ii.set jn.D.toNat true))))
def Vl (m_:z6)(from_:Int):R9_ :=
 gd ((0:Int)<=((m_.i.length:Nat):Int)/\(((m_.i.length:Nat):Int):Int)<=4294967296) <|
 gd ((0:Int)<=((m_.i.length:Nat):Int)/\(((m_.i.length:Nat):Int):Int)<=4294967296) <|
 (Wn m_ from_).bind λr_=>
 (jL r_.1 r_.2 (yOf (λs x=>wv s.1 s.2 x)) (.next ((List.replicate ((m_.i.length:Nat):Int).toNat ([]:TB)),(List.replicate ((m_.i.length:Nat):Int).toNat false)))).bind λt2=>
 match t2 with
 |.next (dr,ii)=>(
  Wm dr ii)
 |.done z=>nomatch z
def W4 (m_:z6):Option (TA×List Bool×Int) :=
 (xq m_).bind λr_=>
 bif r_ !=0 then(
  some (([]:TA),([]:List Bool),r_))
 else(
  (Vl m_ 0).bind λai=>
  some (ai.1,ai.2,0))
def Vk (c_:Int)(x1:Int):Option Bool :=
 bif decide (c_<0) then(
  some true)
 else(
  some (decide (c_>=x1)))
def qb:Option Int :=
 some (-1)
def xw (s_:TB)(f_:Int)(x8:Int):R3_ :=
 bif decide (x8<((s_.length:Nat):Int)) then(
  (idx s_ x8).bind λeb=>
  (Vk eb f_).bind λr_=>
  bif r_ then(
   some (.done (.inr x8)))
  else(
   some (.next (w64 (x8+1)))))
 else(
  some (.done (.inl ())))
def vH (s_:TB)(f_:Int):Option Int :=
 (loop (λs=>xw s_ f_ s) 0).bind λt2=>
 match t2 with
 |.inl p=>qb
 |.inr p=>some p
def wL (s_:TB)(f_:Int):Option Bool :=
 (vH s_ f_).bind λr_=>
 some (decide (r_>=0))
def jS (w_:TB)(inputs:Int):Option Int :=
 bif decide (inputs>16) then(
  some 3)
 else(
  bif decide (((w_.length:Nat):Int)>256) then(
   some 3)
  else(
   bif decide (inputs<1) then(
    some 1)
   else(
    (wL w_ inputs).bind λr_=>
    bif r_ then(
     some 1)
    else(
     some 0))))
def Jr:Option Int :=
 some 0
def ZP (l_:TA)(inputs:Int)(dy:Int):R3_ :=
 bif decide (dy<((l_.length:Nat):Int)) then(
  (idx l_ dy).bind λbi=>
  (jS bi inputs).bind λr_=>
  bif r_ !=0 then(
   some (.done (.inr r_)))
  else(
   some (.next (w64 (dy+1)))))
 else(
  some (.done (.inl ())))
def Xf (l_:TA)(inputs:Int):Option Int :=
 bif decide (inputs>16) then(
  some 3)
 else(
  bif decide (((l_.length:Nat):Int)>4096) then(
   some 3)
  else(
   bif decide (inputs<1) then(
    some 1)
   else(
    (loop (λs=>ZP l_ inputs s) 0).bind λt2=>
    match t2 with
    |.inl p=>Jr
    |.inr p=>some p)))
abbrev Vg:Type:=Option TA
def xW (s_:TA):Vg :=
 gd (([]:TA).length+s_.length<=4294967296) <|
 some s_
def YW (x_:Int):Option Bool :=
 some (x_ !=x_)
def qE (x_:Int)(y_:Int):Option Int :=
 (YW x_).bind λr_=>
 (YW y_).bind λai=>
 bif r_ then(
  bif ai then(
   some 0)
  else(
   some (-1)))
 else(
  bif ai then(
   some 1)
  else(
   bif decide (x_<y_) then(
    some (-1))
   else(
    bif decide (x_>y_) then(
     some 1)
    else(
     some 0))))
def vn (s1:TB)(s2:TB):Option Int :=
 bif decide (((s1.length:Nat):Int)<((s2.length:Nat):Int)) then(
  some (-1))
 else(
  some 0)
def xS (s1:TB)(s2:TB)(ig:Int):R3_ :=
 bif decide (ig<((s1.length:Nat):Int)) then(
  (idx s1 ig).bind λpa=>
  bif decide (ig>=((s2.length:Nat):Int)) then(
   some (.done (.inr 1)))
  else(
   (idx s2 ig).bind λnw=>
   (qE pa nw).bind λr_=>
   bif r_ !=0 then(
    some (.done (.inr r_)))
   else(
    some (.next (w64 (ig+1))))))
 else(
  some (.done (.inl ())))
def wO (s1:TB)(s2:TB):Option Int :=
 (loop (λs=>xS s1 s2 s) 0).bind λt2=>
 match t2 with
 |.inl p=>vn s1 s2
 |.inr p=>some p
def VW:Option Int :=
 some 0
def YX (vals:TB)(x8:Int):R3_ :=
 bif decide (x8<((vals.length:Nat):Int)) then(
  (idx vals x8).bind λpr=>
  bif pr !=0 then(
   some (.done (.inr pr)))
  else(
   some (.next (w64 (x8+1)))))
 else(
  some (.done (.inl ())))
def QU (vals:TB):Option Int :=
 (loop (λs=>YX vals s) 0).bind λt2=>
 match t2 with
 |.inl p=>VW
 |.inr p=>some p
def yI (a_:TB)(b_:TB):Option Int :=
 (qE ((a_.length:Nat):Int) ((b_.length:Nat):Int)).bind λr_=>
 (wO a_ b_).bind λai=>
 (QU ([r_,ai])).bind λak=>
 some ak
def jj (a_:TB)(b_:TB):Option Bool :=
 (yI a_ b_).bind λr_=>
 some (r_==0)
def vU (s_:TA):Vg :=
 some s_
abbrev znt:Type:=Option (LR Int (Unit⊕TA))
def xV (k_:Int):znt :=
 some (.next (w64 (k_+1)))
def yh (bk:TA)(de:Int):znt :=
 gd ((0:Int)<=de/\(de:Int)<=((bk.length:Nat):Int)) <|
 gd ((0:Int)<=de/\(de:Int)<=((bk.length:Nat):Int)) <|
 gd ((0:Int)<=de/\(de:Int)<=(((bk.take de.toNat++List.replicate (bk.length-de.toNat) []).length:Nat):Int)) <|
 some (.done (.inr ((bk.take de.toNat++List.replicate (bk.length-de.toNat) []).take de.toNat)))
abbrev zlK:Type:=Option (LR (TA×Int×Int) ((TA×Int)))
def yg (k2:Int)(ng:TA)(p8:Int):zlK :=
 some (.next (ng,p8,w64 (k2+1)))
def yR (k_:Int)(da:TA)(kj:Int)(k2:Int):zlK :=
 bif decide (k2<((da.length-k_.toNat:Nat):Int)) then(
  gd ((0:Int)<=k_/\(0:Int)<=k2) <|
  (idx da (k_+k2)).bind λot=>
  gd ((0:Int)<=k_/\(0:Int)<=w64 (k2-1)) <|
  (idx da (k_+(w64 (k2-1)))).bind λou=>
  (jj ot ou).bind λai=>
  bif !ai then(
   gd ((0:Int)<=k_/\(0:Int)<=k2) <|
   (idx da (k_+k2)).bind λov=>
   (idx da kj).bind λr9=>
   yg k2 (da.set kj.toNat ov) (w64 (kj+1)))
  else(
   yg k2 da kj))
 else(
  some (.done (da,kj)))
def xU (s_:TA)(k_:Int):znt :=
 bif decide (k_<((s_.length:Nat):Int)) then(
  (idx s_ k_).bind λeb=>
  (idx s_ (w64 (k_-1))).bind λnn=>
  (jj eb nn).bind λr_=>
  bif r_ then(
   gd ((0:Int)<=k_/\(k_:Int)<=((s_.length:Nat):Int)) <|
   (loop (λs=>yR k_ s.1 s.2.1 s.2.2) (s_,k_,1)).bind λt5=>
   yh t5.1 t5.2)
  else(
   xV k_))
 else(
  some (.done (.inl ())))
def xy (s_:TA)(eq:Unit):Vg :=
 bif decide (((s_.length:Nat):Int)<2) then(
  some s_)
 else(
  (loop (λs=>xU s_ s) 1).bind λt2=>
  match t2 with
  |.inl p=>vU s_
  |.inr p=>some p)
def wp (s_:TA):Vg :=
 some s_
def Jq (n_:Int):Option Int :=
 some n_
def ZO (l_:TA)(ca:Int)(x7:Int):R7_ :=
 bif decide (x7<((l_.length:Nat):Int)) then(
  (idx l_ x7).bind λbi=>
  some (.next (w64 (ca+((bi.length:Nat):Int)),w64 (x7+1))))
 else(
  some (.done ca))
def Xd (l_:TA):Option Int :=
 (loop (λs=>ZO l_ s.1 s.2) (0,0)).bind λt2=>
 Jq t2
abbrev z2P:Type:=Option (TA×Int)
def Xe (out:List (TB×Bool)):z2P :=
 gd (∀q∈out,q.2=true) <|
 some ((out.map (·.1)),0)
def wG (ak:TA)(ax:List (TB×Bool))(ga:Int):Option (LR ((List (TB×Bool))×Int) ((List (TB×Bool)))) :=
 bif decide (ga<((ak.length-(0:Int).toNat:Nat):Int)) then(
  gd ((0:Int)<=0/\(0:Int)<=ga) <|
  (idx ax (0+ga)).bind λdn=>
  (ye dn.1).bind λaz=>
  (zQ az).bind λbn=>
  (idx ax ga).bind λjr=>
  some (.next ((ax.set ga.toNat (bn,true)),w64 (ga+1))))
 else(
  some (.done ax))
def xD (l_:TA):z2P :=
 (xW l_).bind λr_=>
 (zal (λx y=>yI x y) r_).bind λsorted=>
 (xy sorted ()).bind λai=>
 (wp ai).bind λak=>
 bif decide (((ak.length:Nat):Int)>4096) then(
  some (([]:TA),3))
 else(
  (Xd ak).bind λam=>
  bif decide (am>65536) then(
   some (([]:TA),3))
  else(
   (loop (λs=>wG ak s.1 s.2) ((ak.map λq=>(q,false)),0)).bind λt2=>
   Xe t2))
def Zv (l_:TA)(inputs:Int):z2P :=
 (Xf l_ inputs).bind λr_=>
 bif r_ !=0 then(
  some (([]:TA),r_))
 else(
  (xD l_).bind λai=>
  some (ai.1,ai.2))
def qX (m_:z6):z2P :=
 (vb m_).bind λr_=>
 bif r_.2 !=0 then(
  some (([]:TA),r_.2))
 else(
  bif !r_.1 then(
   some (([]:TA),11))
  else(
   (W4 m_).bind λai=>
   bif ai.2.2 !=0 then(
    some (([]:TA),ai.2.2))
   else(
    (Zv ai.1 m_.j).bind λak=>
    some (ak.1,ak.2))))
abbrev zln:Type:=Option (LR (TA×TA×Int×Int) ((TA×Int)))
def UT (k_:Int)(aj:TA)(cq:TA)(ca:Int)(ri:Int)(nh:Bool)(oz:Bool):zln :=
 some (.next (aj,cq,ca,w64 (k_+1)))
def US (k_:Int)(ax:TA)(cd:Int)(il:Bool)(next:TA):zln :=
 UT k_ ax next cd cd (decide (cd>65536)) il
abbrev z18:Type:=Option (LR (TA×Int) TA)
def UR (lc:Int)(ff:TA):z18 :=
 some (.next (ff,w64 (lc+1)))
def uV (inputs:Int)(a8:TB)(cb:TA)(ld:Int):z18 :=
 bif decide (ld<inputs) then(
  (zQ a8).bind λai=>
  gd (ai.length+[ld].length<=4294967296) <|
  gd (cb.length+[(ai++[ld])].length<=4294967296) <|
  some (.next ((cb++[(ai++[ld])]),w64 (ld+1))))
 else(
  some (.done cb))
def uW (inputs:Int)(ay:TA)(cr:TA)(lc:Int):z18 :=
 bif decide (lc<((ay.length:Nat):Int)) then(
  (idx ay lc).bind λa8=>
  (loop (λs=>uV inputs a8 s.1 s.2) (cr,0)).bind λt8=>
  UR lc t8)
 else(
  some (.done cr))
def Y3 (inputs:Int)(to:Int)(ay:TA)(k_:Int)(ax:TA)(cd:Int)(il:Bool):zln :=
 bif k_==to then(
  (xD ax).bind λr_=>
  some (.done (r_.1,r_.2)))
 else(
  (loop (λs=>uW inputs ay s.1 s.2) (([]:TA),0)).bind λt6=>
  US k_ ax cd il t6)
def Y4 (inputs:Int)(to:Int)(ay:TA)(k_:Int)(ax:TA)(cd:Int):zln :=
 bif decide (((ax.length:Nat):Int)>4096) then(
  some (.done (([]:TA),3)))
 else(
  bif decide (cd>65536) then(
   some (.done (([]:TA),3)))
  else(
   bif decide (k_<to) then(
    bif decide ((w64 (((ay.length:Nat):Int)*inputs))>4096) then(
     some (.done (([]:TA),3)))
    else(
     Y3 inputs to ay k_ ax cd (decide ((w64 (((ay.length:Nat):Int)*inputs))>4096))))
   else(
    Y3 inputs to ay k_ ax cd false)))
def jY (inputs:Int)(from_:Int)(to:Int)(out:TA)(ay:TA)(n_:Int)(k_:Int):zln :=
 bif decide (k_>=from_) then(
  gd (out.length+ay.length<=4294967296) <|
  Y4 inputs to ay k_ (out++ay) (w64 (n_+(w64 (k_*((ay.length:Nat):Int))))))
 else(
  Y4 inputs to ay k_ out n_)
def WW (inputs:Int)(from_:Int)(to:Int):z2P :=
 bif decide (inputs>16) then(
  some (([]:TA),3))
 else(
  bif decide (inputs<1) then(
   some (([]:TA),1))
  else(
   bif decide (to<0) then(
    some (([]:TA),1))
   else(
    bif decide (to>256) then(
     some (([]:TA),3))
    else(
     (loop (λs=>jY inputs from_ to s.1 s.2.1 s.2.2.1 s.2.2.2) (([]:TA),([[]]:TA),0,0)).bind λt1=>
     some t1))))
def WX (inputs:Int)(k_:Int):z2P :=
 (WW inputs 0 k_).bind λr_=>
 some (r_.1,r_.2)
def Wr:Option Bool :=
 some true
def ZQ (l_:TA)(i_:Int):ziM :=
 bif decide (i_<((l_.length:Nat):Int)) then(
  (idx l_ (w64 (i_-1))).bind λbi=>
  (idx l_ i_).bind λew=>
  (yI bi ew).bind λr_=>
  bif decide (r_>=0) then(
   some (.done (.inr false)))
  else(
   some (.next (w64 (i_+1)))))
 else(
  some (.done (.inl ())))
def Vp (l_:TA):Option Bool :=
 (loop (λs=>ZQ l_ s) 1).bind λt2=>
 match t2 with
 |.inl p=>Wr
 |.inr p=>some p
def Xh (l_:TA)(inputs:Int):Option Int :=
 (Xf l_ inputs).bind λr_=>
 bif r_ !=0 then(
  some r_)
 else(
  (Vp l_).bind λai=>
  bif !ai then(
   some 1)
  else(
   (Xd l_).bind λak=>
   bif decide (ak>65536) then(
    some 3)
   else(
    some 0)))
def Vo:Option Int :=
 some 0
def YK (inputs:Int)(l_:List TA)(gi:Int):R3_ :=
 bif decide (gi<((l_.length:Nat):Int)) then(
  (idx l_ gi).bind λbi=>
  (Xh bi inputs).bind λr_=>
  bif r_ !=0 then(
   some (.done (.inr r_)))
  else(
   some (.next (w64 (gi+1)))))
 else(
  some (.done (.inl ())))
def WV (inputs:Int)(l_:List TA):Option Int :=
 (loop (λs=>YK inputs l_ s) 0).bind λt2=>
 match t2 with
 |.inl p=>Vo
 |.inr p=>some p
def z0y (b_:TB):Option (List UInt8) :=
 some (u8s b_)
def jX (w_:TB)(kw:TB)(ig:Int):R1_ :=
 bif decide (ig<((w_.length:Nat):Int)) then(
  (idx w_ ig).bind λfc=>
  (idx kw ig).bind λdx=>
  some (.next ((kw.set ig.toNat (IntKind.u8.wrap (fc))),w64 (ig+1))))
 else(
  some (.done kw))
def Ka (w_:TB):Option (List UInt8) :=
 gd ((0:Int)<=((w_.length:Nat):Int)/\(((w_.length:Nat):Int):Int)<=4294967296) <|
 (loop (λs=>jX w_ s.1 s.2) ((List.replicate ((w_.length:Nat):Int).toNat (0:Int)),0)).bind λt2=>
 z0y t2
def kI (out:TA):z2P :=
 (xD out).bind λai=>
 some (ai.1,ai.2)
abbrev zoM:Type:=Option (LR ((List ((List UInt8)×Bool))×Int×TA×Int) (TA⊕(TA×Int)))
def kH (fg:Int)(gn:List ((List UInt8)×Bool))(ca:Int)(ax:TA):zoM :=
 some (.next (gn,ca,ax,w64 (fg+1)))
abbrev zoL:Type:=Option (LR ((List ((List UInt8)×Bool))×Int×TA×Int) (((List ((List UInt8)×Bool))×Int×TA)⊕(TA×Int)))
def uX (ib:Int)(oc:List ((List UInt8)×Bool))(lf:Int)(gx:TA):zoL :=
 bif decide (((gx.length:Nat):Int)>4096) then(
  some (.done (.inr (([]:TA),3))))
 else(
  bif decide (lf>65536) then(
   some (.done (.inr (([]:TA),3))))
  else(
   some (.next (oc,lf,gx,w64 (ib+1)))))
def kG (b_:TA)(dv:TB)(eu:List ((List UInt8)×Bool))(cd:Int)(bo:TA)(ib:Int):zoL :=
 bif decide (ib<((b_.length:Nat):Int)) then(
  (idx b_ ib).bind λdx=>
  (zQ dv).bind λak=>
  gd (ak.length+dx.length<=4294967296) <|
  bif decide ((((ak++dx).length:Nat):Int)>256) then(
   some (.done (.inr (([]:TA),3))))
  else(
   (Ka (ak++dx)).bind λam=>
   (some ((Vj eu am).getD false)).bind λval=>
   bif !val then(
    gd (bo.length+[(ak++dx)].length<=4294967296) <|
    uX ib (z2h eu am true) (w64 (cd+(((ak++dx).length:Nat):Int))) (bo++[(ak++dx)]))
   else(
    uX ib eu cd bo)))
 else(
  some (.done (.inl (eu,cd,bo))))
def Xg (a_:TA)(b_:TA)(kh:List ((List UInt8)×Bool))(n_:Int)(aj:TA)(fg:Int):zoM :=
 bif decide (fg<((a_.length:Nat):Int)) then(
  (idx a_ fg).bind λdv=>
  (loop (λs=>kG b_ dv s.1 s.2.1 s.2.2.1 s.2.2.2) (kh,n_,aj,0)).bind λt4=>
  match t4 with
  |.inl p=>kH fg p.1 p.2.1 p.2.2
  |.inr p=>some (.done (.inr p)))
 else(
  some (.done (.inl aj)))
def Y5 (a_:TA)(b_:TA)(inputs:Int):z2P :=
 (WV inputs ([a_,b_])).bind λr_=>
 bif r_ !=0 then(
  some (([]:TA),r_))
 else(
  (loop (λs=>Xg a_ b_ s.1 s.2.1 s.2.2.1 s.2.2.2) (([]:List ((List UInt8)×Bool)),0,([]:TA),0)).bind λt2=>
  match t2 with
  |.inl p=>kI p
  |.inr p=>some p)
def Zj (m_:z6)(k_:Int):z2P :=
 (qX m_).bind λr_=>
 bif r_.2 !=0 then(
  some (([]:TA),r_.2))
 else(
  bif decide (k_<0) then(
   some (([]:TA),1))
  else(
   (WX m_.j k_).bind λai=>
   bif ai.2 !=0 then(
    some (([]:TA),ai.2))
   else(
    (Y5 r_.1 ai.1 m_.j).bind λak=>
    some (ak.1,ak.2))))
def ve (m_:z6):z2P :=
 (Zj m_ 1).bind λr_=>
 some (r_.1,r_.2)
def Yj (n_:Int):Option Int :=
 some n_
def ZL (x6:Int)(js:σ):Option (LR (σ×Int) σ) :=
 some (.next (js,w64 (x6+1)))
def qU (x0:Int)(yy:σ->(Int×Int)->Option (σ×Bool))(x6:Int)(gg:σ)(b_:Int):Option (LR (σ×Int) (σ⊕σ)) :=
 bif decide (b_<x0) then(
  (yy gg (x6,b_)).bind λyr=>
  bif !yr.2 then(
   some (.done (.inr yr.1)))
  else(
   some (.next (yr.1,w64 (b_+1)))))
 else(
  some (.done (.inl gg)))
def ZK (x0:Int)(yy:σ->(Int×Int)->Option (σ×Bool))(dw:σ)(x6:Int):Option (LR (σ×Int) σ) :=
 bif decide (x6<x0) then(
  (loop (λs=>qU x0 yy x6 s.1 s.2) (dw,w64 (x6+1))).bind λt3=>
  match t3 with
  |.inl p=>ZL x6 p
  |.inr p=>some (.done p))
 else(
  some (.done dw))
def vt (x0:Int){σ:Type}(yy:σ->(Int×Int)->Option (σ×Bool))(sg:σ):Option σ :=
 (loop (λs=>ZK x0 yy s.1 s.2) (sg,0)).bind λt1=>
 some t1
def Qu (a_:Int)(b_:Int):Option Bool :=
 some true
def ZR (s_:Int)(x1:z6):Option Bool :=
 bif decide (s_<0) then(
  some true)
 else(
  some (decide (s_>=((x1.i.length:Nat):Int))))
def vG:Option Int :=
 some (-1)
def yO (s_:TB)(f_:z6)(x8:Int):R3_ :=
 bif decide (x8<((s_.length:Nat):Int)) then(
  (idx s_ x8).bind λeb=>
  (ZR eb f_).bind λr_=>
  bif r_ then(
   some (.done (.inr x8)))
  else(
   some (.next (w64 (x8+1)))))
 else(
  some (.done (.inl ())))
def xj (s_:TB)(f_:z6):Option Int :=
 (loop (λs=>yO s_ f_ s) 0).bind λt2=>
 match t2 with
 |.inl p=>vG
 |.inr p=>some p
def xN (s_:TB)(f_:z6):Option Bool :=
 (xj s_ f_).bind λr_=>
 some (decide (r_>=0))
def W6 (m_:z6)(l_:TB):Option Int :=
 (xq m_).bind λr_=>
 bif r_ !=0 then(
  some r_)
 else(
  (xN l_ m_).bind λai=>
  bif ai then(
   some 1)
  else(
   some 0))
def UW (m_:z6):Option z6 :=
 some m_
def ZB (x8:Int)(js:σ):Option (LR (σ×Int) σ) :=
 some (.next (js,w64 (x8+1)))
def qJ (x0:z6)(yy:σ->(Int×Int)->Option (σ×Bool))(x8:Int)(gg:σ)(t_:Int):Option (LR (σ×Int) (σ⊕σ)) :=
 bif decide (t_<((x0.i.length:Nat):Int)) then(
  (yy gg (x8,t_)).bind λyr=>
  bif !yr.2 then(
   some (.done (.inr yr.1)))
  else(
   some (.next (yr.1,w64 (t_+1)))))
 else(
  some (.done (.inl gg)))
def ZA (x0:z6)(yy:σ->(Int×Int)->Option (σ×Bool))(dw:σ)(x8:Int):Option (LR (σ×Int) σ) :=
 bif decide (x8<((x0.i.length:Nat):Int)) then(
  (loop (λs=>qJ x0 yy x8 s.1 s.2) (dw,w64 (x8+1))).bind λt3=>
  match t3 with
  |.inl p=>ZB x8 p
  |.inr p=>some (.done p))
 else(
  some (.done dw))
def uz (x0:z6){σ:Type}(yy:σ->(Int×Int)->Option (σ×Bool))(sg:σ):Option σ :=
 (loop (λs=>ZA x0 yy s.1 s.2) (sg,0)).bind λt1=>
 some t1
def xx (l:TB)(n:Int):Option TB:=bif l.isEmpty&&(decide (0<n)&&decide (n<=1000000)) then some [] else none
def vI (mr:TB):Option TB :=
 some mr
def zU (slices:TA)(iu:TB)(pc:Int):R1_ :=
 bif decide (pc<((slices.length:Nat):Int)) then(
  (idx slices pc).bind λlu=>
  gd (iu.length+lu.length<=4294967296) <|
  some (.next ((iu++lu),w64 (pc+1))))
 else(
  some (.done iu))
def vJ (slices:TA)(size:Int):Option TB :=
 (xx [] size).bind λr_=>
 (loop (λs=>zU slices s.1 s.2) (r_,0)).bind λt3=>
 vI t3
def zT (slices:TA)(l8:Int)(ig:Int):R7_ :=
 bif decide (ig<((slices.length:Nat):Int)) then(
  (idx slices ig).bind λly=>
  bif decide ((w64 (l8+((ly.length:Nat):Int)))<0) then(
   none)
  else(
   some (.next (w64 (l8+((ly.length:Nat):Int)),w64 (ig+1)))))
 else(
  some (.done l8))
def wZ (slices:TA):Option TB :=
 (loop (λs=>zT slices s.1 s.2) (0,0)).bind λt4=>
 vJ slices t4
abbrev zoK:Type:=Option (TB×ArN 64 (ArN 64 TB))
def vz (n_:Int)(f_:ArN 64 (ArN 64 TB))(out:TB):zoK :=
 bif ((out.length:Nat):Int) !=n_ then(
  some ([],f_))
 else(
  (zQ out).bind λr_=>
  gd (r_≠[]) <|
  some (r_,f_))
def xA (i7:Int):Option (LR Int TB) :=
 some (.next (w64 (i7+1)))
def wj (m_:z6)(t_:Int)(n_:Int)(f_:ArN 64 (ArN 64 TB))(ap:List z8)(i7:Int):Option (LR Int TB) :=
 bif decide (i7<((ap.length:Nat):Int)) then(
  (idx ap i7).bind λal=>
  (idx m_.i t_).bind λdu=>
  (idx du i7).bind λbp=>
  bif al.r !=bp.r then(
   some (.done [i7]))
  else(
   bif decide (n_>1) then(
    bif al.o !=(-1) then(
     (idx (f_.l) al.o).bind λcell=>
     (idx (cell.l) bp.o).bind λco=>
     bif ((co.length:Nat):Int)==(w64 (n_-1)) then(
      (idx (f_.l) al.o).bind λiv=>
      (idx (iv.l) bp.o).bind λd9=>
      (wZ ([[i7],d9])).bind λai=>
      some (.done ai))
     else(
      xA i7))
    else(
     xA i7))
   else(
    xA i7)))
 else(
  some (.done ([]:TB)))
def vD (m_:z6)(s_:Int)(t_:Int)(n_:Int)(f_:ArN 64 (ArN 64 TB)):zoK :=
 (idx m_.i s_).bind λap=>
 (loop (λs=>wj m_ t_ n_ f_ ap s) 0).bind λt2=>
 vz n_ f_ t2
abbrev zns:Type:=Option (ArN 64 (ArN 64 TB))
def uq (s_:Int)(t_:Int)(w_:TB)(f_:ArN 64 (ArN 64 TB)):zns :=
 (idx (f_.l) s_).bind λcell=>
 (idx (cell.l) t_).bind λco=>
 (some (ArN.setI cell t_ w_)).bind λarr=>
 (some (ArN.setI f_ s_ arr)).bind λarr1=>
 (idx (arr1.l) t_).bind λiv=>
 (idx (iv.l) s_).bind λd9=>
 (some (ArN.setI iv s_ w_)).bind λarr2=>
 (some (ArN.setI arr1 t_ arr2)).bind λpt=>
 some pt
def uc (f_:ArN 64 (ArN 64 TB)):zns :=
 some f_
abbrev zlJ:Type:=Option (LR (ArN 64 (ArN 64 TB)×Int) (ArN 64 (ArN 64 TB)))
def ub (n_:Int)(ni:ArN 64 (ArN 64 TB)):zlJ :=
 some (.next (ni,w64 (n_+1)))
def wK (now:List y4)(od:ArN 64 (ArN 64 TB))(pd:Int):zlJ :=
 bif decide (pd<((now.length:Nat):Int)) then(
  (idx now pd).bind λic=>
  (uq ic.S ic.T ic.Word od).bind λr_=>
  some (.next (r_,w64 (pd+1))))
 else(
  some (.done od))
def ua (n_:Int)(p9:ArN 64 (ArN 64 TB))(now:List y4):zlJ :=
 (loop (λs=>wK now s.1 s.2) (p9,0)).bind λt5=>
 ub n_ t5
def xa (m_:z6)(n_:Int)(j9:ArN 64 (ArN 64 TB))(jk:List y4)(kx:Int)(ga:Int):Option (LR (ArN 64 (ArN 64 TB)×List y4) Empty) :=
 (idx (j9.l) kx).bind λcell=>
 (idx (cell.l) ga).bind λco=>
 bif !co.isEmpty then(
  some (.next (j9,jk)))
 else(
  (vD m_ kx ga n_ j9).bind λak=>
  bif !ak.1.isEmpty then(
   gd (jk.length+[(y4.mk kx ga ak.1 false)].length<=4294967296) <|
   some (.next (ak.2,(jk++[(y4.mk kx ga ak.1 false)]))))
  else(
   some (.next (ak.2,jk))))
def u9 (m_:z6)(ky:ArN 64 (ArN 64 TB))(n_:Int):zlJ :=
 bif decide (n_<(mx ((m_.i.length:Nat):Int) 2)) then(
  (UW m_).bind λai=>
  (uz ai (yOf (λs x=>xa m_ n_ s.1 s.2 x.1 x.2)) (.next (ky,([]:List y4)))).bind λt6=>
  match t6 with
  |.next (j9,jk)=>(
   ua n_ j9 jk)
  |.done z=>nomatch z)
 else(
  some (.done ky))
def uo (m_:z6):zns :=
 (loop (λs=>u9 m_ s.1 s.2) ((ArN.rep 64 (ArN.rep 64 ([]:TB))),1)).bind λt2=>
 uc t2
def uY (m_:z6)(s_:Int)(t_:Int):Option (TB×Bool×Int) :=
 (W6 m_ ([s_,t_])).bind λr_=>
 bif r_ !=0 then(
  some (([]:TB),false,r_))
 else(
  (uo m_).bind λai=>
  (idx (ai.l) s_).bind λcell=>
  (idx (cell.l) t_).bind λco=>
  (ye co).bind λak=>
  (zQ ak).bind λam=>
  some (am,decide (((am.length:Nat):Int)>0),0))
def Zg (m_:z6)(x5:Int)(out:TA):z2P :=
 (Zv out m_.j).bind λr_=>
 some (r_.1,r_.2)
abbrev zoJ:Type:=Option (LR (Int×TA) ((Int×TA)))
def vQ (m_:z6)(ge:Int)(aj:TA)(ft:Int)(ba:Int):zoJ :=
 (Qu ft ba).bind λak=>
 bif !ak then(
  some (.next (ge,aj)))
 else(
  (uY m_ ft ba).bind λam=>
  bif am.2.2 !=0 then(
   some (.done (am.2.2,aj)))
  else(
   gd (aj.length+[am.1].length<=4294967296) <|
   some (.next (ge,(aj++[am.1])))))
def Wh (m_:z6)(is:Unit):z2P :=
 (Yj ((m_.i.length:Nat):Int)).bind λai=>
 (vt ai (yOf (λs x=>vQ m_ s.1 s.2 x.1 x.2)) (.next (0,([]:TA)))).bind λt2=>
 match t2 with
 |.next (ge,aj)=>(
  Zg m_ ge aj)
 |.done (ge,aj)=>(
  some (([]:TA),ge))
def QT (m_:z6):z2P :=
 (we m_).bind λr_=>
 bif r_ !=0 then(
  some (([]:TA),r_))
 else(
  (Wh m_ ()).bind λai=>
  some (ai.1,ai.2))
def Vq (inputs:Int)(k_:Int):z2P :=
 (WW inputs k_ k_).bind λr_=>
 some (r_.1,r_.2)
def Xi (l_:TA):Vg :=
 bif ((l_.length:Nat):Int)==0 then(
  some ([[]]:TA))
 else(
  some l_)
def VQ (a_:Int)(b_:Int)(x2:Int):Option Bool :=
 bif a_==x2 then(
  some true)
 else(
  some (b_==x2))
def uj (m_:z6)(x5:Int)(out:TA):z2P :=
 (Zv out m_.j).bind λr_=>
 some (r_.1,r_.2)
def yG (m_:z6)(is:Int)(ge:Int)(aj:TA)(ft:Int)(ba:Int):zoJ :=
 (VQ ft ba is).bind λak=>
 bif !ak then(
  some (.next (ge,aj)))
 else(
  (uY m_ ft ba).bind λam=>
  bif am.2.2 !=0 then(
   some (.done (am.2.2,aj)))
  else(
   gd (aj.length+[am.1].length<=4294967296) <|
   some (.next (ge,(aj++[am.1])))))
def uw (m_:z6)(is:Int):z2P :=
 (Yj ((m_.i.length:Nat):Int)).bind λai=>
 (vt ai (yOf (λs x=>yG m_ is s.1 s.2 x.1 x.2)) (.next (0,([]:TA)))).bind λt2=>
 match t2 with
 |.next (ge,aj)=>(
  uj m_ ge aj)
 |.done (ge,aj)=>(
  some (([]:TA),ge))
def KF (m_:z6)(s_:Int):z2P :=
 (we m_).bind λr_=>
 bif r_ !=0 then(
  some (([]:TA),r_))
 else(
  bif decide (s_<0) then(
   some (([]:TA),1))
  else(
   bif decide (s_>=((m_.i.length:Nat):Int)) then(
    some (([]:TA),1))
   else(
    (uw m_ s_).bind λai=>
    some (ai.1,ai.2))))
abbrev znr:Type:=Option (Option zF×Int)
def WY (m_:z6)(r_:TA×Int)(ai:TA×Int)(am:TA×Int)(az:TA×Int)(bn:TA)(lh:List TA):znr :=
 some ((some (zF.mk m_ r_.1 ai.1 bn lh am.1 az.1)),0)
def xM (m_:z6)(j4:List TA)(oe:Int):Option (LR (List TA×Int) (List TA⊕(Option zF×Int))) :=
 bif decide (oe<((m_.i.length:Nat):Int)) then(
  (KF m_ oe).bind λcx=>
  bif cx.2 !=0 then(
   some (.done (.inr ((none:Option zF),cx.2))))
  else(
   (Xi cx.1).bind λgb=>
   gd (j4.length+[gb].length<=4294967296) <|
   some (.next ((j4++[gb]),w64 (oe+1)))))
 else(
  some (.done (.inl j4)))
def Zx (m_:z6)(r_:TA×Int)(ai:TA×Int)(ak:TA×Int)(am:TA×Int)(az:TA×Int):znr :=
 (Xi ak.1).bind λbn=>
 (loop (λs=>xM m_ s.1 s.2) (([]:List TA),0)).bind λt3=>
 match t3 with
 |.inl p=>WY m_ r_ ai am az bn p
 |.inr p=>some p
def jy (m_:z6)(bound:Int):znr :=
 (qX m_).bind λr_=>
 (ve m_).bind λai=>
 (QT m_).bind λak=>
 (WX m_.j (w64 (bound-((m_.i.length:Nat):Int)))).bind λam=>
 (Vq m_.j (w64 (bound-((m_.i.length:Nat):Int)))).bind λaz=>
 bif r_.2 !=0 then(
  some ((none:Option zF),r_.2))
 else(
  bif ai.2 !=0 then(
   some ((none:Option zF),ai.2))
  else(
   bif ak.2 !=0 then(
    some ((none:Option zF),ak.2))
   else(
    bif am.2 !=0 then(
     some ((none:Option zF),am.2))
    else(
     bif az.2 !=0 then(
      some ((none:Option zF),az.2))
     else(
      Zx m_ r_ ai ak am az)))))
abbrev ziL:Type:=Option (zb×Bool)
def Zz (b_:zb)(br:List (zz Int))(cp:Int):ziL :=
 bif decide (cp>b_.w) then(
  some (b_,true))
 else(
  some ((zb.mk br cp b_.w),false))
abbrev zoI:Type:=Option (LR (List (zz Int)×Int×Int×Bool×Int) ((List (zz Int)×Int)))
def Zy (fq:Int)(bm:List (zz Int))(ce:Int)(ia:Int)(nj:Bool):zoI :=
 some (.next (bm,ce,ia,nj,w64 (fq+1)))
abbrev znq:Type:=Option (LR (List (zz Int)×Int×Int×Bool×Int) ((List (zz Int)×Int×Int×Bool)))
def vC (dy:Int)(ct:List (zz Int))(cg:Int)(nk:Bool)(next:Int):znq :=
 some (.next (ct,cg,next,nk,w64 (dy+1)))
def yn (aq:List (zz Int))(gc:Int)(dy:Int)(dt:Int)(eg:Int):znq :=
 (idx aq gc).bind λiw=>
 (idx (zz.toL iw) dt).bind λco=>
 (some (zz.setI iw dt (IntKind.i32.wrap (((aq.length:Nat):Int))))).bind λarr=>
 gd ((aq.set gc.toNat arr).length+([(zz.mk 0 0 0 0 0 0 0 0 0 0 0 0 0 0 0 0)]:List (zz Int)).length<=4294967296) <|
 vC dy ((aq.set gc.toNat arr)++([(zz.mk 0 0 0 0 0 0 0 0 0 0 0 0 0 0 0 0)]:List (zz Int))) eg true (IntKind.i32.wrap (((aq.length:Nat):Int)))
def vB (fl:TB)(aq:List (zz Int))(bc:Int)(gc:Int)(ka:Bool)(dy:Int):znq :=
 bif decide (dy<((fl.length:Nat):Int)) then(
  (idx fl dy).bind λdt=>
  (idx aq gc).bind λje=>
  (idx (zz.toL je) dt).bind λcell=>
  bif cell==0 then(
   bif !ka then(
    bif gc==0 then(
     bif ((aq.length:Nat):Int)==1 then(
      yn aq gc dy dt (w64 (bc+1)))
     else(
      (idx aq gc).bind λdp=>
      bif !((dp.e0==0)&&((dp.e1==0)&&((dp.e2==0)&&((dp.e3==0)&&((dp.e4==0)&&((dp.e5==0)&&((dp.e6==0)&&((dp.e7==0)&&((dp.e8==0)&&((dp.e9==0)&&((dp.e10==0)&&((dp.e11==0)&&((dp.e12==0)&&((dp.e13==0)&&((dp.e14==0)&&((dp.e15==0)&&true)))))))))))))))) then(
       yn aq gc dy dt (w64 (bc+1)))
      else(
       yn aq gc dy dt bc)))
    else(
     (idx aq gc).bind λem=>
     bif !((em.e0==0)&&((em.e1==0)&&((em.e2==0)&&((em.e3==0)&&((em.e4==0)&&((em.e5==0)&&((em.e6==0)&&((em.e7==0)&&((em.e8==0)&&((em.e9==0)&&((em.e10==0)&&((em.e11==0)&&((em.e12==0)&&((em.e13==0)&&((em.e14==0)&&((em.e15==0)&&true)))))))))))))))) then(
      yn aq gc dy dt (w64 (bc+1)))
     else(
      yn aq gc dy dt bc)))
   else(
    yn aq gc dy dt bc))
  else(
   vC dy aq bc ka cell))
 else(
  some (.done (aq,bc,gc,ka)))
def WZ (parts:TA)(bh:List (zz Int))(cj:Int)(at_:Int)(nq:Bool)(fq:Int):zoI :=
 bif decide (fq<((parts.length:Nat):Int)) then(
  (idx parts fq).bind λfl=>
  (loop (λs=>vB fl s.1 s.2.1 s.2.2.1 s.2.2.2.1 s.2.2.2.2) (bh,cj,at_,nq,0)).bind λt4=>
  Zy fq t4.1 t4.2.1 t4.2.2.1 t4.2.2.2)
 else(
  some (.done (bh,cj)))
def xp (parts:TA)(b_:zb):ziL :=
 (loop (λs=>WZ parts s.1 s.2.1 s.2.2.1 s.2.2.2.1 s.2.2.2.2) (b_.x,b_.s,0,false,0)).bind λt2=>
 Zz b_ t2.1 t2.2
abbrev ziK:Type:=Option (LR (List (zz Int)×Int×Int×Int) ((zb×Bool)))
def Ya (ba:Int)(bh:List (zz Int))(cj:Int)(fh:Int):ziK :=
 some (.next (bh,cj,fh,w64 (ba+1)))
abbrev z9g:Type:=Option (LR (List (zz Int)×Int×Int×Int) ((List (zz Int)×Int×Int)⊕(zb×Bool)))
def Y9 (gk:Int)(aq:List (zz Int))(bc:Int)(fj:Int):z9g :=
 some (.next (aq,bc,fj,w64 (gk+1)))
def Y6 (x_:zF)(b_:zb)(bj:TB)(a6:TB)(ct:List (zz Int))(cg:Int)(dz:Int)(ib:Int):z9g :=
 bif decide (ib<((x_.O.length:Nat):Int)) then(
  (idx x_.O ib).bind λfy=>
  (xp [bj,a6,fy] (zb.mk ct cg dz)).bind λr_=>
  bif r_.2 then(
   some (.done (.inr (b_,true))))
  else(
   some (.next (r_.1.x,r_.1.s,r_.1.w,w64 (ib+1)))))
 else(
  some (.done (.inl (ct,cg,dz))))
def Y7 (x_:zF)(b_:zb)(bj:TB)(bm:List (zz Int))(ce:Int)(d0:Int)(gk:Int):z9g :=
 bif decide (gk<((x_.F.length:Nat):Int)) then(
  (idx x_.F gk).bind λa6=>
  (loop (λs=>Y6 x_ b_ bj a6 s.1 s.2.1 s.2.2.1 s.2.2.2) (bm,ce,d0,0)).bind λt5=>
  match t5 with
  |.inl p=>Y9 gk p.1 p.2.1 p.2.2
  |.inr p=>some (.done (.inr p)))
 else(
  some (.done (.inl (bm,ce,d0))))
def Y8 (x_:zF)(b_:zb)(br:List (zz Int))(cp:Int)(fm:Int)(ba:Int):ziK :=
 bif decide (ba<((x_.p_.length:Nat):Int)) then(
  (idx x_.p_ ba).bind λbj=>
  (loop (λs=>Y7 x_ b_ bj s.1 s.2.1 s.2.2.1 s.2.2.2) (br,cp,fm,0)).bind λt3=>
  match t3 with
  |.inl p=>Ya ba p.1 p.2.1 p.2.2
  |.inr p=>some (.done p))
 else(
  some (.done ((zb.mk br cp fm),false)))
def wY (x0:QC)(x_:zF)(b_:zb):ziL :=
 (loop (λs=>Y8 x_ b_ s.1 s.2.1 s.2.2.1 s.2.2.2) (b_.x,b_.s,b_.w,0)).bind λt1=>
 some t1
def yw (x_:TA)(target:TB)(i_:Int):Option (Int×Bool) :=
 bif decide (i_<((x_.length:Nat):Int)) then(
  (idx x_ i_).bind λmq=>
  (yI mq target).bind λr_=>
  some (i_,r_==0))
 else(
  some (i_,false))
def yu (x_:TA)(target:TB)(fk:Int)(j_:Int):R7_ :=
 bif decide (fk<j_) then(
  (idx x_ (w64 (Int.fdiv (IntKind.u64.wrap (w64 (fk+j_))) (2^1)))).bind λl7=>
  (yI l7 target).bind λai=>
  bif decide (ai<0) then(
   some (.next (w64 ((w64 (Int.fdiv (IntKind.u64.wrap (w64 (fk+j_))) (2^1)))+1),j_)))
  else(
   some (.next (fk,w64 (Int.fdiv (IntKind.u64.wrap (w64 (fk+j_))) (2^1))))))
 else(
  some (.done fk))
def yS (x_:TA)(target:TB)(cmp:Unit):Option (Int×Bool) :=
 (loop (λs=>yu x_ target s.1 s.2) (0,((x_.length:Nat):Int))).bind λt2=>
 yw x_ target t2
def z19 (l_:TA)(w_:TB):Option Bool :=
 (yS l_ w_ ()).bind λr_=>
 some r_.2
def kF (w_:TB)(x1:TA):Option Bool :=
 (z19 x1 w_).bind λr_=>
 some r_
def uL:Option Int :=
 some (-1)
def xk (s_:TA)(f_:TA)(x8:Int):R3_ :=
 bif decide (x8<((s_.length:Nat):Int)) then(
  (idx s_ x8).bind λeb=>
  (kF eb f_).bind λr_=>
  bif r_ then(
   some (.done (.inr x8)))
  else(
   some (.next (w64 (x8+1)))))
 else(
  some (.done (.inl ())))
def vj (s_:TA)(f_:TA):Option Int :=
 (loop (λs=>xk s_ f_ s) 0).bind λt2=>
 match t2 with
 |.inl p=>uL
 |.inr p=>some p
def yX (bk:TA)(i_:Int):Vg :=
 gd ((0:Int)<=i_/\(i_:Int)<=((bk.length:Nat):Int)) <|
 gd ((0:Int)<=i_/\(i_:Int)<=((bk.length:Nat):Int)) <|
 gd ((0:Int)<=i_/\(i_:Int)<=(((bk.take i_.toNat++List.replicate (bk.length-i_.toNat) []).length:Nat):Int)) <|
 some ((bk.take i_.toNat++List.replicate (bk.length-i_.toNat) []).take i_.toNat)
def ym (j_:Int)(ng:TA)(qa:Int):zlK :=
 some (.next (ng,qa,w64 (j_+1)))
def wc (kz:TA)(da:TA)(fk:Int)(j_:Int):zlK :=
 bif decide (j_<((da.length:Nat):Int)) then(
  (idx da j_).bind λeb=>
  (kF eb kz).bind λai=>
  bif !ai then(
   (idx da fk).bind λnn=>
   ym j_ (da.set fk.toNat eb) (w64 (fk+1)))
  else(
   ym j_ da fk))
 else(
  some (.done (da,fk)))
def xI (s_:TA)(kz:TA):Vg :=
 (vj s_ kz).bind λr_=>
 bif r_==(-1) then(
  some s_)
 else(
  (loop (λs=>wc kz s.1 s.2.1 s.2.2) (s_,r_,w64 (r_+1))).bind λt2=>
  yX t2.1 t2.2)
def Zw (a_:TA)(b_:TA)(inputs:Int):z2P :=
 (WV inputs ([a_,b_])).bind λr_=>
 bif r_ !=0 then(
  some (([]:TA),r_))
 else(
  (xW a_).bind λai=>
  (xI ai b_).bind λak=>
  (xD ak).bind λam=>
  some (am.1,am.2))
def ZX (m_:z6)(s_:Int):Option Int :=
 (xq m_).bind λr_=>
 bif r_ !=0 then(
  some r_)
 else(
  bif decide (s_<0) then(
   some 1)
  else(
   bif decide (s_>=((m_.i.length:Nat):Int)) then(
    some 1)
   else(
    some 0)))
def XI (bk:Int)(out:TB):Option (TB×Int) :=
 some (out,bk)
abbrev zoH:Type:=Option (LR (Int×TB×Int) ((Int×TB)))
def vP (aj:TB)(ba:Int)(gz:Int)(nr:Int):zoH :=
 (idx aj ba).bind λdn=>
 some (.next (gz,(aj.set ba.toNat nr),w64 (ba+1)))
def Qr (m_:z6)(w_:TB)(da:Int)(aj:TB)(ba:Int):zoH :=
 bif decide (ba<((w_.length:Nat):Int)) then(
  (idx w_ ba).bind λfc=>
  (ug).bind λr_=>
  bif da !=(-1) then(
   (idx m_.i da).bind λap=>
   (idx ap fc).bind λal=>
   vP aj ba al.o al.r)
  else(
   vP aj ba r_.o r_.r))
 else(
  some (.done (da,aj)))
def Wg (m_:z6)(s_:Int)(w_:TB):Option (TB×Int) :=
 gd ((0:Int)<=((w_.length:Nat):Int)/\(((w_.length:Nat):Int):Int)<=4294967296) <|
 (loop (λs=>Qr m_ w_ s.1 s.2.1 s.2.2) (s_,(List.replicate ((w_.length:Nat):Int).toNat (0:Int)),0)).bind λt2=>
 XI t2.1 t2.2
def jG (m_:z6)(s_:Int)(w_:TB):Option (Int×Int) :=
 (ZX m_ s_).bind λr_=>
 bif r_ !=0 then(
  some (0,r_))
 else(
  (jS w_ m_.j).bind λai=>
  bif ai !=0 then(
   some (0,ai))
  else(
   (Wg m_ s_ w_).bind λak=>
   some (ak.2,0)))
def xg (x_:zF)(u_:TB)(v_:TB):Vg :=
 (jG x_.m_ 0 u_).bind λr_=>
 (jG x_.m_ r_.1 v_).bind λai=>
 (idx x_.P ai.1).bind λpk=>
 some pk
def Zu (jg:Int)(bm:List (zz Int))(ce:Int)(d0:Int):ziK :=
 some (.next (bm,ce,d0,w64 (jg+1)))
def Zt (j7:Int)(ct:List (zz Int))(cg:Int)(dz:Int):z9g :=
 some (.next (ct,cg,dz,w64 (j7+1)))
def uG (b_:zb)(u_:TB)(ez:TB)(ai:TA)(ju:List (zz Int))(eg:Int)(km:Int)(m0:Int):z9g :=
 bif decide (m0<((ai.length:Nat):Int)) then(
  (idx ai m0).bind λdm=>
  (xp [u_,ez,dm] (zb.mk ju eg km)).bind λak=>
  bif ak.2 then(
   some (.done (.inr (b_,true))))
  else(
   some (.next (ak.1.x,ak.1.s,ak.1.w,w64 (m0+1)))))
 else(
  some (.done (.inl (ju,eg,km))))
def Zq (x_:zF)(b_:zb)(u_:TB)(aq:List (zz Int))(bc:Int)(fj:Int)(j7:Int):z9g :=
 bif decide (j7<((x_.K.length:Nat):Int)) then(
  (idx x_.K j7).bind λez=>
  (xg x_ u_ ez).bind λai=>
  (loop (λs=>uG b_ u_ ez ai s.1 s.2.1 s.2.2.1 s.2.2.2) (aq,bc,fj,0)).bind λt6=>
  match t6 with
  |.inl p=>Zt j7 p.1 p.2.1 p.2.2
  |.inr p=>some (.done (.inr p)))
 else(
  some (.done (.inl (aq,bc,fj))))
def Zr (x_:zF)(b_:zb)(r_:TA×Int)(bh:List (zz Int))(cj:Int)(fh:Int)(jg:Int):ziK :=
 bif decide (jg<((r_.1.length:Nat):Int)) then(
  (idx r_.1 jg).bind λu_=>
  (loop (λs=>Zq x_ b_ u_ s.1 s.2.1 s.2.2.1 s.2.2.2) (bh,cj,fh,0)).bind λt4=>
  match t4 with
  |.inl p=>Zu jg p.1 p.2.1 p.2.2
  |.inr p=>some (.done p))
 else(
  some (.done ((zb.mk bh cj fh),false)))
def uH (x_:zF)(b_:zb)(br:List (zz Int))(cp:Int)(fm:Int):ziL :=
 (Zw x_.p_ x_.q_ x_.m_.j).bind λr_=>
 (loop (λs=>Zr x_ b_ r_ s.1 s.2.1 s.2.2.1 s.2.2.2) (br,cp,fm,0)).bind λt2=>
 some t2
def Zs (jh:Int)(lz:List (zz Int))(lk:Int)(ml:Int):z9g :=
 some (.next (lz,lk,ml,w64 (jh+1)))
def kK (fw:Int)(l4:List (zz Int))(ll:Int)(mp:Int):z9g :=
 some (.next (l4,ll,mp,w64 (fw+1)))
def kJ (x_:zF)(b_:zb)(gq:TB)(a6:TB)(i8:List (zz Int))(ix:Int)(jv:Int)(my:Int):z9g :=
 bif decide (my<((x_.O.length:Nat):Int)) then(
  (idx x_.O my).bind λfy=>
  (xp [gq,a6,fy] (zb.mk i8 ix jv)).bind λam=>
  bif am.2 then(
   some (.done (.inr (b_,true))))
  else(
   some (.next (am.1.x,am.1.s,am.1.w,w64 (my+1)))))
 else(
  some (.done (.inl (i8,ix,jv))))
def Zo (x_:zF)(b_:zb)(gq:TB)(jw:List (zz Int))(ja:Int)(kn:Int)(fw:Int):z9g :=
 bif decide (fw<((x_.F.length:Nat):Int)) then(
  (idx x_.F fw).bind λa6=>
  (loop (λs=>kJ x_ b_ gq a6 s.1 s.2.1 s.2.2.1 s.2.2.2) (jw,ja,kn,0)).bind λsc=>
  match sc with
  |.inl p=>kK fw p.1 p.2.1 p.2.2
  |.inr p=>some (.done (.inr p)))
 else(
  some (.done (.inl (jw,ja,kn))))
def Zp (x_:zF)(b_:zb)(jx:List (zz Int))(jb:Int)(ko:Int)(jh:Int):z9g :=
 bif decide (jh<((x_.q_.length:Nat):Int)) then(
  (idx x_.q_ jh).bind λgq=>
  (loop (λs=>Zo x_ b_ gq s.1 s.2.1 s.2.2.1 s.2.2.2) (jx,jb,ko,0)).bind λt9=>
  match t9 with
  |.inl p=>Zs jh p.1 p.2.1 p.2.2
  |.inr p=>some (.done (.inr p)))
 else(
  some (.done (.inl (jx,jb,ko))))
def wH (x0:Ul)(x_:zF)(b_:zb):ziL :=
 (loop (λs=>Zp x_ b_ s.1 s.2.1 s.2.2.1 s.2.2.2) (b_.x,b_.s,b_.w,0)).bind λt7=>
 match t7 with
 |.inl p=>uH x_ b_ p.1 p.2.1 p.2.2
 |.inr p=>some p
def kO (ba:Int)(bh:List (zz Int))(cj:Int)(fh:Int):ziK :=
 some (.next (bh,cj,fh,w64 (ba+1)))
def kN (gk:Int)(aq:List (zz Int))(bc:Int)(fj:Int):z9g :=
 some (.next (aq,bc,fj,w64 (gk+1)))
def vW (b_:zb)(bj:TB)(a6:TB)(r_:TA)(ct:List (zz Int))(cg:Int)(dz:Int)(ib:Int):z9g :=
 bif decide (ib<((r_.length:Nat):Int)) then(
  (idx r_ ib).bind λdm=>
  (xp [bj,a6,dm] (zb.mk ct cg dz)).bind λai=>
  bif ai.2 then(
   some (.done (.inr (b_,true))))
  else(
   some (.next (ai.1.x,ai.1.s,ai.1.w,w64 (ib+1)))))
 else(
  some (.done (.inl (ct,cg,dz))))
def kL (x_:zF)(b_:zb)(bj:TB)(bm:List (zz Int))(ce:Int)(d0:Int)(gk:Int):z9g :=
 bif decide (gk<((x_.F.length:Nat):Int)) then(
  (idx x_.F gk).bind λa6=>
  (xg x_ bj a6).bind λr_=>
  (loop (λs=>vW b_ bj a6 r_ s.1 s.2.1 s.2.2.1 s.2.2.2) (bm,ce,d0,0)).bind λt5=>
  match t5 with
  |.inl p=>kN gk p.1 p.2.1 p.2.2
  |.inr p=>some (.done (.inr p)))
 else(
  some (.done (.inl (bm,ce,d0))))
def kM (x_:zF)(b_:zb)(br:List (zz Int))(cp:Int)(fm:Int)(ba:Int):ziK :=
 bif decide (ba<((x_.p_.length:Nat):Int)) then(
  (idx x_.p_ ba).bind λbj=>
  (loop (λs=>kL x_ b_ bj s.1 s.2.1 s.2.2.1 s.2.2.2) (br,cp,fm,0)).bind λt3=>
  match t3 with
  |.inl p=>kO ba p.1 p.2.1 p.2.2
  |.inr p=>some (.done p))
 else(
  some (.done ((zb.mk br cp fm),false)))
def wh (x0:Vf)(x_:zF)(b_:zb):ziL :=
 (loop (λs=>kM x_ b_ s.1 s.2.1 s.2.2.1 s.2.2.2) (b_.x,b_.s,b_.w,0)).bind λt1=>
 some t1
def vX (x:zF)(s:Nat)(most:Int):Option (Option zb×Bool) :=
 (match s with|0=>wY ⟨⟩ x (zb.mk [zz.mk 0 0 0 0 0 0 0 0 0 0 0 0 0 0 0 0] 0 most)|1=>wH ⟨⟩ x (zb.mk [zz.mk 0 0 0 0 0 0 0 0 0 0 0 0 0 0 0 0] 0 most)|2=>wh ⟨⟩ x (zb.mk [zz.mk 0 0 0 0 0 0 0 0 0 0 0 0 0 0 0 0] 0 most)|_=>none).bind λr=>
 some (bif r.2 then none else some r.1,!r.2)
def w7 (s_:TA):Vg :=
 some s_
def u7 (out:TA):Vg :=
 (w7 out).bind λr_=>
 some r_
abbrev zoG:Type:=Option (LR (TA×List zh) TA)
def u6 (ax:TA)(next:List zh):zoG :=
 some (.next (ax,next))
abbrev znp:Type:=Option (LR (TA×List zh×Int) ((TA×List zh)))
def wJ (ba:Int)(gx:TA)(ff:List zh):znp :=
 some (.next (gx,ff,w64 (ba+1)))
def vZ (bo:TA)(ba:Int)(a8:zh)(cb:List zh)(pu:Bool):znp :=
 bif pu then(
  (zQ a8.w_).bind λai=>
  gd (bo.length+[ai].length<=4294967296) <|
  wJ ba (bo++[ai]) cb)
 else(
  wJ ba bo cb)
abbrev zoF:Type:=Option (LR (List zh×Bool×Int) ((List zh×Bool)))
def wI (fg:Int)(og:List zh)(oh:Bool):zoF :=
 some (.next (og,oh,w64 (fg+1)))
def yk (a8:zh)(a7:zz Int)(iq:List zh)(l9:Bool)(fg:Int):zoF :=
 bif decide (fg<16) then(
  (idx [a7.e0,a7.e1,a7.e2,a7.e3,a7.e4,a7.e5,a7.e6,a7.e7,a7.e8,a7.e9,a7.e10,a7.e11,a7.e12,a7.e13,a7.e14,a7.e15] fg).bind λcell=>
  bif decide (cell>0) then(
   (zQ a8.w_).bind λak=>
   gd (ak.length+[fg].length<=4294967296) <|
   gd (iq.length+[(zh.mk cell (ak++[fg]))].length<=4294967296) <|
   wI fg (iq++[(zh.mk cell (ak++[fg]))]) false)
  else(
   wI fg iq l9))
 else(
  some (.done (iq,l9)))
def yl (b_:zb)(ay:List zh)(bo:TA)(cr:List zh)(ba:Int):znp :=
 bif decide (ba<((ay.length:Nat):Int)) then(
  (idx ay ba).bind λa8=>
  (idx b_.x a8.at_).bind λa7=>
  (loop (λs=>yk a8 a7 s.1 s.2.1 s.2.2) (cr,true,0)).bind λt7=>
  vZ bo ba a8 t7.1 t7.2)
 else(
  some (.done (bo,cr)))
def vY (b_:zb)(aj:TA)(ay:List zh):zoG :=
 bif decide (((ay.length:Nat):Int)>0) then(
  (loop (λs=>yl b_ ay s.1 s.2.1 s.2.2) (aj,([]:List zh),0)).bind λt4=>
  u6 t4.1 t4.2)
 else(
  some (.done aj))
def wT (b_:zb):Vg :=
 (loop (λs=>vY b_ s.1 s.2) (([]:TA),([(zh.mk 0 [])]:List zh))).bind λt2=>
 u7 t2
def ww (s_:Nat)(m_:z6)(bound:Int)(bf:Int):z2P :=
 (Yb m_ bound).bind λr_=>
 bif r_ !=0 then(
  some (([]:TA),r_))
 else(
  bif decide (bf<1) then(
   some (([]:TA),1))
  else(
   bif decide (bf>4096) then(
    some (([]:TA),1))
   else(
    (jy m_ bound).bind λai=>
    bif ai.2 !=0 then(
     some (([]:TA),13))
    else(
     (ai.1).bind λthere=>
     (vX there s_ bf).bind λak=>
     bif !ak.2 then(
      some (([]:TA),13))
     else(
      (ak.1).bind λee=>
      (wT ee).bind λam=>
      (Xh am m_.j).bind λaz=>
      bif az !=0 then(
       some (([]:TA),az))
      else(
       some (am,0)))))))
def W5 (m_:z6)(bound:Int)(bf:Int):z2P :=
 (ww 0 m_ bound bf).bind λr_=>
 some (r_.1,r_.2)
def UU (m_:z6)(bound:Int)(bf:Int):z2P :=
 (ww 1 m_ bound bf).bind λr_=>
 some (r_.1,r_.2)
def V0 (m_:z6)(bound:Int)(bf:Int):z2P :=
 (ww 2 m_ bound bf).bind λr_=>
 some (r_.1,r_.2)
def UV (n_:xT Int):Option (xT Int×Int) :=
 some (n_,0)
def z1O (ai:Option zF×Int)(ca:xT Int)(kl:Int):Option (LR (xT Int×Int) (xT Int⊕(xT Int×Int))) :=
 bif decide (kl<((([0,1,2]:TC).length:Nat):Int)) then(
  (idx ([0,1,2]) kl).bind λmj=>
  (ai.1).bind λthere=>
  (vX there mj 4096).bind λak=>
  bif !ak.2 then(
   some (.done (.inr ((xT.mk 0 0 0),3))))
  else(
   (ak.1).bind λee=>
   (idx (xT.toL ca) kl).bind λcell=>
   (some (xT.setI ca kl (mx ee.s 1))).bind λarr=>
   some (.next (arr,w64 (kl+1)))))
 else(
  some (.done (.inl ca)))
def z0z (m_:z6)(bound:Int):Option (xT Int×Int) :=
 (Yb m_ bound).bind λr_=>
 bif r_ !=0 then(
  some ((xT.mk 0 0 0),r_))
 else(
  (jy m_ bound).bind λai=>
  bif ai.2 !=0 then(
   some ((xT.mk 0 0 0),3))
  else(
   (loop (λs=>z1O ai s.1 s.2) ((xT.mk 0 0 0),0)).bind λt2=>
   match t2 with
   |.inl p=>UV p
   |.inr p=>some p))
def Jx (out:TA):Vg :=
 some out
def WC (n_:Int)(ax:TA):z18 :=
 some (.next (ax,w64 (n_+1)))
def WB (n_:Int)(next:TA):z18 :=
 WC n_ next
def Wz (i_:Int)(ff:TA):z18 :=
 some (.next (ff,w64 (i_+1)))
def vp (inputs:Int)(aj:TA)(i_:Int)(cb:TA)(s_:Int):z18 :=
 bif decide (s_<inputs) then(
  (idx aj i_).bind λdn=>
  gd (([]:TB).length+dn.length<=4294967296) <|
  gd (dn.length+[s_].length<=4294967296) <|
  gd (cb.length+[(dn++[s_])].length<=4294967296) <|
  some (.next ((cb++[(dn++[s_])]),w64 (s_+1))))
 else(
  some (.done cb))
def vq (inputs:Int)(aj:TA)(cr:TA)(i_:Int):z18 :=
 bif decide (i_<((aj.length:Nat):Int)) then(
  (loop (λs=>vp inputs aj i_ s.1 s.2) (cr,0)).bind λt7=>
  Wz i_ t7)
 else(
  some (.done cr))
def uC (inputs:Int)(k_:Int)(aj:TA)(n_:Int):z18 :=
 bif decide (n_<k_) then(
  (loop (λs=>vq inputs aj s.1 s.2) (([]:TA),0)).bind λt5=>
  WB n_ t5)
 else(
  some (.done aj))
def Xs (inputs:Int)(k_:Int):Vg :=
 (loop (λs=>uC inputs k_ s.1 s.2) (([[]]:TA),0)).bind λt2=>
 Jx t2
def Kr (out:TA):Vg :=
 some out
def qM (inputs:Int)(k_:Int)(aj:TA)(n_:Int):z18 :=
 bif decide (n_<=k_) then(
  (Xs inputs n_).bind λr_=>
  gd (aj.length+r_.length<=4294967296) <|
  some (.next ((aj++r_),w64 (n_+1))))
 else(
  some (.done aj))
def qN (inputs:Int)(k_:Int):Vg :=
 (loop (λs=>qM inputs k_ s.1 s.2) (([]:TA),0)).bind λt2=>
 Kr t2
def Ug:Option Int :=
 some 0
def Ys (a_:TB)(b_:TB)(i_:Int):R3_ :=
 bif decide (i_<((a_.length:Nat):Int)) then(
  (idx a_ i_).bind λdv=>
  (idx b_ i_).bind λdx=>
  bif decide (dv<dx) then(
   some (.done (.inr (-1))))
  else(
   (idx a_ i_).bind λi6=>
   (idx b_ i_).bind λl6=>
   bif decide (i6>l6) then(
    some (.done (.inr 1)))
   else(
    some (.next (w64 (i_+1))))))
 else(
  some (.done (.inl ())))
def v8 (a_:TB)(b_:TB):Option Int :=
 bif ((a_.length:Nat):Int) !=((b_.length:Nat):Int) then(
  bif decide (((a_.length:Nat):Int)<((b_.length:Nat):Int)) then(
   some (-1))
  else(
   some 1))
 else(
  (loop (λs=>Ys a_ b_ s) 0).bind λt2=>
  match t2 with
  |.inl p=>Ug
  |.inr p=>some p)
def Q6 (w_:TB)(ir:Int)(dr:TA):Vg :=
 gd (([]:TB).length+w_.length<=4294967296) <|
 (idx dr ir).bind λbi=>
 some (dr.set ir.toNat w_)
def Q5 (ir:Int)(j6:TA)(i_:Int):z18 :=
 bif decide (i_>ir) then(
  (idx j6 (w64 (i_-1))).bind λew=>
  (idx j6 i_).bind λnu=>
  some (.next ((j6.set i_.toNat ew),w64 (i_-1))))
 else(
  some (.done j6))
def Yd (l_:TA)(w_:TB)(ir:Int):Vg :=
 gd (l_.length+([[]]:TA).length<=4294967296) <|
 (loop (λs=>Q5 ir s.1 s.2) ((l_++([[]]:TA)),w64 ((((l_++([[]]:TA)).length:Nat):Int)-1))).bind λt4=>
 Q6 w_ ir t4
def Q7 (l_:TA)(w_:TB)(ir:Int):Vg :=
 bif decide (ir<((l_.length:Nat):Int)) then(
  (idx l_ ir).bind λow=>
  (v8 ow w_).bind λr_=>
  bif r_==0 then(
   some l_)
  else(
   Yd l_ w_ ir))
 else(
  Yd l_ w_ ir)
def Q4 (l_:TA)(w_:TB)(lb:Int)(l5:Int):R7_ :=
 bif decide (lb<l5) then(
  gd ((2:Int)≠0) <|
  (idx l_ (w64 (Int.tdiv (w64 (lb+l5)) 2))).bind λox=>
  (v8 ox w_).bind λai=>
  bif decide (ai<0) then(
   some (.next (w64 ((w64 (Int.tdiv (w64 (lb+l5)) 2))+1),l5)))
  else(
   some (.next (lb,w64 (Int.tdiv (w64 (lb+l5)) 2)))))
 else(
  some (.done lb))
def Q8 (l_:TA)(w_:TB):Vg :=
 (loop (λs=>Q4 l_ w_ s.1 s.2) (0,((l_.length:Nat):Int))).bind λt5=>
 Q7 l_ w_ t5
def Ks (out:TA):Vg :=
 some out
def qO (l_:TA)(aj:TA)(i_:Int):z18 :=
 bif decide (i_<((l_.length:Nat):Int)) then(
  (idx l_ i_).bind λbi=>
  (Q8 aj bi).bind λr_=>
  some (.next (r_,w64 (i_+1))))
 else(
  some (.done aj))
def X3 (l_:TA):Vg :=
 (loop (λs=>qO l_ s.1 s.2) (([]:TA),0)).bind λt2=>
 Ks t2
def kp (m_:z6):Vg :=
 (Yf m_).bind λr_=>
 (X3 r_.1).bind λai=>
 some ai
def Qb (out:TA):Vg :=
 some out
def Xt (i_:Int)(ax:TA):z18 :=
 some (.next (ax,w64 (i_+1)))
def vN (a_:TA)(b_:TA)(i_:Int)(bo:TA)(k_:Int):z18 :=
 bif decide (k_<((b_.length:Nat):Int)) then(
  (idx a_ i_).bind λdv=>
  gd (([]:TB).length+dv.length<=4294967296) <|
  (idx b_ k_).bind λdx=>
  gd (dv.length+dx.length<=4294967296) <|
  (Q8 bo (dv++dx)).bind λr_=>
  some (.next (r_,w64 (k_+1))))
 else(
  some (.done bo))
def vO (a_:TA)(b_:TA)(aj:TA)(i_:Int):z18 :=
 bif decide (i_<((a_.length:Nat):Int)) then(
  (loop (λs=>vN a_ b_ i_ s.1 s.2) (aj,0)).bind λt4=>
  Xt i_ t4)
 else(
  some (.done aj))
def xE (a_:TA)(b_:TA):Vg :=
 (loop (λs=>vO a_ b_ s.1 s.2) (([]:TA),0)).bind λt2=>
 Qb t2
def Wy (m_:z6)(k_:Int):Vg :=
 (kp m_).bind λr_=>
 (qN m_.j k_).bind λai=>
 (xE r_ ai).bind λak=>
 some ak
def wC (m_:z6):Vg :=
 (Wy m_ 1).bind λr_=>
 some r_
def Qk (out:TB):Option TB :=
 some out
def Qj (m_:z6)(w_:TB)(bk:Int)(aj:TB)(k_:Int):Option (LR (Int×TB×Int) TB) :=
 bif decide (k_<((w_.length:Nat):Int)) then(
  (idx w_ k_).bind λfc=>
  (V5 m_ bk fc).bind λr_=>
  gd (aj.length+[r_.r].length<=4294967296) <|
  some (.next (r_.o,(aj++[r_.r]),w64 (k_+1))))
 else(
  some (.done aj))
def Qm (m_:z6)(s_:Int)(w_:TB):Option TB :=
 (loop (λs=>Qj m_ w_ s.1 s.2.1 s.2.2) (s_,([]:TB),0)).bind λt2=>
 Qk t2
def YD:Option Int :=
 some 0
def jO (a_:TB)(b_:TB)(i_:Int):R3_ :=
 bif decide (i_<((a_.length:Nat):Int)) then(
  (idx a_ i_).bind λdv=>
  (idx b_ i_).bind λdx=>
  bif decide (dv<dx) then(
   some (.done (.inr (-1))))
  else(
   (idx a_ i_).bind λi6=>
   (idx b_ i_).bind λl6=>
   bif decide (i6>l6) then(
    some (.done (.inr 1)))
   else(
    some (.next (w64 (i_+1))))))
 else(
  some (.done (.inl ())))
def VF (a_:TB)(b_:TB):Option Int :=
 bif decide (((a_.length:Nat):Int)<((b_.length:Nat):Int)) then(
  some (-1))
 else(
  bif decide (((a_.length:Nat):Int)>((b_.length:Nat):Int)) then(
   some 1)
  else(
   (loop (λs=>jO a_ b_ s) 0).bind λt2=>
   match t2 with
   |.inl p=>YD
   |.inr p=>some p))
def QJ (a_:TB)(b_:TB):Option Bool :=
 (VF a_ b_).bind λr_=>
 some (r_==0)
def W9 (m_:z6)(w_:TB)(s_:Int)(t_:Int):Option Int :=
 (Qm m_ s_ w_).bind λr_=>
 (Qm m_ t_ w_).bind λai=>
 (QJ r_ ai).bind λak=>
 bif ak then(
  some 0)
 else(
  some 1)
def Kv (out:TB):Option TB :=
 gd (out.length+([0]:TB).length<=4294967296) <|
 some (out++([0]:TB))
def z4I (inputs:Int)(aj:TB)(k_:Int):R8_ :=
 bif decide (k_>=0) then(
  (idx aj k_).bind λdn=>
  bif decide ((w64 (dn+1))<inputs) then(
   (idx aj k_).bind λjr=>
   (idx aj k_).bind λo7=>
   some (.done (.inr (aj.set k_.toNat (w64 (jr+1))))))
  else(
   (idx aj k_).bind λo8=>
   some (.next ((aj.set k_.toNat 0),w64 (k_-1)))))
 else(
  some (.done (.inl aj)))
def z0b (w_:TB)(inputs:Int):Option TB :=
 gd (([]:TB).length+w_.length<=4294967296) <|
 (loop (λs=>z4I inputs s.1 s.2) (w_,w64 (((w_.length:Nat):Int)-1))).bind λt2=>
 match t2 with
 |.inl p=>Kv p
 |.inr p=>some p
abbrev zoE:Type:=Option (TB×Bool)
def V4:zoE :=
 some (([]:TB),false)
def V3 (m_:z6)(s_:Int)(t_:Int)(w_:TB):Option (LR TB (Unit⊕(TB×Bool))) :=
 bif decide (((w_.length:Nat):Int)<(mx ((m_.i.length:Nat):Int) 2)) then(
  (W9 m_ w_ s_ t_).bind λr_=>
  bif r_==1 then(
   some (.done (.inr (w_,true))))
  else(
   (z0b w_ m_.j).bind λai=>
   some (.next ai)))
 else(
  some (.done (.inl ())))
def wy (m_:z6)(s_:Int)(t_:Int):zoE :=
 (loop (λs=>V3 m_ s_ t_ s) ([]:TB)).bind λt2=>
 match t2 with
 |.inl p=>V4
 |.inr p=>some p
def Ww (out:TA):Vg :=
 (X3 out).bind λr_=>
 some r_
def Wv (a_:Int)(ax:TA):z18 :=
 some (.next (ax,w64 (a_+1)))
def wx (b_:Int)(gx:TA):z18 :=
 some (.next (gx,w64 (b_+1)))
def Wu (m_:z6)(s_:Int)(a_:Int)(bo:TA)(b_:Int):z18 :=
 bif decide (b_<((m_.i.length:Nat):Int)) then(
  bif decide (s_<0) then(
   (wy m_ a_ b_).bind λai=>
   gd (bo.length+[ai.1].length<=4294967296) <|
   wx b_ (bo++[ai.1]))
  else(
   bif a_==s_ then(
    (wy m_ a_ b_).bind λak=>
    gd (bo.length+[ak.1].length<=4294967296) <|
    wx b_ (bo++[ak.1]))
   else(
    bif b_==s_ then(
     (wy m_ a_ b_).bind λam=>
     gd (bo.length+[am.1].length<=4294967296) <|
     wx b_ (bo++[am.1]))
    else(
     wx b_ bo))))
 else(
  some (.done bo))
def Jv (m_:z6)(s_:Int)(aj:TA)(a_:Int):z18 :=
 bif decide (a_<((m_.i.length:Nat):Int)) then(
  (loop (λs=>Wu m_ s_ a_ s.1 s.2) (aj,w64 (a_+1))).bind λt4=>
  Wv a_ t4)
 else(
  some (.done aj))
def Xo (m_:z6)(s_:Int):Vg :=
 (loop (λs=>Jv m_ s_ s.1 s.2) (([]:TA),0)).bind λt2=>
 Ww t2
def Q3 (m_:z6):Vg :=
 (Xo m_ (-1)).bind λr_=>
 some r_
def X2 (l_:TA):Vg :=
 bif ((l_.length:Nat):Int)==0 then(
  some ([[]]:TA))
 else(
  some l_)
def W7 (a_:TB)(b_:TB):Option Bool :=
 bif decide (((a_.length:Nat):Int)<((b_.length:Nat):Int)) then(
  gd ((0:Int)<=0/\(0:Int)<=((a_.length:Nat):Int)/\(((a_.length:Nat):Int):Int)<=((b_.length:Nat):Int)) <|
  (v8 a_ ((b_.drop 0).take (((a_.length:Nat):Int).toNat-0))).bind λr_=>
  some (r_==0))
 else(
  some false)
def Q9 (out:TA):Vg :=
 some out
def kW (i_:Int)(ax:TA):z18 :=
 some (.next (ax,w64 (i_+1)))
def Xq (l_:TA)(aj:TA)(i_:Int)(oi:Bool):z18 :=
 bif !oi then(
  (idx l_ i_).bind λbi=>
  gd (aj.length+[bi].length<=4294967296) <|
  kW i_ (aj++[bi]))
 else(
  kW i_ aj)
def vL (l_:TA)(i_:Int)(lv:Bool)(k_:Int):Option (LR (Bool×Int) Bool) :=
 bif decide (k_<((l_.length:Nat):Int)) then(
  bif lv then(
   some (.next (true,w64 (k_+1))))
  else(
   (idx l_ i_).bind λew=>
   (idx l_ k_).bind λnu=>
   (W7 ew nu).bind λr_=>
   some (.next (r_,w64 (k_+1)))))
 else(
  some (.done lv))
def vM (l_:TA)(aj:TA)(i_:Int):z18 :=
 bif decide (i_<((l_.length:Nat):Int)) then(
  (loop (λs=>vL l_ i_ s.1 s.2) (false,0)).bind λt5=>
  Xq l_ aj i_ t5)
 else(
  some (.done aj))
def qh (l_:TA):Vg :=
 (loop (λs=>vM l_ s.1 s.2) (([]:TA),0)).bind λt2=>
 Q9 t2
def z4H (m_:z6)(bound:Int):Vg :=
 (qN m_.j (w64 (bound-((m_.i.length:Nat):Int)))).bind λr_=>
 (wC m_).bind λai=>
 (xE ai r_).bind λak=>
 (Q3 m_).bind λam=>
 (X2 am).bind λaz=>
 (xE ak az).bind λbn=>
 (qh bn).bind λcx=>
 some cx
def Vz:Option Bool :=
 some true
def YL (a_:TA)(b_:TA)(i_:Int):ziM :=
 bif decide (i_<((a_.length:Nat):Int)) then(
  (idx a_ i_).bind λdv=>
  (idx b_ i_).bind λdx=>
  (v8 dv dx).bind λr_=>
  bif r_ !=0 then(
   some (.done (.inr false)))
  else(
   some (.next (w64 (i_+1)))))
 else(
  some (.done (.inl ())))
def QH (a_:TA)(b_:TA):Option Bool :=
 bif ((a_.length:Nat):Int) !=((b_.length:Nat):Int) then(
  some false)
 else(
  (loop (λs=>YL a_ b_ s) 0).bind λt2=>
  match t2 with
  |.inl p=>Vz
  |.inr p=>some p)
def qS (a_:TA)(b_:TA):Option Bool :=
 (QH a_ b_).bind λr_=>
 bif r_ then(
  some (((a_.length:Nat):Int)==((a_.length:Nat):Int)))
 else(
  some false)
def Qa:Option Bool :=
 some false
def W8 (l_:TA)(w_:TB)(i_:Int):ziM :=
 bif decide (i_<((l_.length:Nat):Int)) then(
  (idx l_ i_).bind λbi=>
  (v8 bi w_).bind λr_=>
  bif r_==0 then(
   some (.done (.inr true)))
  else(
   some (.next (w64 (i_+1)))))
 else(
  some (.done (.inl ())))
def Kt (l_:TA)(w_:TB):Option Bool :=
 (loop (λs=>W8 l_ w_ s) 0).bind λt2=>
 match t2 with
 |.inl p=>Qa
 |.inr p=>some p
def Jw (out:TA):Vg :=
 some out
def ZT (i_:Int)(ax:TA):z18 :=
 some (.next (ax,w64 (i_+1)))
def uB (a_:TA)(b_:TA)(aj:TA)(i_:Int):z18 :=
 bif decide (i_<((a_.length:Nat):Int)) then(
  (idx a_ i_).bind λdv=>
  (Kt b_ dv).bind λr_=>
  bif !r_ then(
   (idx a_ i_).bind λi6=>
   gd (aj.length+[i6].length<=4294967296) <|
   ZT i_ (aj++[i6]))
  else(
   ZT i_ aj))
 else(
  some (.done aj))
def Xr (a_:TA)(b_:TA):Vg :=
 (loop (λs=>uB a_ b_ s.1 s.2) (([]:TA),0)).bind λt2=>
 Jw t2
def z1d (m_:z6)(s_:Int):Vg :=
 (Xo m_ s_).bind λr_=>
 some r_
def Xp (a_:TA)(b_:TA):Vg :=
 gd (([]:TA).length+a_.length<=4294967296) <|
 gd (a_.length+b_.length<=4294967296) <|
 (X3 (a_++b_)).bind λr_=>
 some r_
def V2 (out:TA):Vg :=
 some out
def xO (m_:z6)(l_:TA)(aj:TA)(i_:Int):z18 :=
 bif decide (i_<((l_.length:Nat):Int)) then(
  (idx l_ i_).bind λbi=>
  (XC m_ 0 bi).bind λr_=>
  (z1d m_ r_).bind λai=>
  (X2 ai).bind λak=>
  gd ((0:Int)<=i_/\(i_:Int)<=w64 (i_+1)/\(w64 (i_+1):Int)<=((l_.length:Nat):Int)) <|
  (xE ((l_.drop i_.toNat).take ((w64 (i_+1)).toNat-i_.toNat)) ak).bind λam=>
  (Xp aj am).bind λaz=>
  some (.next (az,w64 (i_+1))))
 else(
  some (.done aj))
def uA (m_:z6)(l_:TA):Vg :=
 (loop (λs=>xO m_ l_ s.1 s.2) (([]:TA),0)).bind λt2=>
 V2 t2
def z1c (m_:z6)(bound:Int):Vg :=
 (kp m_).bind λr_=>
 (wC m_).bind λai=>
 (Xr ai r_).bind λak=>
 (qN m_.j (w64 (bound-((m_.i.length:Nat):Int)))).bind λam=>
 (xE r_ am).bind λaz=>
 (Q3 m_).bind λbn=>
 (X2 bn).bind λcx=>
 (xE az cx).bind λgb=>
 (Xs m_.j (w64 (bound-((m_.i.length:Nat):Int)))).bind λiy=>
 (xE ak iy).bind λgr=>
 (uA m_ gr).bind λim=>
 (Xp gb im).bind λj8=>
 (qh j8).bind λmv=>
 some mv
def Kq (m_:z6)(bound:Int):Vg :=
 (qN m_.j (w64 (bound-((m_.i.length:Nat):Int)))).bind λr_=>
 (wC m_).bind λai=>
 (xE ai r_).bind λak=>
 (uA m_ ak).bind λam=>
 (qh am).bind λaz=>
 some az
def KE:Option z6 :=
 some (z6.mk 2 2 ([[(z8.mk 1 0),(z8.mk 0 0)],[(z8.mk 2 0),(z8.mk 1 1)],[(z8.mk 0 1),(z8.mk 2 0)]]))
def JQ:Option Bool :=
 (KE).bind λr_=>
 (W5 r_ 3 8).bind λai=>
 (UU r_ 3 4096).bind λak=>
 (V0 r_ 3 4096).bind λam=>
 bif ai.2 !=0 then(
  some false)
 else(
  bif ak.2 !=0 then(
   some false)
  else(
   bif am.2 !=0 then(
    some false)
   else(
    (qS ai.1 ([[1,0],[1,1],[0,1,0],[0,1,1],[0,0,0,0],[0,0,0,1],[0,0,1,0],[0,0,1,1]])).bind λaz=>
    bif !az then(
     some false)
    else(
     gd ((0:Int)<=0/\(0:Int)<=7/\(7:Int)<=((([[1,0],[1,1],[0,1,0],[0,1,1],[0,0,0,0],[0,0,0,1],[0,0,1,0],[0,0,1,1]]:TA).length:Nat):Int)) <|
     (qS ak.1 ((([[1,0],[1,1],[0,1,0],[0,1,1],[0,0,0,0],[0,0,0,1],[0,0,1,0],[0,0,1,1]]:TA).drop 0).take ((7:Int).toNat-0))).bind λbn=>
     bif !bn then(
      some false)
     else(
      gd ((0:Int)<=0/\(0:Int)<=7/\(7:Int)<=((([[1,0],[1,1],[0,1,0],[0,1,1],[0,0,0,0],[0,0,0,1],[0,0,1,0],[0,0,1,1]]:TA).length:Nat):Int)) <|
      (qS am.1 ((([[1,0],[1,1],[0,1,0],[0,1,1],[0,0,0,0],[0,0,0,1],[0,0,1,0],[0,0,1,1]]:TA).drop 0).take ((7:Int).toNat-0))).bind λcx=>
      bif !cx then(
       some false)
      else(
       (W5 r_ 2 9).bind λgb=>
       (W5 r_ 8 9).bind λiy=>
       (W5 r_ 3 7).bind λgr=>
       (z0z r_ 3).bind λim=>
       bif gb.2==1 then(
        bif iy.2==1 then(
         bif gr.2==13 then(
          bif im.2==0 then(
           some ((im.1.e0==8)&&((im.1.e1==7)&&((im.1.e2==7)&&true))))
          else(
           some false))
         else(
          some false))
        else(
         some false))
       else(
        some false)))))))
def vd:Option Bool :=
 (JQ).bind λgb=>
 some gb
def xh (i_:Int)(m0:TA)(rj:Int)(rk:Bool)(rl:Bool)(qn:Bool):ziM :=
 some (.next (w64 (i_+1)))
def yz (bf:Int)(ai:TA)(ak:TA)(am:TA)(az:TA×Int)(bn:TA×Int)(cx:TA×Int)(i_:Int):ziM :=
 bif decide (i_<3) then(
  (idx (xT.toL (xT.mk ai ak am)) i_).bind λcell=>
  bif decide (((cell.length:Nat):Int)>(w64 (1+(Int.tmod (w64 (bf)) 200)))) then(
   (idx (xT.toL (xT.mk az.2 bn.2 cx.2)) i_).bind λco=>
   bif co !=13 then(
    some (.done (.inr false)))
   else(
    (idx (xT.toL (xT.mk az.1 bn.1 cx.1)) i_).bind λiv=>
    bif ((iv.length:Nat):Int) !=0 then(
     some (.done (.inr false)))
    else(
     (idx (xT.toL (xT.mk ai ak am)) i_).bind λd9=>
     bif decide (((d9.length:Nat):Int)<=(w64 (1+(Int.tmod (w64 (bf)) 200)))) then(
      (idx (xT.toL (xT.mk az.2 bn.2 cx.2)) i_).bind λqt=>
      bif qt !=0 then(
       some (.done (.inr false)))
      else(
       (idx (xT.toL (xT.mk az.1 bn.1 cx.1)) i_).bind λma=>
       (idx (xT.toL (xT.mk ai ak am)) i_).bind λmb=>
       (qS ma mb).bind λiy=>
       bif !iy then(
        some (.done (.inr false)))
       else(
        xh i_ d9 ((d9.length:Nat):Int) (decide (((d9.length:Nat):Int)<=(w64 (1+(Int.tmod (w64 (bf)) 200))))) (decide (((d9.length:Nat):Int)<=(w64 (1+(Int.tmod (w64 (bf)) 200))))) (!iy))))
     else(
      xh i_ d9 ((d9.length:Nat):Int) (decide (((d9.length:Nat):Int)<=(w64 (1+(Int.tmod (w64 (bf)) 200))))) (decide (((d9.length:Nat):Int)<=(w64 (1+(Int.tmod (w64 (bf)) 200))))) false))))
  else(
   (idx (xT.toL (xT.mk ai ak am)) i_).bind λie=>
   bif decide (((ie.length:Nat):Int)<=(w64 (1+(Int.tmod (w64 (bf)) 200)))) then(
    (idx (xT.toL (xT.mk az.2 bn.2 cx.2)) i_).bind λqu=>
    bif qu !=0 then(
     some (.done (.inr false)))
    else(
     (idx (xT.toL (xT.mk az.1 bn.1 cx.1)) i_).bind λmc=>
     (idx (xT.toL (xT.mk ai ak am)) i_).bind λlm=>
     (qS mc lm).bind λgr=>
     bif !gr then(
      some (.done (.inr false)))
     else(
      xh i_ ie ((ie.length:Nat):Int) (decide (((ie.length:Nat):Int)<=(w64 (1+(Int.tmod (w64 (bf)) 200))))) (decide (((ie.length:Nat):Int)<=(w64 (1+(Int.tmod (w64 (bf)) 200))))) (!gr))))
   else(
    xh i_ ie ((ie.length:Nat):Int) (decide (((ie.length:Nat):Int)<=(w64 (1+(Int.tmod (w64 (bf)) 200))))) (decide (((ie.length:Nat):Int)<=(w64 (1+(Int.tmod (w64 (bf)) 200))))) false)))
 else(
  some (.done (.inl ())))
def Zf (x_:Yn)(bf:Int):Option Bool :=
 (QR x_).bind λr_=>
 gd ((200:Int)≠0) <|
 (z4H r_ (w64 (((r_.i.length:Nat):Int)+1))).bind λai=>
 (z1c r_ (w64 (((r_.i.length:Nat):Int)+1))).bind λak=>
 (Kq r_ (w64 (((r_.i.length:Nat):Int)+1))).bind λam=>
 (W5 r_ (w64 (((r_.i.length:Nat):Int)+1)) (w64 (1+(Int.tmod (w64 (bf)) 200)))).bind λaz=>
 (UU r_ (w64 (((r_.i.length:Nat):Int)+1)) (w64 (1+(Int.tmod (w64 (bf)) 200)))).bind λbn=>
 (V0 r_ (w64 (((r_.i.length:Nat):Int)+1)) (w64 (1+(Int.tmod (w64 (bf)) 200)))).bind λcx=>
 (loop (λs=>yz bf ai ak am az bn cx s) 0).bind λt2=>
 match t2 with
 |.inl p=>vd
 |.inr p=>some p
abbrev F0_:=KK (eI .i64)
abbrev F1_:=znf (eI .i64)
abbrev F2_:=XP (eI .i32)
abbrev F3_:=eSl 1 false (eI .u8)
abbrev F4_:=eSl 1 true (eI .i64)
abbrev F5_:=eOs 1 true (eI .i64)
abbrev F6_:=eSl 1 false (eI .u16)
abbrev F7_:=eOs 1 false (eI .i64)
abbrev F8_:=eSl 1 false (eI .i64)
abbrev F9_:=XP F0_
abbrev uS:=wU (eI .i64) (eI .i64)
abbrev zp0:=eOs 16 false F2_
abbrev zlP:=eSl 16 false F2_
abbrev kC:=eSl 1 true F4_
abbrev zlO:=eOs 1 true F4_
abbrev z6W:=eSl 1 true F8_
abbrev zoZ:=eSl 1 false F4_
abbrev yp:=eSl 1 false F8_
abbrev z0M:=eOs 1 false F8_
abbrev zlN:=eSp yp
abbrev zoY:=eSl 2 true uS
abbrev xZ:=eSl 2 false uS
abbrev YH:=eOs 2 false uS
abbrev Zn:=XO (eI .i64) (eI .i64) (eI .i64)
abbrev UN:=yV (eI .i32) F8_
abbrev zoX:=eSl 1 false yp
abbrev z0L:=VV (eI .i64) F9_
abbrev zpI:=eSl 1 true zoY
abbrev zpH:=eSl 1 false xZ
abbrev Vh:=yH zlP (eI .i64) (eI .i64)
abbrev zoW:=jH (eI .u8) (eI .u8) (eI .u8) F3_ F6_
abbrev zgp:=um (eI .i64) (eI .i64) zpI
abbrev xe:=um (eI .i64) (eI .i64) zpH
abbrev zoV:=Yl zoW
abbrev z43:=eSp xe
abbrev JC:=qW xe yp yp yp zoX yp yp
abbrev zlM:=eSp JC
def rpN {α:Type _}(n:Nat)(a:α)(l:List α):List α:=Nat.rec l (λ_ r=>a::r) n
abbrev aLn (n:Nat):H:=.a (.atom (.int .i64 ((n:Nat):Int)))
end Go.Own

namespace Go.Proofs
open Go.Proofs.Tryz
open Go.Shelf
def Tryz.so136_ren:Go.Shelf.Ren:=⟨λ|6=>136|15=>161|14=>160|28=>184|29=>185|20=>176|21=>177|22=>178|23=>179|24=>180|25=>181|26=>182|27=>183|46=>194|47=>195|48=>196|49=>197|50=>198|57=>201|n=>n,λ|22=>32|24=>51|25=>110|3=>3|39=>209|0=>0|53=>240|55=>242|4=>4|46=>233|45=>232|50=>237|5=>5|9=>9|66=>260|70=>264|76=>267|77=>268|n=>n,λ|n=>n⟩
def Tryz.so136:Go.Proofs.SlLaysF0.n6 prog Tryz.so136_ren:={
 mixed:=by kernel_rfl
 f6:=⟨f136.name,by decide,func136.trans (congrArg some (by kernel_rfl))⟩
 f14:=⟨f160.name,by decide,func160.trans (congrArg some (by kernel_rfl))⟩
 f15:=func161.trans (congrArg some (by kernel_rfl))
 f20:=⟨f176.name,by decide,func176.trans (congrArg some (by kernel_rfl))⟩
 f21:=⟨f177.name,by decide,func177.trans (congrArg some (by kernel_rfl))⟩
 f22:=⟨f178.name,by decide,func178.trans (congrArg some (by kernel_rfl))⟩
 f23:=⟨f179.name,by decide,func179.trans (congrArg some (by kernel_rfl))⟩
 f24:=⟨f180.name,by decide,func180.trans (congrArg some (by kernel_rfl))⟩
 f25:=⟨f181.name,by decide,func181.trans (congrArg some (by kernel_rfl))⟩
 f26:=⟨f182.name,by decide,func182.trans (congrArg some (by kernel_rfl))⟩
 f27:=⟨f183.name,by decide,func183.trans (congrArg some (by kernel_rfl))⟩
 f28:=func184.trans (congrArg some (by kernel_rfl))
 f29:=func185.trans (congrArg some (by kernel_rfl))
 f46:=⟨f194.name,by decide,func194.trans (congrArg some (by kernel_rfl))⟩
 f47:=func195.trans (congrArg some (by kernel_rfl))
 f48:=func196.trans (congrArg some (by kernel_rfl))
 f49:=⟨f197.name,by decide,func197.trans (congrArg some (by kernel_rfl))⟩
 f50:=⟨f198.name,by decide,func198.trans (congrArg some (by kernel_rfl))⟩
 f57:=⟨f201.name,by decide,func201.trans (congrArg some (by kernel_rfl))⟩
 t0:=underlying0
 a0:=isAgg0
 z0:=sizeOf0
 v0:=zeroValue0
 t3:=underlying3
 a3:=isAgg3
 z3:=sizeOf3
 v3:=zeroValue3
 t4:=underlying4
 a4:=isAgg4
 z4:=sizeOf4
 v4:=zeroValue4
 t5:=underlying5
 a5:=isAgg5
 z5:=sizeOf5
 v5:=zeroValue5
 t9:=underlying9
 a9:=isAgg9
 z9:=sizeOf9
 v9:=zeroValue9
 t22:=underlying32
 a22:=isAgg32
 z22:=sizeOf32
 v22:=zeroValue32
 t25:=underlying110
 a25:=isAgg110
 z25:=sizeOf110
 v25:=zeroValue110
 t39:=underlying209
 a39:=isAgg209
 z39:=sizeOf209
 v39:=zeroValue209
 t45:=underlying232
 a45:=isAgg232
 z45:=sizeOf232
 v45:=zeroValue232
 t46:=underlying233
 a46:=isAgg233
 z46:=sizeOf233
 v46:=zeroValue233
 t50:=underlying237
 a50:=isAgg237
 z50:=sizeOf237
 v50:=zeroValue237
 t53:=underlying240
 a53:=isAgg240
 z53:=sizeOf240
 v53:=zeroValue240
 t55:=underlying242
 a55:=isAgg242
 z55:=sizeOf242
 v55:=zeroValue242
 t66:=underlying260
 a66:=isAgg260
 z66:=sizeOf260
 v66:=zeroValue260
 t70:=underlying264
 a70:=isAgg264
 z70:=sizeOf264
 v70:=zeroValue264
 t76:=underlying267
 a76:=isAgg267
 z76:=sizeOf267
 v76:=zeroValue267
 t77:=underlying268
 a77:=isAgg268
 z77:=sizeOf268
 v77:=zeroValue268 }
end Go.Proofs
