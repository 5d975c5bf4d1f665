/- -/
import Derived.Test.YtedigoohmnbjfaaGreatPartB
import Derived.Test.YtedigoohmnbjfaaGreatProg
import Derived.Test.YtedigoohmnbjfaaGreatPartD
import Derived.Test.YtedigoohmnbjfaaGreatChecked
import Derived.Lib.AppendZerosOnto
import Derived.Lib.SliceRun
import Derived.WalkKit
import Derived.Lib.Walk
import Derived.Recover
import Derived.Defers
import Derived.Tactics2
import Derived.Test.YtedigoohmnbjfaaGreatPartC
import Derived.Shelf.SlSortCmp.NoneTotal
import Derived.Ground.SlsfProg
set_option linter.unusedVariables false
set_option linter.defProp false
set_option linter.unusedSimpArgs false
namespace Go.Ex
open Go.Proofs.Tryz
open Go.Proofs
def i32:EI:=⟨.slice 51,1,24,some [.slice none 0 0],false⟩
def q3:EqP prog 3 [.int .i64 0] false 1:=z0y (k:=.int .i64) underlying3 ⟨_,(by kernel_rfl:prog.info? 3=some Tryz.t3),rfl⟩ rfl
def q36:EqP prog 36 (z5t 3 [.int .i64 0]) true 2:=kZ underlying36 q3 ⟨_,(by kernel_rfl:prog.info? 36=some t36),rfl⟩
def q33:EqP prog 33 [.int .i64 0] false 1:=z0y (k:=.int .i64) underlying33 ⟨_,(by kernel_rfl:prog.info? 33=some t33),rfl⟩ rfl
def q45:EqP prog 45 (z5t 3 [.int .i64 0]) true 2:=kZ underlying45 q33 ⟨_,(by kernel_rfl:prog.info? 45=some Tryz.t45),rfl⟩
def i64:EI:=⟨.func,1,8,some [.nilFunc],false⟩
def q5:EqP prog 5 [.int .u8 0] false 1:=z0y (k:=.int .u8) underlying5 ⟨_,(by kernel_rfl:prog.info? 5=some Tryz.t5),rfl⟩ rfl
def q97:EqP prog 97 (z5t 4 [.int .u8 0]) true 2:=kZ underlying97 q5 ⟨_,(by kernel_rfl:prog.info? 97=some t97),rfl⟩
def q98:EqP prog 98 (WE [([.int .i64 0],false),([.int .i64 0],false)]) true 2:=YT underlying98 (by kernel_rfl) ⟨_,(by kernel_rfl:prog.info? 98=some t98),rfl⟩ (by decide) (y6.cons (by decide) rfl (q3.mono (by decide)) (y6.cons (by decide) rfl (q3.mono (by decide)) (y6.nil)))
def q99:EqP prog 99 (WE [([.int .i64 0],false),([.int .i64 0],false)]) true 2:=YT underlying99 (by kernel_rfl) ⟨_,(by kernel_rfl:prog.info? 99=some t99),rfl⟩ (by decide) (y6.cons (by decide) rfl (q3.mono (by decide)) (y6.cons (by decide) rfl (q3.mono (by decide)) (y6.nil)))
def zoE:EqP prog 120 (z5t 5 [.int .i64 0]) true 2:=kZ underlying120 q33 ⟨_,(by kernel_rfl:prog.info? 120=some t120),rfl⟩
def q21:EqP prog 21 [.int .i32 0] false 1:=z0y (k:=.int .i32) underlying21 ⟨_,(by kernel_rfl:prog.info? 21=some t21),rfl⟩ rfl
def zoX:EqP prog 161 (z5t 16 [.int .i32 0]) true 2:=kZ underlying161 q21 ⟨_,(by kernel_rfl:prog.info? 161=some t161),rfl⟩
def zoD:EqP prog 162 (z5t 16 [.int .i32 0]) true 2:=kZ underlying162 q21 ⟨_,(by kernel_rfl:prog.info? 162=some t162),rfl⟩
def zoW:EqP prog 216 (WE [([.int .i64 0],false),([.int .i64 0],false),([.int .i64 0],false)]) true 2:=YT underlying216 (by kernel_rfl) ⟨_,(by kernel_rfl:prog.info? 216=some t216),rfl⟩ (by decide) (y6.cons (by decide) rfl (q3.mono (by decide)) (y6.cons (by decide) rfl (q3.mono (by decide)) (y6.cons (by decide) rfl (q3.mono (by decide)) (y6.nil))))
def zoC:EqP prog 217 (WE [([.int .i64 0],false),([.int .i64 0],false),([.int .i64 0],false)]) true 2:=YT underlying217 (by kernel_rfl) ⟨_,(by kernel_rfl:prog.info? 217=some t217),rfl⟩ (by decide) (y6.cons (by decide) rfl (q3.mono (by decide)) (y6.cons (by decide) rfl (q3.mono (by decide)) (y6.cons (by decide) rfl (q3.mono (by decide)) (y6.nil))))
def zlC:EqP prog 227 (z5t 2 [.int .i64 0]) true 2:=kZ underlying227 q3 ⟨_,(by kernel_rfl:prog.info? 227=some t227),rfl⟩
def zoV:EqP prog 255 (z5t 16 [.int .i64 0,.int .i64 0]) true 3:=kZ underlying255 zlC ⟨_,(by kernel_rfl:prog.info? 255=some t255),rfl⟩
def zlB:EqP prog 256 (z5t 16 [.int .i64 0,.int .i64 0]) true 3:=kZ underlying256 zlC ⟨_,(by kernel_rfl:prog.info? 256=some t256),rfl⟩
def zoU:EqP prog 258 (WE [([.int .i64 0],false),([.int .i64 0,.int .i64 0,.int .i64 0,.int .i64 0,.int .i64 0,.int .i64 0,.int .i64 0,.int .i64 0,.int .i64 0,.int .i64 0,.int .i64 0,.int .i64 0,.int .i64 0,.int .i64 0,.int .i64 0,.int .i64 0,.int .i64 0,.int .i64 0,.int .i64 0,.int .i64 0,.int .i64 0,.int .i64 0,.int .i64 0,.int .i64 0,.int .i64 0,.int .i64 0,.int .i64 0,.int .i64 0,.int .i64 0,.int .i64 0,.int .i64 0,.int .i64 0],true)]) true 4:=YT underlying258 (by kernel_rfl) ⟨_,(by kernel_rfl:prog.info? 258=some t258),rfl⟩ (by decide) (y6.cons (by decide) rfl (q3.mono (by decide)) (y6.cons (by decide) rfl (zlB.mono (by decide)) (y6.nil)))
def zni:EqP prog 259 (WE [([.int .i64 0],false),([.int .i64 0,.int .i64 0,.int .i64 0,.int .i64 0,.int .i64 0,.int .i64 0,.int .i64 0,.int .i64 0,.int .i64 0,.int .i64 0,.int .i64 0,.int .i64 0,.int .i64 0,.int .i64 0,.int .i64 0,.int .i64 0,.int .i64 0,.int .i64 0,.int .i64 0,.int .i64 0,.int .i64 0,.int .i64 0,.int .i64 0,.int .i64 0,.int .i64 0,.int .i64 0,.int .i64 0,.int .i64 0,.int .i64 0,.int .i64 0,.int .i64 0,.int .i64 0],true)]) true 4:=YT underlying259 (by kernel_rfl) ⟨_,(by kernel_rfl:prog.info? 259=some t259),rfl⟩ (by decide) (y6.cons (by decide) rfl (q3.mono (by decide)) (y6.cons (by decide) rfl (zlB.mono (by decide)) (y6.nil)))
end Go.Ex

namespace Go.Own
open Go.Proofs.Tryz
open Go.Proofs
def zkZ:Value->Bool
 |.int _ _=>true
 |_=>false
def z63:∀{z vs us:TE} {r:Bool},z.all zkZ=true->z.length=vs.length->yU vs us=some r->Go.Ex.z4K z vs=true/\Go.Ex.yU vs us=some r
 |[],[],us,r,_,_,h=>by
  cases us with
  |nil=>simp only[yU,Option.some.injEq]at h;subst h;exact⟨rfl,rfl⟩
  |cons u us=>simp[yU]at h
 |a::z,v::vs,us,r,hz,hl,h=>by
  have q:∃k x u' k' y,v=.int k x/\us=.int k' y::u'/\k=k':=by
   cases us with
   |nil=>cases v<;>simp[yU]at h
   |cons u us=>cases v<;>cases u<;>simp[yU]at h;exact⟨_,_,_,_,_,rfl,rfl,h.1⟩
  obtain⟨k,x,u',k',y,rfl,rfl,hk⟩:=q;simp only[yU,hk,if_true,pQ]at h;obtain⟨r',e1,rfl⟩:=h;simp only[List.all_cons,pF]at hz;obtain⟨q1,q2⟩:=z63 hz.2 (by simpa using hl) e1;refine⟨?_,by simp[Go.Ex.yU,hk,q2]⟩;cases a<;>first|(simp[zkZ]at hz;done)|simpa[Go.Ex.z4K] using q1
 |[],_::_,_,_,_,hl,_=>by simp at hl
 |_::_,[],_,_,_,hl,_=>by simp at hl
variable {P:Program}{z:TE}
def zhf {t n:Nat}{i:Go.Ex.EI}(h:Go.Ex.zbN P t i)  (hz:i.zero=some z)(hi:z.all zkZ=true)(hs:i.size=n)(hn:z.length=n):zbN P t n:={
 guard:=h.guard
 run:=λvs us r w hv hu he=>by obtain⟨q1,q2⟩:=z63 hi (by rw[hn,hv]) he;exact h.run vs us r w (by rw[hs];exact hv) (by rw[hs];exact hu) (by simpa only[Go.Ex.zm8,hz] using q1) q2 }
def exq {t dep:Nat}  (q:Go.Ex.EqP P t z true dep)(h1:Nat.ble dep P.depth=true:=by kernel_rfl)(h2:dep<=10000:=by decide):Go.Ex.zbN P t ⟨.func,z.length,0,some z,true⟩:=Go.Ex.zhe q rfl rfl (Nat.le_of_ble_eq_true h1) h2
def JW {t n dep:Nat}  (q:Go.Ex.EqP P t z true dep)(hi:z.all zkZ=true)(hn:z.length=n)(h1:Nat.ble dep P.depth=true:=by kernel_rfl)(h2:dep<=10000:=by decide):zbN P t n:=zhf (exq q h1 h2) rfl hi hn hn
variable {h:Array Obj}{S:zj}
def zb0 {v:Value}(hv:v.oneCell'=true):zH S h (.atom v) [v] []:=by simp only[zH,Rep];exact⟨⟨trivial,hv⟩,trivial⟩
def zed (sz:Nat):zH S h (.osl sz true []) [.slice none 0 0] []:=by simp only[zH];exact⟨none,0,rfl,(λ_=>rfl),pA _,pP _,by simp,.inl ⟨trivial,rfl,rfl,trivial⟩⟩
def z8e {sz:Nat}:zH S h (.dop (nlQ sz [])) [.slice none 0 0] []:=by simp only[zH,Rep];exact⟨⟨_,rfl,zad.2 ⟨by simp[Rep],λ_=>rfl⟩⟩,trivial⟩
variable {a:A}
def K1 {c:TE}(q:zH S h a c []):∀n,zM S h (List.replicate n a) (List.replicate n c).flatten []
 |0=>by simp[zM]
 |n+1=>by rw[nB,nB,List.flatten_cons];simp only[zM];exact⟨c,_,[],[],rfl,rfl,q,K1 q n⟩
def zkr {c c':TE}(q:zH S h a c [])(e:c'=c):zH S h a c' []:=e▸q
variable {fs:List A}
def z0A {cs:TE}(q:zM S h fs cs []):zH S h (.agg fs) cs []:=by simpa only[zH] using q
def zaY:zM S h [] [] []:=by simp[zM]
def zaZ {c1 c2:TE}(q1:zH S h a c1 [])(q2:zM S h fs c2 []):zM S h (a::fs) (c1++c2) []:=by simp only[zM];exact⟨c1,c2,[],[],rfl,rfl,q1,q2⟩
def zc:A->Option TE
 |.atom v=>if v.oneCell'=true then some [v] else none
 |.osl _ true []=>some [.slice none 0 0]
 |.agg fs=>zcs fs
 |_=>none
where zcs:List A->Option TE
 |[]=>some []
 |a::l=>match zc a,zcs l with|some c,some d=>some (c++d)|_,_=>none
mutual
def zi4:∀{a:A} {c:TE},zc a=some c->zH S h a c []
 |.atom v,c,e=>by
  simp only[zc]at e;split at e
  ·rename_i q;cases e;exact zb0 q
  cases e
 |.osl sz true [],c,e=>by simp only[zc]at e;cases e;exact zed sz
 |.agg fs,c,e=>z0A (zeF (by simpa only[zc] using e))
def zeF:∀{l:List A} {c:TE},zc.zcs l=some c->zM S h l c []
 |[],c,e=>by simp only[zc.zcs]at e;cases e;exact zaY
 |a::l,c,e=>by
  simp only[zc.zcs]at e;split at e
  ·rename_i c d e1 e2;cases e;exact zaZ (zi4 e1) (zeF e2)
  cases e
end
def zq (z:Option A)(v:Option Value)(n:Nat):Prop:=match z,v with|some z,some v=>z.size=n/\zc z=some v.cells.toList|none,_=>True|_,_=>False
def tiq {t:Nat}{i:TI}(f:TypeInfo)(k:z2f P t i.kind)(e:i.eqn=true->zbN P t i.size:=by intro h;cases h)(h:P.info? t=some f:=by kernel_rfl)(h2:f.size=i.size:=by rfl)(h3:f.bytes=i.bytes:=by rfl)(h4:zq i.zero f.zero i.size:=by exact And.intro rfl rfl):wI P t i :=
 ⟨⟨f,h,h2,h3,λz hz=>by
  rw[hz]at h4;cases hv:f.zero with
  |none=>rw[hv]at h4;exact h4.elim
  |some v=>rw[hv]at h4;exact⟨v,rfl,h4.1,λS h=>zi4 h4.2⟩⟩,k,e⟩
def ti1:TI:=⟨.other,1,8,some (.atom .nilFunc),false⟩
def ziG:wI prog 1 ti1:=tiq Tryz.t1 ⟨_,underlying1,rfl⟩
def ti2:TI:=⟨.int .i64,1,8,some (.atom (.int .i64 0)),false⟩
def zih:wI prog 2 ti2:=tiq Tryz.t2 (underlying2)
def ti3:TI:=⟨.int .i64,1,8,some (.atom (.int .i64 0)),false⟩
def zig:wI prog 3 ti3:=tiq Tryz.t3 (underlying3)
def ti4:TI:=⟨.bool,1,1,some (.atom (.bool false)),false⟩
def zif:wI prog 4 ti4:=tiq Tryz.t4 (underlying4)
def ti5:TI:=⟨.int .u8,1,1,some (.atom (.int .u8 0)),false⟩
def zie:wI prog 5 ti5:=tiq Tryz.t5 (underlying5)
def ti9:TI:=⟨.str,1,16,some (.atom (.string ⟨#[]⟩)),false⟩
def zid:wI prog 9 ti9:=tiq Tryz.t9 (underlying9)
def zn7:TI:=⟨.other,1,16,some (.atom .nilIface),false⟩
def zg9:wI prog 20 zn7:=tiq t20 ⟨_,underlying20,rfl⟩
def zn6:TI:=⟨.int .i32,1,4,some (.atom (.int .i32 0)),false⟩
def zg8:wI prog 21 zn6:=tiq t21 (underlying21)
def zn5:TI:=⟨.slice 5,1,24,some (.osl 1 true []),false⟩
def zg7:wI prog 22 zn5:=tiq Tryz.t22 (underlying22)
def zn4:TI:=⟨.slice 43,1,24,some (.osl 1 true []),false⟩
def zg6:wI prog 23 zn4:=tiq t23 (underlying23)
def zn3:TI:=⟨.struct [(0,1),(1,1),(2,1),(3,1),(4,1)],5,56,some (.agg [.atom (.int .u8 0),.atom (.int .u8 0),.atom (.int .u8 0),.osl 1 true [],.osl 1 true []]),false⟩
def zg5:wI prog 25 zn3:=tiq Tryz.t25 ⟨_,underlying25,by kernel_rfl,by
  intro f hf;simp only[pB,gf,or_false]at hf;rcases hf with rfl|rfl|rfl|rfl|rfl
  ·exact⟨Tryz.t5,by kernel_rfl⟩
  ·exact⟨Tryz.t5,by kernel_rfl⟩
  ·exact⟨Tryz.t5,by kernel_rfl⟩
  ·exact⟨Tryz.t22,by kernel_rfl⟩
  exact⟨t23,by kernel_rfl⟩⟩
def zn2:TI:=⟨.struct [(0,5)],5,56,some (.agg [.agg [.atom (.int .u8 0),.atom (.int .u8 0),.atom (.int .u8 0),.osl 1 true [],.osl 1 true []]]),false⟩
def zg4:wI prog 27 zn2:=tiq t27 ⟨_,underlying27,by kernel_rfl,by
  intro f hf;simp only[pB,gf,or_false]at hf;rcases hf with rfl
  ·exact⟨Tryz.t25,by kernel_rfl⟩⟩
def zn1:TI:=⟨.slice 96,1,24,some (.osl 1 true []),false⟩
def zg3:wI prog 28 zn1:=tiq t28 (underlying28)
def zn0:TI:=⟨.struct [(0,1),(1,1),(2,1)],3,40,some (.agg [.atom (.int .i64 0),.atom (.int .i64 0),.osl 1 true []]),false⟩
def zg2:wI prog 30 zn0:=tiq t30 ⟨_,underlying30,by kernel_rfl,by
  intro f hf;simp only[pB,gf,or_false]at hf;rcases hf with rfl|rfl|rfl
  ·exact⟨Tryz.t3,by kernel_rfl⟩
  ·exact⟨Tryz.t3,by kernel_rfl⟩
  exact⟨t28,by kernel_rfl⟩⟩
def zmZ:TI:=⟨.slice 51,1,24,some (.osl 1 true []),false⟩
def zg1:wI prog 32 zmZ:=tiq t32 (underlying32)
def zmY:TI:=⟨.int .i64,1,8,some (.atom (.int .i64 0)),false⟩
def zg0:wI prog 33 zmY:=tiq t33 (underlying33)
def zmX:TI:=⟨.array 3 3,3,24,some (.agg [.atom (.int .i64 0),.atom (.int .i64 0),.atom (.int .i64 0)]),true⟩
def zfZ:wI prog 36 zmX:=tiq t36 (underlying36) (λ_=>JW Go.Ex.q36 rfl rfl)
def zmW:TI:=⟨.other,1,8,some (.atom .nilFunc),false⟩
def zfY:wI prog 41 zmW:=tiq t41 ⟨_,underlying41,rfl⟩
def zmV:TI:=⟨.int .u16,1,2,some (.atom (.int .u16 0)),false⟩
def zfX:wI prog 43 zmV:=tiq t43 (underlying43)
def zmU:TI:=⟨.slice 97,1,24,some (.osl 4 true []),false⟩
def zfW:wI prog 47 zmU:=tiq t47 (underlying47)
def zmT:TI:=⟨.struct [(0,1),(1,1)],2,48,some (.agg [.osl 1 true [],.osl 4 true []]),false⟩
def zfV:wI prog 49 zmT:=tiq t49 ⟨_,underlying49,by kernel_rfl,by
  intro f hf;simp only[pB,gf,or_false]at hf;rcases hf with rfl|rfl
  ·exact⟨Tryz.t22,by kernel_rfl⟩
  exact⟨t47,by kernel_rfl⟩⟩
def zmS:TI:=⟨.slice 3,1,24,some (.osl 1 true []),false⟩
def zfU:wI prog 51 zmS:=tiq t51 (underlying51)
def zmR:TI:=⟨.struct [],0,0,some (.agg []),false⟩
def zfT:wI prog 77 zmR:=tiq Tryz.t77 ⟨_,underlying77,by kernel_rfl,by intro f hf;cases hf⟩
def zmQ:TI:=⟨.struct [],0,0,some (.agg []),false⟩
def zfS:wI prog 78 zmQ:=tiq t78 ⟨_,underlying78,by kernel_rfl,by intro f hf;cases hf⟩
def zmP:TI:=⟨.struct [],0,0,some (.agg []),false⟩
def zfR:wI prog 79 zmP:=tiq t79 ⟨_,underlying79,by kernel_rfl,by intro f hf;cases hf⟩
def zmO:TI:=⟨.ptr 119,1,8,some (.atom (.pointer none)),false⟩
def zfQ:wI prog 80 zmO:=tiq t80 (underlying80)
def zmN:TI:=⟨.slice 85,1,24,some (.osl 1 true []),false⟩
def zfP:wI prog 83 zmN:=tiq t83 (underlying83)
def zmM:TI:=⟨.other,1,16,some (.atom .nilIface),false⟩
def zfO:wI prog 85 zmM:=tiq t85 ⟨_,underlying85,rfl⟩
def zmL:TI:=⟨.ptr 91,1,8,some (.atom (.pointer none)),false⟩
def zfN:wI prog 86 zmL:=tiq t86 (underlying86)
def zmK:TI:=⟨.slice 162,1,24,some (.osl 16 true []),false⟩
def zfM:wI prog 89 zmK:=tiq t89 (underlying89)
def zmJ:TI:=⟨.struct [(0,1),(1,1),(2,1)],3,40,some (.agg [.osl 16 true [],.atom (.int .i64 0),.atom (.int .i64 0)]),false⟩
def zfL:wI prog 91 zmJ:=tiq t91 ⟨_,underlying91,by kernel_rfl,by
  intro f hf;simp only[pB,gf,or_false]at hf;rcases hf with rfl|rfl|rfl
  ·exact⟨t89,by kernel_rfl⟩
  ·exact⟨Tryz.t3,by kernel_rfl⟩
  exact⟨Tryz.t3,by kernel_rfl⟩⟩
def zmI:TI:=⟨.slice 99,1,24,some (.osl 2 true []),false⟩
def zfK:wI prog 96 zmI:=tiq t96 (underlying96)
def zmH:TI:=⟨.array 4 5,4,4,some (.agg [.atom (.int .u8 0),.atom (.int .u8 0),.atom (.int .u8 0),.atom (.int .u8 0)]),true⟩
def zfJ:wI prog 97 zmH:=tiq t97 (underlying97) (λ_=>JW Go.Ex.q97 rfl rfl)
def zmG:TI:=⟨.struct [(0,1),(1,1)],2,16,some (.agg [.atom (.int .i64 0),.atom (.int .i64 0)]),true⟩
def zfI:wI prog 99 zmG:=tiq t99 ⟨_,underlying99,by kernel_rfl,by
  intro f hf;simp only[pB,gf,or_false]at hf;rcases hf with rfl|rfl
  ·exact⟨Tryz.t3,by kernel_rfl⟩
  exact⟨Tryz.t3,by kernel_rfl⟩⟩ (λ_=>JW Go.Ex.q99 rfl rfl)
def zj9:TI:=⟨.slice 4,1,24,some (.osl 1 true []),false⟩
def zcH:wI prog 101 zj9:=tiq t101 (underlying101)
def zj8:TI:=⟨.slice 101,1,24,some (.osl 1 true []),false⟩
def zcG:wI prog 102 zj8:=tiq t102 (underlying102)
def zj7:TI:=⟨.slice 30,1,24,some (.osl 3 true []),false⟩
def zcF:wI prog 104 zj7:=tiq t104 (underlying104)
def zj6:TI:=⟨.other,1,8,some (.atom .nilFunc),false⟩
def zcE:wI prog 109 zj6:=tiq t109 ⟨_,underlying109,rfl⟩
def zj5:TI:=⟨.other,1,8,some (.atom .nilFunc),false⟩
def zcD:wI prog 110 zj5:=tiq t110 ⟨_,underlying110,rfl⟩
def zj4:TI:=⟨.slice 32,1,24,some (.osl 1 true []),false⟩
def zcC:wI prog 117 zj4:=tiq t117 (underlying117)
def zj3:TI:=⟨.struct [(0,3),(3,1),(4,1),(5,1),(6,1),(7,1),(8,1)],9,184,some (.agg [.agg [.atom (.int .i64 0),.atom (.int .i64 0),.osl 1 true []],.osl 1 true [],.osl 1 true [],.osl 1 true [],.osl 1 true [],.osl 1 true [],.osl 1 true []]),false⟩
def zcB:wI prog 119 zj3:=tiq t119 ⟨_,underlying119,by kernel_rfl,by
  intro f hf;simp only[pB,gf,or_false]at hf;rcases hf with rfl|rfl|rfl|rfl|rfl|rfl|rfl
  ·exact⟨t30,by kernel_rfl⟩
  ·exact⟨t32,by kernel_rfl⟩
  ·exact⟨t32,by kernel_rfl⟩
  ·exact⟨t32,by kernel_rfl⟩
  ·exact⟨t117,by kernel_rfl⟩
  ·exact⟨t32,by kernel_rfl⟩
  exact⟨t32,by kernel_rfl⟩⟩
def zj2:TI:=⟨.array 5 33,5,40,some (.agg [.atom (.int .i64 0),.atom (.int .i64 0),.atom (.int .i64 0),.atom (.int .i64 0),.atom (.int .i64 0)]),true⟩
def zcA:wI prog 120 zj2:=tiq t120 (underlying120) (λ_=>JW Go.Ex.zoE rfl rfl)
def zj1:TI:=⟨.struct [],0,0,some (.agg []),false⟩
def zcz:wI prog 124 zj1:=tiq t124 ⟨_,underlying124,by kernel_rfl,by intro f hf;cases hf⟩
def zj0:TI:=⟨.other,1,8,some (.atom .nilFunc),false⟩
def zcy:wI prog 130 zj0:=tiq t130 ⟨_,underlying130,rfl⟩
def ziZ:TI:=⟨.other,1,8,some (.atom .nilFunc),false⟩
def zcx:wI prog 132 ziZ:=tiq t132 ⟨_,underlying132,rfl⟩
def ziY:TI:=⟨.other,1,8,some (.atom .nilFunc),false⟩
def zcw:wI prog 133 ziY:=tiq t133 ⟨_,underlying133,rfl⟩
def ziX:TI:=⟨.other,1,8,some (.atom .nilFunc),false⟩
def zcv:wI prog 134 ziX:=tiq t134 ⟨_,underlying134,rfl⟩
def ziW:TI:=⟨.struct [(0,1),(1,1)],2,16,some (.agg [.atom (.int .i64 0),.atom .nilFunc]),false⟩
def zcu:wI prog 141 ziW:=tiq t141 ⟨_,underlying141,by kernel_rfl,by
  intro f hf;simp only[pB,gf,or_false]at hf;rcases hf with rfl|rfl
  ·exact⟨t33,by kernel_rfl⟩
  exact⟨t41,by kernel_rfl⟩⟩
def ziV:TI:=⟨.array 3 141,6,48,some (.agg [.agg [.atom (.int .i64 0),.atom .nilFunc],.agg [.atom (.int .i64 0),.atom .nilFunc],.agg [.atom (.int .i64 0),.atom .nilFunc]]),false⟩
def zct:wI prog 142 ziV:=tiq t142 (underlying142)
def ziU:TI:=⟨.other,1,8,some (.atom .nilFunc),false⟩
def zcr:wI prog 144 ziU:=tiq t144 ⟨_,underlying144,rfl⟩
def ziT:TI:=⟨.struct [(0,1),(1,1)],2,32,some (.agg [.atom (.int .i32 0),.osl 1 true []]),false⟩
def zcq:wI prog 159 ziT:=tiq t159 ⟨_,underlying159,by kernel_rfl,by
  intro f hf;simp only[pB,gf,or_false]at hf;rcases hf with rfl|rfl
  ·exact⟨t21,by kernel_rfl⟩
  exact⟨t51,by kernel_rfl⟩⟩
def ziS:TI:=⟨.slice 159,1,24,some (.osl 2 true []),false⟩
def zcp:wI prog 160 ziS:=tiq t160 (underlying160)
def ziR:TI:=⟨.array 16 21,16,64,some (.agg [.atom (.int .i32 0),.atom (.int .i32 0),.atom (.int .i32 0),.atom (.int .i32 0),.atom (.int .i32 0),.atom (.int .i32 0),.atom (.int .i32 0),.atom (.int .i32 0),.atom (.int .i32 0),.atom (.int .i32 0),.atom (.int .i32 0),.atom (.int .i32 0),.atom (.int .i32 0),.atom (.int .i32 0),.atom (.int .i32 0),.atom (.int .i32 0)]),true⟩
def zco:wI prog 162 ziR:=tiq t162 (underlying162) (λ_=>JW Go.Ex.zoD rfl rfl)
def ziQ:TI:=⟨.other,1,8,some (.atom .nilFunc),false⟩
def zcn:wI prog 167 ziQ:=tiq t167 ⟨_,underlying167,rfl⟩
def ziP:TI:=⟨.other,1,8,some (.atom .nilFunc),false⟩
def zcm:wI prog 168 ziP:=tiq t168 ⟨_,underlying168,rfl⟩
def ziO:TI:=⟨.other,1,8,some (.atom .nilFunc),false⟩
def zcl:wI prog 174 ziO:=tiq t174 ⟨_,underlying174,rfl⟩
def ziN:TI:=⟨.other,1,8,some (.atom .nilFunc),false⟩
def zck:wI prog 175 ziN:=tiq t175 ⟨_,underlying175,rfl⟩
def ziM:TI:=⟨.struct [(0,1),(1,1)],2,32,some (.agg [.osl 1 true [],.atom (.bool false)]),false⟩
def zcj:wI prog 186 ziM:=tiq t186 ⟨_,underlying186,by kernel_rfl,by
  intro f hf;simp only[pB,gf,or_false]at hf;rcases hf with rfl|rfl
  ·exact⟨t51,by kernel_rfl⟩
  exact⟨Tryz.t4,by kernel_rfl⟩⟩
def ziL:TI:=⟨.struct [(0,1),(1,1)],2,32,some (.agg [.osl 1 true [],.atom (.bool false)]),false⟩
def zci:wI prog 187 ziL:=tiq t187 ⟨_,underlying187,by kernel_rfl,by
  intro f hf;simp only[pB,gf,or_false]at hf;rcases hf with rfl|rfl
  ·exact⟨t51,by kernel_rfl⟩
  exact⟨Tryz.t4,by kernel_rfl⟩⟩
def ziK:TI:=⟨.other,1,8,some (.atom .nilFunc),false⟩
def zch:wI prog 189 ziK:=tiq t189 ⟨_,underlying189,rfl⟩
def ziJ:TI:=⟨.other,1,8,some (.atom .nilFunc),false⟩
def zcg:wI prog 191 ziJ:=tiq t191 ⟨_,underlying191,rfl⟩
def ziI:TI:=⟨.other,1,8,some (.atom .nilFunc),false⟩
def zcf:wI prog 192 ziI:=tiq t192 ⟨_,underlying192,rfl⟩
def ziH:TI:=⟨.other,1,8,some (.atom .nilFunc),false⟩
def zce:wI prog 199 ziH:=tiq t199 ⟨_,underlying199,rfl⟩
def ziF:TI:=⟨.slice 227,1,24,some (.osl 2 true []),false⟩
def zcd:wI prog 202 ziF:=tiq t202 (underlying202)
def ziE:TI:=⟨.other,1,8,some (.atom .nilFunc),false⟩
def zcc:wI prog 204 ziE:=tiq t204 ⟨_,underlying204,rfl⟩
def ziD:TI:=⟨.other,1,8,some (.atom .nilFunc),false⟩
def zcb:wI prog 205 ziD:=tiq t205 ⟨_,underlying205,rfl⟩
def ziC:TI:=⟨.int .u64,1,8,some (.atom (.int .u64 0)),false⟩
def zca:wI prog 209 ziC:=tiq t209 (underlying209)
def ziB:TI:=⟨.other,1,8,some (.atom .nilFunc),false⟩
def zc9:wI prog 213 ziB:=tiq t213 ⟨_,underlying213,rfl⟩
def ziA:TI:=⟨.other,1,8,some (.atom .nilFunc),false⟩
def zc8:wI prog 214 ziA:=tiq t214 ⟨_,underlying214,rfl⟩
def ziz:TI:=⟨.struct [(0,1),(1,1),(2,1)],3,24,some (.agg [.atom (.int .i64 0),.atom (.int .i64 0),.atom (.int .i64 0)]),true⟩
def zc7:wI prog 217 ziz:=tiq t217 ⟨_,underlying217,by kernel_rfl,by
  intro f hf;simp only[pB,gf,or_false]at hf;rcases hf with rfl|rfl|rfl
  ·exact⟨Tryz.t3,by kernel_rfl⟩
  ·exact⟨Tryz.t3,by kernel_rfl⟩
  exact⟨Tryz.t3,by kernel_rfl⟩⟩ (λ_=>JW Go.Ex.zoC rfl rfl)
def ziy:TI:=⟨.other,1,8,some (.atom (.map none)),false⟩
def zc6:wI prog 218 ziy:=tiq t218 ⟨_,underlying218,rfl⟩
def zix:TI:=⟨.array 64 51,64,1536,some (.agg (List.replicate 64 (.dop (nlQ 1 [])))),false⟩
def zc5:wI prog 221 zix:=⟨⟨t221,by kernel_rfl,rfl,rfl,λz h=>by cases h;exact⟨_,rfl,by kernel_rfl,λS h=>zkr (z0A (K1 (z8e) 64)) (by kernel_rfl)⟩⟩,underlying221,by intro h;cases h⟩
def ziw:TI:=⟨.ptr 246,1,8,some (.atom (.pointer none)),false⟩
def zc4:wI prog 222 ziw:=tiq t222 (underlying222)
def ziv:TI:=⟨.other,1,8,some (.atom .nilFunc),false⟩
def zc3:wI prog 224 ziv:=tiq t224 ⟨_,underlying224,rfl⟩
def ziu:TI:=⟨.other,1,8,some (.atom .nilFunc),false⟩
def zc2:wI prog 225 ziu:=tiq t225 ⟨_,underlying225,rfl⟩
def zit:TI:=⟨.array 2 3,2,16,some (.agg [.atom (.int .i64 0),.atom (.int .i64 0)]),true⟩
def zc1:wI prog 227 zit:=tiq t227 (underlying227) (λ_=>JW Go.Ex.zlC rfl rfl)
def zis:TI:=⟨.other,1,8,some (.atom .nilFunc),false⟩
def zc0:wI prog 229 zis:=tiq t229 ⟨_,underlying229,rfl⟩
def zir:TI:=⟨.other,1,8,some (.atom .nilFunc),false⟩
def zbZ:wI prog 243 zir:=tiq t243 ⟨_,underlying243,rfl⟩
def ziq:TI:=⟨.slice 217,1,24,some (.osl 3 true []),false⟩
def zbY:wI prog 244 ziq:=tiq t244 (underlying244)
def zio:TI:=⟨.array 64 221,4096,98304,some (.agg (List.replicate 64 (.agg (List.replicate 64 (.dop (nlQ 1 [])))))),false⟩
def zbX:wI prog 246 zio:=⟨⟨t246,by kernel_rfl,rfl,rfl,λz h=>by cases h;exact⟨_,rfl,by kernel_rfl,λS h=>zkr (z0A (K1 (z0A (K1 (z8e) 64)) 64)) (by kernel_rfl)⟩⟩,underlying246,by intro h;cases h⟩
def zin:TI:=⟨.slice 251,1,24,some (.osl 4 true []),false⟩
def zbW:wI prog 247 zin:=tiq t247 (underlying247)
def zim:TI:=⟨.struct [(0,1),(1,1),(2,1),(3,1)],4,48,some (.agg [.atom (.int .i64 0),.atom (.int .i64 0),.osl 1 true [],.atom (.bool false)]),false⟩
def zbV:wI prog 251 zim:=tiq t251 ⟨_,underlying251,by kernel_rfl,by
  intro f hf;simp only[pB,gf,or_false]at hf;rcases hf with rfl|rfl|rfl|rfl
  ·exact⟨Tryz.t3,by kernel_rfl⟩
  ·exact⟨Tryz.t3,by kernel_rfl⟩
  ·exact⟨t51,by kernel_rfl⟩
  exact⟨Tryz.t4,by kernel_rfl⟩⟩
def zil:TI:=⟨.other,1,8,some (.atom .nilFunc),false⟩
def zbU:wI prog 253 zil:=tiq t253 ⟨_,underlying253,rfl⟩
def zik:TI:=⟨.other,1,8,some (.atom (.map none)),false⟩
def zbT:wI prog 254 zik:=tiq t254 ⟨_,underlying254,rfl⟩
def zij:TI:=⟨.array 16 227,32,256,some (.agg [.agg [.atom (.int .i64 0),.atom (.int .i64 0)],.agg [.atom (.int .i64 0),.atom (.int .i64 0)],.agg [.atom (.int .i64 0),.atom (.int .i64 0)],.agg [.atom (.int .i64 0),.atom (.int .i64 0)],.agg [.atom (.int .i64 0),.atom (.int .i64 0)],.agg [.atom (.int .i64 0),.atom (.int .i64 0)],.agg [.atom (.int .i64 0),.atom (.int .i64 0)],.agg [.atom (.int .i64 0),.atom (.int .i64 0)],.agg [.atom (.int .i64 0),.atom (.int .i64 0)],.agg [.atom (.int .i64 0),.atom (.int .i64 0)],.agg [.atom (.int .i64 0),.atom (.int .i64 0)],.agg [.atom (.int .i64 0),.atom (.int .i64 0)],.agg [.atom (.int .i64 0),.atom (.int .i64 0)],.agg [.atom (.int .i64 0),.atom (.int .i64 0)],.agg [.atom (.int .i64 0),.atom (.int .i64 0)],.agg [.atom (.int .i64 0),.atom (.int .i64 0)]]),true⟩
def zbS:wI prog 256 zij:=tiq t256 (underlying256) (λ_=>JW Go.Ex.zlB rfl rfl)
def zii:TI:=⟨.struct [(0,1),(1,32)],33,264,some (.agg [.atom (.int .i64 0),.agg [.agg [.atom (.int .i64 0),.atom (.int .i64 0)],.agg [.atom (.int .i64 0),.atom (.int .i64 0)],.agg [.atom (.int .i64 0),.atom (.int .i64 0)],.agg [.atom (.int .i64 0),.atom (.int .i64 0)],.agg [.atom (.int .i64 0),.atom (.int .i64 0)],.agg [.atom (.int .i64 0),.atom (.int .i64 0)],.agg [.atom (.int .i64 0),.atom (.int .i64 0)],.agg [.atom (.int .i64 0),.atom (.int .i64 0)],.agg [.atom (.int .i64 0),.atom (.int .i64 0)],.agg [.atom (.int .i64 0),.atom (.int .i64 0)],.agg [.atom (.int .i64 0),.atom (.int .i64 0)],.agg [.atom (.int .i64 0),.atom (.int .i64 0)],.agg [.atom (.int .i64 0),.atom (.int .i64 0)],.agg [.atom (.int .i64 0),.atom (.int .i64 0)],.agg [.atom (.int .i64 0),.atom (.int .i64 0)],.agg [.atom (.int .i64 0),.atom (.int .i64 0)]]]),true⟩
def z7i:wI prog 259 zii:=tiq t259 ⟨_,underlying259,by kernel_rfl,by
  intro f hf;simp only[pB,gf,or_false]at hf;rcases hf with rfl|rfl
  ·exact⟨Tryz.t3,by kernel_rfl⟩
  exact⟨t256,by kernel_rfl⟩⟩ (λ_=>JW Go.Ex.zni rfl rfl)
def tiL:List (Nat×TI):=[(1,ti1),(2,ti2),(3,ti3),(4,ti4),(5,ti5),(9,ti9),(20,zn7),(21,zn6),(22,zn5),(23,zn4),(25,zn3),(27,zn2),(28,zn1),(30,zn0),(32,zmZ),(33,zmY),(36,zmX),(41,zmW),(43,zmV),(47,zmU),(49,zmT),(51,zmS),(77,zmR),(78,zmQ),(79,zmP),(80,zmO),(83,zmN),(85,zmM),(86,zmL),(89,zmK),(91,zmJ),(96,zmI),(97,zmH),(99,zmG),(101,zj9),(102,zj8),(104,zj7),(109,zj6),(110,zj5),(117,zj4),(119,zj3),(120,zj2),(124,zj1),(130,zj0),(132,ziZ),(133,ziY),(134,ziX),(141,ziW),(142,ziV),(144,ziU),(159,ziT),(160,ziS),(162,ziR),(167,ziQ),(168,ziP),(174,ziO),(175,ziN),(186,ziM),(187,ziL),(189,ziK),(191,ziJ),(192,ziI),(199,ziH),(202,ziF),(204,ziE),(205,ziD),(209,ziC),(213,ziB),(214,ziA),(217,ziz),(218,ziy),(221,zix),(222,ziw),(224,ziv),(225,ziu),(227,zit),(229,zis),(243,zir),(244,ziq),(246,zio),(247,zin),(251,zim),(253,zil),(254,zik),(256,zij),(259,zii)]
def vF:TT:=λt=>(tiL.find? λp=>p.1==t).map (·.2)
def zbG (P:Program):List (Nat×TI)->Prop
 |[]=>True
 |p::l=>wI P p.1 p.2/\zbG P l
def zbG.mem:∀{l:List (Nat×TI)},zbG P l->∀p∈l,wI P p.1 p.2
 |p::_,h,q,hq=>by
  rcases pB.1 hq with rfl|hq
  ·exact h.1
  exact zbG.mem h.2 q hq
 |[],_,_,hq=>by cases hq
def zic:zbG prog tiL:=⟨ziG,zih,zig,zif,zie,zid,zg9,zg8,zg7,zg6,zg5,zg4,zg3,zg2,zg1,zg0,zfZ,zfY,zfX,zfW,zfV,zfU,zfT,zfS,zfR,zfQ,zfP,zfO,zfN,zfM,zfL,zfK,zfJ,zfI,zcH,zcG,zcF,zcE,zcD,zcC,zcB,zcA,zcz,zcy,zcx,zcw,zcv,zcu,zct,zcr,zcq,zcp,zco,zcn,zcm,zcl,zck,zcj,zci,zch,zcg,zcf,zce,zcd,zcc,zcb,zca,zc9,zc8,zc7,zc6,zc5,zc4,zc3,zc2,zc1,zc0,zbZ,zbY,zbX,zbW,zbV,zbU,zbT,zbS,z7i,trivial⟩
def zr:xM prog vF:=by intro t i h;unfold vF at h;rw[pQ]at h;obtain⟨p,h1,rfl⟩:=h;have h2:=List.find?_some h1;have h3:=zic.mem p (List.mem_of_find?_eq_some h1);rw[beq_iff_eq.1 h2]at h3;exact h3
end Go.Own

namespace Go.Proofs
open Go.Proofs.Tryz
open Go.RowKit Go.Lib
def Tryz.groI:(prog.info? 3).map (λi=>(i.size,i.bytes,i.zero))=some (1,8,some (.int .i64 0)):=by kernel_rfl
set_option maxHeartbeats 4000000 in
set_option maxRecDepth 100000 in
def Tryz.gro_run (p:Option Addr)(n:Nat)(w:World)(h0:0<n)(h1:n<=1000000) :
  Calls prog 202 #[.slice p 0 0,.int .i64 n] w λe w'=>
   e=.returned (.slice (some ⟨w.heap.size,0,none⟩) 0 (grownCap w n 0 3)) /\
   w'=w.drew.alloc (.cells (#[]++Builtin.zeroCells (Value.int .i64 0).cells n++Builtin.zeroCells (Value.int .i64 0).cells (grownCap w n 0 3-n)) 3):=by
 obtain⟨i0,hi0,hi⟩:=pQ.1 Tryz.groI;obtain⟨hs0,hi⟩:=Prod.mk.inj hi;obtain⟨hb0,hz0⟩:=Prod.mk.inj hi;have mixed:prog.follows .mixedOrders=true:=by kernel_rfl
 have h1':¬((n:Int)<0):=by omega
 have h3:wrap64 ((n:Int))=(n:Int):=by unfold wrap64;omega
 have h4:(n:Int)>0:=by omega
 have hold:(Builtin.firstCells i0.size 0 (.slice p 0 0)).run prog w.drew=.ok ([]:List Value).toArray w.drew:=by
  cases p with
  |none=>exact run_firstCells_none w.drew i0.size 0 0 0
  |some a=>exact run_firstCells_some w.drew i0.size 0 a 0 0 [] (by simp) (λj v hj=>by simp at hj)
 have hrz:∀ty,(Builtin.append_ #[51,3] ty #[.slice p 0 0,.int .i64 (n:Int)]).run prog w =
   .ok (.slice (some ⟨w.heap.size,0,none⟩) n (grownCap w n 0 3)) (w.drew.alloc (.cells (#[]++Builtin.zeroCells (Value.int .i64 0).cells n++Builtin.zeroCells (Value.int .i64 0).cells (grownCap w n 0 3-n)) 3)):=λty=>by
  have h:=Lib.run_append_grow_zeros w 51 3 ty 3 i0 (.int .i64 0) .i64 .i64 underlying51 underlying3 hi0 hz0 p 0 0 [] hold n h0 (by omega) (by omega) (by omega)
   (by rw[hb0];omega)
   (by rw[gS];exact growslice_fits h0 (by rw[hb0];omega))
  rw[gS]at h;exact h
 have hGn:n<=grownCap w n 0 3:=grownCap_ge w _ _ _;obtain⟨G,hG⟩:∃G,G=grownCap w n 0 3:=⟨_,rfl⟩;rw[<-hG]at hrz hGn⊢;have hG63:G<=9223372036854775807:=by have:=grownCap_le_maxLen w n 0 3 (by unfold maxLen;omega);rw[<-hG]at this;unfold maxLen at this;omega
 clear hold hG
 go_enter func202,ntmps202
 cases p with
 |none=>
  go_wp2_with (at_builtin;refine Lib.wpList_append_run _ rfl _ _ _ _ rfl _ _ rfl rfl _ _ (hrz _) ?_)
  all_goals (go_ret;exact⟨rfl,rfl⟩)
 |some a=>
  obtain⟨ab,ao,asp⟩:=a
  go_wp2_with (at_builtin;refine Lib.wpList_append_run _ rfl _ _ _ _ rfl _ _ rfl rfl _ _ (hrz _) ?_)
  all_goals (go_ret;exact⟨rfl,rfl⟩)
end Go.Proofs
namespace Go.Own
open Go.Proofs
def zaJ (n:Int)(h0:0<n)(h1:n<=1000000):uD Tryz.prog 202 [.sl 1 true [],eI .i64 n] (.osl 1 false []):=by
 refine⟨⟨_,Tryz.func202,by kernel_rfl,by kernel_rfl⟩,?_⟩;intro S w vs F hS hq hF;obtain⟨m,rfl⟩:∃m:Nat,n=(m:Int):=⟨n.toNat,by omega⟩;match vs,hq with
 |[u,v],q=>
  obtain⟨F1,F2,rfl,q1,F3,F4,rfl,q2,q3⟩:=q;have e3:F4=[]:=q3;subst e3;have d:∀{x:A} {u:Value} {F:TC},x.isD=true->Has S w.heap x u F->wG S x u/\F=[]:=by
   intro x u F hx q;rcases q with⟨q,rfl⟩|⟨cs,q1,q2,q3⟩
   ·exact⟨q.rep1 hx,rfl⟩
   obtain⟨r,rfl⟩:=q1.isD hx;exact⟨⟨cs,r,q3⟩,rfl⟩
  obtain⟨⟨cs,r1,e1⟩,rfl⟩:=d rfl q1;obtain⟨⟨ds,r2,e2⟩,rfl⟩:=d rfl q2;simp only[Rep]at r1;obtain⟨p,c,rfl,hc,_⟩:=r1;obtain rfl:c=0:=by simpa using hc
  have hv:v=.int .i64 (m:Int):=by
   rw[e2];obtain⟨rfl,_⟩:ds=[.int .i64 (m:Int)]/\_:=by simpa only[eI,Rep] using r2
   rfl
  have hu:u=.slice p 0 0:=by rw[e1];rfl
  subst hv hu;refine(Tryz.gro_run p m w (by omega) (by omega)).mono ?_;rintro e' w' ⟨rfl,rfl⟩;have hsz:∀k,(Builtin.zeroCells (Value.int .i64 0).cells k).size=k:=λk=>by simp[Builtin.zeroCells,Value.cells]
  have hGn:m<=grownCap w m 0 3:=grownCap_ge w _ _ _;have hGm:=grownCap_le_maxLen w m 0 3 (by unfold maxLen;omega);have hfr:∀o,S w.heap.size o=none:=λo=>by
   cases hh:S w.heap.size o with
   |none=>rfl
   |some x=>have:=hS _ _ _ hh;simp[y5]at this
  generalize grownCap w m 0 3=G at hGn hGm⊢;refine⟨_,S,[w.heap.size],rfl,((YP.refl _ _).drew).alloc (.inl (pA _)) _,λ_ _ _ h=>h,λ_ _ _ _=>rfl,⟨λb o v h=>?_,hS.gok,hS.blk.of (λ_ _ _ q=>q) λg x e=>?_⟩,.inr ⟨[.slice (some ⟨w.heap.size,0,none⟩) 0 G],?_,by simp,rfl⟩,by simp,by simp⟩
  ·have h':=hS _ _ _ h;have hne:b≠w.heap.size:=by rintro rfl;rw[hfr]at h;cases h
   show y5 (w.heap.push _) b o=some v;unfold y5 at h' ⊢;rw[gX,if_neg hne];exact h'
  ·have hlt:=hS.blk.lt e;show(w.heap.push _)[g]?=_;rw[gX,if_neg (by omega)]
  simp only[zH];refine⟨_,G,rfl,by simp,by simp,hGm,by simp,.inr ⟨w.heap.size,_,3,[],[],rfl,by show(w.heap.push _)[w.heap.size]?=_;rw[gX,if_pos rfl],?_,by simp,⟨rfl,rfl⟩,rfl,hfr⟩⟩;simp only[Array.size_append,hsz,Array.size_empty];omega
end Go.Own

namespace Go.Proofs
open Go.Proofs.Tryz
open Go.RowKit Go.Lib
def Tryz.meth77 (w:World):(method 392 77 (.agg #[]) "gauntlet/suites.fill").run prog w=.ok (218,.agg #[]) w:=by kernel_rfl
def Tryz.meth78 (w:World):(method 392 78 (.agg #[]) "gauntlet/suites.fill").run prog w=.ok (220,.agg #[]) w:=by kernel_rfl
def Tryz.meth79 (w:World):(method 392 79 (.agg #[]) "gauntlet/suites.fill").run prog w=.ok (229,.agg #[]) w:=by kernel_rfl
def Tryz.tas (w:World):(Instr.typeAssert (.iface 124 (.agg #[])) 20 124 true).run prog w=.ok (.tuple #[.agg #[],.bool true]) w:=by kernel_rfl
def Tryz.mk1 (w:World):(Instr.makeSlice 89 (.int .i64 1) (.int .i64 1)).run prog w=.ok (.slice (some ⟨w.heap.size,0,none⟩) 1 1) (w.alloc (.cells (Array.replicate 16 (.int .i32 0)) 162)):=by
 have h:(prog.info? 162).map (λi=>(i.size,i.bytes,i.zero))=some (16,64,some (.agg (Array.replicate 16 (.int .i32 0)))):=by kernel_rfl
 obtain⟨i0,hi0,hi⟩:=pQ.1 h;obtain⟨hs0,hi⟩:=Prod.mk.inj hi;obtain⟨hb0,hz0⟩:=Prod.mk.inj hi;have q:=run_makeSlice (P:=prog) (w:=w) 89 162 i0 _ underlying89 hi0 hz0 .i64 .i64 1 1 (by omega) (by omega) (by rw[hs0];decide) (by rw[hb0];omega) (by omega);rw[hs0,show madeCells (Value.agg (Array.replicate 16 (Value.int .i32 0))).cells (Int.toNat 1*16)=Array.replicate 16 (.int .i32 0) from by kernel_rfl]at q;exact q
def Tryz.gw4 (w:World)(most:Int):World :=
 (((w.alloc (.cells #[.pointer (some ⟨w.heap.size+1+1+1,0,none⟩)] 86)).alloc (.cells #[.bool false] 4)).alloc (.cells (Array.replicate 16 (.int .i32 0)) 162)).alloc (.cells #[.slice (some ⟨w.heap.size+1+1,0,none⟩) 1 1,.int .i64 0,.int .i64 most] 91)
def Tryz.catch_idle (p q:Addr)(w:World) :
  CallsD prog 77 #[.pointer (some p),.pointer (some q)] .returning w λe u' w'=>e=.returned (.tuple #[])/\u'=.returning/\w'=w:=by
 refine callsD_of_wpS func77 rfl λc₀ cs hu=>?_;apply wpS_seq;apply wpS_region;simp[wpOpsS,go_sem,recoverD,hu,ntmps77,Exit.thenS];apply wpS_seq;apply wpS_region;simp[wpOpsS,go_sem,recoverD,hu,ntmps77,Exit.thenS];refine wpS_cond (t:=false) (by simp[Act.eval,Array.replicate]) ?_;simp only[gC,if_false];refine wpS_of_wp (wp_skip ?_);cases c₀
 simp_all [bodyPostS,results,results77]
def Tryz.catch_panicking (n:Nat)(older:List PanicEntry)(w:World)(x:Value)(y:Value)(h1:w.heap[n]?=some (.cells #[x] 86))(h2:w.heap[n+1]?=some (.cells #[y] 4)) :
  CallsD prog 77 #[.pointer (some ⟨n,0,none⟩),.pointer (some ⟨n+1,0,none⟩)] (.panicking ({ v:=.iface 124 (.agg #[]),recovered:=false }::older)) w λe u' w'=>e=.returned (.tuple #[])/\u'=.panicking ({ v:=.iface 124 (.agg #[]),recovered:=true }::older)/\w'=((w.alloc (.cells #[] 124)).setCell ⟨n,0,none⟩ (.pointer none)).setCell ⟨n+1,0,none⟩ (.bool false):=by
 have ht:=Tryz.tas;refine callsD_of_wpS func77 rfl λc₀ cs hu=>?_;apply wpS_seq;apply wpS_region;simp[wpOpsS,go_sem,recoverD,hu,ntmps77,Exit.thenS];apply wpS_seq;apply wpS_region;simp[wpOpsS,go_sem,recoverD,hu,ntmps77,Exit.thenS];refine wpS_cond (t:=true) (by simp[Act.eval,Array.replicate]) ?_;simp only[if_true];apply wpS_seq;apply wpS_seq;apply wpS_region;simp[wpOpsS,go_sem,recoverD,hu,ntmps77,Exit.thenS,ht];apply wpS_seq;apply wpS_region;simp[wpOpsS,go_sem,recoverD,hu,ntmps77,Exit.thenS,ht];refine wpS_cond (t:=false) (by simp[Act.eval,Array.replicate]) ?_;simp only[gC,if_false];refine wpS_of_wp (wp_skip ?_);simp only[Exit.thenS];apply wpS_region;have l1:=(pG.1 h1).1;have l2:=(pG.1 h2).1;have g1:(w.alloc (.cells #[] 124)).heap[n]?=some (.cells #[x] 86):=by simp only[World.alloc];rw[gX,if_neg (by omega),h1]
 have g2:(w.alloc (.cells #[] 124)).heap[n+1]?=some (.cells #[y] 4):=by simp only[World.alloc];rw[gX,if_neg (by omega),h2]
 have hp1:(w.alloc (.cells #[] 124)).cell? ⟨n,0,none⟩=some x:=by simp[World.cell?,g1]
 have hz1:(w.alloc (.cells #[] 124)).frozen? ⟨n,0,none⟩=false:=by simp[World.frozen?,g1]
 have g3:((w.alloc (.cells #[] 124)).setCell ⟨n,0,none⟩ (.pointer none)).heap[n+1]?=some (.cells #[y] 4):=by simp only[World.setCell,mQ];rw[if_neg (by omega),g2]
 have hp2:((w.alloc (.cells #[] 124)).setCell ⟨n,0,none⟩ (.pointer none)).cell? ⟨n+1,0,none⟩=some y:=by simp only[World.cell?,g3];rfl
 have hz2:((w.alloc (.cells #[] 124)).setCell ⟨n,0,none⟩ (.pointer none)).frozen? ⟨n+1,0,none⟩=false:=by simp only[World.frozen?,g3];rfl
 simp[wpOpsS,go_sem,recoverD,hu,ntmps77,Exit.thenS,ht,hp1,hz1,hp2,hz2];cases c₀
 simp_all [bodyPostS,results,results77]
set_option maxHeartbeats 4000000 in
set_option maxRecDepth 100000 in
def Tryz.gat_run (T kf:Nat)(hmeth:∀w,(method 392 T (.agg #[]) "gauntlet/suites.fill").run prog w=.ok (kf,.agg #[]) w)(hcf:∀args w,(callFunc kf args).run prog w=.ok (.enter kf args) w)(xv:Value)(most:Int)(w:World)(K:World->Prop)
  (hcall:Calls prog kf #[.agg #[],xv,.pointer (some ⟨w.heap.size+1+1+1,0,none⟩)] (Tryz.gw4 w most) λe w5=>e=.returned (.tuple #[])/\w5.heap[w.heap.size]?=some (.cells #[.pointer (some ⟨w.heap.size+1+1+1,0,none⟩)] 86)/\w5.heap[w.heap.size+1]?=some (.cells #[.bool false] 4)/\K w5) :
  Calls prog 37 #[xv,.iface T (.agg #[]),.int .i64 most] w λe w'=>e=.returned (.tuple #[.pointer (some ⟨w.heap.size+1+1+1,0,none⟩),.bool true])/\∃w5,K w5/\w'=(w5.setCell ⟨w.heap.size,0,none⟩ (.pointer (some ⟨w.heap.size+1+1+1,0,none⟩))).setCell ⟨w.heap.size+1,0,none⟩ (.bool true):=by
 have hmf:∀(fn:Fn) (first cap:Array Value) (w:World),(Instr.makeFunc fn first cap).run prog w=.ok (.func fn first cap) w:=λ_ _ _ _=>rfl;have hmk:=Tryz.mk1
 go_enter_defers func37,ntmps37
 go_wp2
 refine Calls.mono hcall ?_;rintro e w5 ⟨rfl,h1,h2,h3⟩;have hc1:w5.cell? ⟨w.heap.size,0,none⟩=some (.pointer (some ⟨w.heap.size+1+1+1,0,none⟩)):=by simp[World.cell?,h1]
 have hc2:w5.cell? ⟨w.heap.size+1,0,none⟩=some (.bool false):=by simp[World.cell?,h2]
 have hz1:w5.frozen? ⟨w.heap.size,0,none⟩=false:=by simp[World.frozen?,h1]
 have hz2:w5.frozen? ⟨w.heap.size+1,0,none⟩=false:=by simp[World.frozen?,h2]
 dsimp only
 go_wp2
 refine leaves_cons (f:=77) (args:=#[.pointer (some ⟨w.heap.size,0,none⟩),.pointer (some ⟨w.heap.size+1,0,none⟩)]) (by simp) (by simp[go_sem]) ?_;refine(Tryz.catch_idle _ _ _).mono ?_;rintro e u' w'' ⟨rfl,rfl,rfl⟩;have hcA:(w5.setCell ⟨w.heap.size,0,none⟩ (.pointer (some ⟨w.heap.size+1+1+1,0,none⟩))).cell? ⟨w.heap.size,0,none⟩=some (.pointer (some ⟨w.heap.size+1+1+1,0,none⟩)):=by simp[World.cell?,World.setCell,mQ,h1]
 have hcB:((w5.setCell ⟨w.heap.size,0,none⟩ (.pointer (some ⟨w.heap.size+1+1+1,0,none⟩))).setCell ⟨w.heap.size+1,0,none⟩ (.bool true)).cell? ⟨w.heap.size+1,0,none⟩=some (.bool true):=by simp[World.cell?,World.setCell,mQ,h2]
 simp[Leaves,settle,results,results37,go_sem,hcA,hcB];exact⟨w5,h3,rfl⟩
set_option maxHeartbeats 4000000 in
set_option maxRecDepth 100000 in
def Tryz.gat_die (T kf:Nat)(hmeth:∀w,(method 392 T (.agg #[]) "gauntlet/suites.fill").run prog w=.ok (kf,.agg #[]) w)(hcf:∀args w,(callFunc kf args).run prog w=.ok (.enter kf args) w)(xv:Value)(most:Int)(w:World)(K:World->Prop)
  (hcall:Calls prog kf #[.agg #[],xv,.pointer (some ⟨w.heap.size+1+1+1,0,none⟩)] (Tryz.gw4 w most) λe w5=>e=.panicked (Own.jC (.iface 124 (.agg #[])))/\w5.heap[w.heap.size]?=some (.cells #[.pointer (some ⟨w.heap.size+1+1+1,0,none⟩)] 86)/\w5.heap[w.heap.size+1]?=some (.cells #[.bool false] 4)/\K w5) :
  Calls prog 37 #[xv,.iface T (.agg #[]),.int .i64 most] w λe w'=>e=.returned (.tuple #[.pointer none,.bool false])/\∃w5,K w5/\w'=((w5.alloc (.cells #[] 124)).setCell ⟨w.heap.size,0,none⟩ (.pointer none)).setCell ⟨w.heap.size+1,0,none⟩ (.bool false):=by
 have hmf:∀(fn:Fn) (first cap:Array Value) (w:World),(Instr.makeFunc fn first cap).run prog w=.ok (.func fn first cap) w:=λ_ _ _ _=>rfl;have hmk:=Tryz.mk1
 go_enter_defers func37,ntmps37
 go_wp2
 refine Calls.mono hcall ?_;rintro e w5 ⟨rfl,h1,h2,h3⟩;have l1:=(pG.1 h1).1;have l2:=(pG.1 h2).1;have g1:(w5.alloc (.cells #[] 124)).heap[w.heap.size]?=some (.cells #[.pointer (some ⟨w.heap.size+1+1+1,0,none⟩)] 86):=by simp only[World.alloc];rw[gX,if_neg (by omega),h1]
 have g2:(w5.alloc (.cells #[] 124)).heap[w.heap.size+1]?=some (.cells #[.bool false] 4):=by simp only[World.alloc];rw[gX,if_neg (by omega),h2]
 dsimp only[Own.jC];refine leaves_cons (f:=77) (args:=#[.pointer (some ⟨w.heap.size,0,none⟩),.pointer (some ⟨w.heap.size+1,0,none⟩)]) (by simp) (by simp[go_sem]) ?_;refine(Tryz.catch_panicking w.heap.size [] w5 _ _ h1 h2).mono ?_;rintro e u' w'' ⟨rfl,rfl,rfl⟩;have hcA:((w5.alloc (.cells #[] 124)).setCell ⟨w.heap.size,0,none⟩ (.pointer none)).cell? ⟨w.heap.size,0,none⟩=some (.pointer none):=by simp[World.cell?,World.setCell,mQ,g1]
 have hcB:(((w5.alloc (.cells #[] 124)).setCell ⟨w.heap.size,0,none⟩ (.pointer none)).setCell ⟨w.heap.size+1,0,none⟩ (.bool false)).cell? ⟨w.heap.size+1,0,none⟩=some (.bool false):=by simp[World.cell?,World.setCell,mQ,g2]
 simp[Leaves,settle,results,results37,go_sem,hcA,hcB];exact⟨w5,h3,rfl⟩
end Go.Proofs
namespace Go.Own
open Go.Proofs
def z6X {T kf:Nat}(hmeth:∀w,(method 392 T (.agg #[]) "gauntlet/suites.fill").run Tryz.prog w=.ok (kf,.agg #[]) w)(hcf:∀args w,(callFunc kf args).run Tryz.prog w=.ok (.enter kf args) w){xs y z:A}{most:Int}{died:Bool}(hxs:xs.isD=true)(hl:y.live=true)(hz:y.shut=z)
  (hfill:∀bv,z7e Tryz.prog kf [.agg [],xs,.atom bv] [(bv,.box (.agg [.osl 16 false [.agg (List.replicate 16 (.atom (.int .i32 0)))],.atom (.int .i64 0),.atom (.int .i64 most)]))] died (.iface 124 (.agg #[])) (.tup []) [.box y]) :
  uD Tryz.prog 37 [xs,.atom (.iface T (.agg #[])),.atom (.int .i64 most)] (.tup [bif died then .atom (.pointer none) else .sptr z,.atom (.bool (!died))]):=by
 refine⟨⟨_,Tryz.func37,by kernel_rfl,by kernel_rfl⟩,?_⟩;intro S w vs F hS hq hF;match vs,hq with
 |[u,v,x],q=>
  obtain⟨F1,F2,rfl,q1,F3,F4,rfl,q2,F5,F6,rfl,q3,q4⟩:=q;have e4:F6=[]:=q4;subst e4;have d:∀{x:A} {u:Value} {F:TC},x.isD=true->Has S w.heap x u F->wG S x u/\F=[]:=by
   intro x u F hx q;rcases q with⟨q,rfl⟩|⟨cs,q1,q2,q3⟩
   ·exact⟨q.rep1 hx,rfl⟩
   obtain⟨r,rfl⟩:=q1.isD hx;exact⟨⟨cs,r,q3⟩,rfl⟩
  obtain⟨r1,rfl⟩:=d hxs q1;obtain⟨r2,rfl⟩:=d rfl q2;obtain⟨r3,rfl⟩:=d rfl q3;obtain rfl:v=.iface T (.agg #[]):=(yS.1 r2).1;obtain rfl:x=.int .i64 most:=(yS.1 r3).1;have hnew:∀b o,w.heap.size<=b->S b o=none:=λb o hb=>by
   cases hh:S b o with
   |none=>rfl
   |some x=>have:=hS _ _ _ hh;simp[y5,nV hb]at this
  have hsz:(Tryz.gw4 w most).heap.size=w.heap.size+4:=by simp only[Tryz.gw4,World.alloc,Array.size_push]
  have hold:∀b,b<w.heap.size->(Tryz.gw4 w most).heap[b]?=w.heap[b]?:=λb hb=>by simp only[Tryz.gw4,World.alloc];simp only[gX,Array.size_push];rw[if_neg (by omega),if_neg (by omega),if_neg (by omega),if_neg (by omega)]
  have c0:(Tryz.gw4 w most).heap[w.heap.size]?=some (.cells #[.pointer (some ⟨w.heap.size+1+1+1,0,none⟩)] 86):=by simp only[Tryz.gw4,World.alloc];simp only[gX,Array.size_push];rw[if_neg (by omega),if_neg (by omega),if_neg (by omega),if_pos trivial]
  have c1:(Tryz.gw4 w most).heap[w.heap.size+1]?=some (.cells #[.bool false] 4):=by simp only[Tryz.gw4,World.alloc];simp only[gX,Array.size_push];rw[if_neg (by omega),if_neg (by omega),if_pos trivial]
  have c2:(Tryz.gw4 w most).heap[w.heap.size+1+1]?=some (.cells (Array.replicate 16 (.int .i32 0)) 162):=by simp only[Tryz.gw4,World.alloc];simp only[gX,Array.size_push];rw[if_neg (by omega),if_pos trivial]
  have c3:(Tryz.gw4 w most).heap[w.heap.size+1+1+1]?=some (.cells #[.slice (some ⟨w.heap.size+1+1,0,none⟩) 1 1,.int .i64 0,.int .i64 most] 91):=by simp only[Tryz.gw4,World.alloc];simp only[gX,Array.size_push];rw[if_pos trivial]
  have hK4:YP (λk=>w.heap.size<=k\/k∈([]:TC)) w (Tryz.gw4 w most):=by
   unfold Tryz.gw4;refine((((YP.refl _ _).alloc (.inl (pA _)) _).alloc (.inl ?_) _).alloc (.inl ?_) _).alloc (.inl ?_) _
   all_goals simp only[World.alloc,Array.size_push];omega
  have hS4:yI S (Tryz.gw4 w most):=by
   refine⟨λb o u h=>?_,hS.gok,hS.blk.of (λ_ _ _ q=>q) λg x e=>hold g (hS.blk.lt e)⟩;have h':=hS _ _ _ h;have hb:b<w.heap.size:=by
    rcases pL b w.heap.size with h1|h1
    ·exact h1
    rw[hnew b o h1]at h;cases h
   unfold y5 at h' ⊢;rw[hold b hb];exact h'
  have hbag:XL S (Tryz.gw4 w most).heap [.box (.agg [.osl 16 false [.agg (List.replicate 16 (.atom (.int .i32 0)))],.atom (.int .i64 0),.atom (.int .i64 most)])] [.pointer (some ⟨w.heap.size+1+1+1,0,none⟩)] [w.heap.size+1+1+1,w.heap.size+1+1]:=by
   have hcc:∀l:TE,(∀v∈l,v.oneCell'=true)->zM S (Tryz.gw4 w most).heap (l.map .atom) l []:=by
    intro l;induction l with
    |nil=>intro _;simp[zM]
    |cons a l ih=>intro h;simp only[gF,zM];exact⟨[a],l,[],[],rfl,rfl,by simp only[zH,Rep];simp[h a (by simp)],ih λv hv=>h v (by simp[hv])⟩
   have ho:zH S (Tryz.gw4 w most).heap (.osl 16 false [.agg (List.replicate 16 (.atom (.int .i32 0)))]) [.slice (some ⟨w.heap.size+1+1,0,none⟩) 1 1] [w.heap.size+1+1]:=by
    simp only[zH];refine⟨some ⟨w.heap.size+1+1,0,none⟩,1,by simp,by simp,by simp,by unfold maxLen;omega,?_,.inr ⟨w.heap.size+1+1,_,162,List.replicate 16 (.int .i32 0),[],rfl,c2,by simp,by simp,?_,by simp,λo=>hnew _ o (by omega)⟩⟩
    ·intro x hx;simp only[pB,gf,or_false]at hx;subst hx;rfl
    simp only[zM];exact⟨List.replicate 16 (.int .i32 0),[],[],[],by simp,rfl,by simp only[zH];exact hcc (List.replicate 16 (.int .i32 0)) (by intro v hv;rw[mE hv];rfl),rfl,rfl⟩
   refine⟨[w.heap.size+1+1+1,w.heap.size+1+1],[],by simp,.inr ⟨[.pointer (some ⟨w.heap.size+1+1+1,0,none⟩)],?_,by simp,rfl⟩,rfl⟩;simp only[zH];refine⟨w.heap.size+1+1+1,91,[.slice (some ⟨w.heap.size+1+1,0,none⟩) 1 1,.int .i64 0,.int .i64 most],[w.heap.size+1+1],rfl,c3,?_,rfl,λo=>hnew _ o (by omega)⟩;simp only[zM];exact⟨_,_,[w.heap.size+1+1],[],rfl,rfl,ho,[.int .i64 0],_,[],[],rfl,rfl,⟨by simp[Rep,Value.oneCell'],rfl⟩,[.int .i64 most],[],[],[],rfl,rfl,⟨by simp[Rep,Value.oneCell'],rfl⟩,rfl,rfl⟩
  have hfree:∀k∈[w.heap.size+1+1+1,w.heap.size+1+1],k=w.heap.size+1+1+1\/k=w.heap.size+1+1:=λk hk=>by simpa using hk
  have hargs:Yr (wG S) [.agg [],xs,.atom (.pointer (some ⟨w.heap.size+1+1+1,0,none⟩))] [.agg #[],u,.pointer (some ⟨w.heap.size+1+1+1,0,none⟩)] :=
   ⟨⟨[],by simp[Rep,y7],rfl⟩,r1,yS.2 ⟨rfl,rfl⟩,trivial⟩
  have hfv:wG S (.fn kf []) (.func (.func kf) #[] #[]):=⟨[.func (.func kf) #[] #[]],by simp[Rep,y7],rfl⟩;obtain⟨hok,hdie⟩:=hfill (.pointer (some ⟨w.heap.size+1+1+1,0,none⟩));have hkept:∀{w5:World},YP (λk=>(Tryz.gw4 w most).heap.size<=k\/k∈[w.heap.size+1+1+1,w.heap.size+1+1]) (Tryz.gw4 w most) w5->w5.heap[w.heap.size]?=some (.cells #[.pointer (some ⟨w.heap.size+1+1+1,0,none⟩)] 86)/\w5.heap[w.heap.size+1]?=some (.cells #[.bool false] 4):=λh=>
   have hm:∀k,k<w.heap.size+2->¬((Tryz.gw4 w most).heap.size<=k\/k∈[w.heap.size+1+1+1,w.heap.size+1+1]):=λk hk q=>by
    rcases q with q|q
    ·rw[hsz]at q;omega
    have:=hfree _ q;omega
   ⟨(h.block _ (hm _ (by omega))).trans c0,(h.block _ (hm _ (by omega))).trans c1⟩
  have hset:∀(w5:World) (a b:Value),YP (λk=>w.heap.size<=k\/k∈([]:TC)) w5 ((w5.setCell ⟨w.heap.size,0,none⟩ a).setCell ⟨w.heap.size+1,0,none⟩ b):=λw5 a b=>
   ⟨rfl,rfl,rfl,pA _,by simp[World.setCell],λk hk=>by simp only[World.setCell,mQ];rw[if_neg (by rintro rfl;exact hk (.inl (by omega))),if_neg (by rintro rfl;exact hk (.inl (by omega)))]⟩
  have hset2:∀(w5:World) (a b:Value) (k:Nat),k≠w.heap.size->k≠w.heap.size+1->((w5.setCell ⟨w.heap.size,0,none⟩ a).setCell ⟨w.heap.size+1,0,none⟩ b).heap[k]?=w5.heap[k]?:=λw5 a b k h1 h2=>by simp only[World.setCell,mQ];rw[if_neg (nP h2),if_neg (nP h1)]
  have hstay:∀{w5 w6:World} {S5:zj},yI S5 w5->(∀o,S5 w.heap.size o=none)->(∀o,S5 (w.heap.size+1) o=none)->(∀k,k<w5.heap.size->k≠w.heap.size->k≠w.heap.size+1->w6.heap[k]?=w5.heap[k]?)->yI S5 w6:=by
   intro w5 w6 S5 h k1 k2 hb;have hne:∀b o u,S5 b o=some u->b≠w.heap.size/\b≠w.heap.size+1:=λb o u q=>⟨(by rintro rfl;rw[k1]at q;cases q),(by rintro rfl;rw[k2]at q;cases q)⟩;refine⟨λb o u q=>?_,h.gok,h.blk.of (λ_ _ _ q=>q) λg x e=>?_⟩
   ·have h':=h _ _ _ q;have hlt:b<w5.heap.size:=by
     unfold y5 at h';cases hh:w5.heap[b]? with
     |none=>rw[hh]at h';cases h'
     |some y=>exact(pG.1 hh).1
    unfold y5 at h' ⊢;rw[hb b hlt (hne b o u q).1 (hne b o u q).2];exact h'
   obtain⟨_,v,hv⟩:=h.blk g x e;exact hb g (h.blk.lt e) (hne g 0 v hv).1 (hne g 0 v hv).2
  cases died with
  |false=>
   have ha:=hok rfl S (Tryz.gw4 w most) _ _ _ hS4 hfv hargs hbag (by simp);rcases ha with⟨k,caps,fn,e1,_,_,_,h5⟩|⟨L,q,e1,_⟩
   ·cases e1;refine Calls.mono (Tryz.gat_run T kf hmeth hcf u most w (λw5=>∃(S':zj) (G:TC),YP (λk=>(Tryz.gw4 w most).heap.size<=k\/k∈[w.heap.size+1+1+1,w.heap.size+1+1]) (Tryz.gw4 w most) w5/\(∀b o u,S b o=some u->S' b o=some u)/\(∀b o,b<(Tryz.gw4 w most).heap.size->b∉[w.heap.size+1+1+1,w.heap.size+1+1]->S' b o=S b o)/\yI S' w5 /\
     Has S' w5.heap (.box y) (.pointer (some ⟨w.heap.size+1+1+1,0,none⟩)) G/\G.Nodup/\∀k∈G,(Tryz.gw4 w most).heap.size<=k\/k∈[w.heap.size+1+1+1,w.heap.size+1+1]) (Calls.mono h5 ?_)) ?_
    ·rintro e w5 ⟨v,rfl,S',F',G,b1,b2,b3,b4,b5,b6,b7,b8⟩;have hv:v=.tuple #[]:=by
      rcases b5 with⟨q,_⟩|⟨cs,q,_⟩
      ·simp only[xc]at q;obtain⟨us,rfl,q⟩:=q;cases us with
       |nil=>rfl
       |cons a l=>exact q.elim
      simp only[zH]at q
     subst hv;obtain⟨H1,H2,rfl,g1,g2⟩:=b6;have eH:H2=[]:=g2;subst eH;simp only[pM]at b7 b8;exact⟨rfl,(hkept b1).1,(hkept b1).2,S',H1,b1,b2,b3,b4,g1,(pK.1 b7).1,λk hk=>b8 k (by simp[hk])⟩
    rintro e w' ⟨rfl,w5,⟨S',G,b1,b2,b3,b4,b5,b6,b7⟩,rfl⟩;have hG:∀k∈G,w.heap.size+2<=k:=λk hk=>by
     rcases b7 k hk with q|q
     ·rw[hsz]at q;omega
     have:=hfree k q;omega
    have n1:∀o,S' w.heap.size o=none:=λo=>by rw[b3 _ _ (by rw[hsz];omega) (λq=>by have:=hfree _ q;omega)];exact hnew _ _ (pA _)
    have n2:∀o,S' (w.heap.size+1) o=none:=λo=>by rw[b3 _ _ (by rw[hsz];omega) (λq=>by have:=hfree _ q;omega)];exact hnew _ _ (by omega)
    have hown:=b5.own;have hmono:=Wa (S:=S') (h:=w5.heap) (F:=G) (λk hk=>(hown k hk).2);have hm5:yI (zV S' w5.heap G) w5:=⟨λb o u q=>by
     unfold zV at q;split at q
     ·exact q
     exact b4 b o u q,Gok.mono hmono b4.gok,b4.blk.of hmono λ_ _ _=>rfl⟩
    have hng:∀k,k<w.heap.size+2->k∉G:=λk hk q=>by have:=hG k q;omega
    refine⟨_,zV S' w5.heap G,[],rfl,(hK4.trans (b1.mono (λk hk=>.inl (by
      rcases hk with q|q
      ·rw[hsz]at q;omega
      have:=hfree k q;omega)))).trans (hset _ _ _),λb o u q=>hmono b o u (b2 b o u q),λb o hb hbF=>?_,hstay hm5 (λo=>?_) (λo=>?_) (λk _ h1 h2=>hset2 _ _ _ k h1 h2),.inl ⟨?_,rfl⟩,by simp,by simp⟩
    ·unfold zV;rw[if_neg (hng b (by omega))];exact b3 b o (by rw[hsz];omega) (λq=>by have:=hfree _ q;omega)
    ·unfold zV;rw[if_neg (hng _ (by omega))];exact n1 o
    ·unfold zV;rw[if_neg (hng _ (by omega))];exact n2 o
    simp only[xc];refine⟨[_,_],rfl,?_,yS.2 ⟨rfl,rfl⟩,trivial⟩;rcases b5 with⟨q,_⟩|⟨cs,q1,q2,q3⟩
    ·simp only[xc,wG,Rep,false_and,exists_false]at q
    refine⟨cs,?_,q3⟩;have:=q1.shut hmono (by simpa only[A.live] using hl) (λk hk o=>by unfold zV;rw[if_pos hk]);simp only[A.shut,hz]at this;exact this
   cases e1
  |true=>
   obtain⟨_,hcall⟩:=hdie rfl;refine Calls.mono (Tryz.gat_die T kf hmeth hcf u most w (λw5=>∃S':zj,YP (λk=>(Tryz.gw4 w most).heap.size<=k\/k∈[w.heap.size+1+1+1,w.heap.size+1+1]) (Tryz.gw4 w most) w5/\(∀b o u,S b o=some u->S' b o=some u)/\(∀b o,b<(Tryz.gw4 w most).heap.size->b∉[w.heap.size+1+1+1,w.heap.size+1+1]->S' b o=S b o)/\yI S' w5) (Calls.mono (hcall S (Tryz.gw4 w most) _ _ hS4 hargs hbag (by simp)) ?_)) ?_
   ·rintro e w5 ⟨rfl,S',b1,b2,b3,b4⟩;exact⟨rfl,(hkept b1).1,(hkept b1).2,S',b1,b2,b3,b4⟩
   rintro e w' ⟨rfl,w5,⟨S',b1,b2,b3,b4⟩,rfl⟩;have n1:∀o,S' w.heap.size o=none:=λo=>by rw[b3 _ _ (by rw[hsz];omega) (λq=>by have:=hfree _ q;omega)];exact hnew _ _ (pA _)
   have n2:∀o,S' (w.heap.size+1) o=none:=λo=>by rw[b3 _ _ (by rw[hsz];omega) (λq=>by have:=hfree _ q;omega)];exact hnew _ _ (by omega)
   have hs5:w.heap.size<=w5.heap.size:=by have:=b1.size;rw[hsz]at this;omega
   refine⟨_,S',[],rfl,(hK4.trans (b1.mono (λk hk=>.inl (by
     rcases hk with q|q
     ·rw[hsz]at q;omega
     have:=hfree k q;omega)))).trans (((YP.refl _ _).alloc (.inl hs5) _).trans (hset _ _ _)),b2,λb o hb hbF=>b3 b o (by rw[hsz];omega) (λq=>by have:=hfree _ q;omega),hstay b4 n1 n2 (λk hk h1 h2=>?_),.inl ⟨?_,rfl⟩,by simp,by simp⟩
   ·rw[hset2 _ _ _ k h1 h2];show(w5.heap.push _)[k]?=_;rw[gX,if_neg (by omega)]
   simp only[xc];exact⟨[_,_],rfl,yS.2 ⟨rfl,rfl⟩,yS.2 ⟨rfl,rfl⟩,trivial⟩
structure qI (α:Type) where
 e0:α
 e1:α
 deriving DecidableEq
instance {α:Type}[BEq α]:BEq (qI α):=⟨λx y=>(x.e0==y.e0)&&(x.e1==y.e1)⟩
section
variable {α:Type}
def JZ (f:α->A)(x:qI α):A:=.agg [f x.e0,f x.e1]
instance (f:α->A)[h:Jk f]:Jk (JZ f):=⟨λx=>by simp[JZ,A.isD,A.areD,h.isD]⟩
instance (f g:α->A)[h:YQ f g]:YQ (JZ f) (JZ g):=⟨λx=>by simp[JZ,A.loose,A.looses,h.lo]⟩
instance (f g:α->A)[h:z0a f g]:z0a (JZ f) (JZ g):=⟨λx=>by simp[JZ,A.live,A.lives,h.live],λx=>by simp[JZ,A.shut,A.shuts,h.sh]⟩
instance (f:α->A)[h:qh f]:qh (JZ f):=⟨λx y q=>by simp only[JZ,A.agg.injEq,List.cons.injEq,and_true]at q;cases x;cases y;simp only[qI.mk.injEq];exact⟨h.inj _ _ q.1,h.inj _ _ q.2⟩⟩
end
structure Uf (α:Type) where
 e0:α
 e1:α
 e2:α
 deriving DecidableEq
section
variable {α:Type}
def zma (f:α->A)(x:Uf α):A:=.agg [f x.e0,f x.e1,f x.e2]
end
section
variable {α:Type}
def Uf.toL (x:Uf α):List α:=[x.e0,x.e1,x.e2]
def Uf.ofL:List α->Uf α->Uf α
 |[x0,x1,x2],_=>⟨x0,x1,x2⟩
 |_,d=>d
def Uf.toL_ofL (l:List α)(d:Uf α)(h:l.length=3):(Uf.ofL l d).toL=l:=by
 match l,h with
 |[x0,x1,x2],_=>rfl
def Uf.setI (x:Uf α)(i:Int)(v:α):Uf α:=Uf.ofL (x.toL.set i.toNat v) x
def Uf.setL (f:α->A)(x:Uf α)(i:Int)(v:α):(x.toL.map f).set i.toNat (f v)=((Uf.setI x i v).toL).map f:=by unfold Uf.setI;rw[Uf.toL_ofL _ _ (by simp[Uf.toL]),List.map_set]
end
structure z95 (α:Type) where
 e0:α
 e1:α
 e2:α
 e3:α
 deriving DecidableEq
section
variable {α:Type}
def JY (f:α->A)(x:z95 α):A:=.agg [f x.e0,f x.e1,f x.e2,f x.e3]
instance (f g:α->A)[h:YQ f g]:YQ (JY f) (JY g):=⟨λx=>by simp[JY,A.loose,A.looses,h.lo]⟩
instance (f:α->A)[h:qh f]:qh (JY f):=⟨λx y q=>by simp only[JY,A.agg.injEq,List.cons.injEq,and_true]at q;cases x;cases y;simp only[z95.mk.injEq];exact⟨h.inj _ _ q.1,h.inj _ _ q.2.1,h.inj _ _ q.2.2.1,h.inj _ _ q.2.2.2⟩⟩
end
structure zy (α:Type) where
 e0:α
 e1:α
 e2:α
 e3:α
 e4:α
 e5:α
 e6:α
 e7:α
 e8:α
 e9:α
 e10:α
 e11:α
 e12:α
 e13:α
 e14:α
 e15:α
 deriving DecidableEq
instance {α:Type}[BEq α]:BEq (zy α):=⟨λx y=>(x.e0==y.e0)&&(x.e1==y.e1)&&(x.e2==y.e2)&&(x.e3==y.e3)&&(x.e4==y.e4)&&(x.e5==y.e5)&&(x.e6==y.e6)&&(x.e7==y.e7)&&(x.e8==y.e8)&&(x.e9==y.e9)&&(x.e10==y.e10)&&(x.e11==y.e11)&&(x.e12==y.e12)&&(x.e13==y.e13)&&(x.e14==y.e14)&&(x.e15==y.e15)⟩
section
variable {α:Type}
def Xx (f:α->A)(x:zy α):A:=.agg [f x.e0,f x.e1,f x.e2,f x.e3,f x.e4,f x.e5,f x.e6,f x.e7,f x.e8,f x.e9,f x.e10,f x.e11,f x.e12,f x.e13,f x.e14,f x.e15]
instance (f:α->A)[h:Jk f]:Jk (Xx f):=⟨λx=>by simp[Xx,A.isD,A.areD,h.isD]⟩
instance (f g:α->A)[h:YQ f g]:YQ (Xx f) (Xx g):=⟨λx=>by simp[Xx,A.loose,A.looses,h.lo]⟩
instance (f g:α->A)[h:z0a f g]:z0a (Xx f) (Xx g):=⟨λx=>by simp[Xx,A.live,A.lives,h.live],λx=>by simp[Xx,A.shut,A.shuts,h.sh]⟩
instance (f:α->A)[h:qh f]:qh (Xx f):=⟨λx y q=>by simp only[Xx,A.agg.injEq,List.cons.injEq,and_true]at q;cases x;cases y;simp only[zy.mk.injEq];exact⟨h.inj _ _ q.1,h.inj _ _ q.2.1,h.inj _ _ q.2.2.1,h.inj _ _ q.2.2.2.1,h.inj _ _ q.2.2.2.2.1,h.inj _ _ q.2.2.2.2.2.1,h.inj _ _ q.2.2.2.2.2.2.1,h.inj _ _ q.2.2.2.2.2.2.2.1,h.inj _ _ q.2.2.2.2.2.2.2.2.1,h.inj _ _ q.2.2.2.2.2.2.2.2.2.1,h.inj _ _ q.2.2.2.2.2.2.2.2.2.2.1,h.inj _ _ q.2.2.2.2.2.2.2.2.2.2.2.1,h.inj _ _ q.2.2.2.2.2.2.2.2.2.2.2.2.1,h.inj _ _ q.2.2.2.2.2.2.2.2.2.2.2.2.2.1,h.inj _ _ q.2.2.2.2.2.2.2.2.2.2.2.2.2.2.1,h.inj _ _ q.2.2.2.2.2.2.2.2.2.2.2.2.2.2.2⟩⟩
end
section
variable {α:Type}
def zy.toL (x:zy α):List α:=[x.e0,x.e1,x.e2,x.e3,x.e4,x.e5,x.e6,x.e7,x.e8,x.e9,x.e10,x.e11,x.e12,x.e13,x.e14,x.e15]
def zy.ofL:List α->zy α->zy α
 |[x0,x1,x2,x3,x4,x5,x6,x7,x8,x9,gi,ig,x12,fq,kq,x15],_=>⟨x0,x1,x2,x3,x4,x5,x6,x7,x8,x9,gi,ig,x12,fq,kq,x15⟩
 |_,d=>d
def zy.toL_ofL (l:List α)(d:zy α)(h:l.length=16):(zy.ofL l d).toL=l:=by
 match l,h with
 |[x0,x1,x2,x3,x4,x5,x6,x7,x8,x9,gi,ig,x12,fq,kq,x15],_=>rfl
def zy.setI (x:zy α)(i:Int)(v:α):zy α:=zy.ofL (x.toL.set i.toNat v) x
def zy.setL (f:α->A)(x:zy α)(i:Int)(v:α):(x.toL.map f).set i.toNat (f v)=((zy.setI x i v).toL).map f:=by unfold zy.setI;rw[zy.toL_ofL _ _ (by simp[zy.toL]),List.map_set]
end
structure yf where
 States:Int
 Inputs:Int
 Outputs:Int
 Tree:TB
 Edges:TB
def qS (f0:Int->A)(f1:Int->A)(f2:Int->A)(f3:TB->A)(f4:TB->A)(x:yf):A:=.agg [f0 x.States,f1 x.Inputs,f2 x.Outputs,f3 x.Tree,f4 x.Edges]
instance (f0:Int->A)(f1:Int->A)(f2:Int->A)(f3:TB->A)(f4:TB->A)(g0:Int->A)(g1:Int->A)(g2:Int->A)(g3:TB->A)(g4:TB->A)[h0:YQ f0 g0][h1:YQ f1 g1][h2:YQ f2 g2][h3:YQ f3 g3][h4:YQ f4 g4]:YQ (qS f0 f1 f2 f3 f4) (qS g0 g1 g2 g3 g4):=⟨λx=>by simp[qS,A.loose,A.looses,h0.lo,h1.lo,h2.lo,h3.lo,h4.lo]⟩
instance (f0:Int->A)(f1:Int->A)(f2:Int->A)(f3:TB->A)(f4:TB->A)[h0:qh f0][h1:qh f1][h2:qh f2][h3:qh f3][h4:qh f4]:qh (qS f0 f1 f2 f3 f4):=⟨λx y h=>by simp only[qS,A.agg.injEq,List.cons.injEq,and_true]at h;cases x;cases y;simp only[yf.mk.injEq];exact⟨h0.inj _ _ h.1,h1.inj _ _ h.2.1,h2.inj _ _ h.2.2.1,h3.inj _ _ h.2.2.2.1,h4.inj _ _ h.2.2.2.2⟩⟩
structure qU where
 C:yf
def Yb (f0:yf->A)(x:qU):A:=.agg [f0 x.C]
instance (f0:yf->A)(g0:yf->A)[h0:YQ f0 g0]:YQ (Yb f0) (Yb g0):=⟨λx=>by simp[Yb,A.loose,A.looses,h0.lo]⟩
instance (f0:yf->A)[h0:qh f0]:qh (Yb f0):=⟨λx y h=>by simp only[Yb,A.agg.injEq,List.cons.injEq,and_true]at h;cases x;cases y;simp only[qU.mk.injEq];exact h0.inj _ _ h⟩
structure z7 where
 To:Int
 Out:Int
def wK (f0:Int->A)(f1:Int->A)(x:z7):A:=.agg [f0 x.To,f1 x.Out]
instance (f0:Int->A)(f1:Int->A)[h0:Jk f0][h1:Jk f1]:Jk (wK f0 f1):=⟨λx=>by simp[wK,A.isD,A.areD,h0.isD,h1.isD]⟩
instance (f0:Int->A)(f1:Int->A)(g0:Int->A)(g1:Int->A)[h0:YQ f0 g0][h1:YQ f1 g1]:YQ (wK f0 f1) (wK g0 g1):=⟨λx=>by simp[wK,A.loose,A.looses,h0.lo,h1.lo]⟩
instance (f0:Int->A)(f1:Int->A)(g0:Int->A)(g1:Int->A)[h0:z0a f0 g0][h1:z0a f1 g1]:z0a (wK f0 f1) (wK g0 g1):=⟨λx=>by simp[wK,A.live,A.lives,h0.live,h1.live],λx=>by simp[wK,A.shut,A.shuts,h0.sh,h1.sh]⟩
instance (f0:Int->A)(f1:Int->A)[h0:qh f0][h1:qh f1]:qh (wK f0 f1):=⟨λx y h=>by simp only[wK,A.agg.injEq,List.cons.injEq,and_true]at h;cases x;cases y;simp only[z7.mk.injEq];exact⟨h0.inj _ _ h.1,h1.inj _ _ h.2⟩⟩
structure z6 where
 Inputs:Int
 Outputs:Int
 Rows:List (List z7)
def u9 (f0:Int->A)(f1:Int->A)(f2:List (List z7)->A)(x:z6):A:=.agg [f0 x.Inputs,f1 x.Outputs,f2 x.Rows]
instance (f0:Int->A)(f1:Int->A)(f2:List (List z7)->A)(g0:Int->A)(g1:Int->A)(g2:List (List z7)->A)[h0:YQ f0 g0][h1:YQ f1 g1][h2:YQ f2 g2]:YQ (u9 f0 f1 f2) (u9 g0 g1 g2):=⟨λx=>by simp[u9,A.loose,A.looses,h0.lo,h1.lo,h2.lo]⟩
instance (f0:Int->A)(f1:Int->A)(f2:List (List z7)->A)[h0:qh f0][h1:qh f1][h2:qh f2]:qh (u9 f0 f1 f2):=⟨λx y h=>by simp only[u9,A.agg.injEq,List.cons.injEq,and_true]at h;cases x;cases y;simp only[z6.mk.injEq];exact⟨h0.inj _ _ h.1,h1.inj _ _ h.2.1,h2.inj _ _ h.2.2⟩⟩
structure zL where
 block_:Int
 signature_:zy (qI Int)
instance:BEq zL:=⟨λx y=>(x.block_==y.block_)&&(x.signature_==y.signature_)⟩
def Vp (f0:Int->A)(f1:zy (qI Int)->A)(x:zL):A:=.agg [f0 x.block_,f1 x.signature_]
structure zk where
 state_:Int
 from_:Int
 input_:Int
def Xw (f0:Int->A)(f1:Int->A)(f2:Int->A)(x:zk):A:=.agg [f0 x.state_,f1 x.from_,f2 x.input_]
instance (f0:Int->A)(f1:Int->A)(f2:Int->A)[h0:Jk f0][h1:Jk f1][h2:Jk f2]:Jk (Xw f0 f1 f2):=⟨λx=>by simp[Xw,A.isD,A.areD,h0.isD,h1.isD,h2.isD]⟩
structure zX where
 S:Int
 T:Int
 Word:TB
 Apart:Bool
def zO (f0:Int->A)(f1:Int->A)(f2:TB->A)(f3:Bool->A)(x:zX):A:=.agg [f0 x.S,f1 x.T,f2 x.Word,f3 x.Apart]
instance (f0:Int->A)(f1:Int->A)(f2:TB->A)(f3:Bool->A)[h0:Jk f0][h1:Jk f1][h2:Jk f2][h3:Jk f3]:Jk (zO f0 f1 f2 f3):=⟨λx=>by simp[zO,A.isD,A.areD,h0.isD,h1.isD,h2.isD,h3.isD]⟩
instance (f0:Int->A)(f1:Int->A)(f2:TB->A)(f3:Bool->A)(g0:Int->A)(g1:Int->A)(g2:TB->A)(g3:Bool->A)[h0:z0a f0 g0][h1:z0a f1 g1][h2:z0a f2 g2][h3:z0a f3 g3]:z0a (zO f0 f1 f2 f3) (zO g0 g1 g2 g3):=⟨λx=>by simp[zO,A.live,A.lives,h0.live,h1.live,h2.live,h3.live],λx=>by simp[zO,A.shut,A.shuts,h0.sh,h1.sh,h2.sh,h3.sh]⟩
structure zD where
 m_:z6
 q_:TA
 p_:TA
 all_:TA
 each_:List TA
 short_:TA
 exact_:TA
def qG (f0:z6->A)(f1:TA->A)(f2:TA->A)(f3:TA->A)(f4:List TA->A)(f5:TA->A)(f6:TA->A)(x:zD):A:=.agg [f0 x.m_,f1 x.q_,f2 x.p_,f3 x.all_,f4 x.each_,f5 x.short_,f6 x.exact_]
instance (f0:z6->A)(f1:TA->A)(f2:TA->A)(f3:TA->A)(f4:List TA->A)(f5:TA->A)(f6:TA->A)(g0:z6->A)(g1:TA->A)(g2:TA->A)(g3:TA->A)(g4:List TA->A)(g5:TA->A)(g6:TA->A)[h0:YQ f0 g0][h1:YQ f1 g1][h2:YQ f2 g2][h3:YQ f3 g3][h4:YQ f4 g4][h5:YQ f5 g5][h6:YQ f6 g6]:YQ (qG f0 f1 f2 f3 f4 f5 f6) (qG g0 g1 g2 g3 g4 g5 g6):=⟨λx=>by simp[qG,A.loose,A.looses,h0.lo,h1.lo,h2.lo,h3.lo,h4.lo,h5.lo,h6.lo]⟩
instance (f0:z6->A)(f1:TA->A)(f2:TA->A)(f3:TA->A)(f4:List TA->A)(f5:TA->A)(f6:TA->A)[h0:qh f0][h1:qh f1][h2:qh f2][h3:qh f3][h4:qh f4][h5:qh f5][h6:qh f6]:qh (qG f0 f1 f2 f3 f4 f5 f6):=⟨λx y h=>by simp only[qG,A.agg.injEq,List.cons.injEq,and_true]at h;cases x;cases y;simp only[zD.mk.injEq];exact⟨h0.inj _ _ h.1,h1.inj _ _ h.2.1,h2.inj _ _ h.2.2.1,h3.inj _ _ h.2.2.2.1,h4.inj _ _ h.2.2.2.2.1,h5.inj _ _ h.2.2.2.2.2.1,h6.inj _ _ h.2.2.2.2.2.2⟩⟩
structure UR where
structure zb where
 nodes_:List (zy Int)
 leaves_:Int
 most_:Int
def yw (f0:List (zy Int)->A)(f1:Int->A)(f2:Int->A)(x:zb):A:=.agg [f0 x.nodes_,f1 x.leaves_,f2 x.most_]
instance (f0:List (zy Int)->A)(f1:Int->A)(f2:Int->A)(g0:List (zy Int)->A)(g1:Int->A)(g2:Int->A)[h0:YQ f0 g0][h1:YQ f1 g1][h2:YQ f2 g2]:YQ (yw f0 f1 f2) (yw g0 g1 g2):=⟨λx=>by simp[yw,A.loose,A.looses,h0.lo,h1.lo,h2.lo]⟩
instance (f0:List (zy Int)->A)(f1:Int->A)(f2:Int->A)(g0:List (zy Int)->A)(g1:Int->A)(g2:Int->A)[h0:z0a f0 g0][h1:z0a f1 g1][h2:z0a f2 g2]:z0a (yw f0 f1 f2) (yw g0 g1 g2):=⟨λx=>by simp[yw,A.live,A.lives,h0.live,h1.live,h2.live],λx=>by simp[yw,A.shut,A.shuts,h0.sh,h1.sh,h2.sh]⟩
instance (f0:List (zy Int)->A)(f1:Int->A)(f2:Int->A)[h0:qh f0][h1:qh f1][h2:qh f2]:qh (yw f0 f1 f2):=⟨λx y h=>by simp only[yw,A.agg.injEq,List.cons.injEq,and_true]at h;cases x;cases y;simp only[zb.mk.injEq];exact⟨h0.inj _ _ h.1,h1.inj _ _ h.2.1,h2.inj _ _ h.2.2⟩⟩
structure VE where
structure WG where
structure zh where
 at_:Int
 w_:TB
def yV (f0:Int->A)(f1:TB->A)(x:zh):A:=.agg [f0 x.at_,f1 x.w_]
instance (f0:Int->A)(f1:TB->A)[h0:Jk f0][h1:Jk f1]:Jk (yV f0 f1):=⟨λx=>by simp[yV,A.isD,A.areD,h0.isD,h1.isD]⟩
instance (f0:Int->A)(f1:TB->A)(g0:Int->A)(g1:TB->A)(x:zh)[∀y,LeA (f0 y) (g0 y)][∀y,LeA (f1 y) (g1 y)][∀y,SzA (f0 y) (g0 y)][∀y,SzA (f1 y) (g1 y)]:LeA (yV f0 f1 x) (yV g0 g1 x):=by unfold yV;infer_instance
instance (f0:Int->A)(f1:TB->A)(g0:Int->A)(g1:TB->A)(x y:zh)[∀y z,SzA (f0 y) (g0 z)][∀y z,SzA (f1 y) (g1 z)]:SzA (yV f0 f1 x) (yV g0 g1 y):=by unfold yV;infer_instance
structure wB where
 Copies:TB
 Changes:List (z95 Int)
def Ya (f0:TB->A)(f1:List (z95 Int)->A)(x:wB):A:=.agg [f0 x.Copies,f1 x.Changes]
instance (f0:TB->A)(f1:List (z95 Int)->A)(g0:TB->A)(g1:List (z95 Int)->A)[h0:YQ f0 g0][h1:YQ f1 g1]:YQ (Ya f0 f1) (Ya g0 g1):=⟨λx=>by simp[Ya,A.loose,A.looses,h0.lo,h1.lo]⟩
instance (f0:TB->A)(f1:List (z95 Int)->A)[h0:qh f0][h1:qh f1]:qh (Ya f0 f1):=⟨λx y h=>by simp only[Ya,A.agg.injEq,List.cons.injEq,and_true]at h;cases x;cases y;simp only[wB.mk.injEq];exact⟨h0.inj _ _ h.1,h1.inj _ _ h.2⟩⟩
instance:zmA (K:=zL) (Vp (eI .i64) (Xx (JZ (eI .i64)))):=⟨λx y=>by obtain⟨_,⟨⟨_,_⟩,⟨_,_⟩,⟨_,_⟩,⟨_,_⟩,⟨_,_⟩,⟨_,_⟩,⟨_,_⟩,⟨_,_⟩,⟨_,_⟩,⟨_,_⟩,⟨_,_⟩,⟨_,_⟩,⟨_,_⟩,⟨_,_⟩,⟨_,_⟩,⟨_,_⟩⟩⟩:=x;obtain⟨_,⟨⟨_,_⟩,⟨_,_⟩,⟨_,_⟩,⟨_,_⟩,⟨_,_⟩,⟨_,_⟩,⟨_,_⟩,⟨_,_⟩,⟨_,_⟩,⟨_,_⟩,⟨_,_⟩,⟨_,_⟩,⟨_,_⟩,⟨_,_⟩,⟨_,_⟩,⟨_,_⟩⟩⟩:=y;simp only[Xx,JZ,Vp,eI,Kh,z2L,z2L.keyLs,zP,BEq.beq,gA,Option.some.injEq,Value.agg.injEq,gO,pM,pY,Array.mk.injEq,List.cons.injEq,Value.int.injEq,true_and,and_true,pF,decide_eq_true_eq,and_assoc]⟩
def Y7 (l_:TB)(k_:Int):Option Int :=
 bif decide (k_<((l_.length:Nat):Int)) then(
  (idx l_ k_).bind λbi=>
  some (w64 (bi)))
 else(
  some 0)
def Vi (x_:yf)(cm:List (List z7)):Option z6 :=
 some (z6.mk (w64 (1+(w64 (Int.tmod x_.Inputs 3)))) (w64 (1+(w64 (Int.tmod x_.Outputs 3)))) cm)
abbrev R0_:Type:=Option (LR (List (List z7)×Int) (List (List z7)))
def Vh (s_:Int)(gl:List (List z7)):R0_ :=
 some (.next (gl,w64 (s_+1)))
def YJ (i_:Int)(mg:List (List z7)):R0_ :=
 some (.next (mg,w64 (i_+1)))
def YH (x_:yf)(s_:Int)(ik:List (List z7))(i_:Int):R0_ :=
 bif decide (i_<(w64 (1+(w64 (Int.tmod x_.Inputs 3))))) then(
  (idx ik s_).bind λpj=>
  (idx pj i_).bind λom=>
  bif decide (om.To<0) then(
   (idx ik s_).bind λk0=>
   (Y7 x_.Edges (w64 ((w64 (s_*(w64 (1+(w64 (Int.tmod x_.Inputs 3))))))+i_))).bind λr_=>
   gd (((w64 (1+(w64 (Int.tmod x_.States 6)))):Int)≠0) <|
   (idx k0 i_).bind λkr=>
   YJ i_ (ik.set s_.toNat (k0.set i_.toNat (z7.mk (Int.tmod r_ (w64 (1+(w64 (Int.tmod x_.States 6))))) kr.Out))))
  else(
   YJ i_ ik))
 else(
  some (.done ik))
def YI (x_:yf)(gu:List (List z7))(s_:Int):R0_ :=
 bif decide (s_<(w64 (1+(w64 (Int.tmod x_.States 6))))) then(
  (loop (λs=>YH x_ s_ s.1 s.2) (gu,0)).bind λt6=>
  Vh s_ t6)
 else(
  some (.done gu))
def Vj (x_:yf)(bq:List (List z7)):Option z6 :=
 (loop (λs=>YI x_ s.1 s.2) (bq,0)).bind λt4=>
 Vi x_ t4
def Vg (bk:Int)(mh:List (List z7)):R0_ :=
 some (.next (mh,w64 (bk+1)))
def um (x_:yf)(cn:List (List z7))(bk:Int)(k_:Int):R0_ :=
 gd (((w64 (1+(w64 (Int.tmod x_.Inputs 3)))):Int)≠0) <|
 (idx cn (w64 (Int.tdiv k_ (w64 (1+(w64 (Int.tmod x_.Inputs 3))))))).bind λk9=>
 gd (((w64 (1+(w64 (Int.tmod x_.Inputs 3)))):Int)≠0) <|
 (idx k9 (Int.tmod k_ (w64 (1+(w64 (Int.tmod x_.Inputs 3)))))).bind λku=>
 Vg bk (cn.set (w64 (Int.tdiv k_ (w64 (1+(w64 (Int.tmod x_.Inputs 3)))))).toNat (k9.set (Int.tmod k_ (w64 (1+(w64 (Int.tmod x_.Inputs 3))))).toNat (z7.mk bk ku.Out)))
def Wg (x_:yf)(cn:List (List z7))(bk:Int)(free:TB):R0_ :=
 (idx free 0).bind λnz=>
 bif decide ((w64 (bk-1))<((x_.Tree.length:Nat):Int)) then(
  (idx x_.Tree (w64 (bk-1))).bind λpx=>
  gd ((((free.length:Nat):Int):Int)≠0) <|
  (idx free (Int.tmod (w64 (px)) ((free.length:Nat):Int))).bind λol=>
  um x_ cn bk ol)
 else(
  um x_ cn bk nz)
abbrev R1_:Type:=Option (LR (TB×Int) TB)
def ZS (de:Int)(n7:TB):R1_ :=
 some (.next (n7,w64 (de+1)))
def ZR (x_:yf)(cn:List (List z7))(bk:Int)(ke:TB)(de:Int):R1_ :=
 bif decide (de<(w64 (bk*(w64 (1+(w64 (Int.tmod x_.Inputs 3))))))) then(
  gd (((w64 (1+(w64 (Int.tmod x_.Inputs 3)))):Int)≠0) <|
  (idx cn (w64 (Int.tdiv de (w64 (1+(w64 (Int.tmod x_.Inputs 3))))))).bind λoy=>
  gd (((w64 (1+(w64 (Int.tmod x_.Inputs 3)))):Int)≠0) <|
  (idx oy (Int.tmod de (w64 (1+(w64 (Int.tmod x_.Inputs 3)))))).bind λn8=>
  bif decide (n8.To<0) then(
   gd (ke.length+[de].length<=4294967296) <|
   ZS de (ke++[de]))
  else(
   ZS de ke))
 else(
  some (.done ke))
def YG (x_:yf)(cn:List (List z7))(bk:Int):R0_ :=
 bif decide (bk<(w64 (1+(w64 (Int.tmod x_.States 6))))) then(
  (loop (λs=>ZR x_ cn bk s.1 s.2) (([]:TB),0)).bind λt12=>
  Wg x_ cn bk t12)
 else(
  some (.done cn))
def Vk (x_:yf)(gj:List (List z7)):Option z6 :=
 (loop (λs=>YG x_ s.1 s.2) (gj,1)).bind λt8=>
 Vj x_ t8
def Wf (da:Int)(lw:List (List z7)):R0_ :=
 some (.next (lw,w64 (da+1)))
def We (fe:List (List z7))(da:Int)(row:List z7):R0_ :=
 gd (fe.length+[row].length<=4294967296) <|
 Wf da (fe++[row])
abbrev R2_:Type:=Option (LR (List z7×Int) (List z7))
def ZP (x_:yf)(da:Int)(bu:List z7)(fk:Int):R2_ :=
 bif decide (fk<(w64 (1+(w64 (Int.tmod x_.Inputs 3))))) then(
  (Y7 x_.Edges (w64 ((w64 (da*(w64 (1+(w64 (Int.tmod x_.Inputs 3))))))+fk))).bind λai=>
  gd (((w64 (1+(w64 (Int.tmod x_.States 6)))):Int)≠0) <|
  gd (((w64 (1+(w64 (Int.tmod x_.Outputs 3)))):Int)≠0) <|
  gd (bu.length+([(z7.mk (-1) (Int.tmod (w64 (Int.tdiv ai (w64 (1+(w64 (Int.tmod x_.States 6)))))) (w64 (1+(w64 (Int.tmod x_.Outputs 3))))))]:List z7).length<=4294967296) <|
  some (.next ((bu++([(z7.mk (-1) (Int.tmod (w64 (Int.tdiv ai (w64 (1+(w64 (Int.tmod x_.States 6)))))) (w64 (1+(w64 (Int.tmod x_.Outputs 3))))))]:List z7)),w64 (fk+1))))
 else(
  some (.done bu))
def ZQ (x_:yf)(fe:List (List z7))(da:Int):R0_ :=
 bif decide (da<(w64 (1+(w64 (Int.tmod x_.States 6))))) then(
  (loop (λs=>ZP x_ da s.1 s.2) (([]:List z7),0)).bind λt17=>
  We fe da t17)
 else(
  some (.done fe))
def Qc (x_:yf):Option z6 :=
 gd ((6:Int)≠0) <|
 gd ((3:Int)≠0) <|
 gd ((3:Int)≠0) <|
 (loop (λs=>ZQ x_ s.1 s.2) (([]:List (List z7)),0)).bind λsa=>
 Vk x_ sa
def QF:Option Int :=
 some 0
abbrev R3_:Type:=Option (LR Int (Unit⊕Int))
def qN (i_:Int)(rc:Int)(re:Bool)(my:Bool)(rf:Bool)(rg:Bool)(oz:Bool):R3_ :=
 some (.next (w64 (i_+1)))
def ZL (m_:z6)(bl:List (List Bool))(s_:Int)(t_:Int)(i_:Int):R3_ :=
 bif decide (i_<m_.Inputs) then(
  (idx m_.Rows s_).bind λap=>
  (idx ap i_).bind λal=>
  (idx m_.Rows t_).bind λdu=>
  (idx du i_).bind λbp=>
  bif al.Out !=bp.Out then(
   some (.done (.inr 1)))
  else(
   bif decide (al.To>=0) then(
    bif decide (bp.To>=0) then(
     (idx bl al.To).bind λjp=>
     (idx jp bp.To).bind λgm=>
     bif gm then(
      some (.done (.inr 1)))
     else(
      qN i_ al.To (decide (al.To>=0)) (decide (al.To>=0)) (decide (bp.To>=0)) (decide (bp.To>=0)) gm))
    else(
     qN i_ al.To (decide (al.To>=0)) (decide (al.To>=0)) (decide (bp.To>=0)) (decide (bp.To>=0)) false))
   else(
    qN i_ al.To (decide (al.To>=0)) (decide (al.To>=0)) false false false)))
 else(
  some (.done (.inl ())))
def V2 (m_:z6)(bl:List (List Bool))(s_:Int)(t_:Int):Option Int :=
 (loop (λs=>ZL m_ bl s_ t_ s) 0).bind λt2=>
 match t2 with
 |.inl p=>QF
 |.inr p=>some p
abbrev R4_:Type:=Option (List (List Bool))
def Xk (nl:List (List Bool)):R4_ :=
 some nl
abbrev R5_:Type:=Option (LR (List (List Bool)×Int) (List (List Bool)))
def Xj (round:Int)(mi:List (List Bool)):R5_ :=
 some (.next (mi,w64 (round+1)))
def Xi (round:Int)(next:List (List Bool)):R5_ :=
 Xj round next
def Xh (s_:Int)(ff:List (List Bool)):R5_ :=
 some (.next (ff,w64 (s_+1)))
def uX (m_:z6)(dg:List (List Bool))(s_:Int)(cb:List (List Bool))(t_:Int):R5_ :=
 bif decide (t_<((m_.Rows.length:Nat):Int)) then(
  (idx cb s_).bind λjq=>
  (idx dg s_).bind λjp=>
  (idx jp t_).bind λgm=>
  bif gm then(
   (idx jq t_).bind λqm=>
   some (.next ((cb.set s_.toNat (jq.set t_.toNat true)),w64 (t_+1))))
  else(
   (V2 m_ dg s_ t_).bind λr_=>
   (idx jq t_).bind λpy=>
   some (.next ((cb.set s_.toNat (jq.set t_.toNat (r_==1))),w64 (t_+1)))))
 else(
  some (.done cb))
def uY (m_:z6)(dg:List (List Bool))(cr:List (List Bool))(s_:Int):R5_ :=
 bif decide (s_<((m_.Rows.length:Nat):Int)) then(
  gd ((0:Int)<=((m_.Rows.length:Nat):Int)/\(((m_.Rows.length:Nat):Int):Int)<=4294967296) <|
  gd (cr.length+[(List.replicate ((m_.Rows.length:Nat):Int).toNat false)].length<=4294967296) <|
  (loop (λs=>uX m_ dg s_ s.1 s.2) ((cr++[(List.replicate ((m_.Rows.length:Nat):Int).toNat false)]),0)).bind λt8=>
  Xh s_ t8)
 else(
  some (.done cr))
def uZ (m_:z6)(k_:Int)(dg:List (List Bool))(round:Int):R5_ :=
 bif decide (round<k_) then(
  (loop (λs=>uY m_ dg s.1 s.2) (([]:List (List Bool)),0)).bind λt6=>
  Xi round t6)
 else(
  some (.done dg))
def Xl (m_:z6)(k_:Int)(bl:List (List Bool)):R4_ :=
 (loop (λs=>uZ m_ k_ s.1 s.2) (bl,0)).bind λt3=>
 Xk t3
def uW (m_:z6)(jz:List (List Bool))(bk:Int):R5_ :=
 bif decide (bk<((m_.Rows.length:Nat):Int)) then(
  gd ((0:Int)<=((m_.Rows.length:Nat):Int)/\(((m_.Rows.length:Nat):Int):Int)<=4294967296) <|
  gd (jz.length+[(List.replicate ((m_.Rows.length:Nat):Int).toNat false)].length<=4294967296) <|
  some (.next ((jz++[(List.replicate ((m_.Rows.length:Nat):Int).toNat false)]),w64 (bk+1))))
 else(
  some (.done jz))
def jL (m_:z6)(k_:Int):R4_ :=
 (loop (λs=>uW m_ s.1 s.2) (([]:List (List Bool)),0)).bind λt9=>
 Xl m_ k_ t9
def XT (out:TB):Option TB :=
 some out
abbrev R6_:Type:=Option (LR (TB×Int×Int) TB)
def kN (s_:Int)(ax:TB)(ca:Int):R6_ :=
 some (.next (ax,ca,w64 (s_+1)))
def wS (aj:TB)(s_:Int)(cd:Int)(kw:Int):R6_ :=
 gd (aj.length+[kw].length<=4294967296) <|
 kN s_ (aj++[kw]) cd
def kM (aj:TB)(n_:Int)(s_:Int)(b_:Int):R6_ :=
 bif decide (b_<0) then(
  wS aj s_ (w64 (n_+1)) n_)
 else(
  wS aj s_ n_ b_)
abbrev R7_:Type:=Option (LR (Int×Int) Int)
def uz (t_:Int)(pz:Int):R7_ :=
 some (.next (pz,w64 (t_+1)))
def kL (bl:List (List Bool))(aj:TB)(s_:Int)(oq:Int)(t_:Int):R7_ :=
 bif decide (t_<s_) then(
  (idx bl s_).bind λjp=>
  (idx jp t_).bind λgm=>
  bif !gm then(
   (idx aj t_).bind λdn=>
   uz t_ dn)
  else(
   uz t_ oq))
 else(
  some (.done oq))
def XS (bl:List (List Bool))(aj:TB)(n_:Int)(s_:Int):R6_ :=
 bif decide (s_<((bl.length:Nat):Int)) then(
  (loop (λs=>kL bl aj s_ s.1 s.2) ((-1),0)).bind λt6=>
  kM aj n_ s_ t6)
 else(
  some (.done aj))
def kO (bl:List (List Bool)):Option TB :=
 (loop (λs=>XS bl s.1 s.2.1 s.2.2) (([]:TB),0,0)).bind λt2=>
 XT t2
def UD (m_:z6)(k_:Int):Option TB :=
 (jL m_ k_).bind λr_=>
 (kO r_).bind λai=>
 some ai
def kP (m_:z6):Option TB :=
 (UD m_ ((m_.Rows.length:Nat):Int)).bind λr_=>
 some r_
def Q0 (m_:z6)(s_:Int)(i_:Int):Option z7 :=
 bif decide (s_<0) then(
  some (z7.mk (-1) (-1)))
 else(
  (idx m_.Rows s_).bind λap=>
  (idx ap i_).bind λal=>
  some al)
def kR (mz:z6->Int->TB->Option Int)(m_:z6)(s_:Int)(w_:TB):Option Int :=
 bif ((w_.length:Nat):Int)==0 then(
  some s_)
 else(
  (idx w_ 0).bind λfc=>
  (Q0 m_ s_ fc).bind λr_=>
  gd ((0:Int)<=1/\(1:Int)<=((w_.length:Nat):Int)/\(((w_.length:Nat):Int):Int)<=((w_.length:Nat):Int)) <|
  (mz m_ r_.To (w_.drop (1:Int).toNat)).bind λai=>
  some ai)
def kQ (fu:Nat):z6->Int->TB->Option Int:=Nat.rec (motive:=λ_=>z6->Int->TB->Option Int) (λ_ _ _=>none) (λ_ ih=>kR ih) fu
def V7 (m_:z6)(s_:Int)(w_:TB):Option Int:=kQ (w_.length+1) m_ s_ w_
def Yy (out:TB):Option TB :=
 gd (out.length+([0]:TB).length<=4294967296) <|
 some (out++([0]:TB))
abbrev R8_:Type:=Option (LR (TB×Int) (TB⊕TB))
def V3 (inputs:Int)(aj:TB)(k_:Int):R8_ :=
 bif decide (k_>=0) then(
  (idx aj k_).bind λdn=>
  bif decide ((w64 (dn+1))<inputs) then(
   (idx aj k_).bind λjr=>
   (idx aj k_).bind λo7=>
   some (.done (.inr (aj.set k_.toNat (w64 (jr+1))))))
  else(
   (idx aj k_).bind λo8=>
   some (.next ((aj.set k_.toNat 0),w64 (k_-1)))))
 else(
  some (.done (.inl aj)))
def Wu (w_:TB)(inputs:Int):Option TB :=
 gd (([]:TB).length+w_.length<=4294967296) <|
 (loop (λs=>V3 inputs s.1 s.2) (w_,w64 (((w_.length:Nat):Int)-1))).bind λt2=>
 match t2 with
 |.inl p=>Yy p
 |.inr p=>some p
abbrev R9_:Type:=Option (TA×List Bool)
def W8 (l_:TA)(is:List Bool):R9_ :=
 some (l_,is)
abbrev znT:Type:=Option (LR (TA×List Bool×TB) ((TA×List Bool)))
def uk (m_:z6)(w_:TB)(j6:TA)(p0:List Bool):znT :=
 (Wu w_ m_.Inputs).bind λr_=>
 some (.next (j6,p0,r_))
def QG (m_:z6)(from_:Int)(dr:TA)(ii:List Bool)(w_:TB):znT :=
 bif decide (((w_.length:Nat):Int)<((m_.Rows.length:Nat):Int)) then(
  (V7 m_ from_ w_).bind λai=>
  bif decide (ai>=0) then(
   (idx ii ai).bind λpq=>
   bif !pq then(
    (idx ii ai).bind λr8=>
    (idx dr ai).bind λbi=>
    uk m_ w_ (dr.set ai.toNat w_) (ii.set ai.toNat true))
   else(
    uk m_ w_ dr ii))
  else(
   uk m_ w_ dr ii))
 else(
  some (.done (dr,ii)))
def V5 (m_:z6)(from_:Int):R9_ :=
 gd ((0:Int)<=((m_.Rows.length:Nat):Int)/\(((m_.Rows.length:Nat):Int):Int)<=4294967296) <|
 gd ((0:Int)<=((m_.Rows.length:Nat):Int)/\(((m_.Rows.length:Nat):Int):Int)<=4294967296) <|
 (loop (λs=>QG m_ from_ s.1 s.2.1 s.2.2) ((List.replicate ((m_.Rows.length:Nat):Int).toNat ([]:TB)),(List.replicate ((m_.Rows.length:Nat):Int).toNat false),([]:TB))).bind λt2=>
 W8 t2.1 t2.2
def XU (m_:z6):R9_ :=
 (V5 m_ 0).bind λr_=>
 some (r_.1,r_.2)
def JM:Option Int :=
 some 0
def V4 (a_:TB)(b_:TB)(i_:Int):R3_ :=
 bif decide (i_<((a_.length:Nat):Int)) then(
  (idx a_ i_).bind λdv=>
  (idx b_ i_).bind λdx=>
  bif dv !=dx then(
   (idx a_ i_).bind λi6=>
   (idx b_ i_).bind λl6=>
   bif decide (i6<l6) then(
    some (.done (.inr 1)))
   else(
    some (.done (.inr 0))))
  else(
   some (.next (w64 (i_+1)))))
 else(
  some (.done (.inl ())))
def UZ (a_:TB)(b_:TB):Option Int :=
 bif ((a_.length:Nat):Int) !=((b_.length:Nat):Int) then(
  bif decide (((a_.length:Nat):Int)<((b_.length:Nat):Int)) then(
   some 1)
  else(
   some 0))
 else(
  (loop (λs=>V4 a_ b_ s) 0).bind λt2=>
  match t2 with
  |.inl p=>JM
  |.inr p=>some p)
def W9 (out:TB):Option TB :=
 some out
def ul (s_:Int)(ax:TB):R1_ :=
 some (.next (ax,w64 (s_+1)))
def ZM (aj:TB)(s_:Int)(k_:Int):R1_ :=
 gd ((0:Int)<=0/\(0:Int)<=k_/\(k_:Int)<=((aj.length:Nat):Int)) <|
 gd (([]:TB).length+((aj.drop 0).take (k_.toNat-0)).length<=4294967296) <|
 gd (((aj.drop 0).take (k_.toNat-0)).length+[s_].length<=4294967296) <|
 gd ((0:Int)<=k_/\(k_:Int)<=((aj.length:Nat):Int)/\(((aj.length:Nat):Int):Int)<=((aj.length:Nat):Int)) <|
 gd ((((aj.drop 0).take (k_.toNat-0))++[s_]).length+(aj.drop k_.toNat).length<=4294967296) <|
 ul s_ ((((aj.drop 0).take (k_.toNat-0))++[s_])++(aj.drop k_.toNat))
def qO (r_:TA×List Bool)(aj:TB)(s_:Int)(de:Int):Option (LR Int Int) :=
 bif decide (de<((aj.length:Nat):Int)) then(
  (idx aj de).bind λdn=>
  (idx r_.1 dn).bind λqp=>
  (idx r_.1 s_).bind λqq=>
  (UZ qp qq).bind λai=>
  bif ai==1 then(
   some (.next (w64 (de+1))))
  else(
   some (.done de)))
 else(
  some (.done de))
def qP (r_:TA×List Bool)(aj:TB)(s_:Int):R1_ :=
 bif decide (s_<((r_.1.length:Nat):Int)) then(
  (idx r_.2 s_).bind λu_=>
  bif !u_ then(
   ul s_ aj)
  else(
   (loop (λs=>qO r_ aj s_ s) 0).bind λt5=>
   ZM aj s_ t5))
 else(
  some (.done aj))
def V6 (m_:z6):Option TB :=
 (XU m_).bind λr_=>
 (loop (λs=>qP r_ s.1 s.2) (([]:TB),0)).bind λt2=>
 W9 t2
def Xg (out:TB):Option TB :=
 some out
def uV (k_:Int)(ax:TB):R1_ :=
 some (.next (ax,w64 (k_+1)))
def Xf (ai:TB)(aj:TB)(k_:Int)(there:Int):R1_ :=
 bif there==0 then(
  (idx ai k_).bind λdm=>
  gd (aj.length+[dm].length<=4294967296) <|
  uV k_ (aj++[dm]))
 else(
  uV k_ aj)
def kK (n_:Int)(nc:Int):R7_ :=
 some (.next (nc,w64 (n_+1)))
def Xe (r_:TB)(ai:TB)(k_:Int)(ee:Int)(n_:Int):R7_ :=
 bif decide (n_<k_) then(
  (idx ai n_).bind λip=>
  (idx r_ ip).bind λn9=>
  (idx ai k_).bind λoa=>
  (idx r_ oa).bind λqr=>
  bif n9==qr then(
   kK n_ 1)
  else(
   kK n_ ee))
 else(
  some (.done ee))
def UC (r_:TB)(ai:TB)(aj:TB)(k_:Int):R1_ :=
 bif decide (k_<((ai.length:Nat):Int)) then(
  (loop (λs=>Xe r_ ai k_ s.1 s.2) (0,0)).bind λt5=>
  Xf ai aj k_ t5)
 else(
  some (.done aj))
def jK (m_:z6):Option TB :=
 (kP m_).bind λr_=>
 (V6 m_).bind λai=>
 (loop (λs=>UC r_ ai s.1 s.2) (([]:TB),0)).bind λt2=>
 Xg t2
def Yo (out:List Bool):Option (List Bool) :=
 some out
abbrev zi0:Type:=Option (LR (List Bool×Int) (List Bool))
def Yn (round:Int)(ax:List Bool):zi0 :=
 some (.next (ax,w64 (round+1)))
def Ym (s_:Int)(gx:List Bool):zi0 :=
 some (.next (gx,w64 (s_+1)))
def ug (i_:Int)(o9:List Bool):zi0 :=
 some (.next (o9,w64 (i_+1)))
def Yk (m_:z6)(s_:Int)(kg:List Bool)(i_:Int):zi0 :=
 bif decide (i_<m_.Inputs) then(
  (idx m_.Rows s_).bind λap=>
  (idx ap i_).bind λal=>
  (idx kg s_).bind λdn=>
  bif dn then(
   bif decide (al.To>=0) then(
    (idx kg al.To).bind λjr=>
    ug i_ (kg.set al.To.toNat true))
   else(
    ug i_ kg))
  else(
   ug i_ kg))
 else(
  some (.done kg))
def Yl (m_:z6)(bo:List Bool)(s_:Int):zi0 :=
 bif decide (s_<((m_.Rows.length:Nat):Int)) then(
  (loop (λs=>Yk m_ s_ s.1 s.2) (bo,0)).bind λt6=>
  Ym s_ t6)
 else(
  some (.done bo))
def VA (m_:z6)(aj:List Bool)(round:Int):zi0 :=
 bif decide (round<((m_.Rows.length:Nat):Int)) then(
  (loop (λs=>Yl m_ s.1 s.2) (aj,0)).bind λt4=>
  Yn round t4)
 else(
  some (.done aj))
def Yz (m_:z6)(from_:Int):Option (List Bool) :=
 gd ((0:Int)<=((m_.Rows.length:Nat):Int)/\(((m_.Rows.length:Nat):Int):Int)<=4294967296) <|
 (idx (List.replicate ((m_.Rows.length:Nat):Int).toNat false) from_).bind λmj=>
 (loop (λs=>VA m_ s.1 s.2) (((List.replicate ((m_.Rows.length:Nat):Int).toNat false).set from_.toNat true),0)).bind λt2=>
 Yo t2
def UB (out:TB):Option TB :=
 some out
def UA (s_:Int)(ax:TB):R1_ :=
 some (.next (ax,w64 (s_+1)))
def Uz (aj:TB)(s_:Int)(k_:Int):R1_ :=
 gd (aj.length+[k_].length<=4294967296) <|
 UA s_ (aj++[k_])
def Y4 (n_:Int)(kj:Int):R7_ :=
 some (.next (kj,w64 (n_+1)))
def Uy (r_:TB)(ai:TB)(ak:List Bool)(s_:Int)(de:Int)(n_:Int):R7_ :=
 bif decide (n_<((ai.length:Nat):Int)) then(
  (idx ak s_).bind λdm=>
  bif dm then(
   (idx ai n_).bind λip=>
   (idx r_ ip).bind λn9=>
   (idx r_ s_).bind λoa=>
   bif n9==oa then(
    Y4 n_ n_)
   else(
    Y4 n_ de))
  else(
   Y4 n_ de))
 else(
  some (.done de))
def KX (r_:TB)(ai:TB)(ak:List Bool)(aj:TB)(s_:Int):R1_ :=
 bif decide (s_<((r_.length:Nat):Int)) then(
  (loop (λs=>Uy r_ ai ak s_ s.1 s.2) ((-1),0)).bind λt5=>
  Uz aj s_ t5)
 else(
  some (.done aj))
def JL (m_:z6):Option TB :=
 (kP m_).bind λr_=>
 (jK m_).bind λai=>
 (Yz m_ 0).bind λak=>
 (loop (λs=>KX r_ ai ak s.1 s.2) (([]:TB),0)).bind λt2=>
 UB t2
def Yj (m_:z6)(gy:List (List z7)):Option z6 :=
 some (z6.mk m_.Inputs m_.Outputs gy)
def Yi (k_:Int)(gp:List (List z7)):R0_ :=
 some (.next (gp,w64 (k_+1)))
def Yh (bt:List (List z7))(k_:Int)(row:List z7):R0_ :=
 gd (bt.length+[row].length<=4294967296) <|
 Yi k_ (bt++[row])
def uf (bu:List z7)(i_:Int)(al:z7)(gz:Int):R2_ :=
 gd (bu.length+[(z7.mk gz al.Out)].length<=4294967296) <|
 some (.next ((bu++[(z7.mk gz al.Out)]),w64 (i_+1)))
def Yf (m_:z6)(r_:TB)(ai:TB)(k_:Int)(bu:List z7)(i_:Int):R2_ :=
 bif decide (i_<m_.Inputs) then(
  (idx r_ k_).bind λdm=>
  (idx m_.Rows dm).bind λap=>
  (idx ap i_).bind λal=>
  bif decide (al.To>=0) then(
   (idx ai al.To).bind λip=>
   uf bu i_ al ip)
  else(
   uf bu i_ al al.To))
 else(
  some (.done bu))
def Yg (m_:z6)(r_:TB)(ai:TB)(bt:List (List z7))(k_:Int):R0_ :=
 bif decide (k_<((r_.length:Nat):Int)) then(
  (loop (λs=>Yf m_ r_ ai k_ s.1 s.2) (([]:List z7),0)).bind λt5=>
  Yh bt k_ t5)
 else(
  some (.done bt))
def Yx (m_:z6):Option z6 :=
 (jK m_).bind λr_=>
 (JL m_).bind λai=>
 (loop (λs=>Yg m_ r_ ai s.1 s.2) (([]:List (List z7)),0)).bind λt2=>
 Yj m_ t2
def Qb (x_:qU):Option z6 :=
 gd ((5:Int)≠0) <|
 (Qc (yf.mk (Int.tmod x_.C.States 5) x_.C.Inputs x_.C.Outputs x_.C.Tree x_.C.Edges)).bind λr_=>
 (Yx r_).bind λai=>
 some ai
def vY:Option z7 :=
 some (z7.mk (-1) (-1))
def YC (m_:z6)(x_:z7):Option Bool :=
 (vY).bind λr_=>
 bif (x_.To==r_.To)&&((x_.Out==r_.Out)&&true) then(
  some true)
 else(
  bif decide (x_.To>=0) then(
   bif decide (x_.To<((m_.Rows.length:Nat):Int)) then(
    bif decide (x_.Out>=0) then(
     some (decide (x_.Out<m_.Outputs)))
    else(
     some false))
   else(
    some false))
  else(
   some false))
def Yp (x_:z7)(x1:z6):Option Bool :=
 (YC x1 x_).bind λr_=>
 some (!r_)
def xZ:Option Int :=
 some (-1)
def y8 (s_:List z7)(f_:z6)(x8:Int):R3_ :=
 bif decide (x8<((s_.length:Nat):Int)) then(
  (idx s_ x8).bind λeb=>
  (Yp eb f_).bind λr_=>
  bif r_ then(
   some (.done (.inr x8)))
  else(
   some (.next (w64 (x8+1)))))
 else(
  some (.done (.inl ())))
def xj (s_:List z7)(f_:z6):Option Int :=
 (loop (λs=>y8 s_ f_ s) 0).bind λt2=>
 match t2 with
 |.inl p=>xZ
 |.inr p=>some p
def y9 (s_:List z7)(f_:z6):Option Bool :=
 (xj s_ f_).bind λr_=>
 some (decide (r_>=0))
def Wz:Option Int :=
 some 0
def qC (m_:z6)(kl:Int):R3_ :=
 bif decide (kl<((m_.Rows.length:Nat):Int)) then(
  (idx m_.Rows kl).bind λap=>
  bif ((ap.length:Nat):Int) !=m_.Inputs then(
   some (.done (.inr 1)))
  else(
   (y9 ap m_).bind λr_=>
   bif r_ then(
    some (.done (.inr 1)))
   else(
    some (.next (w64 (kl+1))))))
 else(
  some (.done (.inl ())))
def yT (m_:z6):Option Int :=
 bif decide (m_.Inputs>16) then(
  some 3)
 else(
  bif decide (m_.Outputs>16) then(
   some 3)
  else(
   bif decide (((m_.Rows.length:Nat):Int)>64) then(
    some 3)
   else(
    bif decide (m_.Inputs<1) then(
     some 1)
    else(
     bif decide (m_.Outputs<1) then(
      some 1)
     else(
      bif decide (((m_.Rows.length:Nat):Int)<1) then(
       some 1)
      else(
       (loop (λs=>qC m_ s) 0).bind λt2=>
       match t2 with
       |.inl p=>Wz
       |.inr p=>some p))))))
def Xm (m_:z6):Option ((Int×z6)×(Int×z6)×(Int×z6)) :=
 some ((9,m_),(11,m_),(12,m_))
def Wb (m_:z6):Option z6 :=
 some m_
variable {σ:Type}
def jy (gi:Int)(js:σ):Option (LR (σ×Int) σ) :=
 some (.next (js,w64 (gi+1)))
def wx (yy:σ->(qI Int×z7)->Option (σ×Bool))(gi:Int)(ap:List z7)(gg:σ)(ba:Int):Option (LR (σ×Int) (σ⊕σ)) :=
 bif decide (ba<((ap.length:Nat):Int)) then(
  (idx ap ba).bind λal=>
  (yy gg ((qI.mk gi ba),al)).bind λyr=>
  bif !yr.2 then(
   some (.done (.inr yr.1)))
  else(
   some (.next (yr.1,w64 (ba+1)))))
 else(
  some (.done (.inl gg)))
def vZ (x0:z6)(yy:σ->(qI Int×z7)->Option (σ×Bool))(dw:σ)(gi:Int):Option (LR (σ×Int) σ) :=
 bif decide (gi<((x0.Rows.length:Nat):Int)) then(
  (idx x0.Rows gi).bind λap=>
  (loop (λs=>wx yy gi ap s.1 s.2) (dw,0)).bind λt3=>
  match t3 with
  |.inl p=>jy gi p
  |.inr p=>some (.done p))
 else(
  some (.done dw))
def qZ (x0:z6){σ:Type}(yy:σ->(qI Int×z7)->Option (σ×Bool))(sg:σ):Option σ :=
 (loop (λs=>vZ x0 yy s.1 s.2) (sg,0)).bind λt1=>
 some t1
abbrev zmt:Type:=Option (List (qI Int))
def vV (s_:List (qI Int)):zmt :=
 gd ((0:Int)<=0/\(0:Int)<=((s_.length:Nat):Int)/\(((s_.length:Nat):Int):Int)<=((s_.length:Nat):Int)/\(((s_.length:Nat):Int):Int)<=((s_.length:Nat):Int)) <|
 some ((s_.drop 0).take (((s_.length:Nat):Int).toNat-0))
def q9 (out:List (qI Int)):zmt :=
 (vV out).bind λr_=>
 some r_
def yq (aj:List (qI Int))(x8:qI Int)(x9:z7):Option (LR (List (qI Int)) Empty) :=
 (vY).bind λak=>
 bif (x9.To==ak.To)&&((x9.Out==ak.Out)&&true) then(
  gd (aj.length+[x8].length<=4294967296) <|
  some (.next (aj++[x8])))
 else(
  some (.next aj))
def kT (m_:z6):zmt :=
 (Wb m_).bind λai=>
 (qZ ai (yOf (λs x=>yq s x.1 x.2)) (.next ([]:List (qI Int)))).bind λt2=>
 match t2 with
 |.next aj=>(
  q9 aj)
 |.done z=>nomatch z
def qB (m_:z6):Option (Bool×Int) :=
 (yT m_).bind λr_=>
 bif r_ !=0 then(
  some (false,r_))
 else(
  (kT m_).bind λai=>
  some (((ai.length:Nat):Int)==0,0))
def Zx (x0:z6):Option Bool :=
 (qB x0).bind λr_=>
 some r_.1
def wc (mz:Int->(List Bool)->z6->Option (List Bool×z6))(ap:List z7)(x1:List Bool)(jt:Int)(jd:Int)(la:List (List z7))(ga:Int):Option (LR (List Bool×Int×Int×List (List z7)×Int) ((List Bool×z6))) :=
 bif decide (ga<((ap.length:Nat):Int)) then(
  (idx ap ga).bind λal=>
  (mz al.To x1 (z6.mk jt jd la)).bind λr_=>
  some (.next (r_.1,r_.2.Inputs,r_.2.Outputs,r_.2.Rows,w64 (ga+1))))
 else(
  some (.done (x1,(z6.mk jt jd la))))
def wD (mz:Int->(List Bool)->z6->Option (List Bool×z6))(s_:Int)(y0:List Bool)(y1:z6):Option (List Bool×z6) :=
 bif s_==(-1) then(
  some (y0,y1))
 else(
  (idx y0 s_).bind λsb=>
  bif sb then(
   some (y0,y1))
  else(
   (idx y0 s_).bind λsf=>
   (idx y1.Rows s_).bind λap=>
   (loop (λs=>wc mz ap s.1 s.2.1 s.2.2.1 s.2.2.2.1 s.2.2.2.2) ((y0.set s_.toNat true),y1.Inputs,y1.Outputs,y1.Rows,0)).bind λt1=>
   some t1))
def yb (fu:Nat):Int->(List Bool)->z6->Option (List Bool×z6):=Nat.rec (motive:=λ_=>Int->(List Bool)->z6->Option (List Bool×z6)) (λ_ _ _=>none) (λ_ ih=>wD ih) fu
def qM:Option Int :=
 some (-1)
def xJ (s_:List Bool)(v_:Bool)(x8:Int):R3_ :=
 bif decide (x8<((s_.length:Nat):Int)) then(
  (idx s_ x8).bind λeb=>
  bif v_==eb then(
   some (.done (.inr x8)))
  else(
   some (.next (w64 (x8+1)))))
 else(
  some (.done (.inl ())))
def ur (s_:List Bool)(v_:Bool):Option Int :=
 (loop (λs=>xJ s_ v_ s) 0).bind λt2=>
 match t2 with
 |.inl p=>qM
 |.inr p=>some p
def xK (s_:List Bool)(v_:Bool):Option Bool :=
 (ur s_ v_).bind λr_=>
 some (decide (r_>=0))
def wT (m_:z6):Option (Bool×Int) :=
 (yT m_).bind λr_=>
 bif r_ !=0 then(
  some (false,r_))
 else(
  gd ((0:Int)<=((m_.Rows.length:Nat):Int)/\(((m_.Rows.length:Nat):Int):Int)<=4294967296) <|
  (yb Wh 0 (List.replicate ((m_.Rows.length:Nat):Int).toNat false) m_).bind λai=>
  (xK ai.1 false).bind λak=>
  some (!ak,0))
def Zw (x0:z6):Option Bool :=
 (wT x0).bind λr_=>
 some r_.1
def W7 (m_:z6):Option z6 :=
 some m_
def X9 (out:zy (qI Int)):Option (zy (qI Int)) :=
 some out
abbrev znS:Type:=Option (LR (zy (qI Int)×Int) (zy (qI Int)))
def kA (ft:Int)(ax:zy (qI Int)):znS :=
 some (.next (ax,w64 (ft+1)))
def X8 (p_:TB)(ap:List z7)(aj:zy (qI Int))(ft:Int):znS :=
 bif decide (ft<((ap.length:Nat):Int)) then(
  (idx ap ft).bind λal=>
  (idx (zy.toL aj) ft).bind λcell=>
  (some (zy.setI aj ft (qI.mk al.Out (-1)))).bind λarr=>
  bif al.To !=(-1) then(
   (idx p_ al.To).bind λbj=>
   (idx (zy.toL arr) ft).bind λco=>
   (some (zy.setI arr ft (qI.mk co.e0 bj))).bind λarr1=>
   kA ft arr1)
  else(
   kA ft arr))
 else(
  some (.done aj))
def jJ (m_:z6)(p_:TB)(s_:Int):Option (zy (qI Int)) :=
 (idx m_.Rows s_).bind λap=>
 (loop (λs=>X8 p_ ap s.1 s.2) ((zy.mk (qI.mk 0 0) (qI.mk 0 0) (qI.mk 0 0) (qI.mk 0 0) (qI.mk 0 0) (qI.mk 0 0) (qI.mk 0 0) (qI.mk 0 0) (qI.mk 0 0) (qI.mk 0 0) (qI.mk 0 0) (qI.mk 0 0) (qI.mk 0 0) (qI.mk 0 0) (qI.mk 0 0) (qI.mk 0 0)),0)).bind λt2=>
 X9 t2
def kC (out:TB):Option TB :=
 some out
abbrev znR:Type:=Option (LR ((List (zL×Int))×TB×Int) TB)
def wQ (aj:TB)(gh:Int)(bj:Int)(r_:zy (qI Int))(jf:List (zL×Int)):znR :=
 (some ((WK jf (zL.mk bj r_)).getD 0)).bind λval=>
 (idx aj gh).bind λdn=>
 some (.next (jf,(aj.set gh.toNat val),w64 (gh+1)))
def kB (m_:z6)(p_:TB)(names:List (zL×Int))(aj:TB)(gh:Int):znR :=
 bif decide (gh<((p_.length:Nat):Int)) then(
  (idx p_ gh).bind λbj=>
  (jJ m_ p_ gh).bind λr_=>
  (some ((WK names (zL.mk bj r_)).getD 0)).bind λrh=>
  bif !((WK names (zL.mk bj r_)).isSome) then(
   wQ aj gh bj r_ (z1F names (zL.mk bj r_) ((names.length:Nat):Int)))
  else(
   wQ aj gh bj r_ names))
 else(
  some (.done aj))
def kD (m_:z6)(p_:TB):Option TB :=
 gd ((0:Int)<=((p_.length:Nat):Int)/\(((p_.length:Nat):Int):Int)<=4294967296) <|
 (loop (λs=>kB m_ p_ s.1 s.2.1 s.2.2) (([]:List (zL×Int)),(List.replicate ((p_.length:Nat):Int).toNat (0:Int)),0)).bind λt2=>
 kC t2
def vU:Option Bool :=
 some true
abbrev zms:Type:=Option (LR Int (Unit⊕Bool))
def w8 (s1:TB)(s2:TB)(fq:Int):zms :=
 bif decide (fq<((s1.length:Nat):Int)) then(
  (idx s1 fq).bind λpa=>
  (idx s2 fq).bind λnw=>
  bif pa !=nw then(
   some (.done (.inr false)))
  else(
   some (.next (w64 (fq+1)))))
 else(
  some (.done (.inl ())))
def w7 (s1:TB)(s2:TB):Option Bool :=
 bif ((s1.length:Nat):Int) !=((s2.length:Nat):Int) then(
  some false)
 else(
  (loop (λs=>w8 s1 s2 s) 0).bind λt2=>
  match t2 with
  |.inl p=>vU
  |.inr p=>some p)
def vW (x0:z6)(yy:σ->TB->Option (σ×Bool))(dw:σ)(p_:TB):Option (LR (σ×TB) σ) :=
 (yy dw p_).bind λyr=>
 bif yr.2 then(
  (kD x0 p_).bind λr_=>
  (w7 p_ r_).bind λai=>
  bif ai then(
   some (.done yr.1))
  else(
   some (.next (yr.1,r_))))
 else(
  some (.done yr.1))
def qY (x0:z6){σ:Type}(yy:σ->TB->Option (σ×Bool))(sg:σ):Option σ :=
 gd ((0:Int)<=((x0.Rows.length:Nat):Int)/\(((x0.Rows.length:Nat):Int):Int)<=4294967296) <|
 (loop (λs=>vW x0 yy s.1 s.2) (sg,(List.replicate ((x0.Rows.length:Nat):Int).toNat (0:Int)))).bind λt1=>
 some t1
def kE (p_:TB)(n_:Int):Option (TB×Int×Int) :=
 some (p_,n_,0)
def wR (nv:TB)(ca:Int)(kq:TB):Option (LR (TB×Int) Empty) :=
 some (.next (kq,w64 (ca+1)))
def kF (m_:z6):Option (TB×Int×Int) :=
 (yT m_).bind λr_=>
 bif r_ !=0 then(
  some (([]:TB),0,r_))
 else(
  (W7 m_).bind λai=>
  (qY ai (yOf (λs x=>wR s.1 s.2 x)) (.next (([]:TB),(-1)))).bind λt2=>
  match t2 with
  |.next (nv,ca)=>(
   kE nv ca)
  |.done z=>nomatch z)
def uN (m_:Int):Option Int :=
 some m_
def uM (x_:TB)(pb:Int)(i_:Int):R7_ :=
 bif decide (i_<((x_.length:Nat):Int)) then(
  (idx x_ i_).bind λl7=>
  some (.next ((mx pb l7),w64 (i_+1))))
 else(
  some (.done pb))
def uv (x_:TB):Option Int :=
 bif decide (((x_.length:Nat):Int)<1) then(
  none)
 else(
  (idx x_ 0).bind λmq=>
  (loop (λs=>uM x_ s.1 s.2) (mq,1)).bind λt2=>
  uN t2)
def Zv (x0:z6):Option Bool :=
 (kF x0).bind λr_=>
 (uv r_.1).bind λai=>
 some (ai==(w64 (((r_.1.length:Nat):Int)-1)))
def jj:Option Int :=
 some 0
def xV (m_:z6):Option Int :=
 (yT m_).bind λr_=>
 bif r_ !=0 then(
  some r_)
 else(
  (Xm m_).bind λai=>
  (Zx ai.1.2).bind λak=>
  bif !ak then(
   some ai.1.1)
  else(
   (Zw ai.2.1.2).bind λam=>
   bif !am then(
    some ai.2.1.1)
   else(
    (Zv ai.2.2.2).bind λaz=>
    bif !az then(
     some ai.2.2.1)
    else(
     jj))))
def Y2 (m_:z6)(bound:Int):Option Int :=
 (xV m_).bind λr_=>
 bif r_ !=0 then(
  some r_)
 else(
  bif decide (bound<((m_.Rows.length:Nat):Int)) then(
   some 1)
  else(
   bif decide (bound>(w64 (((m_.Rows.length:Nat):Int)+4))) then(
    some 1)
   else(
    some 0)))
def W2 (m_:z6)(from_:Int):Option (z6×Int) :=
 some (m_,from_)
def yY (jl:Int)(eu:List Bool)(nd:List zk):Option (LR (List Bool×List zk×Int) ((σ×List Bool×List zk))) :=
 some (.next (eu,nd,w64 (jl+1)))
def wo (cw:zk)(yr:σ×Bool)(ap:List z7)(gn:List Bool)(fx:List zk)(jl:Int):Option (LR (List Bool×List zk×Int) ((σ×List Bool×List zk))) :=
 bif decide (jl<((ap.length:Nat):Int)) then(
  (idx ap jl).bind λal=>
  bif al.To !=(-1) then(
   (idx gn al.To).bind λp7=>
   bif !p7 then(
    (idx gn al.To).bind λra=>
    gd (fx.length+[(zk.mk al.To cw.state_ jl)].length<=4294967296) <|
    yY jl (gn.set al.To.toNat true) (fx++[(zk.mk al.To cw.state_ jl)]))
   else(
    yY jl gn fx))
  else(
   yY jl gn fx))
 else(
  some (.done (yr.1,gn,fx)))
def vJ (x0:z6)(yy:σ->zk->Option (σ×Bool))(dw:σ)(kh:List Bool)(d8:List zk):Option (LR (σ×List Bool×List zk) σ) :=
 bif decide (((d8.length:Nat):Int)>0) then(
  (idx d8 0).bind λcw=>
  gd ((0:Int)<=1/\(1:Int)<=((d8.length:Nat):Int)) <|
  (yy dw cw).bind λyr=>
  bif !yr.2 then(
   some (.done yr.1))
  else(
   (idx x0.Rows cw.state_).bind λap=>
   (loop (λs=>wo cw yr ap s.1 s.2.1 s.2.2) (kh,(d8.drop (1:Int).toNat),0)).bind λt2=>
   some (.next t2)))
 else(
  some (.done dw))
def qW (x0:z6)(x1:Int){σ:Type}(yy:σ->zk->Option (σ×Bool))(sg:σ):Option σ :=
 gd ((0:Int)<=((x0.Rows.length:Nat):Int)/\(((x0.Rows.length:Nat):Int):Int)<=4294967296) <|
 (idx (List.replicate ((x0.Rows.length:Nat):Int).toNat false) x1).bind λmj=>
 (loop (λs=>vJ x0 yy s.1 s.2.1 s.2.2) (sg,((List.replicate ((x0.Rows.length:Nat):Int).toNat false).set x1.toNat true),([(zk.mk x1 (-1) (-1))]:List zk))).bind λt1=>
 some t1
def ya (s_:TB):Option TB :=
 gd (([]:TB).length+s_.length<=4294967296) <|
 some s_
def zQ (s_:TB):Option TB :=
 gd ((0:Int)<=0/\(0:Int)<=((s_.length:Nat):Int)/\(((s_.length:Nat):Int):Int)<=((s_.length:Nat):Int)/\(((s_.length:Nat):Int):Int)<=((s_.length:Nat):Int)) <|
 some ((s_.drop 0).take (((s_.length:Nat):Int).toNat-0))
def W1 (l_:TA)(is:List Bool):R9_ :=
 some (l_,is)
def wh (dr:TA)(ii:List Bool)(jn:zk):Option (LR (TA×List Bool) Empty) :=
 (idx ii jn.state_).bind λpq=>
 bif jn.from_ !=(-1) then(
  (idx dr jn.from_).bind λbi=>
  (ya bi).bind λai=>
  gd (ai.length+[jn.input_].length<=4294967296) <|
  (zQ (ai++[jn.input_])).bind λak=>
  (idx dr jn.state_).bind λew=>
  some (.next ((dr.set jn.state_.toNat ak),(ii.set jn.state_.toNat true))))
 else(
  some (.next (dr,(ii.set jn.state_.toNat true))))
def WO (m_:z6)(from_:Int):R9_ :=
 gd ((0:Int)<=((m_.Rows.length:Nat):Int)/\(((m_.Rows.length:Nat):Int):Int)<=4294967296) <|
 gd ((0:Int)<=((m_.Rows.length:Nat):Int)/\(((m_.Rows.length:Nat):Int):Int)<=4294967296) <|
 (W2 m_ from_).bind λr_=>
 (qW r_.1 r_.2 (yOf (λs x=>wh s.1 s.2 x)) (.next ((List.replicate ((m_.Rows.length:Nat):Int).toNat ([]:TB)),(List.replicate ((m_.Rows.length:Nat):Int).toNat false)))).bind λt2=>
 match t2 with
 |.next (dr,ii)=>(
  W1 dr ii)
 |.done z=>nomatch z
def XO (m_:z6):Option (TA×List Bool×Int) :=
 (yT m_).bind λr_=>
 bif r_ !=0 then(
  some (([]:TA),([]:List Bool),r_))
 else(
  (WO m_ 0).bind λai=>
  some (ai.1,ai.2,0))
def WN (c_:Int)(x1:Int):Option Bool :=
 bif decide (c_<0) then(
  some true)
 else(
  some (decide (c_>=x1)))
def uO:Option Int :=
 some (-1)
def xq (s_:TB)(f_:Int)(x8:Int):R3_ :=
 bif decide (x8<((s_.length:Nat):Int)) then(
  (idx s_ x8).bind λeb=>
  (WN eb f_).bind λr_=>
  bif r_ then(
   some (.done (.inr x8)))
  else(
   some (.next (w64 (x8+1)))))
 else(
  some (.done (.inl ())))
def vt (s_:TB)(f_:Int):Option Int :=
 (loop (λs=>xq s_ f_ s) 0).bind λt2=>
 match t2 with
 |.inl p=>uO
 |.inr p=>some p
def ww (s_:TB)(f_:Int):Option Bool :=
 (vt s_ f_).bind λr_=>
 some (decide (r_>=0))
def vI (w_:TB)(inputs:Int):Option Int :=
 bif decide (inputs>16) then(
  some 3)
 else(
  bif decide (((w_.length:Nat):Int)>256) then(
   some 3)
  else(
   bif decide (inputs<1) then(
    some 1)
   else(
    (ww w_ inputs).bind λr_=>
    bif r_ then(
     some 1)
    else(
     some 0))))
def QC:Option Int :=
 some 0
def ZH (l_:TA)(inputs:Int)(dy:Int):R3_ :=
 bif decide (dy<((l_.length:Nat):Int)) then(
  (idx l_ dy).bind λbi=>
  (vI bi inputs).bind λr_=>
  bif r_ !=0 then(
   some (.done (.inr r_)))
  else(
   some (.next (w64 (dy+1)))))
 else(
  some (.done (.inl ())))
def X2 (l_:TA)(inputs:Int):Option Int :=
 bif decide (inputs>16) then(
  some 3)
 else(
  bif decide (((l_.length:Nat):Int)>4096) then(
   some 3)
  else(
   bif decide (inputs<1) then(
    some 1)
   else(
    (loop (λs=>ZH l_ inputs s) 0).bind λt2=>
    match t2 with
    |.inl p=>QC
    |.inr p=>some p)))
abbrev zbC:Type:=Option TA
def xP (s_:TA):zbC :=
 gd (([]:TA).length+s_.length<=4294967296) <|
 some s_
def YK (x_:Int):Option Bool :=
 some (x_ !=x_)
def qb (x_:Int)(y_:Int):Option Int :=
 (YK x_).bind λr_=>
 (YK y_).bind λai=>
 bif r_ then(
  bif ai then(
   some 0)
  else(
   some (-1)))
 else(
  bif ai then(
   some 1)
  else(
   bif decide (x_<y_) then(
    some (-1))
   else(
    bif decide (x_>y_) then(
     some 1)
    else(
     some 0))))
def wZ (s1:TB)(s2:TB):Option Int :=
 bif decide (((s1.length:Nat):Int)<((s2.length:Nat):Int)) then(
  some (-1))
 else(
  some 0)
def xL (s1:TB)(s2:TB)(ig:Int):R3_ :=
 bif decide (ig<((s1.length:Nat):Int)) then(
  (idx s1 ig).bind λpa=>
  bif decide (ig>=((s2.length:Nat):Int)) then(
   some (.done (.inr 1)))
  else(
   (idx s2 ig).bind λnw=>
   (qb pa nw).bind λr_=>
   bif r_ !=0 then(
    some (.done (.inr r_)))
   else(
    some (.next (w64 (ig+1))))))
 else(
  some (.done (.inl ())))
def wC (s1:TB)(s2:TB):Option Int :=
 (loop (λs=>xL s1 s2 s) 0).bind λt2=>
 match t2 with
 |.inl p=>wZ s1 s2
 |.inr p=>some p
def Vq:Option Int :=
 some 0
def YL (vals:TB)(x8:Int):R3_ :=
 bif decide (x8<((vals.length:Nat):Int)) then(
  (idx vals x8).bind λpr=>
  bif pr !=0 then(
   some (.done (.inr pr)))
  else(
   some (.next (w64 (x8+1)))))
 else(
  some (.done (.inl ())))
def Qe (vals:TB):Option Int :=
 (loop (λs=>YL vals s) 0).bind λt2=>
 match t2 with
 |.inl p=>Vq
 |.inr p=>some p
def yx (a_:TB)(b_:TB):Option Int :=
 (qb ((a_.length:Nat):Int) ((b_.length:Nat):Int)).bind λr_=>
 (wC a_ b_).bind λai=>
 (Qe ([r_,ai])).bind λak=>
 some ak
def qK (a_:TB)(b_:TB):Option Bool :=
 (yx a_ b_).bind λr_=>
 some (r_==0)
def vG (s_:TA):zbC :=
 some s_
abbrev zmr:Type:=Option (LR Int (Unit⊕TA))
def xO (k_:Int):zmr :=
 some (.next (w64 (k_+1)))
def yd (bk:TA)(de:Int):zmr :=
 gd ((0:Int)<=de/\(de:Int)<=((bk.length:Nat):Int)) <|
 gd ((0:Int)<=de/\(de:Int)<=((bk.length:Nat):Int)) <|
 gd ((0:Int)<=de/\(de:Int)<=(((bk.take de.toNat++List.replicate (bk.length-de.toNat) []).length:Nat):Int)) <|
 some (.done (.inr ((bk.take de.toNat++List.replicate (bk.length-de.toNat) []).take de.toNat)))
abbrev zl4:Type:=Option (LR (TA×Int×Int) ((TA×Int)))
def yc (k2:Int)(ng:TA)(p8:Int):zl4 :=
 some (.next (ng,p8,w64 (k2+1)))
def yQ (k_:Int)(da:TA)(kj:Int)(k2:Int):zl4 :=
 bif decide (k2<((da.length-k_.toNat:Nat):Int)) then(
  gd ((0:Int)<=k_/\(0:Int)<=k2) <|
  (idx da (k_+k2)).bind λot=>
  gd ((0:Int)<=k_/\(0:Int)<=w64 (k2-1)) <|
  (idx da (k_+(w64 (k2-1)))).bind λou=>
  (qK ot ou).bind λai=>
  bif !ai then(
   gd ((0:Int)<=k_/\(0:Int)<=k2) <|
   (idx da (k_+k2)).bind λov=>
   (idx da kj).bind λr9=>
   yc k2 (da.set kj.toNat ov) (w64 (kj+1)))
  else(
   yc k2 da kj))
 else(
  some (.done (da,kj)))
def xN (s_:TA)(k_:Int):zmr :=
 bif decide (k_<((s_.length:Nat):Int)) then(
  (idx s_ k_).bind λeb=>
  (idx s_ (w64 (k_-1))).bind λnn=>
  (qK eb nn).bind λr_=>
  bif r_ then(
   gd ((0:Int)<=k_/\(k_:Int)<=((s_.length:Nat):Int)) <|
   (loop (λs=>yQ k_ s.1 s.2.1 s.2.2) (s_,k_,1)).bind λt5=>
   yd t5.1 t5.2)
  else(
   xO k_))
 else(
  some (.done (.inl ())))
def xw (s_:TA)(eq:Unit):zbC :=
 bif decide (((s_.length:Nat):Int)<2) then(
  some s_)
 else(
  (loop (λs=>xN s_ s) 1).bind λt2=>
  match t2 with
  |.inl p=>vG s_
  |.inr p=>some p)
def w9 (s_:TA):zbC :=
 some s_
def QB (n_:Int):Option Int :=
 some n_
def ZG (l_:TA)(ca:Int)(x7:Int):R7_ :=
 bif decide (x7<((l_.length:Nat):Int)) then(
  (idx l_ x7).bind λbi=>
  some (.next (w64 (ca+((bi.length:Nat):Int)),w64 (x7+1))))
 else(
  some (.done ca))
def YZ (l_:TA):Option Int :=
 (loop (λs=>ZG l_ s.1 s.2) (0,0)).bind λt2=>
 QB t2
abbrev z2j:Type:=Option (TA×Int)
def X1 (out:List (TB×Bool)):z2j :=
 gd (∀q∈out,q.2=true) <|
 some ((out.map (·.1)),0)
def wp (ak:TA)(ax:List (TB×Bool))(ga:Int):Option (LR ((List (TB×Bool))×Int) ((List (TB×Bool)))) :=
 bif decide (ga<((ak.length-(0:Int).toNat:Nat):Int)) then(
  gd ((0:Int)<=0/\(0:Int)<=ga) <|
  (idx ax (0+ga)).bind λdn=>
  (ya dn.1).bind λaz=>
  (zQ az).bind λbn=>
  (idx ax ga).bind λjr=>
  some (.next ((ax.set ga.toNat (bn,true)),w64 (ga+1))))
 else(
  some (.done ax))
def xA (l_:TA):z2j :=
 (xP l_).bind λr_=>
 (z9s (λx y=>yx x y) r_).bind λsorted=>
 (xw sorted ()).bind λai=>
 (w9 ai).bind λak=>
 bif decide (((ak.length:Nat):Int)>4096) then(
  some (([]:TA),3))
 else(
  (YZ ak).bind λam=>
  bif decide (am>65536) then(
   some (([]:TA),3))
  else(
   (loop (λs=>wp ak s.1 s.2) ((ak.map λq=>(q,false)),0)).bind λt2=>
   X1 t2))
def Zm (l_:TA)(inputs:Int):z2j :=
 (X2 l_ inputs).bind λr_=>
 bif r_ !=0 then(
  some (([]:TA),r_))
 else(
  (xA l_).bind λai=>
  some (ai.1,ai.2))
def qH (m_:z6):z2j :=
 (wT m_).bind λr_=>
 bif r_.2 !=0 then(
  some (([]:TA),r_.2))
 else(
  bif !r_.1 then(
   some (([]:TA),11))
  else(
   (XO m_).bind λai=>
   bif ai.2.2 !=0 then(
    some (([]:TA),ai.2.2))
   else(
    (Zm ai.1 m_.Inputs).bind λak=>
    some (ak.1,ak.2))))
abbrev zkH:Type:=Option (LR (TA×TA×Int×Int) ((TA×Int)))
def Un (k_:Int)(aj:TA)(cq:TA)(ca:Int)(ri:Int)(nh:Bool)(oz:Bool):zkH :=
 some (.next (aj,cq,ca,w64 (k_+1)))
def Um (k_:Int)(ax:TA)(cd:Int)(il:Bool)(next:TA):zkH :=
 Un k_ ax next cd cd (decide (cd>65536)) il
abbrev zmq:Type:=Option (LR (TA×Int) TA)
def Ul (lc:Int)(ff:TA):zmq :=
 some (.next (ff,w64 (lc+1)))
def uF (inputs:Int)(a8:TB)(cb:TA)(ld:Int):zmq :=
 bif decide (ld<inputs) then(
  (zQ a8).bind λai=>
  gd (ai.length+[ld].length<=4294967296) <|
  gd (cb.length+[(ai++[ld])].length<=4294967296) <|
  some (.next ((cb++[(ai++[ld])]),w64 (ld+1))))
 else(
  some (.done cb))
def uG (inputs:Int)(ay:TA)(cr:TA)(lc:Int):zmq :=
 bif decide (lc<((ay.length:Nat):Int)) then(
  (idx ay lc).bind λa8=>
  (loop (λs=>uF inputs a8 s.1 s.2) (cr,0)).bind λt8=>
  Ul lc t8)
 else(
  some (.done cr))
def ZU (inputs:Int)(to:Int)(ay:TA)(k_:Int)(ax:TA)(cd:Int)(il:Bool):zkH :=
 bif k_==to then(
  (xA ax).bind λr_=>
  some (.done (r_.1,r_.2)))
 else(
  (loop (λs=>uG inputs ay s.1 s.2) (([]:TA),0)).bind λt6=>
  Um k_ ax cd il t6)
def ZV (inputs:Int)(to:Int)(ay:TA)(k_:Int)(ax:TA)(cd:Int):zkH :=
 bif decide (((ax.length:Nat):Int)>4096) then(
  some (.done (([]:TA),3)))
 else(
  bif decide (cd>65536) then(
   some (.done (([]:TA),3)))
  else(
   bif decide (k_<to) then(
    bif decide ((w64 (((ay.length:Nat):Int)*inputs))>4096) then(
     some (.done (([]:TA),3)))
    else(
     ZU inputs to ay k_ ax cd (decide ((w64 (((ay.length:Nat):Int)*inputs))>4096))))
   else(
    ZU inputs to ay k_ ax cd false)))
def jF (inputs:Int)(from_:Int)(to:Int)(out:TA)(ay:TA)(n_:Int)(k_:Int):zkH :=
 bif decide (k_>=from_) then(
  gd (out.length+ay.length<=4294967296) <|
  ZV inputs to ay k_ (out++ay) (w64 (n_+(w64 (k_*((ay.length:Nat):Int))))))
 else(
  ZV inputs to ay k_ out n_)
def Wo (inputs:Int)(from_:Int)(to:Int):z2j :=
 bif decide (inputs>16) then(
  some (([]:TA),3))
 else(
  bif decide (inputs<1) then(
   some (([]:TA),1))
  else(
   bif decide (to<0) then(
    some (([]:TA),1))
   else(
    bif decide (to>256) then(
     some (([]:TA),3))
    else(
     (loop (λs=>jF inputs from_ to s.1 s.2.1 s.2.2.1 s.2.2.2) (([]:TA),([[]]:TA),0,0)).bind λt1=>
     some t1))))
def Wp (inputs:Int)(k_:Int):z2j :=
 (Wo inputs 0 k_).bind λr_=>
 some (r_.1,r_.2)
def W5:Option Bool :=
 some true
def ZI (l_:TA)(i_:Int):zms :=
 bif decide (i_<((l_.length:Nat):Int)) then(
  (idx l_ (w64 (i_-1))).bind λbi=>
  (idx l_ i_).bind λew=>
  (yx bi ew).bind λr_=>
  bif decide (r_>=0) then(
   some (.done (.inr false)))
  else(
   some (.next (w64 (i_+1)))))
 else(
  some (.done (.inl ())))
def WT (l_:TA):Option Bool :=
 (loop (λs=>ZI l_ s) 1).bind λt2=>
 match t2 with
 |.inl p=>W5
 |.inr p=>some p
def j8 (l_:TA)(inputs:Int):Option Int :=
 (X2 l_ inputs).bind λr_=>
 bif r_ !=0 then(
  some r_)
 else(
  (WT l_).bind λai=>
  bif !ai then(
   some 1)
  else(
   (YZ l_).bind λak=>
   bif decide (ak>65536) then(
    some 3)
   else(
    some 0)))
def WR:Option Int :=
 some 0
def Yw (inputs:Int)(l_:List TA)(gi:Int):R3_ :=
 bif decide (gi<((l_.length:Nat):Int)) then(
  (idx l_ gi).bind λbi=>
  (j8 bi inputs).bind λr_=>
  bif r_ !=0 then(
   some (.done (.inr r_)))
  else(
   some (.next (w64 (gi+1)))))
 else(
  some (.done (.inl ())))
def Wn (inputs:Int)(l_:List TA):Option Int :=
 (loop (λs=>Yw inputs l_ s) 0).bind λt2=>
 match t2 with
 |.inl p=>WR
 |.inr p=>some p
def KT (b_:TB):Option (List UInt8) :=
 some (u8s b_)
def jE (w_:TB)(kw:TB)(ig:Int):R1_ :=
 bif decide (ig<((w_.length:Nat):Int)) then(
  (idx w_ ig).bind λfc=>
  (idx kw ig).bind λdx=>
  some (.next ((kw.set ig.toNat (IntKind.u8.wrap (fc))),w64 (ig+1))))
 else(
  some (.done kw))
def Jw (w_:TB):Option (List UInt8) :=
 gd ((0:Int)<=((w_.length:Nat):Int)/\(((w_.length:Nat):Int):Int)<=4294967296) <|
 (loop (λs=>jE w_ s.1 s.2) ((List.replicate ((w_.length:Nat):Int).toNat (0:Int)),0)).bind λt2=>
 KT t2
def jU (out:TA):z2j :=
 (xA out).bind λai=>
 some (ai.1,ai.2)
abbrev znQ:Type:=Option (LR ((List ((List UInt8)×Bool))×Int×TA×Int) (TA⊕(TA×Int)))
def jT (fg:Int)(gn:List ((List UInt8)×Bool))(ca:Int)(ax:TA):znQ :=
 some (.next (gn,ca,ax,w64 (fg+1)))
abbrev znP:Type:=Option (LR ((List ((List UInt8)×Bool))×Int×TA×Int) (((List ((List UInt8)×Bool))×Int×TA)⊕(TA×Int)))
def uH (ib:Int)(oc:List ((List UInt8)×Bool))(lf:Int)(gx:TA):znP :=
 bif decide (((gx.length:Nat):Int)>4096) then(
  some (.done (.inr (([]:TA),3))))
 else(
  bif decide (lf>65536) then(
   some (.done (.inr (([]:TA),3))))
  else(
   some (.next (oc,lf,gx,w64 (ib+1)))))
def jS (b_:TA)(dv:TB)(eu:List ((List UInt8)×Bool))(cd:Int)(bo:TA)(ib:Int):znP :=
 bif decide (ib<((b_.length:Nat):Int)) then(
  (idx b_ ib).bind λdx=>
  (zQ dv).bind λak=>
  gd (ak.length+dx.length<=4294967296) <|
  bif decide ((((ak++dx).length:Nat):Int)>256) then(
   some (.done (.inr (([]:TA),3))))
  else(
   (Jw (ak++dx)).bind λam=>
   (some ((WK eu am).getD false)).bind λval=>
   bif !val then(
    gd (bo.length+[(ak++dx)].length<=4294967296) <|
    uH ib (z1F eu am true) (w64 (cd+(((ak++dx).length:Nat):Int))) (bo++[(ak++dx)]))
   else(
    uH ib eu cd bo)))
 else(
  some (.done (.inl (eu,cd,bo))))
def X3 (a_:TA)(b_:TA)(kh:List ((List UInt8)×Bool))(n_:Int)(aj:TA)(fg:Int):znQ :=
 bif decide (fg<((a_.length:Nat):Int)) then(
  (idx a_ fg).bind λdv=>
  (loop (λs=>jS b_ dv s.1 s.2.1 s.2.2.1 s.2.2.2) (kh,n_,aj,0)).bind λt4=>
  match t4 with
  |.inl p=>jT fg p.1 p.2.1 p.2.2
  |.inr p=>some (.done (.inr p)))
 else(
  some (.done (.inl aj)))
def ZW (a_:TA)(b_:TA)(inputs:Int):z2j :=
 (Wn inputs ([a_,b_])).bind λr_=>
 bif r_ !=0 then(
  some (([]:TA),r_))
 else(
  (loop (λs=>X3 a_ b_ s.1 s.2.1 s.2.2.1 s.2.2.2) (([]:List ((List UInt8)×Bool)),0,([]:TA),0)).bind λt2=>
  match t2 with
  |.inl p=>jU p
  |.inr p=>some p)
def Z7 (m_:z6)(k_:Int):z2j :=
 (qH m_).bind λr_=>
 bif r_.2 !=0 then(
  some (([]:TA),r_.2))
 else(
  bif decide (k_<0) then(
   some (([]:TA),1))
  else(
   (Wp m_.Inputs k_).bind λai=>
   bif ai.2 !=0 then(
    some (([]:TA),ai.2))
   else(
    (ZW r_.1 ai.1 m_.Inputs).bind λak=>
    some (ak.1,ak.2))))
def wV (m_:z6):z2j :=
 (Z7 m_ 1).bind λr_=>
 some (r_.1,r_.2)
def Y8 (n_:Int):Option Int :=
 some n_
def ZB (x6:Int)(js:σ):Option (LR (σ×Int) σ) :=
 some (.next (js,w64 (x6+1)))
def qD (x0:Int)(yy:σ->(Int×Int)->Option (σ×Bool))(x6:Int)(gg:σ)(b_:Int):Option (LR (σ×Int) (σ⊕σ)) :=
 bif decide (b_<x0) then(
  (yy gg (x6,b_)).bind λyr=>
  bif !yr.2 then(
   some (.done (.inr yr.1)))
  else(
   some (.next (yr.1,w64 (b_+1)))))
 else(
  some (.done (.inl gg)))
def ZA (x0:Int)(yy:σ->(Int×Int)->Option (σ×Bool))(dw:σ)(x6:Int):Option (LR (σ×Int) σ) :=
 bif decide (x6<x0) then(
  (loop (λs=>qD x0 yy x6 s.1 s.2) (dw,w64 (x6+1))).bind λt3=>
  match t3 with
  |.inl p=>ZB x6 p
  |.inr p=>some (.done p))
 else(
  some (.done dw))
def v8 (x0:Int){σ:Type}(yy:σ->(Int×Int)->Option (σ×Bool))(sg:σ):Option σ :=
 (loop (λs=>ZA x0 yy s.1 s.2) (sg,0)).bind λt1=>
 some t1
def UK (a_:Int)(b_:Int):Option Bool :=
 some true
def ZJ (s_:Int)(x1:z6):Option Bool :=
 bif decide (s_<0) then(
  some true)
 else(
  some (decide (s_>=((x1.Rows.length:Nat):Int))))
def vq:Option Int :=
 some (-1)
def yz (s_:TB)(f_:z6)(x8:Int):R3_ :=
 bif decide (x8<((s_.length:Nat):Int)) then(
  (idx s_ x8).bind λeb=>
  (ZJ eb f_).bind λr_=>
  bif r_ then(
   some (.done (.inr x8)))
  else(
   some (.next (w64 (x8+1)))))
 else(
  some (.done (.inl ())))
def xg (s_:TB)(f_:z6):Option Int :=
 (loop (λs=>yz s_ f_ s) 0).bind λt2=>
 match t2 with
 |.inl p=>vq
 |.inr p=>some p
def xI (s_:TB)(f_:z6):Option Bool :=
 (xg s_ f_).bind λr_=>
 some (decide (r_>=0))
def XQ (m_:z6)(l_:TB):Option Int :=
 (yT m_).bind λr_=>
 bif r_ !=0 then(
  some r_)
 else(
  (xI l_ m_).bind λai=>
  bif ai then(
   some 1)
  else(
   some 0))
def Us (m_:z6):Option z6 :=
 some m_
def Zs (x8:Int)(js:σ):Option (LR (σ×Int) σ) :=
 some (.next (js,w64 (x8+1)))
def qo (x0:z6)(yy:σ->(Int×Int)->Option (σ×Bool))(x8:Int)(gg:σ)(t_:Int):Option (LR (σ×Int) (σ⊕σ)) :=
 bif decide (t_<((x0.Rows.length:Nat):Int)) then(
  (yy gg (x8,t_)).bind λyr=>
  bif !yr.2 then(
   some (.done (.inr yr.1)))
  else(
   some (.next (yr.1,w64 (t_+1)))))
 else(
  some (.done (.inl gg)))
def Zr (x0:z6)(yy:σ->(Int×Int)->Option (σ×Bool))(dw:σ)(x8:Int):Option (LR (σ×Int) σ) :=
 bif decide (x8<((x0.Rows.length:Nat):Int)) then(
  (loop (λs=>qo x0 yy x8 s.1 s.2) (dw,w64 (x8+1))).bind λt3=>
  match t3 with
  |.inl p=>Zs x8 p
  |.inr p=>some (.done p))
 else(
  some (.done dw))
def uj (x0:z6){σ:Type}(yy:σ->(Int×Int)->Option (σ×Bool))(sg:σ):Option σ :=
 (loop (λs=>Zr x0 yy s.1 s.2) (sg,0)).bind λt1=>
 some t1
def xu (l:TB)(n:Int):Option TB:=bif l.isEmpty&&(decide (0<n)&&decide (n<=1000000)) then some [] else none
def vu (mr:TB):Option TB :=
 some mr
def zT (slices:TA)(iu:TB)(pc:Int):R1_ :=
 bif decide (pc<((slices.length:Nat):Int)) then(
  (idx slices pc).bind λlu=>
  gd (iu.length+lu.length<=4294967296) <|
  some (.next ((iu++lu),w64 (pc+1))))
 else(
  some (.done iu))
def vw (slices:TA)(size:Int):Option TB :=
 (xu [] size).bind λr_=>
 (loop (λs=>zT slices s.1 s.2) (r_,0)).bind λt3=>
 vu t3
def zS (slices:TA)(l8:Int)(ig:Int):R7_ :=
 bif decide (ig<((slices.length:Nat):Int)) then(
  (idx slices ig).bind λly=>
  bif decide ((w64 (l8+((ly.length:Nat):Int)))<0) then(
   none)
  else(
   some (.next (w64 (l8+((ly.length:Nat):Int)),w64 (ig+1)))))
 else(
  some (.done l8))
def wO (slices:TA):Option TB :=
 (loop (λs=>zS slices s.1 s.2) (0,0)).bind λt4=>
 vw slices t4
abbrev znO:Type:=Option (TB×ArN 64 (ArN 64 TB))
def vg (n_:Int)(f_:ArN 64 (ArN 64 TB))(out:TB):znO :=
 bif ((out.length:Nat):Int) !=n_ then(
  some ([],f_))
 else(
  (zQ out).bind λr_=>
  gd (r_≠[]) <|
  some (r_,f_))
def xy (i7:Int):Option (LR Int TB) :=
 some (.next (w64 (i7+1)))
def xY (m_:z6)(t_:Int)(n_:Int)(f_:ArN 64 (ArN 64 TB))(ap:List z7)(i7:Int):Option (LR Int TB) :=
 bif decide (i7<((ap.length:Nat):Int)) then(
  (idx ap i7).bind λal=>
  (idx m_.Rows t_).bind λdu=>
  (idx du i7).bind λbp=>
  bif al.Out !=bp.Out then(
   some (.done [i7]))
  else(
   bif decide (n_>1) then(
    bif al.To !=(-1) then(
     (idx (f_.l) al.To).bind λcell=>
     (idx (cell.l) bp.To).bind λco=>
     bif ((co.length:Nat):Int)==(w64 (n_-1)) then(
      (idx (f_.l) al.To).bind λiv=>
      (idx (iv.l) bp.To).bind λd9=>
      (wO ([[i7],d9])).bind λai=>
      some (.done ai))
     else(
      xy i7))
    else(
     xy i7))
   else(
    xy i7)))
 else(
  some (.done ([]:TB)))
def vo (m_:z6)(s_:Int)(t_:Int)(n_:Int)(f_:ArN 64 (ArN 64 TB)):znO :=
 (idx m_.Rows s_).bind λap=>
 (loop (λs=>xY m_ t_ n_ f_ ap s) 0).bind λt2=>
 vg n_ f_ t2
abbrev zmp:Type:=Option (ArN 64 (ArN 64 TB))
def uc (s_:Int)(t_:Int)(w_:TB)(f_:ArN 64 (ArN 64 TB)):zmp :=
 (idx (f_.l) s_).bind λcell=>
 (idx (cell.l) t_).bind λco=>
 (some (ArN.setI cell t_ w_)).bind λarr=>
 (some (ArN.setI f_ s_ arr)).bind λarr1=>
 (idx (arr1.l) t_).bind λiv=>
 (idx (iv.l) s_).bind λd9=>
 (some (ArN.setI iv s_ w_)).bind λarr2=>
 (some (ArN.setI arr1 t_ arr2)).bind λpt=>
 some pt
def vT (f_:ArN 64 (ArN 64 TB)):zmp :=
 some f_
abbrev zl3:Type:=Option (LR (ArN 64 (ArN 64 TB)×Int) (ArN 64 (ArN 64 TB)))
def vS (n_:Int)(ni:ArN 64 (ArN 64 TB)):zl3 :=
 some (.next (ni,w64 (n_+1)))
def wv (now:List zX)(od:ArN 64 (ArN 64 TB))(pd:Int):zl3 :=
 bif decide (pd<((now.length:Nat):Int)) then(
  (idx now pd).bind λic=>
  (uc ic.S ic.T ic.Word od).bind λr_=>
  some (.next (r_,w64 (pd+1))))
 else(
  some (.done od))
def vR (n_:Int)(p9:ArN 64 (ArN 64 TB))(now:List zX):zl3 :=
 (loop (λs=>wv now s.1 s.2) (p9,0)).bind λt5=>
 vS n_ t5
def yZ (m_:z6)(n_:Int)(j9:ArN 64 (ArN 64 TB))(jk:List zX)(kx:Int)(ga:Int):Option (LR (ArN 64 (ArN 64 TB)×List zX) Empty) :=
 (idx (j9.l) kx).bind λcell=>
 (idx (cell.l) ga).bind λco=>
 bif !co.isEmpty then(
  some (.next (j9,jk)))
 else(
  (vo m_ kx ga n_ j9).bind λak=>
  bif !ak.1.isEmpty then(
   gd (jk.length+[(zX.mk kx ga ak.1 false)].length<=4294967296) <|
   some (.next (ak.2,(jk++[(zX.mk kx ga ak.1 false)]))))
  else(
   some (.next (ak.2,jk))))
def vQ (m_:z6)(ky:ArN 64 (ArN 64 TB))(n_:Int):zl3 :=
 bif decide (n_<(mx ((m_.Rows.length:Nat):Int) 2)) then(
  (Us m_).bind λai=>
  (uj ai (yOf (λs x=>yZ m_ n_ s.1 s.2 x.1 x.2)) (.next (ky,([]:List zX)))).bind λt6=>
  match t6 with
  |.next (j9,jk)=>(
   vR n_ j9 jk)
  |.done z=>nomatch z)
 else(
  some (.done ky))
def ub (m_:z6):zmp :=
 (loop (λs=>vQ m_ s.1 s.2) ((ArN.rep 64 (ArN.rep 64 ([]:TB))),1)).bind λt2=>
 vT t2
def uL (m_:z6)(s_:Int)(t_:Int):Option (TB×Bool×Int) :=
 (XQ m_ ([s_,t_])).bind λr_=>
 bif r_ !=0 then(
  some (([]:TB),false,r_))
 else(
  (ub m_).bind λai=>
  (idx (ai.l) s_).bind λcell=>
  (idx (cell.l) t_).bind λco=>
  (ya co).bind λak=>
  (zQ ak).bind λam=>
  some (am,decide (((am.length:Nat):Int)>0),0))
def kV (m_:z6)(x5:Int)(out:TA):z2j :=
 (Zm out m_.Inputs).bind λr_=>
 some (r_.1,r_.2)
abbrev znN:Type:=Option (LR (Int×TA) ((Int×TA)))
def vC (m_:z6)(ge:Int)(aj:TA)(ft:Int)(ba:Int):znN :=
 (UK ft ba).bind λak=>
 bif !ak then(
  some (.next (ge,aj)))
 else(
  (uL m_ ft ba).bind λam=>
  bif am.2.2 !=0 then(
   some (.done (am.2.2,aj)))
  else(
   gd (aj.length+[am.1].length<=4294967296) <|
   some (.next (ge,(aj++[am.1])))))
def XX (m_:z6)(is:Unit):z2j :=
 (Y8 ((m_.Rows.length:Nat):Int)).bind λai=>
 (v8 ai (yOf (λs x=>vC m_ s.1 s.2 x.1 x.2)) (.next (0,([]:TA)))).bind λt2=>
 match t2 with
 |.next (ge,aj)=>(
  kV m_ ge aj)
 |.done (ge,aj)=>(
  some (([]:TA),ge))
def Qd (m_:z6):z2j :=
 (xV m_).bind λr_=>
 bif r_ !=0 then(
  some (([]:TA),r_))
 else(
  (XX m_ ()).bind λai=>
  some (ai.1,ai.2))
def WU (inputs:Int)(k_:Int):z2j :=
 (Wo inputs k_ k_).bind λr_=>
 some (r_.1,r_.2)
def X4 (l_:TA):zbC :=
 bif ((l_.length:Nat):Int)==0 then(
  some ([[]]:TA))
 else(
  some l_)
def Vl (a_:Int)(b_:Int)(x2:Int):Option Bool :=
 bif a_==x2 then(
  some true)
 else(
  some (b_==x2))
def u7 (m_:z6)(x5:Int)(out:TA):z2j :=
 (Zm out m_.Inputs).bind λr_=>
 some (r_.1,r_.2)
def yu (m_:z6)(is:Int)(ge:Int)(aj:TA)(ft:Int)(ba:Int):znN :=
 (Vl ft ba is).bind λak=>
 bif !ak then(
  some (.next (ge,aj)))
 else(
  (uL m_ ft ba).bind λam=>
  bif am.2.2 !=0 then(
   some (.done (am.2.2,aj)))
  else(
   gd (aj.length+[am.1].length<=4294967296) <|
   some (.next (ge,(aj++[am.1])))))
def ui (m_:z6)(is:Int):z2j :=
 (Y8 ((m_.Rows.length:Nat):Int)).bind λai=>
 (v8 ai (yOf (λs x=>yu m_ is s.1 s.2 x.1 x.2)) (.next (0,([]:TA)))).bind λt2=>
 match t2 with
 |.next (ge,aj)=>(
  u7 m_ ge aj)
 |.done (ge,aj)=>(
  some (([]:TA),ge))
def JU (m_:z6)(s_:Int):z2j :=
 (xV m_).bind λr_=>
 bif r_ !=0 then(
  some (([]:TA),r_))
 else(
  bif decide (s_<0) then(
   some (([]:TA),1))
  else(
   bif decide (s_>=((m_.Rows.length:Nat):Int)) then(
    some (([]:TA),1))
   else(
    (ui m_ s_).bind λai=>
    some (ai.1,ai.2))))
abbrev zmo:Type:=Option (Option zD×Int)
def Wr (m_:z6)(r_:TA×Int)(ai:TA×Int)(am:TA×Int)(az:TA×Int)(bn:TA)(lh:List TA):zmo :=
 some ((some (zD.mk m_ r_.1 ai.1 bn lh am.1 az.1)),0)
def xH (m_:z6)(j4:List TA)(oe:Int):Option (LR (List TA×Int) (List TA⊕(Option zD×Int))) :=
 bif decide (oe<((m_.Rows.length:Nat):Int)) then(
  (JU m_ oe).bind λcx=>
  bif cx.2 !=0 then(
   some (.done (.inr ((none:Option zD),cx.2))))
  else(
   (X4 cx.1).bind λgb=>
   gd (j4.length+[gb].length<=4294967296) <|
   some (.next ((j4++[gb]),w64 (oe+1)))))
 else(
  some (.done (.inl j4)))
def Zo (m_:z6)(r_:TA×Int)(ai:TA×Int)(ak:TA×Int)(am:TA×Int)(az:TA×Int):zmo :=
 (X4 ak.1).bind λbn=>
 (loop (λs=>xH m_ s.1 s.2) (([]:List TA),0)).bind λt3=>
 match t3 with
 |.inl p=>Wr m_ r_ ai am az bn p
 |.inr p=>some p
def qL (m_:z6)(bound:Int):zmo :=
 (qH m_).bind λr_=>
 (wV m_).bind λai=>
 (Qd m_).bind λak=>
 (Wp m_.Inputs (w64 (bound-((m_.Rows.length:Nat):Int)))).bind λam=>
 (WU m_.Inputs (w64 (bound-((m_.Rows.length:Nat):Int)))).bind λaz=>
 bif r_.2 !=0 then(
  some ((none:Option zD),r_.2))
 else(
  bif ai.2 !=0 then(
   some ((none:Option zD),ai.2))
  else(
   bif ak.2 !=0 then(
    some ((none:Option zD),ak.2))
   else(
    bif am.2 !=0 then(
     some ((none:Option zD),am.2))
    else(
     bif az.2 !=0 then(
      some ((none:Option zD),az.2))
     else(
      Zo m_ r_ ai ak am az)))))
abbrev zhZ:Type:=Option (zb×Bool)
def Zq (b_:zb)(br:List (zy Int))(cp:Int):zhZ :=
 bif decide (cp>b_.most_) then(
  some (b_,true))
 else(
  some ((zb.mk br cp b_.most_),false))
abbrev znM:Type:=Option (LR (List (zy Int)×Int×Int×Bool×Int) ((List (zy Int)×Int)))
def Zp (fq:Int)(bm:List (zy Int))(ce:Int)(ia:Int)(nj:Bool):znM :=
 some (.next (bm,ce,ia,nj,w64 (fq+1)))
abbrev zmn:Type:=Option (LR (List (zy Int)×Int×Int×Bool×Int) ((List (zy Int)×Int×Int×Bool)))
def vn (dy:Int)(ct:List (zy Int))(cg:Int)(nk:Bool)(next:Int):zmn :=
 some (.next (ct,cg,next,nk,w64 (dy+1)))
def yl (aq:List (zy Int))(gc:Int)(dy:Int)(dt:Int)(eg:Int):zmn :=
 (idx aq gc).bind λiw=>
 (idx (zy.toL iw) dt).bind λco=>
 (some (zy.setI iw dt (IntKind.i32.wrap (((aq.length:Nat):Int))))).bind λarr=>
 gd ((aq.set gc.toNat arr).length+([(zy.mk 0 0 0 0 0 0 0 0 0 0 0 0 0 0 0 0)]:List (zy Int)).length<=4294967296) <|
 vn dy ((aq.set gc.toNat arr)++([(zy.mk 0 0 0 0 0 0 0 0 0 0 0 0 0 0 0 0)]:List (zy Int))) eg true (IntKind.i32.wrap (((aq.length:Nat):Int)))
def vj (fl:TB)(aq:List (zy Int))(bc:Int)(gc:Int)(ka:Bool)(dy:Int):zmn :=
 bif decide (dy<((fl.length:Nat):Int)) then(
  (idx fl dy).bind λdt=>
  (idx aq gc).bind λje=>
  (idx (zy.toL je) dt).bind λcell=>
  bif cell==0 then(
   bif !ka then(
    bif gc==0 then(
     bif ((aq.length:Nat):Int)==1 then(
      yl aq gc dy dt (w64 (bc+1)))
     else(
      (idx aq gc).bind λdp=>
      bif !((dp.e0==0)&&((dp.e1==0)&&((dp.e2==0)&&((dp.e3==0)&&((dp.e4==0)&&((dp.e5==0)&&((dp.e6==0)&&((dp.e7==0)&&((dp.e8==0)&&((dp.e9==0)&&((dp.e10==0)&&((dp.e11==0)&&((dp.e12==0)&&((dp.e13==0)&&((dp.e14==0)&&((dp.e15==0)&&true)))))))))))))))) then(
       yl aq gc dy dt (w64 (bc+1)))
      else(
       yl aq gc dy dt bc)))
    else(
     (idx aq gc).bind λem=>
     bif !((em.e0==0)&&((em.e1==0)&&((em.e2==0)&&((em.e3==0)&&((em.e4==0)&&((em.e5==0)&&((em.e6==0)&&((em.e7==0)&&((em.e8==0)&&((em.e9==0)&&((em.e10==0)&&((em.e11==0)&&((em.e12==0)&&((em.e13==0)&&((em.e14==0)&&((em.e15==0)&&true)))))))))))))))) then(
      yl aq gc dy dt (w64 (bc+1)))
     else(
      yl aq gc dy dt bc)))
   else(
    yl aq gc dy dt bc))
  else(
   vn dy aq bc ka cell))
 else(
  some (.done (aq,bc,gc,ka)))
def Ws (parts:TA)(bh:List (zy Int))(cj:Int)(at_:Int)(nq:Bool)(fq:Int):znM :=
 bif decide (fq<((parts.length:Nat):Int)) then(
  (idx parts fq).bind λfl=>
  (loop (λs=>vj fl s.1 s.2.1 s.2.2.1 s.2.2.2.1 s.2.2.2.2) (bh,cj,at_,nq,0)).bind λt4=>
  Zp fq t4.1 t4.2.1 t4.2.2.1 t4.2.2.2)
 else(
  some (.done (bh,cj)))
def xm (parts:TA)(b_:zb):zhZ :=
 (loop (λs=>Ws parts s.1 s.2.1 s.2.2.1 s.2.2.2.1 s.2.2.2.2) (b_.nodes_,b_.leaves_,0,false,0)).bind λt2=>
 Zq b_ t2.1 t2.2
abbrev zhY:Type:=Option (LR (List (zy Int)×Int×Int×Int) ((zb×Bool)))
def Y1 (ba:Int)(bh:List (zy Int))(cj:Int)(fh:Int):zhY :=
 some (.next (bh,cj,fh,w64 (ba+1)))
abbrev z8q:Type:=Option (LR (List (zy Int)×Int×Int×Int) ((List (zy Int)×Int×Int)⊕(zb×Bool)))
def Y0 (gk:Int)(aq:List (zy Int))(bc:Int)(fj:Int):z8q :=
 some (.next (aq,bc,fj,w64 (gk+1)))
def ZX (x_:zD)(b_:zb)(bj:TB)(a6:TB)(ct:List (zy Int))(cg:Int)(dz:Int)(ib:Int):z8q :=
 bif decide (ib<((x_.all_.length:Nat):Int)) then(
  (idx x_.all_ ib).bind λfy=>
  (xm [bj,a6,fy] (zb.mk ct cg dz)).bind λr_=>
  bif r_.2 then(
   some (.done (.inr (b_,true))))
  else(
   some (.next (r_.1.nodes_,r_.1.leaves_,r_.1.most_,w64 (ib+1)))))
 else(
  some (.done (.inl (ct,cg,dz))))
def ZY (x_:zD)(b_:zb)(bj:TB)(bm:List (zy Int))(ce:Int)(d0:Int)(gk:Int):z8q :=
 bif decide (gk<((x_.short_.length:Nat):Int)) then(
  (idx x_.short_ gk).bind λa6=>
  (loop (λs=>ZX x_ b_ bj a6 s.1 s.2.1 s.2.2.1 s.2.2.2) (bm,ce,d0,0)).bind λt5=>
  match t5 with
  |.inl p=>Y0 gk p.1 p.2.1 p.2.2
  |.inr p=>some (.done (.inr p)))
 else(
  some (.done (.inl (bm,ce,d0))))
def ZZ (x_:zD)(b_:zb)(br:List (zy Int))(cp:Int)(fm:Int)(ba:Int):zhY :=
 bif decide (ba<((x_.p_.length:Nat):Int)) then(
  (idx x_.p_ ba).bind λbj=>
  (loop (λs=>ZY x_ b_ bj s.1 s.2.1 s.2.2.1 s.2.2.2) (br,cp,fm,0)).bind λt3=>
  match t3 with
  |.inl p=>Y1 ba p.1 p.2.1 p.2.2
  |.inr p=>some (.done p))
 else(
  some (.done ((zb.mk br cp fm),false)))
def wN (x0:UR)(x_:zD)(b_:zb):zhZ :=
 (loop (λs=>ZZ x_ b_ s.1 s.2.1 s.2.2.1 s.2.2.2) (b_.nodes_,b_.leaves_,b_.most_,0)).bind λt1=>
 some t1
def yp (x_:TA)(target:TB)(i_:Int):Option (Int×Bool) :=
 bif decide (i_<((x_.length:Nat):Int)) then(
  (idx x_ i_).bind λmq=>
  (yx mq target).bind λr_=>
  some (i_,r_==0))
 else(
  some (i_,false))
def yn (x_:TA)(target:TB)(fk:Int)(j_:Int):R7_ :=
 bif decide (fk<j_) then(
  (idx x_ (w64 (Int.fdiv (IntKind.u64.wrap (w64 (fk+j_))) (2^1)))).bind λl7=>
  (yx l7 target).bind λai=>
  bif decide (ai<0) then(
   some (.next (w64 ((w64 (Int.fdiv (IntKind.u64.wrap (w64 (fk+j_))) (2^1)))+1),j_)))
  else(
   some (.next (fk,w64 (Int.fdiv (IntKind.u64.wrap (w64 (fk+j_))) (2^1))))))
 else(
  some (.done fk))
def yR (x_:TA)(target:TB)(cmp:Unit):Option (Int×Bool) :=
 (loop (λs=>yn x_ target s.1 s.2) (0,((x_.length:Nat):Int))).bind λt2=>
 yp x_ target t2
def z0r (l_:TA)(w_:TB):Option Bool :=
 (yR l_ w_ ()).bind λr_=>
 some r_.2
def jR (w_:TB)(x1:TA):Option Bool :=
 (z0r x1 w_).bind λr_=>
 some r_
def uw:Option Int :=
 some (-1)
def xh (s_:TA)(f_:TA)(x8:Int):R3_ :=
 bif decide (x8<((s_.length:Nat):Int)) then(
  (idx s_ x8).bind λeb=>
  (jR eb f_).bind λr_=>
  bif r_ then(
   some (.done (.inr x8)))
  else(
   some (.next (w64 (x8+1)))))
 else(
  some (.done (.inl ())))
def wY (s_:TA)(f_:TA):Option Int :=
 (loop (λs=>xh s_ f_ s) 0).bind λt2=>
 match t2 with
 |.inl p=>uw
 |.inr p=>some p
def yX (bk:TA)(i_:Int):zbC :=
 gd ((0:Int)<=i_/\(i_:Int)<=((bk.length:Nat):Int)) <|
 gd ((0:Int)<=i_/\(i_:Int)<=((bk.length:Nat):Int)) <|
 gd ((0:Int)<=i_/\(i_:Int)<=(((bk.take i_.toNat++List.replicate (bk.length-i_.toNat) []).length:Nat):Int)) <|
 some ((bk.take i_.toNat++List.replicate (bk.length-i_.toNat) []).take i_.toNat)
def yk (j_:Int)(ng:TA)(qa:Int):zl4 :=
 some (.next (ng,qa,w64 (j_+1)))
def xU (kz:TA)(da:TA)(fk:Int)(j_:Int):zl4 :=
 bif decide (j_<((da.length:Nat):Int)) then(
  (idx da j_).bind λeb=>
  (jR eb kz).bind λai=>
  bif !ai then(
   (idx da fk).bind λnn=>
   yk j_ (da.set fk.toNat eb) (w64 (fk+1)))
  else(
   yk j_ da fk))
 else(
  some (.done (da,fk)))
def xE (s_:TA)(kz:TA):zbC :=
 (wY s_ kz).bind λr_=>
 bif r_==(-1) then(
  some s_)
 else(
  (loop (λs=>xU kz s.1 s.2.1 s.2.2) (s_,r_,w64 (r_+1))).bind λt2=>
  yX t2.1 t2.2)
def Zn (a_:TA)(b_:TA)(inputs:Int):z2j :=
 (Wn inputs ([a_,b_])).bind λr_=>
 bif r_ !=0 then(
  some (([]:TA),r_))
 else(
  (xP a_).bind λai=>
  (xE ai b_).bind λak=>
  (xA ak).bind λam=>
  some (am.1,am.2))
def v7 (m_:z6)(s_:Int):Option Int :=
 (yT m_).bind λr_=>
 bif r_ !=0 then(
  some r_)
 else(
  bif decide (s_<0) then(
   some 1)
  else(
   bif decide (s_>=((m_.Rows.length:Nat):Int)) then(
    some 1)
   else(
    some 0)))
def Xq (bk:Int)(out:TB):Option (TB×Int) :=
 some (out,bk)
abbrev znL:Type:=Option (LR (Int×TB×Int) ((Int×TB)))
def vB (aj:TB)(ba:Int)(gz:Int)(nr:Int):znL :=
 (idx aj ba).bind λdn=>
 some (.next (gz,(aj.set ba.toNat nr),w64 (ba+1)))
def UI (m_:z6)(w_:TB)(da:Int)(aj:TB)(ba:Int):znL :=
 bif decide (ba<((w_.length:Nat):Int)) then(
  (idx w_ ba).bind λfc=>
  (vY).bind λr_=>
  bif da !=(-1) then(
   (idx m_.Rows da).bind λap=>
   (idx ap fc).bind λal=>
   vB aj ba al.To al.Out)
  else(
   vB aj ba r_.To r_.Out))
 else(
  some (.done (da,aj)))
def Y6 (m_:z6)(s_:Int)(w_:TB):Option (TB×Int) :=
 gd ((0:Int)<=((w_.length:Nat):Int)/\(((w_.length:Nat):Int):Int)<=4294967296) <|
 (loop (λs=>UI m_ w_ s.1 s.2.1 s.2.2) (s_,(List.replicate ((w_.length:Nat):Int).toNat (0:Int)),0)).bind λt2=>
 Xq t2.1 t2.2
def qR (m_:z6)(s_:Int)(w_:TB):Option (Int×Int) :=
 (v7 m_ s_).bind λr_=>
 bif r_ !=0 then(
  some (0,r_))
 else(
  (vI w_ m_.Inputs).bind λai=>
  bif ai !=0 then(
   some (0,ai))
  else(
   (Y6 m_ s_ w_).bind λak=>
   some (ak.2,0)))
def xe (x_:zD)(u_:TB)(v_:TB):zbC :=
 (qR x_.m_ 0 u_).bind λr_=>
 (qR x_.m_ r_.1 v_).bind λai=>
 (idx x_.each_ ai.1).bind λpk=>
 some pk
def Zk (jg:Int)(bm:List (zy Int))(ce:Int)(d0:Int):zhY :=
 some (.next (bm,ce,d0,w64 (jg+1)))
def Zj (j7:Int)(ct:List (zy Int))(cg:Int)(dz:Int):z8q :=
 some (.next (ct,cg,dz,w64 (j7+1)))
def uo (b_:zb)(u_:TB)(ez:TB)(ai:TA)(ju:List (zy Int))(eg:Int)(km:Int)(m0:Int):z8q :=
 bif decide (m0<((ai.length:Nat):Int)) then(
  (idx ai m0).bind λdm=>
  (xm [u_,ez,dm] (zb.mk ju eg km)).bind λak=>
  bif ak.2 then(
   some (.done (.inr (b_,true))))
  else(
   some (.next (ak.1.nodes_,ak.1.leaves_,ak.1.most_,w64 (m0+1)))))
 else(
  some (.done (.inl (ju,eg,km))))
def Zg (x_:zD)(b_:zb)(u_:TB)(aq:List (zy Int))(bc:Int)(fj:Int)(j7:Int):z8q :=
 bif decide (j7<((x_.exact_.length:Nat):Int)) then(
  (idx x_.exact_ j7).bind λez=>
  (xe x_ u_ ez).bind λai=>
  (loop (λs=>uo b_ u_ ez ai s.1 s.2.1 s.2.2.1 s.2.2.2) (aq,bc,fj,0)).bind λt6=>
  match t6 with
  |.inl p=>Zj j7 p.1 p.2.1 p.2.2
  |.inr p=>some (.done (.inr p)))
 else(
  some (.done (.inl (aq,bc,fj))))
def Zh (x_:zD)(b_:zb)(r_:TA×Int)(bh:List (zy Int))(cj:Int)(fh:Int)(jg:Int):zhY :=
 bif decide (jg<((r_.1.length:Nat):Int)) then(
  (idx r_.1 jg).bind λu_=>
  (loop (λs=>Zg x_ b_ u_ s.1 s.2.1 s.2.2.1 s.2.2.2) (bh,cj,fh,0)).bind λt4=>
  match t4 with
  |.inl p=>Zk jg p.1 p.2.1 p.2.2
  |.inr p=>some (.done p))
 else(
  some (.done ((zb.mk bh cj fh),false)))
def uq (x_:zD)(b_:zb)(br:List (zy Int))(cp:Int)(fm:Int):zhZ :=
 (Zn x_.p_ x_.q_ x_.m_.Inputs).bind λr_=>
 (loop (λs=>Zh x_ b_ r_ s.1 s.2.1 s.2.2.1 s.2.2.2) (br,cp,fm,0)).bind λt2=>
 some t2
def Zi (jh:Int)(lz:List (zy Int))(lk:Int)(ml:Int):z8q :=
 some (.next (lz,lk,ml,w64 (jh+1)))
def jW (fw:Int)(l4:List (zy Int))(ll:Int)(mp:Int):z8q :=
 some (.next (l4,ll,mp,w64 (fw+1)))
def jV (x_:zD)(b_:zb)(gq:TB)(a6:TB)(i8:List (zy Int))(ix:Int)(jv:Int)(my:Int):z8q :=
 bif decide (my<((x_.all_.length:Nat):Int)) then(
  (idx x_.all_ my).bind λfy=>
  (xm [gq,a6,fy] (zb.mk i8 ix jv)).bind λam=>
  bif am.2 then(
   some (.done (.inr (b_,true))))
  else(
   some (.next (am.1.nodes_,am.1.leaves_,am.1.most_,w64 (my+1)))))
 else(
  some (.done (.inl (i8,ix,jv))))
def Ze (x_:zD)(b_:zb)(gq:TB)(jw:List (zy Int))(ja:Int)(kn:Int)(fw:Int):z8q :=
 bif decide (fw<((x_.short_.length:Nat):Int)) then(
  (idx x_.short_ fw).bind λa6=>
  (loop (λs=>jV x_ b_ gq a6 s.1 s.2.1 s.2.2.1 s.2.2.2) (jw,ja,kn,0)).bind λsc=>
  match sc with
  |.inl p=>jW fw p.1 p.2.1 p.2.2
  |.inr p=>some (.done (.inr p)))
 else(
  some (.done (.inl (jw,ja,kn))))
def Zf (x_:zD)(b_:zb)(jx:List (zy Int))(jb:Int)(ko:Int)(jh:Int):z8q :=
 bif decide (jh<((x_.q_.length:Nat):Int)) then(
  (idx x_.q_ jh).bind λgq=>
  (loop (λs=>Ze x_ b_ gq s.1 s.2.1 s.2.2.1 s.2.2.2) (jx,jb,ko,0)).bind λt9=>
  match t9 with
  |.inl p=>Zi jh p.1 p.2.1 p.2.2
  |.inr p=>some (.done (.inr p)))
 else(
  some (.done (.inl (jx,jb,ko))))
def wq (x0:VE)(x_:zD)(b_:zb):zhZ :=
 (loop (λs=>Zf x_ b_ s.1 s.2.1 s.2.2.1 s.2.2.2) (b_.nodes_,b_.leaves_,b_.most_,0)).bind λt7=>
 match t7 with
 |.inl p=>uq x_ b_ p.1 p.2.1 p.2.2
 |.inr p=>some p
def k7 (ba:Int)(bh:List (zy Int))(cj:Int)(fh:Int):zhY :=
 some (.next (bh,cj,fh,w64 (ba+1)))
def jZ (gk:Int)(aq:List (zy Int))(bc:Int)(fj:Int):z8q :=
 some (.next (aq,bc,fj,w64 (gk+1)))
def vK (b_:zb)(bj:TB)(a6:TB)(r_:TA)(ct:List (zy Int))(cg:Int)(dz:Int)(ib:Int):z8q :=
 bif decide (ib<((r_.length:Nat):Int)) then(
  (idx r_ ib).bind λdm=>
  (xm [bj,a6,dm] (zb.mk ct cg dz)).bind λai=>
  bif ai.2 then(
   some (.done (.inr (b_,true))))
  else(
   some (.next (ai.1.nodes_,ai.1.leaves_,ai.1.most_,w64 (ib+1)))))
 else(
  some (.done (.inl (ct,cg,dz))))
def jX (x_:zD)(b_:zb)(bj:TB)(bm:List (zy Int))(ce:Int)(d0:Int)(gk:Int):z8q :=
 bif decide (gk<((x_.short_.length:Nat):Int)) then(
  (idx x_.short_ gk).bind λa6=>
  (xe x_ bj a6).bind λr_=>
  (loop (λs=>vK b_ bj a6 r_ s.1 s.2.1 s.2.2.1 s.2.2.2) (bm,ce,d0,0)).bind λt5=>
  match t5 with
  |.inl p=>jZ gk p.1 p.2.1 p.2.2
  |.inr p=>some (.done (.inr p)))
 else(
  some (.done (.inl (bm,ce,d0))))
def jY (x_:zD)(b_:zb)(br:List (zy Int))(cp:Int)(fm:Int)(ba:Int):zhY :=
 bif decide (ba<((x_.p_.length:Nat):Int)) then(
  (idx x_.p_ ba).bind λbj=>
  (loop (λs=>jX x_ b_ bj s.1 s.2.1 s.2.2.1 s.2.2.2) (br,cp,fm,0)).bind λt3=>
  match t3 with
  |.inl p=>k7 ba p.1 p.2.1 p.2.2
  |.inr p=>some (.done p))
 else(
  some (.done ((zb.mk br cp fm),false)))
def xX (x0:WG)(x_:zD)(b_:zb):zhZ :=
 (loop (λs=>jY x_ b_ s.1 s.2.1 s.2.2.1 s.2.2.2) (b_.nodes_,b_.leaves_,b_.most_,0)).bind λt1=>
 some t1
def vL (x:zD)(s:Nat)(most:Int):Option (Option zb×Bool) :=
 (match s with|0=>wN ⟨⟩ x (zb.mk [zy.mk 0 0 0 0 0 0 0 0 0 0 0 0 0 0 0 0] 0 most)|1=>wq ⟨⟩ x (zb.mk [zy.mk 0 0 0 0 0 0 0 0 0 0 0 0 0 0 0 0] 0 most)|2=>xX ⟨⟩ x (zb.mk [zy.mk 0 0 0 0 0 0 0 0 0 0 0 0 0 0 0 0] 0 most)|_=>none).bind λr=>
 some (bif r.2 then none else some r.1,!r.2)
def xS (s_:TA):zbC :=
 some s_
def vP (out:TA):zbC :=
 (xS out).bind λr_=>
 some r_
abbrev znK:Type:=Option (LR (TA×List zh) TA)
def vO (ax:TA)(next:List zh):znK :=
 some (.next (ax,next))
abbrev zmm:Type:=Option (LR (TA×List zh×Int) ((TA×List zh)))
def wu (ba:Int)(gx:TA)(ff:List zh):zmm :=
 some (.next (gx,ff,w64 (ba+1)))
def vN (bo:TA)(ba:Int)(a8:zh)(cb:List zh)(pu:Bool):zmm :=
 bif pu then(
  (zQ a8.w_).bind λai=>
  gd (bo.length+[ai].length<=4294967296) <|
  wu ba (bo++[ai]) cb)
 else(
  wu ba bo cb)
abbrev znJ:Type:=Option (LR (List zh×Bool×Int) ((List zh×Bool)))
def wt (fg:Int)(og:List zh)(oh:Bool):znJ :=
 some (.next (og,oh,w64 (fg+1)))
def yg (a8:zh)(a7:zy Int)(iq:List zh)(l9:Bool)(fg:Int):znJ :=
 bif decide (fg<16) then(
  (idx [a7.e0,a7.e1,a7.e2,a7.e3,a7.e4,a7.e5,a7.e6,a7.e7,a7.e8,a7.e9,a7.e10,a7.e11,a7.e12,a7.e13,a7.e14,a7.e15] fg).bind λcell=>
  bif decide (cell>0) then(
   (zQ a8.w_).bind λak=>
   gd (ak.length+[fg].length<=4294967296) <|
   gd (iq.length+[(zh.mk cell (ak++[fg]))].length<=4294967296) <|
   wt fg (iq++[(zh.mk cell (ak++[fg]))]) false)
  else(
   wt fg iq l9))
 else(
  some (.done (iq,l9)))
def yh (b_:zb)(ay:List zh)(bo:TA)(cr:List zh)(ba:Int):zmm :=
 bif decide (ba<((ay.length:Nat):Int)) then(
  (idx ay ba).bind λa8=>
  (idx b_.nodes_ a8.at_).bind λa7=>
  (loop (λs=>yg a8 a7 s.1 s.2.1 s.2.2) (cr,true,0)).bind λt7=>
  vN bo ba a8 t7.1 t7.2)
 else(
  some (.done (bo,cr)))
def vM (b_:zb)(aj:TA)(ay:List zh):znK :=
 bif decide (((ay.length:Nat):Int)>0) then(
  (loop (λs=>yh b_ ay s.1 s.2.1 s.2.2) (aj,([]:List zh),0)).bind λt4=>
  vO t4.1 t4.2)
 else(
  some (.done aj))
def wJ (b_:zb):zbC :=
 (loop (λs=>vM b_ s.1 s.2) (([]:TA),([(zh.mk 0 [])]:List zh))).bind λt2=>
 vP t2
def wj (s_:Nat)(m_:z6)(bound:Int)(bf:Int):z2j :=
 (Y2 m_ bound).bind λr_=>
 bif r_ !=0 then(
  some (([]:TA),r_))
 else(
  bif decide (bf<1) then(
   some (([]:TA),1))
  else(
   bif decide (bf>4096) then(
    some (([]:TA),1))
   else(
    (qL m_ bound).bind λai=>
    bif ai.2 !=0 then(
     some (([]:TA),13))
    else(
     (ai.1).bind λthere=>
     (vL there s_ bf).bind λak=>
     bif !ak.2 then(
      some (([]:TA),13))
     else(
      (ak.1).bind λee=>
      (wJ ee).bind λam=>
      (j8 am m_.Inputs).bind λaz=>
      bif az !=0 then(
       some (([]:TA),az))
      else(
       some (am,0)))))))
def XP (m_:z6)(bound:Int)(bf:Int):z2j :=
 (wj 0 m_ bound bf).bind λr_=>
 some (r_.1,r_.2)
def Up (m_:z6)(bound:Int)(bf:Int):z2j :=
 (wj 1 m_ bound bf).bind λr_=>
 some (r_.1,r_.2)
def Wt (m_:z6)(bound:Int)(bf:Int):z2j :=
 (wj 2 m_ bound bf).bind λr_=>
 some (r_.1,r_.2)
def Uq (n_:Uf Int):Option (Uf Int×Int) :=
 some (n_,0)
def z17 (ai:Option zD×Int)(ca:Uf Int)(kl:Int):Option (LR (Uf Int×Int) (Uf Int⊕(Uf Int×Int))) :=
 bif decide (kl<((([0,1,2]:TC).length:Nat):Int)) then(
  (idx ([0,1,2]) kl).bind λmj=>
  (ai.1).bind λthere=>
  (vL there mj 4096).bind λak=>
  bif !ak.2 then(
   some (.done (.inr ((Uf.mk 0 0 0),3))))
  else(
   (ak.1).bind λee=>
   (idx (Uf.toL ca) kl).bind λcell=>
   (some (Uf.setI ca kl (mx ee.leaves_ 1))).bind λarr=>
   some (.next (arr,w64 (kl+1)))))
 else(
  some (.done (.inl ca)))
def KU (m_:z6)(bound:Int):Option (Uf Int×Int) :=
 (Y2 m_ bound).bind λr_=>
 bif r_ !=0 then(
  some ((Uf.mk 0 0 0),r_))
 else(
  (qL m_ bound).bind λai=>
  bif ai.2 !=0 then(
   some ((Uf.mk 0 0 0),3))
  else(
   (loop (λs=>z17 ai s.1 s.2) ((Uf.mk 0 0 0),0)).bind λt2=>
   match t2 with
   |.inl p=>Uq p
   |.inr p=>some p))
def Vz:Option Int :=
 some 0
def z0o (a_:TB)(b_:TB)(i_:Int):R3_ :=
 bif decide (i_<((a_.length:Nat):Int)) then(
  (idx a_ i_).bind λdv=>
  (idx b_ i_).bind λdx=>
  bif decide (dv<dx) then(
   some (.done (.inr (-1))))
  else(
   (idx a_ i_).bind λi6=>
   (idx b_ i_).bind λl6=>
   bif decide (i6>l6) then(
    some (.done (.inr 1)))
   else(
    some (.next (w64 (i_+1))))))
 else(
  some (.done (.inl ())))
def JJ (a_:TB)(b_:TB):Option Int :=
 bif ((a_.length:Nat):Int) !=((b_.length:Nat):Int) then(
  bif decide (((a_.length:Nat):Int)<((b_.length:Nat):Int)) then(
   some (-1))
  else(
   some 1))
 else(
  (loop (λs=>z0o a_ b_ s) 0).bind λt2=>
  match t2 with
  |.inl p=>Vz
  |.inr p=>some p)
abbrev zml:Type:=Option (TB×Bool)
def JK:Option Bool :=
 some true
def z48 (a_:TA)(b_:TA)(i_:Int):zms :=
 bif decide (i_<((a_.length:Nat):Int)) then(
  (idx a_ i_).bind λdv=>
  (idx b_ i_).bind λdx=>
  (JJ dv dx).bind λr_=>
  bif r_ !=0 then(
   some (.done (.inr false)))
  else(
   some (.next (w64 (i_+1)))))
 else(
  some (.done (.inl ())))
def z32 (a_:TA)(b_:TA):Option Bool :=
 bif ((a_.length:Nat):Int) !=((b_.length:Nat):Int) then(
  some false)
 else(
  (loop (λs=>z48 a_ b_ s) 0).bind λt2=>
  match t2 with
  |.inl p=>JK
  |.inr p=>some p)
def Q9 (a_:TA)(b_:TA):Option Bool :=
 (z32 a_ b_).bind λr_=>
 bif r_ then(
  some (((a_.length:Nat):Int)==((a_.length:Nat):Int)))
 else(
  some false)
def JT:Option z6 :=
 some (z6.mk 2 2 ([[(z7.mk 1 0),(z7.mk 0 0)],[(z7.mk 2 0),(z7.mk 1 1)],[(z7.mk 0 1),(z7.mk 2 0)]]))
def Ja:Option Bool :=
 (JT).bind λr_=>
 (XP r_ 3 8).bind λai=>
 (Up r_ 3 4096).bind λak=>
 (Wt r_ 3 4096).bind λam=>
 bif ai.2 !=0 then(
  some false)
 else(
  bif ak.2 !=0 then(
   some false)
  else(
   bif am.2 !=0 then(
    some false)
   else(
    (Q9 ai.1 ([[1,0],[1,1],[0,1,0],[0,1,1],[0,0,0,0],[0,0,0,1],[0,0,1,0],[0,0,1,1]])).bind λaz=>
    bif !az then(
     some false)
    else(
     gd ((0:Int)<=0/\(0:Int)<=7/\(7:Int)<=((([[1,0],[1,1],[0,1,0],[0,1,1],[0,0,0,0],[0,0,0,1],[0,0,1,0],[0,0,1,1]]:TA).length:Nat):Int)) <|
     (Q9 ak.1 ((([[1,0],[1,1],[0,1,0],[0,1,1],[0,0,0,0],[0,0,0,1],[0,0,1,0],[0,0,1,1]]:TA).drop 0).take ((7:Int).toNat-0))).bind λbn=>
     bif !bn then(
      some false)
     else(
      gd ((0:Int)<=0/\(0:Int)<=7/\(7:Int)<=((([[1,0],[1,1],[0,1,0],[0,1,1],[0,0,0,0],[0,0,0,1],[0,0,1,0],[0,0,1,1]]:TA).length:Nat):Int)) <|
      (Q9 am.1 ((([[1,0],[1,1],[0,1,0],[0,1,1],[0,0,0,0],[0,0,0,1],[0,0,1,0],[0,0,1,1]]:TA).drop 0).take ((7:Int).toNat-0))).bind λcx=>
      bif !cx then(
       some false)
      else(
       (XP r_ 2 9).bind λgb=>
       (XP r_ 8 9).bind λiy=>
       (XP r_ 3 7).bind λgr=>
       (KU r_ 3).bind λim=>
       bif gb.2==1 then(
        bif iy.2==1 then(
         bif gr.2==13 then(
          bif im.2==0 then(
           some ((im.1.e0==8)&&((im.1.e1==7)&&((im.1.e2==7)&&true))))
          else(
           some false))
         else(
          some false))
        else(
         some false))
       else(
        some false)))))))
def Vd (m_:z6)(gp:List (List z7)):Option z6 :=
 some (z6.mk m_.Inputs m_.Outputs gp)
def kU (m_:z6)(bw:List (List z7))(i_:Int)(dh:z95 Int)(ny:Int)(mw:Int):R0_ :=
 gd ((((bw.length:Nat):Int):Int)≠0) <|
 (idx bw (Int.tmod (w64 (dh.e0)) ((bw.length:Nat):Int))).bind λkp=>
 gd ((m_.Inputs:Int)≠0) <|
 (idx kp (Int.tmod (w64 (dh.e1)) m_.Inputs)).bind λpi=>
 some (.next ((bw.set (Int.tmod (w64 (dh.e0)) ((bw.length:Nat):Int)).toNat (kp.set (Int.tmod (w64 (dh.e1)) m_.Inputs).toNat (z7.mk ny mw))),w64 (i_+1)))
def YF (x_:wB)(m_:z6)(bw:List (List z7))(i_:Int):R0_ :=
 bif decide (i_<((x_.Changes.length:Nat):Int)) then(
  bif decide (i_<40) then(
   (idx x_.Changes i_).bind λdh=>
   gd ((((bw.length:Nat):Int):Int)≠0) <|
   gd (((w64 (m_.Outputs+1)):Int)≠0) <|
   bif (Int.tmod (w64 (dh.e3)) (w64 (m_.Outputs+1)))==m_.Outputs then(
    kU m_ bw i_ dh (-1) (-1))
   else(
    kU m_ bw i_ dh (Int.tmod (w64 (dh.e2)) ((bw.length:Nat):Int)) (Int.tmod (w64 (dh.e3)) (w64 (m_.Outputs+1)))))
  else(
   some (.done bw)))
 else(
  some (.done bw))
def Ve (x_:wB)(m_:z6)(bt:List (List z7)):Option z6 :=
 (loop (λs=>YF x_ m_ s.1 s.2) (bt,0)).bind λt4=>
 Vd m_ t4
def YE (x_:wB)(m_:z6)(gt:List (List z7))(fk:Int):R0_ :=
 bif decide (fk<((x_.Copies.length:Nat):Int)) then(
  bif decide (fk<2) then(
   (idx x_.Copies fk).bind λpl=>
   gd ((((m_.Rows.length:Nat):Int):Int)≠0) <|
   (idx m_.Rows (Int.tmod (w64 (pl)) ((m_.Rows.length:Nat):Int))).bind λap=>
   gd (([]:List z7).length+ap.length<=4294967296) <|
   gd (gt.length+[ap].length<=4294967296) <|
   some (.next ((gt++[ap]),w64 (fk+1))))
  else(
   some (.done gt)))
 else(
  some (.done gt))
def Vf (x_:wB)(m_:z6)(gy:List (List z7)):Option z6 :=
 (loop (λs=>YE x_ m_ s.1 s.2) (gy,0)).bind λt6=>
 Ve x_ m_ t6
def YD (m_:z6)(iz:List (List z7))(s_:Int):R0_ :=
 bif decide (s_<((m_.Rows.length:Nat):Int)) then(
  (idx m_.Rows s_).bind λdu=>
  gd (([]:List z7).length+du.length<=4294967296) <|
  gd (iz.length+[du].length<=4294967296) <|
  some (.next ((iz++[du]),w64 (s_+1))))
 else(
  some (.done iz))
def Qa (x_:wB)(m_:z6):Option z6 :=
 (loop (λs=>YD m_ s.1 s.2) (([]:List (List z7)),0)).bind λt7=>
 Vf x_ m_ t7
def Xc (a_:z6)(b_:z6)(bq:List (List z7)):Option z6 :=
 some (z6.mk a_.Inputs (mx a_.Outputs b_.Outputs) bq)
def Xb (s_:Int)(gu:List (List z7)):R0_ :=
 some (.next (gu,w64 (s_+1)))
def Xa (cm:List (List z7))(s_:Int)(row:List z7):R0_ :=
 gd (cm.length+[row].length<=4294967296) <|
 Xb s_ (cm++[row])
def kJ (bu:List z7)(i_:Int)(al:z7)(gz:Int):R2_ :=
 gd (bu.length+[(z7.mk gz al.Out)].length<=4294967296) <|
 some (.next ((bu++[(z7.mk gz al.Out)]),w64 (i_+1)))
def uT (a_:z6)(b_:z6)(s_:Int)(bu:List z7)(i_:Int):R2_ :=
 bif decide (i_<b_.Inputs) then(
  (idx b_.Rows s_).bind λap=>
  (idx ap i_).bind λal=>
  bif decide (al.To>=0) then(
   kJ bu i_ al (w64 (al.To+((a_.Rows.length:Nat):Int))))
  else(
   kJ bu i_ al al.To))
 else(
  some (.done bu))
def uU (a_:z6)(b_:z6)(cm:List (List z7))(s_:Int):R0_ :=
 bif decide (s_<((b_.Rows.length:Nat):Int)) then(
  (loop (λs=>uT a_ b_ s_ s.1 s.2) (([]:List z7),0)).bind λt6=>
  Xa cm s_ t6)
 else(
  some (.done cm))
def Xd (a_:z6)(b_:z6)(gj:List (List z7)):Option z6 :=
 (loop (λs=>uU a_ b_ s.1 s.2) (gj,0)).bind λt3=>
 Xc a_ b_ t3
def uS (a_:z6)(gl:List (List z7))(bk:Int):R0_ :=
 bif decide (bk<((a_.Rows.length:Nat):Int)) then(
  (idx a_.Rows bk).bind λdu=>
  gd (gl.length+[du].length<=4294967296) <|
  some (.next ((gl++[du]),w64 (bk+1))))
 else(
  some (.done gl))
def XR (a_:z6)(b_:z6):Option z6 :=
 (loop (λs=>uS a_ s.1 s.2) (([]:List (List z7)),0)).bind λt8=>
 Xd a_ b_ t8
def kH (w_:TB):zml :=
 some (w_,true)
abbrev znI:Type:=Option (LR Int ((Int×Int×Int×TB)))
def vA (i_:Int)(rm:Int)(rn:Bool)(j7:Bool)(ro:Bool)(rp:Bool)(rq:Bool):znI :=
 some (.next (w64 (i_+1)))
def uR (r_:z6)(s_:Int)(t_:Int)(ca:Int)(fp:TB)(ai:List (List Bool))(i_:Int):znI :=
 bif decide (i_<r_.Inputs) then(
  (idx r_.Rows s_).bind λap=>
  (idx ap i_).bind λal=>
  (idx r_.Rows t_).bind λdu=>
  (idx du i_).bind λbp=>
  bif al.Out !=bp.Out then(
   gd (fp.length+[i_].length<=4294967296) <|
   some (.done (al.To,bp.To,w64 (ca-1),(fp++[i_]))))
  else(
   bif decide (al.To>=0) then(
    bif decide (bp.To>=0) then(
     (idx ai al.To).bind λdm=>
     (idx dm bp.To).bind λji=>
     bif ji then(
      gd (fp.length+[i_].length<=4294967296) <|
      some (.done (al.To,bp.To,w64 (ca-1),(fp++[i_]))))
     else(
      vA i_ al.To (decide (al.To>=0)) (decide (al.To>=0)) (decide (bp.To>=0)) (decide (bp.To>=0)) ji))
    else(
     vA i_ al.To (decide (al.To>=0)) (decide (al.To>=0)) (decide (bp.To>=0)) (decide (bp.To>=0)) false))
   else(
    vA i_ al.To (decide (al.To>=0)) (decide (al.To>=0)) false false false)))
 else(
  some (.done (s_,t_,w64 (ca-1),fp)))
def kG (r_:z6)(s_:Int)(t_:Int)(ca:Int)(fp:TB):Option (LR (Int×Int×Int×TB) TB) :=
 bif decide (ca>0) then(
  (jL r_ (w64 (ca-1))).bind λai=>
  (loop (λs=>uR r_ s_ t_ ca fp ai s) 0).bind λt4=>
  some (.next t4))
 else(
  some (.done fp))
def kI (a_:z6)(r_:z6)(n_:Int):zml :=
 bif n_==((r_.Rows.length:Nat):Int) then(
  some (([]:TB),false))
 else(
  (loop (λs=>kG r_ s.1 s.2.1 s.2.2.1 s.2.2.2) (0,((a_.Rows.length:Nat):Int),n_,([]:TB))).bind λt3=>
  kH t3)
def uQ (a_:z6)(r_:z6)(cd:Int):Option (LR Int Int) :=
 bif decide (cd<((r_.Rows.length:Nat):Int)) then(
  (jL r_ cd).bind λak=>
  (idx ak 0).bind λip=>
  (idx ip ((a_.Rows.length:Nat):Int)).bind λpm=>
  bif !pm then(
   some (.next (w64 (cd+1))))
  else(
   some (.done cd)))
 else(
  some (.done cd))
def Y3 (a_:z6)(b_:z6):zml :=
 (XR a_ b_).bind λr_=>
 (loop (λs=>uQ a_ r_ s) 0).bind λt6=>
 kI a_ r_ t6
def jN (m_:z6)(s_:Int)(w_:TB):Option (TB×Int) :=
 (v7 m_ s_).bind λr_=>
 bif r_ !=0 then(
  some (([]:TB),r_))
 else(
  (vI w_ m_.Inputs).bind λai=>
  bif ai !=0 then(
   some (([]:TB),ai))
  else(
   (Y6 m_ s_ w_).bind λak=>
   some (ak.1,0)))
def Ur:Option (Bool×Int) :=
 some (true,0)
abbrev znH:Type:=Option (LR Int (Unit⊕(Bool×Int)))
def uJ (m_:z6)(other:z6)(l_:TA)(nh:Int):znH :=
 bif decide (nh<((l_.length:Nat):Int)) then(
  (idx l_ nh).bind λbi=>
  (jN m_ 0 bi).bind λai=>
  (jN other 0 bi).bind λak=>
  (w7 ai.1 ak.1).bind λam=>
  bif !am then(
   some (.done (.inr (false,0))))
  else(
   some (.next (w64 (nh+1)))))
 else(
  some (.done (.inl ())))
def k8 (m_:z6)(other:z6)(l_:TA):Option (Bool×Int) :=
 bif m_.Inputs !=other.Inputs then(
  some (false,5))
 else(
  (j8 l_ m_.Inputs).bind λr_=>
  bif r_ !=0 then(
   some (false,r_))
  else(
   (loop (λs=>uJ m_ other l_ s) 0).bind λt3=>
   match t3 with
   |.inl p=>Ur
   |.inr p=>some p))
def uI (m_:z6)(other:z6)(pe:Int):znH :=
 bif decide (pe<(([m_,other].length:Nat):Int)) then(
  (idx ([m_,other]) pe).bind λmj=>
  (yT mj).bind λaz=>
  bif az !=0 then(
   some (.done (.inr (false,az))))
  else(
   some (.next (w64 (pe+1)))))
 else(
  some (.done (.inl ())))
def uK (m_:z6)(other:z6)(l_:TA):Option (Bool×Int) :=
 (loop (λs=>uI m_ other s) 0).bind λt4=>
 match t4 with
 |.inl p=>k8 m_ other l_
 |.inr p=>some p
def Yq (x_:qU)(y_:wB)(ck:Int):Option Bool :=
 (Qb (qU.mk x_.C)).bind λr_=>
 (Qa y_ r_).bind λai=>
 gd ((3:Int)≠0) <|
 (XP r_ (mx (w64 (((r_.Rows.length:Nat):Int)+(w64 (Int.tmod ck 3)))) ((ai.Rows.length:Nat):Int)) 4096).bind λak=>
 (Up r_ (mx (w64 (((r_.Rows.length:Nat):Int)+(w64 (Int.tmod ck 3)))) ((ai.Rows.length:Nat):Int)) 4096).bind λam=>
 (Wt r_ (mx (w64 (((r_.Rows.length:Nat):Int)+(w64 (Int.tmod ck 3)))) ((ai.Rows.length:Nat):Int)) 4096).bind λaz=>
 bif ak.2 !=0 then(
  some false)
 else(
  bif am.2 !=0 then(
   some false)
  else(
   bif az.2 !=0 then(
    some false)
   else(
    (Y3 r_ ai).bind λbn=>
    (uK r_ ai ak.1).bind λcx=>
    (uK r_ ai am.1).bind λgb=>
    (uK r_ ai az.1).bind λiy=>
    bif cx.2==0 then(
     bif gb.2==0 then(
      bif iy.2==0 then(
       bif !(cx.1==bn.2) then(
        bif !(gb.1==bn.2) then(
         bif !(iy.1==bn.2) then(
          (Ja).bind λgr=>
          some gr)
         else(
          some false))
        else(
         some false))
       else(
        some false))
      else(
       some false))
     else(
      some false))
    else(
     some false))))
abbrev F0_:=JZ (eI .i64)
abbrev F1_:=zma (eI .i64)
abbrev F2_:=Xx (eI .i32)
abbrev F3_:=eSl 1 false (eI .u8)
abbrev F4_:=eSl 1 true (eI .i64)
abbrev F5_:=eOs 1 true (eI .i64)
abbrev F6_:=eSl 1 false (eI .u16)
abbrev F7_:=eOs 1 false (eI .i64)
abbrev F8_:=eSl 1 false (eI .i64)
abbrev F9_:=Xx F0_
abbrev zoT:=eSl 4 false (JY (eI .u8))
abbrev wk:=wK (eI .i64) (eI .i64)
abbrev zo6:=eOs 16 false F2_
abbrev zl8:=eSl 16 false F2_
abbrev XM:=eSl 1 true F4_
abbrev zl7:=eOs 1 true F4_
abbrev z6j:=eSl 1 true F8_
abbrev zo5:=eSl 1 false F4_
abbrev ua:=eSl 1 false F8_
abbrev zhL:=eOs 1 false F8_
abbrev zl6:=eSp ua
abbrev zo4:=eSl 2 true wk
abbrev yO:=eSl 2 false wk
abbrev uu:=eOs 2 false wk
abbrev Zd:=Xw (eI .i64) (eI .i64) (eI .i64)
abbrev Ug:=yV (eI .i32) F8_
abbrev zo3:=eSl 1 false ua
abbrev z08:=Vp (eI .i64) F9_
abbrev zoS:=eSl 1 true zo4
abbrev zoR:=eSl 1 false yO
abbrev zo2:=Ya F3_ zoT
abbrev WH:=yw zl8 (eI .i64) (eI .i64)
abbrev zo1:=qS (eI .u8) (eI .u8) (eI .u8) F3_ F6_
abbrev zfx:=u9 (eI .i64) (eI .i64) zoS
abbrev yG:=u9 (eI .i64) (eI .i64) zoR
abbrev zo0:=Yb zo1
abbrev z3x:=eSp yG
abbrev QL:=qG yG ua ua ua zo3 ua ua
abbrev zl5:=eSp QL
def rpN {α:Type _}(n:Nat)(a:α)(l:List α):List α:=Nat.rec l (λ_ r=>a::r) n
abbrev aLn (n:Nat):H:=.a (.atom (.int .i64 ((n:Nat):Int)))
end Go.Own

namespace Go.Proofs
open Go.Proofs.Tryz
open Go.Shelf
def Tryz.so136_ren:Go.Shelf.Ren:=⟨λ|6=>136|15=>161|14=>160|28=>184|29=>185|20=>176|21=>177|22=>178|23=>179|24=>180|25=>181|26=>182|27=>183|46=>194|47=>195|48=>196|49=>197|50=>198|57=>201|n=>n,λ|22=>32|24=>51|25=>110|3=>3|39=>209|0=>0|53=>240|55=>242|4=>4|46=>233|45=>232|50=>237|5=>5|9=>9|66=>260|70=>264|76=>267|77=>268|n=>n,λ|n=>n⟩
def Tryz.so136:Go.Proofs.SlLaysF0.n6 prog Tryz.so136_ren:={
 mixed:=by kernel_rfl
 f6:=⟨f136.name,by decide,func136.trans (congrArg some (by kernel_rfl))⟩
 f14:=⟨f160.name,by decide,func160.trans (congrArg some (by kernel_rfl))⟩
 f15:=func161.trans (congrArg some (by kernel_rfl))
 f20:=⟨f176.name,by decide,func176.trans (congrArg some (by kernel_rfl))⟩
 f21:=⟨f177.name,by decide,func177.trans (congrArg some (by kernel_rfl))⟩
 f22:=⟨f178.name,by decide,func178.trans (congrArg some (by kernel_rfl))⟩
 f23:=⟨f179.name,by decide,func179.trans (congrArg some (by kernel_rfl))⟩
 f24:=⟨f180.name,by decide,func180.trans (congrArg some (by kernel_rfl))⟩
 f25:=⟨f181.name,by decide,func181.trans (congrArg some (by kernel_rfl))⟩
 f26:=⟨f182.name,by decide,func182.trans (congrArg some (by kernel_rfl))⟩
 f27:=⟨f183.name,by decide,func183.trans (congrArg some (by kernel_rfl))⟩
 f28:=func184.trans (congrArg some (by kernel_rfl))
 f29:=func185.trans (congrArg some (by kernel_rfl))
 f46:=⟨f194.name,by decide,func194.trans (congrArg some (by kernel_rfl))⟩
 f47:=func195.trans (congrArg some (by kernel_rfl))
 f48:=func196.trans (congrArg some (by kernel_rfl))
 f49:=⟨f197.name,by decide,func197.trans (congrArg some (by kernel_rfl))⟩
 f50:=⟨f198.name,by decide,func198.trans (congrArg some (by kernel_rfl))⟩
 f57:=⟨f201.name,by decide,func201.trans (congrArg some (by kernel_rfl))⟩
 t0:=underlying0
 a0:=isAgg0
 z0:=sizeOf0
 v0:=zeroValue0
 t3:=underlying3
 a3:=isAgg3
 z3:=sizeOf3
 v3:=zeroValue3
 t4:=underlying4
 a4:=isAgg4
 z4:=sizeOf4
 v4:=zeroValue4
 t5:=underlying5
 a5:=isAgg5
 z5:=sizeOf5
 v5:=zeroValue5
 t9:=underlying9
 a9:=isAgg9
 z9:=sizeOf9
 v9:=zeroValue9
 t22:=underlying32
 a22:=isAgg32
 z22:=sizeOf32
 v22:=zeroValue32
 t25:=underlying110
 a25:=isAgg110
 z25:=sizeOf110
 v25:=zeroValue110
 t39:=underlying209
 a39:=isAgg209
 z39:=sizeOf209
 v39:=zeroValue209
 t45:=underlying232
 a45:=isAgg232
 z45:=sizeOf232
 v45:=zeroValue232
 t46:=underlying233
 a46:=isAgg233
 z46:=sizeOf233
 v46:=zeroValue233
 t50:=underlying237
 a50:=isAgg237
 z50:=sizeOf237
 v50:=zeroValue237
 t53:=underlying240
 a53:=isAgg240
 z53:=sizeOf240
 v53:=zeroValue240
 t55:=underlying242
 a55:=isAgg242
 z55:=sizeOf242
 v55:=zeroValue242
 t66:=underlying260
 a66:=isAgg260
 z66:=sizeOf260
 v66:=zeroValue260
 t70:=underlying264
 a70:=isAgg264
 z70:=sizeOf264
 v70:=zeroValue264
 t76:=underlying267
 a76:=isAgg267
 z76:=sizeOf267
 v76:=zeroValue267
 t77:=underlying268
 a77:=isAgg268
 z77:=sizeOf268
 v77:=zeroValue268 }
end Go.Proofs
