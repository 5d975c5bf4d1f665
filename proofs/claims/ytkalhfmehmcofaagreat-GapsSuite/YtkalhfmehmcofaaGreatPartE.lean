/- -/
import Derived.Test.YtkalhfmehmcofaaGreatPartB
import Derived.Test.YtkalhfmehmcofaaGreatProg
import Derived.Test.YtkalhfmehmcofaaGreatPartC
import Derived.Test.YtkalhfmehmcofaaGreatChecked
import Derived.Lib.AppendZerosOnto
import Derived.Lib.SliceRun
import Derived.WalkKit
import Derived.Lib.Walk
import Derived.Test.YtkalhfmehmcofaaGreatPartD
import Derived.Recover
import Derived.Defers
import Derived.Tactics2
import Derived.Shelf.SlSortCmp.NoneTotal
import Derived.Ground.SlsfProg
set_option linter.unusedVariables false
set_option linter.defProp false
set_option linter.unusedSimpArgs false
namespace Go.Ex
open Go.Proofs.Tryz
open Go.Proofs
def q5:EqP prog 5 [.int .u8 0] false 1:=z2h (k:=.int .u8) underlying5 ⟨_,(by kernel_rfl:prog.info? 5=some Tryz.t5),rfl⟩ rfl
def i32:EI:=⟨.slice 72,1,24,some [.slice none 0 0],false⟩
def q3:EqP prog 3 [.int .i64 0] false 1:=z2h (k:=.int .i64) underlying3 ⟨_,(by kernel_rfl:prog.info? 3=some Tryz.t3),rfl⟩ rfl
def q54:EqP prog 54 (Jh [([.int .i64 0],false),([.int .i64 0],false)]) true 2:=z1i underlying54 κ ⟨_,(by kernel_rfl:prog.info? 54=some t54),rfl⟩ θ (xa.cons θ rfl (q3.mono θ) (xa.cons θ rfl (q3.mono θ) (xa.nil)))
def q58:EqP prog 58 (zaI 3 [.int .u8 0]) true 2:=Jk underlying58 q5 ⟨_,(by kernel_rfl:prog.info? 58=some t58),rfl⟩
def i64:EI:=⟨.func,1,8,some [.nilFunc],false⟩
def q40:EqP prog 40 [.int .i64 0] false 1:=z2h (k:=.int .i64) underlying40 ⟨_,(by kernel_rfl:prog.info? 40=some t40),rfl⟩ rfl
def zqC:EqP prog 133 (zaI 5 [.int .i64 0]) true 2:=Jk underlying133 q40 ⟨_,(by kernel_rfl:prog.info? 133=some t133),rfl⟩
def q21:EqP prog 21 [.int .i32 0] false 1:=z2h (k:=.int .i32) underlying21 ⟨_,(by kernel_rfl:prog.info? 21=some t21),rfl⟩ rfl
def zqB:EqP prog 147 (zaI 16 [.int .i32 0]) true 2:=Jk underlying147 q21 ⟨_,(by kernel_rfl:prog.info? 147=some t147),rfl⟩
def zpP:EqP prog 158 (zaI 2 [.int .i64 0]) true 2:=Jk underlying158 q3 ⟨_,(by kernel_rfl:prog.info? 158=some t158),rfl⟩
def zqA:EqP prog 219 (Jh [([.int .i64 0],false),([.int .i64 0],false),([.int .i64 0],false)]) true 2:=z1i underlying219 κ ⟨_,(by kernel_rfl:prog.info? 219=some t219),rfl⟩ θ (xa.cons θ rfl (q3.mono θ) (xa.cons θ rfl (q3.mono θ) (xa.cons θ rfl (q3.mono θ) (xa.nil))))
def zpO:EqP prog 231 (zaI 16 [.int .i64 0,.int .i64 0]) true 3:=Jk underlying231 zpP ⟨_,(by kernel_rfl:prog.info? 231=some t231),rfl⟩
def zpN:EqP prog 234 (Jh [([.int .i64 0],false),([.int .i64 0,.int .i64 0,.int .i64 0,.int .i64 0,.int .i64 0,.int .i64 0,.int .i64 0,.int .i64 0,.int .i64 0,.int .i64 0,.int .i64 0,.int .i64 0,.int .i64 0,.int .i64 0,.int .i64 0,.int .i64 0,.int .i64 0,.int .i64 0,.int .i64 0,.int .i64 0,.int .i64 0,.int .i64 0,.int .i64 0,.int .i64 0,.int .i64 0,.int .i64 0,.int .i64 0,.int .i64 0,.int .i64 0,.int .i64 0,.int .i64 0,.int .i64 0],true)]) true 4:=z1i underlying234 κ ⟨_,(by kernel_rfl:prog.info? 234=some t234),rfl⟩ θ (xa.cons θ rfl (q3.mono θ) (xa.cons θ rfl (zpO.mono θ) (xa.nil)))
end Go.Ex

namespace Go.Own
open Go.Proofs.Tryz
open Go.Proofs
def zn6:Value->Bool
 |.int _ _=>true
 |_=>false
def z7D:∀{z vs us:TE} {r:Bool},z.all zn6=true->z.length=vs.length->yV vs us=some r->Go.Ex.z6g z vs=true/\Go.Ex.yV vs us=some r
 |[],[],us,r,_,_,h=>by
  cases us with
  |nil=>simp only[yV,Option.some.injEq]at h;subst h;exact⟨rfl,rfl⟩
  |cons u us=>simp[yV]at h
 |a::z,v::vs,us,r,hz,hl,h=>by
  have q:∃k x u' k' y,v=.int k x/\us=.int k' y::u'/\k=k':=by
   cases us with
   |nil=>cases v<;>simp[yV]at h
   |cons u us=>cases v<;>cases u<;>simp[yV]at h;exact⟨_,_,_,_,_,rfl,rfl,h.1⟩
  obtain⟨k,x,u',k',y,rfl,rfl,hk⟩:=q;simp only[yV,hk,if_true,pZ]at h;obtain⟨r',e1,rfl⟩:=h;simp only[List.all_cons,pN]at hz;obtain⟨q1,q2⟩:=z7D hz.2 (ξ hl) e1;refine⟨?_,by simp[Go.Ex.yV,hk,q2]⟩;cases a<;>first|(simp[zn6]at hz;done)|simpa[Go.Ex.z6g] using q1
 |[],_::_,_,_,_,hl,_=>by simp at hl
 |_::_,[],_,_,_,hl,_=>by simp at hl
variable {P:Program}{z:TE}
def zji {t n:Nat}{i:Go.Ex.EI}(h:Go.Ex.zdR P t i)  (hz:i.zero=some z)(hi:z.all zn6=true)(hs:i.size=n)(hn:z.length=n):zdR P t n:={
 guard:=h.guard
 run:=λvs us r w hv hu he=>by obtain⟨q1,q2⟩:=z7D hi (by rw[hn,hv]) he;exact h.run vs us r w (by rw[hs];exact hv) (by rw[hs];exact hu) (by simpa only[Go.Ex.zoP,hz] using q1) q2 }
def exq {t dep:Nat}  (q:Go.Ex.EqP P t z true dep)(h1:Nat.ble dep P.depth=true:=by kernel_rfl)(h2:dep<=10000:=by decide):Go.Ex.zdR P t ⟨.func,z.length,0,some z,true⟩:=Go.Ex.zjh q rfl rfl (Nat.le_of_ble_eq_true h1) h2
def z1J {t n dep:Nat}  (q:Go.Ex.EqP P t z true dep)(hi:z.all zn6=true)(hn:z.length=n)(h1:Nat.ble dep P.depth=true:=by kernel_rfl)(h2:dep<=10000:=by decide):zdR P t n:=zji (exq q h1 h2) rfl hi hn hn
variable {h:Array Obj}{S:zf}
def zd4 {v:Value}(hv:v.oneCell'=true):zD S h (.atom v) [v] []:=by simp only[zD,Rep];exact⟨⟨trivial,hv⟩,trivial⟩
def zge (sz:Nat):zD S h (.osl sz true []) [.slice none 0 0] []:=by simp only[zD];exact⟨none,0,rfl,(λ_=>rfl),pF _,pQ _,ς,.inl ⟨trivial,rfl,rfl,trivial⟩⟩
def za4 {sz:Nat}:zD S h (.dop (nlQ sz [])) [.slice none 0 0] []:=by simp only[zD,Rep];exact⟨⟨_,rfl,zcb.2 ⟨by simp[Rep],λ_=>rfl⟩⟩,trivial⟩
variable {a:A}
def z0x {c:TE}(q:zD S h a c []):∀n,zH S h (List.replicate n a) (List.replicate n c).flatten []
 |0=>by simp[zH]
 |n+1=>by rw[nB,nB,List.flatten_cons];simp only[zH];exact⟨c,_,[],[],rfl,rfl,q,z0x q n⟩
def zmr {c c':TE}(q:zD S h a c [])(e:c'=c):zD S h a c' []:=e▸q
variable {fs:List A}
def z2i {cs:TE}(q:zH S h fs cs []):zD S h (.agg fs) cs []:=by simpa only[zD] using q
def zd2:zH S h [] [] []:=by simp[zH]
def zd3 {c1 c2:TE}(q1:zD S h a c1 [])(q2:zH S h fs c2 []):zH S h (a::fs) (c1++c2) []:=by simp only[zH];exact⟨c1,c2,[],[],rfl,rfl,q1,q2⟩
def zc:A->Option TE
 |.atom v=>if v.oneCell'=true then some [v] else none
 |.osl _ true []=>some [.slice none 0 0]
 |.agg fs=>zcs fs
 |_=>none
where zcs:List A->Option TE
 |[]=>some []
 |a::l=>match zc a,zcs l with|some c,some d=>some (c++d)|_,_=>none
mutual
def zkf:∀{a:A} {c:TE},zc a=some c->zD S h a c []
 |.atom v,c,e=>by
  simp only[zc]at e;split at e
  ·rename_i q;cases e;exact zd4 q
  cases e
 |.osl sz true [],c,e=>by simp only[zc]at e;cases e;exact zge sz
 |.agg fs,c,e=>z2i (zgL (by simpa only[zc] using e))
def zgL:∀{l:List A} {c:TE},zc.zcs l=some c->zH S h l c []
 |[],c,e=>by simp only[zc.zcs]at e;cases e;exact zd2
 |a::l,c,e=>by
  simp only[zc.zcs]at e;split at e
  ·rename_i c d e1 e2;cases e;exact zd3 (zkf e1) (zgL e2)
  cases e
end
def zq (z:Option A)(v:Option Value)(n:Nat):Prop:=match z,v with|some z,some v=>z.size=n/\zc z=some v.cells.toList|none,_=>True|_,_=>False
def tiq {t:Nat}{i:TI}(f:TypeInfo)(k:z3C P t i.kind)(e:i.eqn=true->zdR P t i.size:=by intro h;cases h)(h:P.info? t=some f:=by kernel_rfl)(h2:f.size=i.size:=by rfl)(h3:f.bytes=i.bytes:=by rfl)(h4:zq i.zero f.zero i.size:=by exact And.intro rfl rfl):wD P t i :=
 ⟨⟨f,h,h2,h3,λz hz=>by
  rw[hz]at h4;cases hv:f.zero with
  |none=>rw[hv]at h4;exact h4.elim
  |some v=>rw[hv]at h4;exact⟨v,rfl,h4.1,λS h=>zkf h4.2⟩⟩,k,e⟩
def ti1:TI:=⟨.other,1,8,some (.atom .nilFunc),false⟩
def zkM:wD prog 1 ti1:=tiq Tryz.t1 ⟨_,underlying1,rfl⟩
def ti2:TI:=⟨.int .i64,1,8,some (.atom (.int .i64 0)),false⟩
def zkt:wD prog 2 ti2:=tiq Tryz.t2 underlying2
def ti3:TI:=⟨.int .i64,1,8,some (.atom (.int .i64 0)),false⟩
def zks:wD prog 3 ti3:=tiq Tryz.t3 underlying3
def ti4:TI:=⟨.bool,1,1,some (.atom (.bool false)),false⟩
def zkr:wD prog 4 ti4:=tiq Tryz.t4 underlying4
def ti5:TI:=⟨.int .u8,1,1,some (.atom (.int .u8 0)),false⟩
def zkq:wD prog 5 ti5:=tiq Tryz.t5 underlying5
def ti9:TI:=⟨.str,1,16,some (.atom (.string ⟨#[]⟩)),false⟩
def zkp:wD prog 9 ti9:=tiq Tryz.t9 underlying9
def zpL:TI:=⟨.other,1,16,some (.atom .nilIface),false⟩
def zi5:wD prog 20 zpL:=tiq t20 ⟨_,underlying20,rfl⟩
def zpK:TI:=⟨.int .i32,1,4,some (.atom (.int .i32 0)),false⟩
def zi4:wD prog 21 zpK:=tiq t21 underlying21
def zpJ:TI:=⟨.slice 5,1,24,some (.osl 1 true []),false⟩
def zi3:wD prog 22 zpJ:=tiq Tryz.t22 underlying22
def zpI:TI:=⟨.slice 121,1,24,some (.osl 1 true []),false⟩
def zi2:wD prog 23 zpI:=tiq t23 underlying23
def zpH:TI:=⟨.struct [(0,1),(1,1),(2,1),(3,1),(4,1)],5,56,some (.agg [.atom (.int .u8 0),.atom (.int .u8 0),.atom (.int .u8 0),.osl 1 true [],.osl 1 true []]),false⟩
def zi1:wD prog 25 zpH:=tiq Tryz.t25 ⟨_,underlying25,κ,by
 intro f hf;simp only[pG,gF,or_false]at hf;rcases hf with rfl|rfl|rfl|rfl|rfl
 ·exact⟨Tryz.t5,κ⟩
 ·exact⟨Tryz.t5,κ⟩
 ·exact⟨Tryz.t5,κ⟩
 ·exact⟨Tryz.t22,κ⟩
 exact⟨t23,κ⟩⟩
def zpG:TI:=⟨.struct [(0,5)],5,56,some (.agg [.agg [.atom (.int .u8 0),.atom (.int .u8 0),.atom (.int .u8 0),.osl 1 true [],.osl 1 true []]]),false⟩
def zi0:wD prog 27 zpG:=tiq t27 ⟨_,underlying27,κ,by
 intro f hf;simp only[pG,gF,or_false]at hf;rcases hf with rfl
 ·exact⟨Tryz.t25,κ⟩⟩
def zpF:TI:=⟨.slice 22,1,24,some (.osl 1 true []),false⟩
def zhZ:wD prog 28 zpF:=tiq t28 underlying28
def zpE:TI:=⟨.struct [(0,1),(1,1)],2,32,some (.agg [.atom (.int .u8 0),.osl 1 true []]),false⟩
def zhY:wD prog 29 zpE:=tiq t29 ⟨_,underlying29,κ,by
 intro f hf;simp only[pG,gF,or_false]at hf;rcases hf with rfl|rfl
 ·exact⟨Tryz.t5,κ⟩
 exact⟨t28,κ⟩⟩
def zpD:TI:=⟨.struct [(0,1),(1,1)],2,32,some (.agg [.atom (.int .u8 0),.osl 1 true []]),false⟩
def zhX:wD prog 30 zpD:=tiq t30 ⟨_,underlying30,κ,by
 intro f hf;simp only[pG,gF,or_false]at hf;rcases hf with rfl|rfl
 ·exact⟨Tryz.t5,κ⟩
 exact⟨t28,κ⟩⟩
def zpC:TI:=⟨.slice 72,1,24,some (.osl 1 true []),false⟩
def zhW:wD prog 32 zpC:=tiq t32 underlying32
def zpB:TI:=⟨.struct [(0,1),(1,1),(2,1)],3,40,some (.agg [.atom (.int .i64 0),.atom (.int .i64 0),.osl 1 true []]),false⟩
def zhV:wD prog 33 zpB:=tiq t33 ⟨_,underlying33,κ,by
 intro f hf;simp only[pG,gF,or_false]at hf;rcases hf with rfl|rfl|rfl
 ·exact⟨Tryz.t3,κ⟩
 ·exact⟨Tryz.t3,κ⟩
 exact⟨t32,κ⟩⟩
def zpA:TI:=⟨.struct [(0,1),(1,1),(2,1)],3,40,some (.agg [.atom (.int .i64 0),.atom (.int .i64 0),.osl 1 true []]),false⟩
def zhU:wD prog 34 zpA:=tiq t34 ⟨_,underlying34,κ,by
 intro f hf;simp only[pG,gF,or_false]at hf;rcases hf with rfl|rfl|rfl
 ·exact⟨Tryz.t3,κ⟩
 ·exact⟨Tryz.t3,κ⟩
 exact⟨t32,κ⟩⟩
def zpz:TI:=⟨.slice 57,1,24,some (.osl 1 true []),false⟩
def zhT:wD prog 37 zpz:=tiq t37 underlying37
def zpy:TI:=⟨.int .i64,1,8,some (.atom (.int .i64 0)),false⟩
def zhS:wD prog 40 zpy:=tiq t40 underlying40
def zpx:TI:=⟨.other,1,8,some (.atom .nilFunc),false⟩
def zhR:wD prog 49 zpx:=tiq t49 ⟨_,underlying49,rfl⟩
def zpw:TI:=⟨.struct [(0,1),(1,1)],2,16,some (.agg [.atom (.int .i64 0),.atom (.int .i64 0)]),true⟩
def zhQ:wD prog 54 zpw:=tiq t54 ⟨_,underlying54,κ,by
 intro f hf;simp only[pG,gF,or_false]at hf;rcases hf with rfl|rfl
 ·exact⟨Tryz.t3,κ⟩
 exact⟨Tryz.t3,κ⟩⟩ (λ_=>z1J Go.Ex.q54 rfl rfl)
def zpv:TI:=⟨.slice 3,1,24,some (.osl 1 true []),false⟩
def zhP:wD prog 57 zpv:=tiq t57 underlying57
def zpu:TI:=⟨.array 3 5,3,3,some (.agg [.atom (.int .u8 0),.atom (.int .u8 0),.atom (.int .u8 0)]),true⟩
def zhO:wD prog 58 zpu:=tiq t58 underlying58 (λ_=>z1J Go.Ex.q58 rfl rfl)
def zpt:TI:=⟨.other,1,8,some (.atom .nilFunc),false⟩
def zhN:wD prog 68 zpt:=tiq t68 ⟨_,underlying68,rfl⟩
def zps:TI:=⟨.struct [(0,3),(3,1),(4,1)],5,72,some (.agg [.agg [.atom (.int .i64 0),.atom (.int .i64 0),.osl 1 true []],.osl 1 true [],.atom .nilFunc]),false⟩
def zhM:wD prog 70 zps:=tiq Tryz.t70 ⟨_,underlying70,κ,by
 intro f hf;simp only[pG,gF,or_false]at hf;rcases hf with rfl|rfl|rfl
 ·exact⟨t34,κ⟩
 ·exact⟨t37,κ⟩
 exact⟨t68,κ⟩⟩
def zpr:TI:=⟨.other,1,8,some (.atom .nilFunc),false⟩
def zhL:wD prog 71 zpr:=tiq t71 ⟨_,underlying71,rfl⟩
def zpq:TI:=⟨.slice 54,1,24,some (.osl 2 true []),false⟩
def zhK:wD prog 72 zpq:=tiq t72 underlying72
def zpp:TI:=⟨.struct [],0,0,some (.agg []),false⟩
def zhJ:wD prog 80 zpp:=tiq t80 ⟨_,underlying80,κ,by intro f hf;cases hf⟩
def zpo:TI:=⟨.struct [],0,0,some (.agg []),false⟩
def zhI:wD prog 81 zpo:=tiq t81 ⟨_,underlying81,κ,by intro f hf;cases hf⟩
def zpn:TI:=⟨.struct [],0,0,some (.agg []),false⟩
def zhH:wD prog 82 zpn:=tiq t82 ⟨_,underlying82,κ,by intro f hf;cases hf⟩
def zpm:TI:=⟨.struct [],0,0,some (.agg []),false⟩
def zhG:wD prog 83 zpm:=tiq t83 ⟨_,underlying83,κ,by intro f hf;cases hf⟩
def zpl:TI:=⟨.slice 4,1,24,some (.osl 1 true []),false⟩
def zhF:wD prog 87 zpl:=tiq t87 underlying87
def zpk:TI:=⟨.slice 87,1,24,some (.osl 1 true []),false⟩
def zhE:wD prog 88 zpk:=tiq t88 underlying88
def zpj:TI:=⟨.other,1,8,some (.atom .nilFunc),false⟩
def zhD:wD prog 96 zpj:=tiq t96 ⟨_,underlying96,rfl⟩
def zpi:TI:=⟨.other,1,8,some (.atom .nilFunc),false⟩
def zhC:wD prog 97 zpi:=tiq t97 ⟨_,underlying97,rfl⟩
def zph:TI:=⟨.other,1,8,some (.atom .nilFunc),false⟩
def zhB:wD prog 98 zph:=tiq t98 ⟨_,underlying98,rfl⟩
def zlm:TI:=⟨.other,1,16,some (.atom .nilIface),false⟩
def zeO:wD prog 104 zlm:=tiq t104 ⟨_,underlying104,rfl⟩
def zll:TI:=⟨.ptr 132,1,8,some (.atom (.pointer none)),false⟩
def zeN:wD prog 105 zll:=tiq t105 underlying105
def zlk:TI:=⟨.ptr 141,1,8,some (.atom (.pointer none)),false⟩
def zeM:wD prog 108 zlk:=tiq t108 underlying108
def zlj:TI:=⟨.other,1,8,some (.atom .nilFunc),false⟩
def zeL:wD prog 110 zlj:=tiq t110 ⟨_,underlying110,rfl⟩
def zli:TI:=⟨.slice 34,1,24,some (.osl 3 true []),false⟩
def zeK:wD prog 111 zli:=tiq t111 underlying111
def zlh:TI:=⟨.slice 37,1,24,some (.osl 1 true []),false⟩
def zeJ:wD prog 113 zlh:=tiq t113 underlying113
def zlg:TI:=⟨.other,1,8,some (.atom .nilFunc),false⟩
def zeI:wD prog 115 zlg:=tiq t115 ⟨_,underlying115,rfl⟩
def zlf:TI:=⟨.other,1,8,some (.atom .nilFunc),false⟩
def zeH:wD prog 117 zlf:=tiq t117 ⟨_,underlying117,rfl⟩
def zle:TI:=⟨.int .u16,1,2,some (.atom (.int .u16 0)),false⟩
def zeG:wD prog 121 zle:=tiq t121 underlying121
def zld:TI:=⟨.other,1,8,some (.atom .nilFunc),false⟩
def zeF:wD prog 122 zld:=tiq t122 ⟨_,underlying122,rfl⟩
def zlc:TI:=⟨.ptr 54,1,8,some (.atom (.pointer none)),false⟩
def zeE:wD prog 123 zlc:=tiq t123 underlying123
def zlb:TI:=⟨.struct [(0,1),(1,1)],2,16,some (.agg [.atom (.int .i64 0),.atom .nilFunc]),false⟩
def zeD:wD prog 125 zlb:=tiq t125 ⟨_,underlying125,κ,by
 intro f hf;simp only[pG,gF,or_false]at hf;rcases hf with rfl|rfl
 ·exact⟨t40,κ⟩
 exact⟨t49,κ⟩⟩
def zla:TI:=⟨.array 3 125,6,48,some (.agg [.agg [.atom (.int .i64 0),.atom .nilFunc],.agg [.atom (.int .i64 0),.atom .nilFunc],.agg [.atom (.int .i64 0),.atom .nilFunc]]),false⟩
def zeC:wD prog 126 zla:=tiq t126 underlying126
def zl9:TI:=⟨.struct [(0,3),(3,1),(4,1),(5,1),(6,1),(7,1),(8,1)],9,184,some (.agg [.agg [.atom (.int .i64 0),.atom (.int .i64 0),.osl 1 true []],.osl 1 true [],.osl 1 true [],.osl 1 true [],.osl 1 true [],.osl 1 true [],.osl 1 true []]),false⟩
def zeB:wD prog 132 zl9:=tiq t132 ⟨_,underlying132,κ,by
 intro f hf;simp only[pG,gF,or_false]at hf;rcases hf with rfl|rfl|rfl|rfl|rfl|rfl|rfl
 ·exact⟨t34,κ⟩
 ·exact⟨t37,κ⟩
 ·exact⟨t37,κ⟩
 ·exact⟨t37,κ⟩
 ·exact⟨t113,κ⟩
 ·exact⟨t37,κ⟩
 exact⟨t37,κ⟩⟩
def zl8:TI:=⟨.array 5 40,5,40,some (.agg [.atom (.int .i64 0),.atom (.int .i64 0),.atom (.int .i64 0),.atom (.int .i64 0),.atom (.int .i64 0)]),true⟩
def zeA:wD prog 133 zl8:=tiq t133 underlying133 (λ_=>z1J Go.Ex.zqC rfl rfl)
def zl7:TI:=⟨.struct [],0,0,some (.agg []),false⟩
def zez:wD prog 137 zl7:=tiq t137 ⟨_,underlying137,κ,by intro f hf;cases hf⟩
def zl6:TI:=⟨.slice 147,1,24,some (.osl 16 true []),false⟩
def zey:wD prog 139 zl6:=tiq t139 underlying139
def zl5:TI:=⟨.struct [(0,1),(1,1),(2,1)],3,40,some (.agg [.osl 16 true [],.atom (.int .i64 0),.atom (.int .i64 0)]),false⟩
def zex:wD prog 140 zl5:=tiq t140 ⟨_,underlying140,κ,by
 intro f hf;simp only[pG,gF,or_false]at hf;rcases hf with rfl|rfl|rfl
 ·exact⟨t139,κ⟩
 ·exact⟨Tryz.t3,κ⟩
 exact⟨Tryz.t3,κ⟩⟩
def zl4:TI:=⟨.struct [(0,1),(1,1),(2,1)],3,40,some (.agg [.osl 16 true [],.atom (.int .i64 0),.atom (.int .i64 0)]),false⟩
def zew:wD prog 141 zl4:=tiq t141 ⟨_,underlying141,κ,by
 intro f hf;simp only[pG,gF,or_false]at hf;rcases hf with rfl|rfl|rfl
 ·exact⟨t139,κ⟩
 ·exact⟨Tryz.t3,κ⟩
 exact⟨Tryz.t3,κ⟩⟩
def zl3:TI:=⟨.struct [(0,1),(1,1)],2,32,some (.agg [.atom (.int .i32 0),.osl 1 true []]),false⟩
def zev:wD prog 144 zl3:=tiq t144 ⟨_,underlying144,κ,by
 intro f hf;simp only[pG,gF,or_false]at hf;rcases hf with rfl|rfl
 ·exact⟨t21,κ⟩
 exact⟨t57,κ⟩⟩
def zl2:TI:=⟨.slice 144,1,24,some (.osl 2 true []),false⟩
def zeu:wD prog 145 zl2:=tiq t145 underlying145
def zl1:TI:=⟨.array 16 21,16,64,some (.agg [.atom (.int .i32 0),.atom (.int .i32 0),.atom (.int .i32 0),.atom (.int .i32 0),.atom (.int .i32 0),.atom (.int .i32 0),.atom (.int .i32 0),.atom (.int .i32 0),.atom (.int .i32 0),.atom (.int .i32 0),.atom (.int .i32 0),.atom (.int .i32 0),.atom (.int .i32 0),.atom (.int .i32 0),.atom (.int .i32 0),.atom (.int .i32 0)]),true⟩
def zet:wD prog 147 zl1:=tiq t147 underlying147 (λ_=>z1J Go.Ex.zqB rfl rfl)
def zl0:TI:=⟨.other,1,8,some (.atom .nilFunc),false⟩
def zes:wD prog 150 zl0:=tiq t150 ⟨_,underlying150,rfl⟩
def zkZ:TI:=⟨.int .u64,1,8,some (.atom (.int .u64 0)),false⟩
def zer:wD prog 153 zkZ:=tiq t153 underlying153
def zkY:TI:=⟨.other,1,8,some (.atom .nilFunc),false⟩
def zeq:wD prog 156 zkY:=tiq t156 ⟨_,underlying156,rfl⟩
def zkX:TI:=⟨.array 2 3,2,16,some (.agg [.atom (.int .i64 0),.atom (.int .i64 0)]),true⟩
def zep:wD prog 158 zkX:=tiq t158 underlying158 (λ_=>z1J Go.Ex.zpP rfl rfl)
def zkW:TI:=⟨.slice 158,1,24,some (.osl 2 true []),false⟩
def zeo:wD prog 159 zkW:=tiq t159 underlying159
def zkV:TI:=⟨.other,1,8,some (.atom .nilFunc),false⟩
def zen:wD prog 161 zkV:=tiq t161 ⟨_,underlying161,rfl⟩
def zkU:TI:=⟨.other,1,8,some (.atom .nilFunc),false⟩
def zem:wD prog 165 zkU:=tiq t165 ⟨_,underlying165,rfl⟩
def zkT:TI:=⟨.other,1,8,some (.atom .nilFunc),false⟩
def zel:wD prog 167 zkT:=tiq t167 ⟨_,underlying167,rfl⟩
def zkS:TI:=⟨.other,1,8,some (.atom .nilFunc),false⟩
def zek:wD prog 172 zkS:=tiq t172 ⟨_,underlying172,rfl⟩
def zkR:TI:=⟨.other,1,8,some (.atom .nilFunc),false⟩
def zej:wD prog 188 zkR:=tiq t188 ⟨_,underlying188,rfl⟩
def zkQ:TI:=⟨.other,1,8,some (.atom .nilFunc),false⟩
def zei:wD prog 193 zkQ:=tiq t193 ⟨_,underlying193,rfl⟩
def zkP:TI:=⟨.other,1,8,some (.atom .nilFunc),false⟩
def zeh:wD prog 194 zkP:=tiq t194 ⟨_,underlying194,rfl⟩
def zkO:TI:=⟨.other,1,8,some (.atom .nilFunc),false⟩
def zeg:wD prog 196 zkO:=tiq t196 ⟨_,underlying196,rfl⟩
def zkN:TI:=⟨.other,1,8,some (.atom .nilFunc),false⟩
def zef:wD prog 197 zkN:=tiq t197 ⟨_,underlying197,rfl⟩
def zkL:TI:=⟨.other,1,8,some (.atom .nilFunc),false⟩
def zee:wD prog 208 zkL:=tiq t208 ⟨_,underlying208,rfl⟩
def zkK:TI:=⟨.other,1,8,some (.atom .nilFunc),false⟩
def zed:wD prog 209 zkK:=tiq t209 ⟨_,underlying209,rfl⟩
def zkJ:TI:=⟨.other,1,8,some (.atom .nilFunc),false⟩
def zec:wD prog 213 zkJ:=tiq t213 ⟨_,underlying213,rfl⟩
def zkI:TI:=⟨.other,1,8,some (.atom .nilFunc),false⟩
def zeb:wD prog 215 zkI:=tiq t215 ⟨_,underlying215,rfl⟩
def zkH:TI:=⟨.other,1,8,some (.atom .nilFunc),false⟩
def zea:wD prog 216 zkH:=tiq t216 ⟨_,underlying216,rfl⟩
def zkG:TI:=⟨.struct [(0,1),(1,1),(2,1)],3,24,some (.agg [.atom (.int .i64 0),.atom (.int .i64 0),.atom (.int .i64 0)]),true⟩
def ze9:wD prog 219 zkG:=tiq t219 ⟨_,underlying219,κ,by
 intro f hf;simp only[pG,gF,or_false]at hf;rcases hf with rfl|rfl|rfl
 ·exact⟨Tryz.t3,κ⟩
 ·exact⟨Tryz.t3,κ⟩
 exact⟨Tryz.t3,κ⟩⟩ (λ_=>z1J Go.Ex.zqA rfl rfl)
def zkF:TI:=⟨.other,1,8,some (.atom (.map none)),false⟩
def ze8:wD prog 220 zkF:=tiq t220 ⟨_,underlying220,rfl⟩
def zkE:TI:=⟨.array 64 57,64,1536,some (.agg (List.replicate 64 (.dop (nlQ 1 [])))),false⟩
def ze7:wD prog 223 zkE:=⟨⟨t223,κ,rfl,rfl,λz h=>by cases h;exact⟨_,rfl,κ,λS h=>zmr (z2i (z0x (za4) 64)) κ⟩⟩,underlying223,by intro h;cases h⟩
def zkD:TI:=⟨.ptr 238,1,8,some (.atom (.pointer none)),false⟩
def ze6:wD prog 224 zkD:=tiq t224 underlying224
def zkC:TI:=⟨.other,1,8,some (.atom .nilFunc),false⟩
def ze5:wD prog 228 zkC:=tiq t228 ⟨_,underlying228,rfl⟩
def zkB:TI:=⟨.other,1,8,some (.atom (.map none)),false⟩
def ze4:wD prog 229 zkB:=tiq t229 ⟨_,underlying229,rfl⟩
def zkA:TI:=⟨.array 16 158,32,256,some (.agg [.agg [.atom (.int .i64 0),.atom (.int .i64 0)],.agg [.atom (.int .i64 0),.atom (.int .i64 0)],.agg [.atom (.int .i64 0),.atom (.int .i64 0)],.agg [.atom (.int .i64 0),.atom (.int .i64 0)],.agg [.atom (.int .i64 0),.atom (.int .i64 0)],.agg [.atom (.int .i64 0),.atom (.int .i64 0)],.agg [.atom (.int .i64 0),.atom (.int .i64 0)],.agg [.atom (.int .i64 0),.atom (.int .i64 0)],.agg [.atom (.int .i64 0),.atom (.int .i64 0)],.agg [.atom (.int .i64 0),.atom (.int .i64 0)],.agg [.atom (.int .i64 0),.atom (.int .i64 0)],.agg [.atom (.int .i64 0),.atom (.int .i64 0)],.agg [.atom (.int .i64 0),.atom (.int .i64 0)],.agg [.atom (.int .i64 0),.atom (.int .i64 0)],.agg [.atom (.int .i64 0),.atom (.int .i64 0)],.agg [.atom (.int .i64 0),.atom (.int .i64 0)]]),true⟩
def ze3:wD prog 231 zkA:=tiq t231 underlying231 (λ_=>z1J Go.Ex.zpO rfl rfl)
def zkz:TI:=⟨.struct [(0,1),(1,32)],33,264,some (.agg [.atom (.int .i64 0),.agg [.agg [.atom (.int .i64 0),.atom (.int .i64 0)],.agg [.atom (.int .i64 0),.atom (.int .i64 0)],.agg [.atom (.int .i64 0),.atom (.int .i64 0)],.agg [.atom (.int .i64 0),.atom (.int .i64 0)],.agg [.atom (.int .i64 0),.atom (.int .i64 0)],.agg [.atom (.int .i64 0),.atom (.int .i64 0)],.agg [.atom (.int .i64 0),.atom (.int .i64 0)],.agg [.atom (.int .i64 0),.atom (.int .i64 0)],.agg [.atom (.int .i64 0),.atom (.int .i64 0)],.agg [.atom (.int .i64 0),.atom (.int .i64 0)],.agg [.atom (.int .i64 0),.atom (.int .i64 0)],.agg [.atom (.int .i64 0),.atom (.int .i64 0)],.agg [.atom (.int .i64 0),.atom (.int .i64 0)],.agg [.atom (.int .i64 0),.atom (.int .i64 0)],.agg [.atom (.int .i64 0),.atom (.int .i64 0)],.agg [.atom (.int .i64 0),.atom (.int .i64 0)]]]),true⟩
def z93:wD prog 234 zkz:=tiq t234 ⟨_,underlying234,κ,by
 intro f hf;simp only[pG,gF,or_false]at hf;rcases hf with rfl|rfl
 ·exact⟨Tryz.t3,κ⟩
 exact⟨t231,κ⟩⟩ (λ_=>z1J Go.Ex.zpN rfl rfl)
def zky:TI:=⟨.other,1,8,some (.atom .nilFunc),false⟩
def ze2:wD prog 235 zky:=tiq t235 ⟨_,underlying235,rfl⟩
def zkx:TI:=⟨.slice 219,1,24,some (.osl 3 true []),false⟩
def ze1:wD prog 236 zkx:=tiq t236 underlying236
def zkw:TI:=⟨.array 64 223,4096,98304,some (.agg (List.replicate 64 (.agg (List.replicate 64 (.dop (nlQ 1 [])))))),false⟩
def ze0:wD prog 238 zkw:=⟨⟨t238,κ,rfl,rfl,λz h=>by cases h;exact⟨_,rfl,κ,λS h=>zmr (z2i (z0x (z2i (z0x (za4) 64)) 64)) κ⟩⟩,underlying238,by intro h;cases h⟩
def zkv:TI:=⟨.slice 243,1,24,some (.osl 4 true []),false⟩
def zdZ:wD prog 239 zkv:=tiq t239 underlying239
def zku:TI:=⟨.struct [(0,1),(1,1),(2,1),(3,1)],4,48,some (.agg [.atom (.int .i64 0),.atom (.int .i64 0),.osl 1 true [],.atom (.bool false)]),false⟩
def zdY:wD prog 243 zku:=tiq t243 ⟨_,underlying243,κ,by
 intro f hf;simp only[pG,gF,or_false]at hf;rcases hf with rfl|rfl|rfl|rfl
 ·exact⟨Tryz.t3,κ⟩
 ·exact⟨Tryz.t3,κ⟩
 ·exact⟨t57,κ⟩
 exact⟨Tryz.t4,κ⟩⟩
def tiL:List (Nat×TI):=[(1,ti1),(2,ti2),(3,ti3),(4,ti4),(5,ti5),(9,ti9),(20,zpL),(21,zpK),(22,zpJ),(23,zpI),(25,zpH),(27,zpG),(28,zpF),(29,zpE),(30,zpD),(32,zpC),(33,zpB),(34,zpA),(37,zpz),(40,zpy),(49,zpx),(54,zpw),(57,zpv),(58,zpu),(68,zpt),(70,zps),(71,zpr),(72,zpq),(80,zpp),(81,zpo),(82,zpn),(83,zpm),(87,zpl),(88,zpk),(96,zpj),(97,zpi),(98,zph),(104,zlm),(105,zll),(108,zlk),(110,zlj),(111,zli),(113,zlh),(115,zlg),(117,zlf),(121,zle),(122,zld),(123,zlc),(125,zlb),(126,zla),(132,zl9),(133,zl8),(137,zl7),(139,zl6),(140,zl5),(141,zl4),(144,zl3),(145,zl2),(147,zl1),(150,zl0),(153,zkZ),(156,zkY),(158,zkX),(159,zkW),(161,zkV),(165,zkU),(167,zkT),(172,zkS),(188,zkR),(193,zkQ),(194,zkP),(196,zkO),(197,zkN),(208,zkL),(209,zkK),(213,zkJ),(215,zkI),(216,zkH),(219,zkG),(220,zkF),(223,zkE),(224,zkD),(228,zkC),(229,zkB),(231,zkA),(234,zkz),(235,zky),(236,zkx),(238,zkw),(239,zkv),(243,zku)]
def uQ:TT:=λt=>(tiL.find? λp=>p.1==t).map (·.2)
def zdJ (P:Program):List (Nat×TI)->Prop
 |[]=>True
 |p::l=>wD P p.1 p.2/\zdJ P l
def zdJ.mem:∀{l:List (Nat×TI)},zdJ P l->∀p∈l,wD P p.1 p.2
 |p::_,h,q,hq=>by
  rcases pG.1 hq with rfl|hq
  ·exact h.1
  exact zdJ.mem h.2 q hq
 |[],_,_,hq=>by cases hq
def zko:zdJ prog tiL:=⟨zkM,zkt,zks,zkr,zkq,zkp,zi5,zi4,zi3,zi2,zi1,zi0,zhZ,zhY,zhX,zhW,zhV,zhU,zhT,zhS,zhR,zhQ,zhP,zhO,zhN,zhM,zhL,zhK,zhJ,zhI,zhH,zhG,zhF,zhE,zhD,zhC,zhB,zeO,zeN,zeM,zeL,zeK,zeJ,zeI,zeH,zeG,zeF,zeE,zeD,zeC,zeB,zeA,zez,zey,zex,zew,zev,zeu,zet,zes,zer,zeq,zep,zeo,zen,zem,zel,zek,zej,zei,zeh,zeg,zef,zee,zed,zec,zeb,zea,ze9,ze8,ze7,ze6,ze5,ze4,ze3,z93,ze2,ze1,ze0,zdZ,zdY,trivial⟩
def zn:xH prog uQ:=by intro t i h;unfold uQ at h;rw[pZ]at h;obtain⟨p,h1,rfl⟩:=h;have h2:=List.find?_some h1;have h3:=zko.mem p (List.mem_of_find?_eq_some h1);rw[beq_iff_eq.1 h2]at h3;exact h3
end Go.Own

namespace Go.Proofs
open Go.Proofs.Tryz
open Go.RowKit Go.Lib
def Tryz.groI:(prog.info? 3).map (λi=>(i.size,i.bytes,i.zero))=some (1,8,some (.int .i64 0)):=by kernel_rfl
set_option maxHeartbeats 4000000 in
set_option maxRecDepth 100000 in
def Tryz.gro_run (p:Option Addr)(n:Nat)(w:World)(h0:0<n)(h1:n<=1000000) :
  Calls prog 174 #[.slice p 0 0,.int .i64 n] w λe w'=>
   e=.returned (.slice (some ⟨w.heap.size,0,none⟩) 0 (grownCap w n 0 3)) /\
   w'=w.drew.alloc (.cells (#[]++Builtin.zeroCells (Value.int .i64 0).cells n++Builtin.zeroCells (Value.int .i64 0).cells (grownCap w n 0 3-n)) 3):=by
 obtain⟨i0,hi0,hi⟩:=pZ.1 Tryz.groI;obtain⟨hs0,hi⟩:=Prod.mk.inj hi;obtain⟨hb0,hz0⟩:=Prod.mk.inj hi;have mixed:prog.follows .mixedOrders=true:=by kernel_rfl
 have h1':¬((n:Int)<0):=ω
 have h3:wrap64 ((n:Int))=(n:Int):=by unfold wrap64;omega
 have h4:(n:Int)>0:=ω
 have hold:(Builtin.firstCells i0.size 0 (.slice p 0 0)).run prog w.drew=.ok ([]:List Value).toArray w.drew:=by
  cases p with
  |none=>exact run_firstCells_none w.drew i0.size 0 0 0
  |some a=>exact run_firstCells_some w.drew i0.size 0 a 0 0 [] ς (λj v hj=>by simp at hj)
 have hrz:∀ty,(Builtin.append_ #[57,3] ty #[.slice p 0 0,.int .i64 (n:Int)]).run prog w =
   .ok (.slice (some ⟨w.heap.size,0,none⟩) n (grownCap w n 0 3)) (w.drew.alloc (.cells (#[]++Builtin.zeroCells (Value.int .i64 0).cells n++Builtin.zeroCells (Value.int .i64 0).cells (grownCap w n 0 3-n)) 3)):=λty=>by
  have h:=Lib.run_append_grow_zeros w 57 3 ty 3 i0 (.int .i64 0) .i64 .i64 underlying57 underlying3 hi0 hz0 p 0 0 [] hold n h0 ω ω ω
   (by rw[hb0];omega)
   (by rw[mC];exact growslice_fits h0 (by rw[hb0];omega))
  rw[mC]at h;exact h
 have hGn:n<=grownCap w n 0 3:=grownCap_ge w _ _ _;obtain⟨G,hG⟩:∃G,G=grownCap w n 0 3:=⟨_,rfl⟩;rw[<-hG]at hrz hGn⊢;have hG63:G<=9223372036854775807:=by have:=grownCap_le_maxLen w n 0 3 (by unfold maxLen;omega);rw[<-hG]at this;unfold maxLen at this;omega
 clear hold hG
 go_enter func174,ntmps174
 cases p with
 |none=>
  go_wp2_with (at_builtin;refine Lib.wpList_append_run _ rfl _ _ _ _ rfl _ _ rfl rfl _ _ (hrz _) ?_)
  all_goals (go_ret;exact⟨rfl,rfl⟩)
 |some a=>
  obtain⟨ab,ao,asp⟩:=a
  go_wp2_with (at_builtin;refine Lib.wpList_append_run _ rfl _ _ _ _ rfl _ _ rfl rfl _ _ (hrz _) ?_)
  all_goals (go_ret;exact⟨rfl,rfl⟩)
end Go.Proofs
namespace Go.Own
open Go.Proofs
def zcL (n:Int)(h0:0<n)(h1:n<=1000000):uR Tryz.prog 174 [.sl 1 true [],eI .i64 n] (.osl 1 false []):=by
 refine⟨⟨_,Tryz.func174,κ,κ⟩,?_⟩;intro S w vs F hS hq hF;obtain⟨m,rfl⟩:∃m:Nat,n=(m:Int):=⟨n.toNat,ω⟩;match vs,hq with
 |[u,v],q=>
  obtain⟨F1,F2,rfl,q1,F3,F4,rfl,q2,q3⟩:=q;have e3:F4=[]:=q3;subst e3;have d:∀{x:A} {u:Value} {F:TC},x.isD=true->Has S w.heap x u F->wX S x u/\F=[]:=by
   intro x u F hx q;rcases q with⟨q,rfl⟩|⟨cs,q1,q2,q3⟩
   ·exact⟨q.rep1 hx,rfl⟩
   obtain⟨r,rfl⟩:=q1.isD hx;exact⟨⟨cs,r,q3⟩,rfl⟩
  obtain⟨⟨cs,r1,e1⟩,rfl⟩:=d rfl q1;obtain⟨⟨ds,r2,e2⟩,rfl⟩:=d rfl q2;simp only[Rep]at r1;obtain⟨p,c,rfl,hc,_⟩:=r1;obtain rfl:c=0:=ξ hc
  have hv:v=.int .i64 (m:Int):=by
   rw[e2];obtain⟨rfl,_⟩:ds=[.int .i64 (m:Int)]/\_:=by simpa only[eI,Rep] using r2
   rfl
  have hu:u=.slice p 0 0:=by rw[e1];rfl
  subst hv hu;refine(Tryz.gro_run p m w ω ω).mono ?_;rintro e' w' ⟨rfl,rfl⟩;have hsz:∀k,(Builtin.zeroCells (Value.int .i64 0).cells k).size=k:=λk=>by simp[Builtin.zeroCells,Value.cells]
  have hGn:m<=grownCap w m 0 3:=grownCap_ge w _ _ _;have hGm:=grownCap_le_maxLen w m 0 3 (by unfold maxLen;omega);have hfr:∀o,S w.heap.size o=none:=λo=>by
   cases hh:S w.heap.size o with
   |none=>rfl
   |some x=>have:=hS _ _ _ hh;simp[zU]at this
  generalize grownCap w m 0 3=G at hGn hGm⊢;refine⟨_,S,[w.heap.size],rfl,((YT.refl _ _).drew).alloc (.inl (pF _)) _,λ_ _ _ h=>h,λ_ _ _ _=>rfl,⟨λb o v h=>?_,hS.gok,hS.blk.of (λ_ _ _ q=>q) λg x e=>?_⟩,.inr ⟨[.slice (some ⟨w.heap.size,0,none⟩) 0 G],?_,ς,rfl⟩,ς,ς⟩
  ·have h':=hS _ _ _ h;have hne:b≠w.heap.size:=by rintro rfl;rw[hfr]at h;cases h
   show zU (w.heap.push _) b o=some v;unfold zU at h' ⊢;rw[mJ,if_neg hne];exact h'
  ·have hlt:=hS.blk.lt e;show(w.heap.push _)[g]?=_;rw[mJ,if_neg ω]
  simp only[zD];refine⟨_,G,rfl,ς,ς,hGm,ς,.inr ⟨w.heap.size,_,3,[],[],rfl,by show(w.heap.push _)[w.heap.size]?=_;rw[mJ,if_pos rfl],?_,ς,⟨rfl,rfl⟩,rfl,hfr⟩⟩;simp only[Array.size_append,hsz,Array.size_empty];omega
end Go.Own

namespace Go.Proofs
open Go.Proofs.Tryz
open Go.RowKit Go.Lib
def Tryz.meth81 (w:World):(method 370 81 (.agg #[]) "gauntlet/suites.fill").run prog w=.ok (190,.agg #[]) w:=by kernel_rfl
def Tryz.meth82 (w:World):(method 370 82 (.agg #[]) "gauntlet/suites.fill").run prog w=.ok (192,.agg #[]) w:=by kernel_rfl
def Tryz.meth83 (w:World):(method 370 83 (.agg #[]) "gauntlet/suites.fill").run prog w=.ok (203,.agg #[]) w:=by kernel_rfl
def Tryz.tas (w:World):(Instr.typeAssert (.iface 137 (.agg #[])) 20 137 true).run prog w=.ok (.tuple #[.agg #[],.bool true]) w:=by kernel_rfl
def Tryz.mk1 (w:World):(Instr.makeSlice 139 (.int .i64 1) (.int .i64 1)).run prog w=.ok (.slice (some ⟨w.heap.size,0,none⟩) 1 1) (w.alloc (.cells (Array.replicate 16 (.int .i32 0)) 147)):=by
 have h:(prog.info? 147).map (λi=>(i.size,i.bytes,i.zero))=some (16,64,some (.agg (Array.replicate 16 (.int .i32 0)))):=by kernel_rfl
 obtain⟨i0,hi0,hi⟩:=pZ.1 h;obtain⟨hs0,hi⟩:=Prod.mk.inj hi;obtain⟨hb0,hz0⟩:=Prod.mk.inj hi;have q:=run_makeSlice (P:=prog) (w:=w) 139 147 i0 _ underlying139 hi0 hz0 .i64 .i64 1 1 ω ω (by rw[hs0];decide) (by rw[hb0];omega) ω;rw[hs0,show madeCells (Value.agg (Array.replicate 16 (Value.int .i32 0))).cells (Int.toNat 1*16)=Array.replicate 16 (.int .i32 0) from by kernel_rfl]at q;exact q
def Tryz.gw4 (w:World)(most:Int):World :=
 (((w.alloc (.cells #[.pointer (some ⟨w.heap.size+1+1+1,0,none⟩)] 108)).alloc (.cells #[.bool false] 4)).alloc (.cells (Array.replicate 16 (.int .i32 0)) 147)).alloc (.cells #[.slice (some ⟨w.heap.size+1+1,0,none⟩) 1 1,.int .i64 0,.int .i64 most] 141)
def Tryz.catch_idle (p q:Addr)(w:World) :
  CallsD prog 94 #[.pointer (some p),.pointer (some q)] .returning w λe u' w'=>e=.returned (.tuple #[])/\u'=.returning/\w'=w:=by
 refine callsD_of_wpS func94 rfl λc₀ cs hu=>?_;apply wpS_seq;apply wpS_region;simp[wpOpsS,go_sem,recoverD,hu,ntmps94,Exit.thenS];apply wpS_seq;apply wpS_region;simp[wpOpsS,go_sem,recoverD,hu,ntmps94,Exit.thenS];refine wpS_cond (t:=false) (by simp[Act.eval,Array.replicate]) ?_;simp only[gP,if_false];refine wpS_of_wp (wp_skip ?_);cases c₀
 simp_all [bodyPostS,results,results94]
def Tryz.catch_panicking (n:Nat)(older:List PanicEntry)(w:World)(x:Value)(y:Value)(h1:w.heap[n]?=some (.cells #[x] 108))(h2:w.heap[n+1]?=some (.cells #[y] 4)) :
  CallsD prog 94 #[.pointer (some ⟨n,0,none⟩),.pointer (some ⟨n+1,0,none⟩)] (.panicking ({ v:=.iface 137 (.agg #[]),recovered:=false }::older)) w λe u' w'=>e=.returned (.tuple #[])/\u'=.panicking ({ v:=.iface 137 (.agg #[]),recovered:=true }::older)/\w'=((w.alloc (.cells #[] 137)).setCell ⟨n,0,none⟩ (.pointer none)).setCell ⟨n+1,0,none⟩ (.bool false):=by
 have ht:=Tryz.tas;refine callsD_of_wpS func94 rfl λc₀ cs hu=>?_;apply wpS_seq;apply wpS_region;simp[wpOpsS,go_sem,recoverD,hu,ntmps94,Exit.thenS];apply wpS_seq;apply wpS_region;simp[wpOpsS,go_sem,recoverD,hu,ntmps94,Exit.thenS];refine wpS_cond (t:=true) (by simp[Act.eval,Array.replicate]) ?_;simp only[if_true];apply wpS_seq;apply wpS_seq;apply wpS_region;simp[wpOpsS,go_sem,recoverD,hu,ntmps94,Exit.thenS,ht];apply wpS_seq;apply wpS_region;simp[wpOpsS,go_sem,recoverD,hu,ntmps94,Exit.thenS,ht];refine wpS_cond (t:=false) (by simp[Act.eval,Array.replicate]) ?_;simp only[gP,if_false];refine wpS_of_wp (wp_skip ?_);simp only[Exit.thenS];apply wpS_region;have l1:=(pR.1 h1).1;have l2:=(pR.1 h2).1;have g1:(w.alloc (.cells #[] 137)).heap[n]?=some (.cells #[x] 108):=by simp only[World.alloc];rw[mJ,if_neg ω,h1]
 have g2:(w.alloc (.cells #[] 137)).heap[n+1]?=some (.cells #[y] 4):=by simp only[World.alloc];rw[mJ,if_neg ω,h2]
 have hp1:(w.alloc (.cells #[] 137)).cell? ⟨n,0,none⟩=some x:=by simp[World.cell?,g1]
 have hz1:(w.alloc (.cells #[] 137)).frozen? ⟨n,0,none⟩=false:=by simp[World.frozen?,g1]
 have g3:((w.alloc (.cells #[] 137)).setCell ⟨n,0,none⟩ (.pointer none)).heap[n+1]?=some (.cells #[y] 4):=by simp only[World.setCell,nK];rw[if_neg ω,g2]
 have hp2:((w.alloc (.cells #[] 137)).setCell ⟨n,0,none⟩ (.pointer none)).cell? ⟨n+1,0,none⟩=some y:=by simp only[World.cell?,g3];rfl
 have hz2:((w.alloc (.cells #[] 137)).setCell ⟨n,0,none⟩ (.pointer none)).frozen? ⟨n+1,0,none⟩=false:=by simp only[World.frozen?,g3];rfl
 simp[wpOpsS,go_sem,recoverD,hu,ntmps94,Exit.thenS,ht,hp1,hz1,hp2,hz2];cases c₀
 simp_all [bodyPostS,results,results94]
set_option maxHeartbeats 4000000 in
set_option maxRecDepth 100000 in
def Tryz.gat_run (T kf:Nat)(hmeth:∀w,(method 370 T (.agg #[]) "gauntlet/suites.fill").run prog w=.ok (kf,.agg #[]) w)(hcf:∀args w,(callFunc kf args).run prog w=.ok (.enter kf args) w)(xv:Value)(most:Int)(w:World)(K:World->Prop)
  (hcall:Calls prog kf #[.agg #[],xv,.pointer (some ⟨w.heap.size+1+1+1,0,none⟩)] (Tryz.gw4 w most) λe w5=>e=.returned (.tuple #[])/\w5.heap[w.heap.size]?=some (.cells #[.pointer (some ⟨w.heap.size+1+1+1,0,none⟩)] 108)/\w5.heap[w.heap.size+1]?=some (.cells #[.bool false] 4)/\K w5) :
  Calls prog 62 #[xv,.iface T (.agg #[]),.int .i64 most] w λe w'=>e=.returned (.tuple #[.pointer (some ⟨w.heap.size+1+1+1,0,none⟩),.bool true])/\∃w5,K w5/\w'=(w5.setCell ⟨w.heap.size,0,none⟩ (.pointer (some ⟨w.heap.size+1+1+1,0,none⟩))).setCell ⟨w.heap.size+1,0,none⟩ (.bool true):=by
 have hmf:∀(fn:Fn) (first cap:Array Value) (w:World),(Instr.makeFunc fn first cap).run prog w=.ok (.func fn first cap) w:=λ_ _ _ _=>rfl;have hmk:=Tryz.mk1
 go_enter_defers func62,ntmps62
 go_wp2
 refine Calls.mono hcall ?_;rintro e w5 ⟨rfl,h1,h2,h3⟩;have hc1:w5.cell? ⟨w.heap.size,0,none⟩=some (.pointer (some ⟨w.heap.size+1+1+1,0,none⟩)):=by simp[World.cell?,h1]
 have hc2:w5.cell? ⟨w.heap.size+1,0,none⟩=some (.bool false):=by simp[World.cell?,h2]
 have hz1:w5.frozen? ⟨w.heap.size,0,none⟩=false:=by simp[World.frozen?,h1]
 have hz2:w5.frozen? ⟨w.heap.size+1,0,none⟩=false:=by simp[World.frozen?,h2]
 dsimp only
 go_wp2
 refine leaves_cons (f:=94) (args:=#[.pointer (some ⟨w.heap.size,0,none⟩),.pointer (some ⟨w.heap.size+1,0,none⟩)]) ς (by simp[go_sem]) ?_;refine(Tryz.catch_idle _ _ _).mono ?_;rintro e u' w'' ⟨rfl,rfl,rfl⟩;have hcA:(w5.setCell ⟨w.heap.size,0,none⟩ (.pointer (some ⟨w.heap.size+1+1+1,0,none⟩))).cell? ⟨w.heap.size,0,none⟩=some (.pointer (some ⟨w.heap.size+1+1+1,0,none⟩)):=by simp[World.cell?,World.setCell,nK,h1]
 have hcB:((w5.setCell ⟨w.heap.size,0,none⟩ (.pointer (some ⟨w.heap.size+1+1+1,0,none⟩))).setCell ⟨w.heap.size+1,0,none⟩ (.bool true)).cell? ⟨w.heap.size+1,0,none⟩=some (.bool true):=by simp[World.cell?,World.setCell,nK,h2]
 simp[Leaves,settle,results,results62,go_sem,hcA,hcB];exact⟨w5,h3,rfl⟩
set_option maxHeartbeats 4000000 in
set_option maxRecDepth 100000 in
def Tryz.gat_die (T kf:Nat)(hmeth:∀w,(method 370 T (.agg #[]) "gauntlet/suites.fill").run prog w=.ok (kf,.agg #[]) w)(hcf:∀args w,(callFunc kf args).run prog w=.ok (.enter kf args) w)(xv:Value)(most:Int)(w:World)(K:World->Prop)
  (hcall:Calls prog kf #[.agg #[],xv,.pointer (some ⟨w.heap.size+1+1+1,0,none⟩)] (Tryz.gw4 w most) λe w5=>e=.panicked (Own.kI (.iface 137 (.agg #[])))/\w5.heap[w.heap.size]?=some (.cells #[.pointer (some ⟨w.heap.size+1+1+1,0,none⟩)] 108)/\w5.heap[w.heap.size+1]?=some (.cells #[.bool false] 4)/\K w5) :
  Calls prog 62 #[xv,.iface T (.agg #[]),.int .i64 most] w λe w'=>e=.returned (.tuple #[.pointer none,.bool false])/\∃w5,K w5/\w'=((w5.alloc (.cells #[] 137)).setCell ⟨w.heap.size,0,none⟩ (.pointer none)).setCell ⟨w.heap.size+1,0,none⟩ (.bool false):=by
 have hmf:∀(fn:Fn) (first cap:Array Value) (w:World),(Instr.makeFunc fn first cap).run prog w=.ok (.func fn first cap) w:=λ_ _ _ _=>rfl;have hmk:=Tryz.mk1
 go_enter_defers func62,ntmps62
 go_wp2
 refine Calls.mono hcall ?_;rintro e w5 ⟨rfl,h1,h2,h3⟩;have l1:=(pR.1 h1).1;have l2:=(pR.1 h2).1;have g1:(w5.alloc (.cells #[] 137)).heap[w.heap.size]?=some (.cells #[.pointer (some ⟨w.heap.size+1+1+1,0,none⟩)] 108):=by simp only[World.alloc];rw[mJ,if_neg ω,h1]
 have g2:(w5.alloc (.cells #[] 137)).heap[w.heap.size+1]?=some (.cells #[.bool false] 4):=by simp only[World.alloc];rw[mJ,if_neg ω,h2]
 dsimp only[Own.kI];refine leaves_cons (f:=94) (args:=#[.pointer (some ⟨w.heap.size,0,none⟩),.pointer (some ⟨w.heap.size+1,0,none⟩)]) ς (by simp[go_sem]) ?_;refine(Tryz.catch_panicking w.heap.size [] w5 _ _ h1 h2).mono ?_;rintro e u' w'' ⟨rfl,rfl,rfl⟩;have hcA:((w5.alloc (.cells #[] 137)).setCell ⟨w.heap.size,0,none⟩ (.pointer none)).cell? ⟨w.heap.size,0,none⟩=some (.pointer none):=by simp[World.cell?,World.setCell,nK,g1]
 have hcB:(((w5.alloc (.cells #[] 137)).setCell ⟨w.heap.size,0,none⟩ (.pointer none)).setCell ⟨w.heap.size+1,0,none⟩ (.bool false)).cell? ⟨w.heap.size+1,0,none⟩=some (.bool false):=by simp[World.cell?,World.setCell,nK,g2]
 simp[Leaves,settle,results,results62,go_sem,hcA,hcB];exact⟨w5,h3,rfl⟩
end Go.Proofs
namespace Go.Own
open Go.Proofs
def z8F {T kf:Nat}(hmeth:∀w,(method 370 T (.agg #[]) "gauntlet/suites.fill").run Tryz.prog w=.ok (kf,.agg #[]) w)(hcf:∀args w,(callFunc kf args).run Tryz.prog w=.ok (.enter kf args) w){xs y z:A}{most:Int}{died:Bool}(hxs:xs.isD=true)(hl:y.live=true)(hz:y.shut=z)
  (hfill:∀bv,z8X Tryz.prog kf [.agg [],xs,.atom bv] [(bv,.box (.agg [.osl 16 false [.agg (List.replicate 16 (.atom (.int .i32 0)))],.atom (.int .i64 0),.atom (.int .i64 most)]))] died (.iface 137 (.agg #[])) (.tup []) [.box y]) :
  uR Tryz.prog 62 [xs,.atom (.iface T (.agg #[])),.atom (.int .i64 most)] (.tup [bif died then .atom (.pointer none) else .sptr z,.atom (.bool (!died))]):=by
 refine⟨⟨_,Tryz.func62,κ,κ⟩,?_⟩;intro S w vs F hS hq hF;match vs,hq with
 |[u,v,x],q=>
  obtain⟨F1,F2,rfl,q1,F3,F4,rfl,q2,F5,F6,rfl,q3,q4⟩:=q;have e4:F6=[]:=q4;subst e4;have d:∀{x:A} {u:Value} {F:TC},x.isD=true->Has S w.heap x u F->wX S x u/\F=[]:=by
   intro x u F hx q;rcases q with⟨q,rfl⟩|⟨cs,q1,q2,q3⟩
   ·exact⟨q.rep1 hx,rfl⟩
   obtain⟨r,rfl⟩:=q1.isD hx;exact⟨⟨cs,r,q3⟩,rfl⟩
  obtain⟨r1,rfl⟩:=d hxs q1;obtain⟨r2,rfl⟩:=d rfl q2;obtain⟨r3,rfl⟩:=d rfl q3;obtain rfl:v=.iface T (.agg #[]):=(yI.1 r2).1;obtain rfl:x=.int .i64 most:=(yI.1 r3).1;have hnew:∀b o,w.heap.size<=b->S b o=none:=λb o hb=>by
   cases hh:S b o with
   |none=>rfl
   |some x=>have:=hS _ _ _ hh;simp[zU,rV hb]at this
  have hsz:(Tryz.gw4 w most).heap.size=w.heap.size+4:=by simp only[Tryz.gw4,World.alloc,Array.size_push]
  have hold:∀b,b<w.heap.size->(Tryz.gw4 w most).heap[b]?=w.heap[b]?:=λb hb=>by simp only[Tryz.gw4,World.alloc];simp only[mJ,Array.size_push];rw[if_neg ω,if_neg ω,if_neg ω,if_neg ω]
  have c0:(Tryz.gw4 w most).heap[w.heap.size]?=some (.cells #[.pointer (some ⟨w.heap.size+1+1+1,0,none⟩)] 108):=by simp only[Tryz.gw4,World.alloc];simp only[mJ,Array.size_push];rw[if_neg ω,if_neg ω,if_neg ω,if_pos trivial]
  have c1:(Tryz.gw4 w most).heap[w.heap.size+1]?=some (.cells #[.bool false] 4):=by simp only[Tryz.gw4,World.alloc];simp only[mJ,Array.size_push];rw[if_neg ω,if_neg ω,if_pos trivial]
  have c2:(Tryz.gw4 w most).heap[w.heap.size+1+1]?=some (.cells (Array.replicate 16 (.int .i32 0)) 147):=by simp only[Tryz.gw4,World.alloc];simp only[mJ,Array.size_push];rw[if_neg ω,if_pos trivial]
  have c3:(Tryz.gw4 w most).heap[w.heap.size+1+1+1]?=some (.cells #[.slice (some ⟨w.heap.size+1+1,0,none⟩) 1 1,.int .i64 0,.int .i64 most] 141):=by simp only[Tryz.gw4,World.alloc];simp only[mJ,Array.size_push];rw[if_pos trivial]
  have hK4:YT (λk=>w.heap.size<=k\/k∈([]:TC)) w (Tryz.gw4 w most):=by
   unfold Tryz.gw4;refine((((YT.refl _ _).alloc (.inl (pF _)) _).alloc (.inl ?_) _).alloc (.inl ?_) _).alloc (.inl ?_) _
   all_goals simp only[World.alloc,Array.size_push];omega
  have hS4:yo S (Tryz.gw4 w most):=by
   refine⟨λb o u h=>?_,hS.gok,hS.blk.of (λ_ _ _ q=>q) λg x e=>hold g (hS.blk.lt e)⟩;have h':=hS _ _ _ h;have hb:b<w.heap.size:=by
    rcases pM b w.heap.size with h1|h1
    ·exact h1
    rw[hnew b o h1]at h;cases h
   unfold zU at h' ⊢;rw[hold b hb];exact h'
  have hbag:XI S (Tryz.gw4 w most).heap [.box (.agg [.osl 16 false [.agg (List.replicate 16 (.atom (.int .i32 0)))],.atom (.int .i64 0),.atom (.int .i64 most)])] [.pointer (some ⟨w.heap.size+1+1+1,0,none⟩)] [w.heap.size+1+1+1,w.heap.size+1+1]:=by
   have hcc:∀l:TE,(∀v∈l,v.oneCell'=true)->zH S (Tryz.gw4 w most).heap (l.map .atom) l []:=by
    intro l;induction l with
    |nil=>intro _;simp[zH]
    |cons a l ih=>intro h;simp only[gO,zH];exact⟨[a],l,[],[],rfl,rfl,by simp only[zD,Rep];simp[h a ς],ih λv hv=>h v (by simp[hv])⟩
   have ho:zD S (Tryz.gw4 w most).heap (.osl 16 false [.agg (List.replicate 16 (.atom (.int .i32 0)))]) [.slice (some ⟨w.heap.size+1+1,0,none⟩) 1 1] [w.heap.size+1+1]:=by
    simp only[zD];refine⟨some ⟨w.heap.size+1+1,0,none⟩,1,ς,ς,ς,by unfold maxLen;omega,?_,.inr ⟨w.heap.size+1+1,_,147,List.replicate 16 (.int .i32 0),[],rfl,c2,ς,ς,?_,ς,λo=>hnew _ o ω⟩⟩
    ·intro x hx;simp only[pG,gF,or_false]at hx;subst hx;rfl
    simp only[zH];exact⟨List.replicate 16 (.int .i32 0),[],[],[],ς,rfl,by simp only[zD];exact hcc (List.replicate 16 (.int .i32 0)) (by intro v hv;rw[mZ hv];rfl),rfl,rfl⟩
   refine⟨[w.heap.size+1+1+1,w.heap.size+1+1],[],ς,.inr ⟨[.pointer (some ⟨w.heap.size+1+1+1,0,none⟩)],?_,ς,rfl⟩,rfl⟩;simp only[zD];refine⟨w.heap.size+1+1+1,141,[.slice (some ⟨w.heap.size+1+1,0,none⟩) 1 1,.int .i64 0,.int .i64 most],[w.heap.size+1+1],rfl,c3,?_,rfl,λo=>hnew _ o ω⟩;simp only[zH];exact⟨_,_,[w.heap.size+1+1],[],rfl,rfl,ho,[.int .i64 0],_,[],[],rfl,rfl,⟨by simp[Rep,Value.oneCell'],rfl⟩,[.int .i64 most],[],[],[],rfl,rfl,⟨by simp[Rep,Value.oneCell'],rfl⟩,rfl,rfl⟩
  have hfree:∀k∈[w.heap.size+1+1+1,w.heap.size+1+1],k=w.heap.size+1+1+1\/k=w.heap.size+1+1:=λk hk=>ξ hk
  have hargs:Xg (wX S) [.agg [],xs,.atom (.pointer (some ⟨w.heap.size+1+1+1,0,none⟩))] [.agg #[],u,.pointer (some ⟨w.heap.size+1+1+1,0,none⟩)] :=
   ⟨⟨[],by simp[Rep,zX],rfl⟩,r1,yI.2 ⟨rfl,rfl⟩,trivial⟩
  have hfv:wX S (.fn kf []) (.func (.func kf) #[] #[]):=⟨[.func (.func kf) #[] #[]],by simp[Rep,zX],rfl⟩;obtain⟨hok,hdie⟩:=hfill (.pointer (some ⟨w.heap.size+1+1+1,0,none⟩));have hkept:∀{w5:World},YT (λk=>(Tryz.gw4 w most).heap.size<=k\/k∈[w.heap.size+1+1+1,w.heap.size+1+1]) (Tryz.gw4 w most) w5->w5.heap[w.heap.size]?=some (.cells #[.pointer (some ⟨w.heap.size+1+1+1,0,none⟩)] 108)/\w5.heap[w.heap.size+1]?=some (.cells #[.bool false] 4):=λh=>
   have hm:∀k,k<w.heap.size+2->¬((Tryz.gw4 w most).heap.size<=k\/k∈[w.heap.size+1+1+1,w.heap.size+1+1]):=λk hk q=>by
    rcases q with q|q
    ·rw[hsz]at q;omega
    have:=hfree _ q;omega
   ⟨(h.block _ (hm _ ω)).trans c0,(h.block _ (hm _ ω)).trans c1⟩
  have hset:∀(w5:World) (a b:Value),YT (λk=>w.heap.size<=k\/k∈([]:TC)) w5 ((w5.setCell ⟨w.heap.size,0,none⟩ a).setCell ⟨w.heap.size+1,0,none⟩ b):=λw5 a b=>
   ⟨rfl,rfl,rfl,pF _,by simp[World.setCell],λk hk=>by simp only[World.setCell,nK];rw[if_neg (by rintro rfl;exact hk (.inl ω)),if_neg (by rintro rfl;exact hk (.inl ω))]⟩
  have hset2:∀(w5:World) (a b:Value) (k:Nat),k≠w.heap.size->k≠w.heap.size+1->((w5.setCell ⟨w.heap.size,0,none⟩ a).setCell ⟨w.heap.size+1,0,none⟩ b).heap[k]?=w5.heap[k]?:=λw5 a b k h1 h2=>by simp only[World.setCell,nK];rw[if_neg (rA h2),if_neg (rA h1)]
  have hstay:∀{w5 w6:World} {S5:zf},yo S5 w5->(∀o,S5 w.heap.size o=none)->(∀o,S5 (w.heap.size+1) o=none)->(∀k,k<w5.heap.size->k≠w.heap.size->k≠w.heap.size+1->w6.heap[k]?=w5.heap[k]?)->yo S5 w6:=by
   intro w5 w6 S5 h k1 k2 hb;have hne:∀b o u,S5 b o=some u->b≠w.heap.size/\b≠w.heap.size+1:=λb o u q=>⟨(by rintro rfl;rw[k1]at q;cases q),(by rintro rfl;rw[k2]at q;cases q)⟩;refine⟨λb o u q=>?_,h.gok,h.blk.of (λ_ _ _ q=>q) λg x e=>?_⟩
   ·have h':=h _ _ _ q;have hlt:b<w5.heap.size:=by
     unfold zU at h';cases hh:w5.heap[b]? with
     |none=>rw[hh]at h';cases h'
     |some y=>exact(pR.1 hh).1
    unfold zU at h' ⊢;rw[hb b hlt (hne b o u q).1 (hne b o u q).2];exact h'
   obtain⟨_,v,hv⟩:=h.blk g x e;exact hb g (h.blk.lt e) (hne g 0 v hv).1 (hne g 0 v hv).2
  cases died with
  |false=>
   have ha:=hok rfl S (Tryz.gw4 w most) _ _ _ hS4 hfv hargs hbag ς;rcases ha with⟨k,caps,fn,e1,_,_,_,h5⟩|⟨L,q,e1,_⟩
   ·cases e1;refine Calls.mono (Tryz.gat_run T kf hmeth hcf u most w (λw5=>∃(S':zf) (G:TC),YT (λk=>(Tryz.gw4 w most).heap.size<=k\/k∈[w.heap.size+1+1+1,w.heap.size+1+1]) (Tryz.gw4 w most) w5/\(∀b o u,S b o=some u->S' b o=some u)/\(∀b o,b<(Tryz.gw4 w most).heap.size->b∉[w.heap.size+1+1+1,w.heap.size+1+1]->S' b o=S b o)/\yo S' w5 /\
     Has S' w5.heap (.box y) (.pointer (some ⟨w.heap.size+1+1+1,0,none⟩)) G/\G.Nodup/\∀k∈G,(Tryz.gw4 w most).heap.size<=k\/k∈[w.heap.size+1+1+1,w.heap.size+1+1]) (Calls.mono h5 ?_)) ?_
    ·rintro e w5 ⟨v,rfl,S',F',G,b1,b2,b3,b4,b5,b6,b7,b8⟩;have hv:v=.tuple #[]:=by
      rcases b5 with⟨q,_⟩|⟨cs,q,_⟩
      ·simp only[xg]at q;obtain⟨us,rfl,q⟩:=q;cases us with
       |nil=>rfl
       |cons a l=>exact q.elim
      simp only[zD]at q
     subst hv;obtain⟨H1,H2,rfl,g1,g2⟩:=b6;have eH:H2=[]:=g2;subst eH;simp only[mA]at b7 b8;exact⟨rfl,(hkept b1).1,(hkept b1).2,S',H1,b1,b2,b3,b4,g1,(pU.1 b7).1,λk hk=>b8 k (by simp[hk])⟩
    rintro e w' ⟨rfl,w5,⟨S',G,b1,b2,b3,b4,b5,b6,b7⟩,rfl⟩;have hG:∀k∈G,w.heap.size+2<=k:=λk hk=>by
     rcases b7 k hk with q|q
     ·rw[hsz]at q;omega
     have:=hfree k q;omega
    have n1:∀o,S' w.heap.size o=none:=λo=>by rw[b3 _ _ (by rw[hsz];omega) (λq=>by have:=hfree _ q;omega)];exact hnew _ _ (pF _)
    have n2:∀o,S' (w.heap.size+1) o=none:=λo=>by rw[b3 _ _ (by rw[hsz];omega) (λq=>by have:=hfree _ q;omega)];exact hnew _ _ ω
    have hown:=b5.own;have hmono:=jO (S:=S') (h:=w5.heap) (F:=G) (λk hk=>(hown k hk).2);have hm5:yo (zG S' w5.heap G) w5:=⟨λb o u q=>by
     unfold zG at q;split at q
     ·exact q
     exact b4 b o u q,Gok.mono hmono b4.gok,b4.blk.of hmono λ_ _ _=>rfl⟩
    have hng:∀k,k<w.heap.size+2->k∉G:=λk hk q=>by have:=hG k q;omega
    refine⟨_,zG S' w5.heap G,[],rfl,(hK4.trans (b1.mono (λk hk=>.inl (by
      rcases hk with q|q
      ·rw[hsz]at q;omega
      have:=hfree k q;omega)))).trans (hset _ _ _),λb o u q=>hmono b o u (b2 b o u q),λb o hb hbF=>?_,hstay hm5 (λo=>?_) (λo=>?_) (λk _ h1 h2=>hset2 _ _ _ k h1 h2),.inl ⟨?_,rfl⟩,ς,ς⟩
    ·unfold zG;rw[if_neg (hng b ω)];exact b3 b o (by rw[hsz];omega) (λq=>by have:=hfree _ q;omega)
    ·unfold zG;rw[if_neg (hng _ ω)];exact n1 o
    ·unfold zG;rw[if_neg (hng _ ω)];exact n2 o
    simp only[xg];refine⟨[_,_],rfl,?_,yI.2 ⟨rfl,rfl⟩,trivial⟩;rcases b5 with⟨q,_⟩|⟨cs,q1,q2,q3⟩
    ·simp only[xg,wX,Rep,false_and,exists_false]at q
    refine⟨cs,?_,q3⟩;have:=q1.shut hmono (by simpa only[A.live] using hl) (λk hk o=>by unfold zG;rw[if_pos hk]);simp only[A.shut,hz]at this;exact this
   cases e1
  |true=>
   obtain⟨_,hcall⟩:=hdie rfl;refine Calls.mono (Tryz.gat_die T kf hmeth hcf u most w (λw5=>∃S':zf,YT (λk=>(Tryz.gw4 w most).heap.size<=k\/k∈[w.heap.size+1+1+1,w.heap.size+1+1]) (Tryz.gw4 w most) w5/\(∀b o u,S b o=some u->S' b o=some u)/\(∀b o,b<(Tryz.gw4 w most).heap.size->b∉[w.heap.size+1+1+1,w.heap.size+1+1]->S' b o=S b o)/\yo S' w5) (Calls.mono (hcall S (Tryz.gw4 w most) _ _ hS4 hargs hbag ς) ?_)) ?_
   ·rintro e w5 ⟨rfl,S',b1,b2,b3,b4⟩;exact⟨rfl,(hkept b1).1,(hkept b1).2,S',b1,b2,b3,b4⟩
   rintro e w' ⟨rfl,w5,⟨S',b1,b2,b3,b4⟩,rfl⟩;have n1:∀o,S' w.heap.size o=none:=λo=>by rw[b3 _ _ (by rw[hsz];omega) (λq=>by have:=hfree _ q;omega)];exact hnew _ _ (pF _)
   have n2:∀o,S' (w.heap.size+1) o=none:=λo=>by rw[b3 _ _ (by rw[hsz];omega) (λq=>by have:=hfree _ q;omega)];exact hnew _ _ ω
   have hs5:w.heap.size<=w5.heap.size:=by have:=b1.size;rw[hsz]at this;omega
   refine⟨_,S',[],rfl,(hK4.trans (b1.mono (λk hk=>.inl (by
     rcases hk with q|q
     ·rw[hsz]at q;omega
     have:=hfree k q;omega)))).trans (((YT.refl _ _).alloc (.inl hs5) _).trans (hset _ _ _)),b2,λb o hb hbF=>b3 b o (by rw[hsz];omega) (λq=>by have:=hfree _ q;omega),hstay b4 n1 n2 (λk hk h1 h2=>?_),.inl ⟨?_,rfl⟩,ς,ς⟩
   ·rw[hset2 _ _ _ k h1 h2];show(w5.heap.push _)[k]?=_;rw[mJ,if_neg ω]
   simp only[xg];exact⟨[_,_],rfl,yI.2 ⟨rfl,rfl⟩,yI.2 ⟨rfl,rfl⟩,trivial⟩
structure wF (α:Type) where
 e0:α
 e1:α
 deriving DecidableEq
instance {α:Type}[BEq α]:BEq (wF α):=⟨λx y=>(x.e0==y.e0)&&(x.e1==y.e1)⟩
section
variable {α:Type}
def z0v (f:α->A)(x:wF α):A:=.agg [f x.e0,f x.e1]
instance (f:α->A)[h:KJ f]:KJ (z0v f):=⟨λx=>by simp[z0v,A.isD,A.areD,h.isD]⟩
instance (f g:α->A)[h:YV f g]:YV (z0v f) (z0v g):=⟨λx=>by simp[z0v,A.loose,A.looses,h.lo]⟩
instance (f g:α->A)[h:z0O f g]:z0O (z0v f) (z0v g):=⟨λx=>by simp[z0v,A.live,A.lives,h.live],λx=>by simp[z0v,A.shut,A.shuts,h.sh]⟩
instance (f:α->A)[h:uJ f]:uJ (z0v f):=⟨λx y q=>by simp only[z0v,A.agg.injEq,List.cons.injEq,and_true]at q;cases x;cases y;simp only[wF.mk.injEq];exact⟨h.inj _ _ q.1,h.inj _ _ q.2⟩⟩
end
structure zdS (α:Type) where
 e0:α
 e1:α
 e2:α
 deriving DecidableEq
section
variable {α:Type}
def z4c (f:α->A)(x:zdS α):A:=.agg [f x.e0,f x.e1,f x.e2]
instance (f:α->A)[h:uJ f]:uJ (z4c f):=⟨λx y q=>by simp only[z4c,A.agg.injEq,List.cons.injEq,and_true]at q;cases x;cases y;simp only[zdS.mk.injEq];exact⟨h.inj _ _ q.1,h.inj _ _ q.2.1,h.inj _ _ q.2.2⟩⟩
end
structure zw (α:Type) where
 e0:α
 e1:α
 e2:α
 e3:α
 e4:α
 e5:α
 e6:α
 e7:α
 e8:α
 e9:α
 e10:α
 e11:α
 e12:α
 e13:α
 e14:α
 e15:α
 deriving DecidableEq
instance {α:Type}[BEq α]:BEq (zw α):=⟨λx y=>(x.e0==y.e0)&&(x.e1==y.e1)&&(x.e2==y.e2)&&(x.e3==y.e3)&&(x.e4==y.e4)&&(x.e5==y.e5)&&(x.e6==y.e6)&&(x.e7==y.e7)&&(x.e8==y.e8)&&(x.e9==y.e9)&&(x.e10==y.e10)&&(x.e11==y.e11)&&(x.e12==y.e12)&&(x.e13==y.e13)&&(x.e14==y.e14)&&(x.e15==y.e15)⟩
section
variable {α:Type}
def Wy (f:α->A)(x:zw α):A:=.agg [f x.e0,f x.e1,f x.e2,f x.e3,f x.e4,f x.e5,f x.e6,f x.e7,f x.e8,f x.e9,f x.e10,f x.e11,f x.e12,f x.e13,f x.e14,f x.e15]
instance (f:α->A)[h:KJ f]:KJ (Wy f):=⟨λx=>by simp[Wy,A.isD,A.areD,h.isD]⟩
instance (f g:α->A)[h:YV f g]:YV (Wy f) (Wy g):=⟨λx=>by simp[Wy,A.loose,A.looses,h.lo]⟩
instance (f g:α->A)[h:z0O f g]:z0O (Wy f) (Wy g):=⟨λx=>by simp[Wy,A.live,A.lives,h.live],λx=>by simp[Wy,A.shut,A.shuts,h.sh]⟩
instance (f:α->A)[h:uJ f]:uJ (Wy f):=⟨λx y q=>by simp only[Wy,A.agg.injEq,List.cons.injEq,and_true]at q;cases x;cases y;simp only[zw.mk.injEq];exact⟨h.inj _ _ q.1,h.inj _ _ q.2.1,h.inj _ _ q.2.2.1,h.inj _ _ q.2.2.2.1,h.inj _ _ q.2.2.2.2.1,h.inj _ _ q.2.2.2.2.2.1,h.inj _ _ q.2.2.2.2.2.2.1,h.inj _ _ q.2.2.2.2.2.2.2.1,h.inj _ _ q.2.2.2.2.2.2.2.2.1,h.inj _ _ q.2.2.2.2.2.2.2.2.2.1,h.inj _ _ q.2.2.2.2.2.2.2.2.2.2.1,h.inj _ _ q.2.2.2.2.2.2.2.2.2.2.2.1,h.inj _ _ q.2.2.2.2.2.2.2.2.2.2.2.2.1,h.inj _ _ q.2.2.2.2.2.2.2.2.2.2.2.2.2.1,h.inj _ _ q.2.2.2.2.2.2.2.2.2.2.2.2.2.2.1,h.inj _ _ q.2.2.2.2.2.2.2.2.2.2.2.2.2.2.2⟩⟩
end
section
variable {α:Type}
def zw.toL (x:zw α):List α:=[x.e0,x.e1,x.e2,x.e3,x.e4,x.e5,x.e6,x.e7,x.e8,x.e9,x.e10,x.e11,x.e12,x.e13,x.e14,x.e15]
def zw.ofL:List α->zw α->zw α
 |[x0,x1,x2,x3,x4,x5,x6,x7,x8,x9,fk,gn,x12,em,k9,gr],_=>⟨x0,x1,x2,x3,x4,x5,x6,x7,x8,x9,fk,gn,x12,em,k9,gr⟩
 |_,d=>d
def zw.toL_ofL (l:List α)(d:zw α)(h:l.length=16):(zw.ofL l d).toL=l:=by
 match l,h with
 |[x0,x1,x2,x3,x4,x5,x6,x7,x8,x9,fk,gn,x12,em,k9,gr],_=>rfl
def zw.setI (x:zw α)(i:Int)(v:α):zw α:=zw.ofL (x.toL.set i.toNat v) x
def zw.setL (f:α->A)(x:zw α)(i:Int)(v:α):(x.toL.map f).set i.toNat (f v)=((zw.setI x i v).toL).map f:=by unfold zw.setI;rw[zw.toL_ofL _ _ (by simp[zw.toL]),List.map_set]
end
structure z7 where
 o:Int
 r:Int
def v8 (f0:Int->A)(f1:Int->A)(x:z7):A:=.agg [f0 x.o,f1 x.r]
instance (f0:Int->A)(f1:Int->A)[h0:KJ f0][h1:KJ f1]:KJ (v8 f0 f1):=⟨λx=>by simp[v8,A.isD,A.areD,h0.isD,h1.isD]⟩
instance (f0:Int->A)(f1:Int->A)(g0:Int->A)(g1:Int->A)[h0:YV f0 g0][h1:YV f1 g1]:YV (v8 f0 f1) (v8 g0 g1):=⟨λx=>by simp[v8,A.loose,A.looses,h0.lo,h1.lo]⟩
instance (f0:Int->A)(f1:Int->A)(g0:Int->A)(g1:Int->A)[h0:z0O f0 g0][h1:z0O f1 g1]:z0O (v8 f0 f1) (v8 g0 g1):=⟨λx=>by simp[v8,A.live,A.lives,h0.live,h1.live],λx=>by simp[v8,A.shut,A.shuts,h0.sh,h1.sh]⟩
instance (f0:Int->A)(f1:Int->A)[h0:uJ f0][h1:uJ f1]:uJ (v8 f0 f1):=⟨λx y h=>by simp only[v8,A.agg.injEq,List.cons.injEq,and_true]at h;cases x;cases y;simp only[z7.mk.injEq];exact⟨h0.inj _ _ h.1,h1.inj _ _ h.2⟩⟩
structure z6 where
 j:Int
 m:Int
 i:List (List z7)
def xF (f0:Int->A)(f1:Int->A)(f2:List (List z7)->A)(x:z6):A:=.agg [f0 x.j,f1 x.m,f2 x.i]
instance (f0:Int->A)(f1:Int->A)(f2:List (List z7)->A)(g0:Int->A)(g1:Int->A)(g2:List (List z7)->A)[h0:YV f0 g0][h1:YV f1 g1][h2:YV f2 g2]:YV (xF f0 f1 f2) (xF g0 g1 g2):=⟨λx=>by simp[xF,A.loose,A.looses,h0.lo,h1.lo,h2.lo]⟩
instance (f0:Int->A)(f1:Int->A)(f2:List (List z7)->A)[h0:uJ f0][h1:uJ f1][h2:uJ f2]:uJ (xF f0 f1 f2):=⟨λx y h=>by simp only[xF,A.agg.injEq,List.cons.injEq,and_true]at h;cases x;cases y;simp only[z6.mk.injEq];exact⟨h0.inj _ _ h.1,h1.inj _ _ h.2.1,h2.inj _ _ h.2.2⟩⟩
instance (f0:Int->A)(f1:Int->A)(f2:List (List z7)->A)(g0:Int->A)(g1:Int->A)(g2:List (List z7)->A)(x:z6)[∀y,LeA (f0 y) (g0 y)][∀y,LeA (f1 y) (g1 y)][∀y,LeA (f2 y) (g2 y)][∀y,SzA (f0 y) (g0 y)][∀y,SzA (f1 y) (g1 y)][∀y,SzA (f2 y) (g2 y)]:LeA (xF f0 f1 f2 x) (xF g0 g1 g2 x):=by unfold xF;infer_instance
structure zJ where
 P:Int
 F:zw (wF Int)
instance:BEq zJ:=⟨λx y=>(x.P==y.P)&&(x.F==y.F)⟩
def UF (f0:Int->A)(f1:zw (wF Int)->A)(x:zJ):A:=.agg [f0 x.P,f1 x.F]
structure wx where
 m_:z6
 l_:TA
 found_:Unit
def wv (f0:z6->A)(f1:TA->A)(f2:Unit->A)(x:wx):A:=.agg [f0 x.m_,f1 x.l_,f2 x.found_]
instance (f0:z6->A)(f1:TA->A)(f2:Unit->A)(g0:z6->A)(g1:TA->A)(g2:Unit->A)[h0:YV f0 g0][h1:YV f1 g1][h2:YV f2 g2]:YV (wv f0 f1 f2) (wv g0 g1 g2):=⟨λx=>by simp[wv,A.loose,A.looses,h0.lo,h1.lo,h2.lo]⟩
instance (f0:z6->A)(f1:TA->A)(f2:Unit->A)[h0:uJ f0][h1:uJ f1][h2:uJ f2]:uJ (wv f0 f1 f2):=⟨λx y h=>by simp only[wv,A.agg.injEq,List.cons.injEq,and_true]at h;cases x;cases y;simp only[wx.mk.injEq];exact⟨h0.inj _ _ h.1,h1.inj _ _ h.2,trivial⟩⟩
structure zk where
 G:Int
 from_:Int
 R:Int
def Ww (f0:Int->A)(f1:Int->A)(f2:Int->A)(x:zk):A:=.agg [f0 x.G,f1 x.from_,f2 x.R]
instance (f0:Int->A)(f1:Int->A)(f2:Int->A)[h0:KJ f0][h1:KJ f1][h2:KJ f2]:KJ (Ww f0 f1 f2):=⟨λx=>by simp[Ww,A.isD,A.areD,h0.isD,h1.isD,h2.isD]⟩
structure zS where
 S:Int
 T:Int
 Word:TB
 Apart:Bool
def zM (f0:Int->A)(f1:Int->A)(f2:TB->A)(f3:Bool->A)(x:zS):A:=.agg [f0 x.S,f1 x.T,f2 x.Word,f3 x.Apart]
instance (f0:Int->A)(f1:Int->A)(f2:TB->A)(f3:Bool->A)[h0:KJ f0][h1:KJ f1][h2:KJ f2][h3:KJ f3]:KJ (zM f0 f1 f2 f3):=⟨λx=>by simp[zM,A.isD,A.areD,h0.isD,h1.isD,h2.isD,h3.isD]⟩
instance (f0:Int->A)(f1:Int->A)(f2:TB->A)(f3:Bool->A)(g0:Int->A)(g1:Int->A)(g2:TB->A)(g3:Bool->A)[h0:z0O f0 g0][h1:z0O f1 g1][h2:z0O f2 g2][h3:z0O f3 g3]:z0O (zM f0 f1 f2 f3) (zM g0 g1 g2 g3):=⟨λx=>by simp[zM,A.live,A.lives,h0.live,h1.live,h2.live,h3.live],λx=>by simp[zM,A.shut,A.shuts,h0.sh,h1.sh,h2.sh,h3.sh]⟩
structure zC where
 m_:z6
 q_:TA
 p_:TA
 all_:TA
 each_:List TA
 L:TA
 U:TA
def jC (f0:z6->A)(f1:TA->A)(f2:TA->A)(f3:TA->A)(f4:List TA->A)(f5:TA->A)(f6:TA->A)(x:zC):A:=.agg [f0 x.m_,f1 x.q_,f2 x.p_,f3 x.all_,f4 x.each_,f5 x.L,f6 x.U]
instance (f0:z6->A)(f1:TA->A)(f2:TA->A)(f3:TA->A)(f4:List TA->A)(f5:TA->A)(f6:TA->A)(g0:z6->A)(g1:TA->A)(g2:TA->A)(g3:TA->A)(g4:List TA->A)(g5:TA->A)(g6:TA->A)[h0:YV f0 g0][h1:YV f1 g1][h2:YV f2 g2][h3:YV f3 g3][h4:YV f4 g4][h5:YV f5 g5][h6:YV f6 g6]:YV (jC f0 f1 f2 f3 f4 f5 f6) (jC g0 g1 g2 g3 g4 g5 g6):=⟨λx=>by simp[jC,A.loose,A.looses,h0.lo,h1.lo,h2.lo,h3.lo,h4.lo,h5.lo,h6.lo]⟩
instance (f0:z6->A)(f1:TA->A)(f2:TA->A)(f3:TA->A)(f4:List TA->A)(f5:TA->A)(f6:TA->A)[h0:uJ f0][h1:uJ f1][h2:uJ f2][h3:uJ f3][h4:uJ f4][h5:uJ f5][h6:uJ f6]:uJ (jC f0 f1 f2 f3 f4 f5 f6):=⟨λx y h=>by simp only[jC,A.agg.injEq,List.cons.injEq,and_true]at h;cases x;cases y;simp only[zC.mk.injEq];exact⟨h0.inj _ _ h.1,h1.inj _ _ h.2.1,h2.inj _ _ h.2.2.1,h3.inj _ _ h.2.2.2.1,h4.inj _ _ h.2.2.2.2.1,h5.inj _ _ h.2.2.2.2.2.1,h6.inj _ _ h.2.2.2.2.2.2⟩⟩
structure Jo where
structure zb where
 z:List (zw Int)
 x:Int
 y:Int
def yz (f0:List (zw Int)->A)(f1:Int->A)(f2:Int->A)(x:zb):A:=.agg [f0 x.z,f1 x.x,f2 x.y]
instance (f0:List (zw Int)->A)(f1:Int->A)(f2:Int->A)(g0:List (zw Int)->A)(g1:Int->A)(g2:Int->A)[h0:YV f0 g0][h1:YV f1 g1][h2:YV f2 g2]:YV (yz f0 f1 f2) (yz g0 g1 g2):=⟨λx=>by simp[yz,A.loose,A.looses,h0.lo,h1.lo,h2.lo]⟩
instance (f0:List (zw Int)->A)(f1:Int->A)(f2:Int->A)(g0:List (zw Int)->A)(g1:Int->A)(g2:Int->A)[h0:z0O f0 g0][h1:z0O f1 g1][h2:z0O f2 g2]:z0O (yz f0 f1 f2) (yz g0 g1 g2):=⟨λx=>by simp[yz,A.live,A.lives,h0.live,h1.live,h2.live],λx=>by simp[yz,A.shut,A.shuts,h0.sh,h1.sh,h2.sh]⟩
instance (f0:List (zw Int)->A)(f1:Int->A)(f2:Int->A)[h0:uJ f0][h1:uJ f1][h2:uJ f2]:uJ (yz f0 f1 f2):=⟨λx y h=>by simp only[yz,A.agg.injEq,List.cons.injEq,and_true]at h;cases x;cases y;simp only[zb.mk.injEq];exact⟨h0.inj _ _ h.1,h1.inj _ _ h.2.1,h2.inj _ _ h.2.2⟩⟩
structure UZ where
structure VQ where
structure ze where
 at_:Int
 w_:TB
def yX (f0:Int->A)(f1:TB->A)(x:ze):A:=.agg [f0 x.at_,f1 x.w_]
instance (f0:Int->A)(f1:TB->A)[h0:KJ f0][h1:KJ f1]:KJ (yX f0 f1):=⟨λx=>by simp[yX,A.isD,A.areD,h0.isD,h1.isD]⟩
instance (f0:Int->A)(f1:TB->A)(g0:Int->A)(g1:TB->A)(x:ze)[∀y,LeA (f0 y) (g0 y)][∀y,LeA (f1 y) (g1 y)][∀y,SzA (f0 y) (g0 y)][∀y,SzA (f1 y) (g1 y)]:LeA (yX f0 f1 x) (yX g0 g1 x):=by unfold yX;infer_instance
instance (f0:Int->A)(f1:TB->A)(g0:Int->A)(g1:TB->A)(x y:ze)[∀y z,SzA (f0 y) (g0 z)][∀y z,SzA (f1 y) (g1 z)]:SzA (yX f0 f1 x) (yX g0 g1 y):=by unfold yX;infer_instance
structure yf where
 K:Int
 j:Int
 m:Int
 Tree:TB
 Edges:TB
def jQ (f0:Int->A)(f1:Int->A)(f2:Int->A)(f3:TB->A)(f4:TB->A)(x:yf):A:=.agg [f0 x.K,f1 x.j,f2 x.m,f3 x.Tree,f4 x.Edges]
instance (f0:Int->A)(f1:Int->A)(f2:Int->A)(f3:TB->A)(f4:TB->A)(g0:Int->A)(g1:Int->A)(g2:Int->A)(g3:TB->A)(g4:TB->A)[h0:YV f0 g0][h1:YV f1 g1][h2:YV f2 g2][h3:YV f3 g3][h4:YV f4 g4]:YV (jQ f0 f1 f2 f3 f4) (jQ g0 g1 g2 g3 g4):=⟨λx=>by simp[jQ,A.loose,A.looses,h0.lo,h1.lo,h2.lo,h3.lo,h4.lo]⟩
instance (f0:Int->A)(f1:Int->A)(f2:Int->A)(f3:TB->A)(f4:TB->A)[h0:uJ f0][h1:uJ f1][h2:uJ f2][h3:uJ f3][h4:uJ f4]:uJ (jQ f0 f1 f2 f3 f4):=⟨λx y h=>by simp only[jQ,A.agg.injEq,List.cons.injEq,and_true]at h;cases x;cases y;simp only[yf.mk.injEq];exact⟨h0.inj _ _ h.1,h1.inj _ _ h.2.1,h2.inj _ _ h.2.2.1,h3.inj _ _ h.2.2.2.1,h4.inj _ _ h.2.2.2.2⟩⟩
structure ZL where
 C:yf
def ZI (f0:yf->A)(x:ZL):A:=.agg [f0 x.C]
instance (f0:yf->A)(g0:yf->A)[h0:YV f0 g0]:YV (ZI f0) (ZI g0):=⟨λx=>by simp[ZI,A.loose,A.looses,h0.lo]⟩
instance (f0:yf->A)[h0:uJ f0]:uJ (ZI f0):=⟨λx y h=>by simp only[ZI,A.agg.injEq,List.cons.injEq,and_true]at h;cases x;cases y;simp only[ZL.mk.injEq];exact h0.inj _ _ h⟩
structure xQ where
 j:Int
 O:TA
def YP (f0:Int->A)(f1:TA->A)(x:xQ):A:=.agg [f0 x.j,f1 x.O]
instance (f0:Int->A)(f1:TA->A)(g0:Int->A)(g1:TA->A)[h0:YV f0 g0][h1:YV f1 g1]:YV (YP f0 f1) (YP g0 g1):=⟨λx=>by simp[YP,A.loose,A.looses,h0.lo,h1.lo]⟩
instance (f0:Int->A)(f1:TA->A)[h0:uJ f0][h1:uJ f1]:uJ (YP f0 f1):=⟨λx y h=>by simp only[YP,A.agg.injEq,List.cons.injEq,and_true]at h;cases x;cases y;simp only[xQ.mk.injEq];exact⟨h0.inj _ _ h.1,h1.inj _ _ h.2⟩⟩
instance:zpc (K:=zJ) (UF (eI .i64) (Wy (z0v (eI .i64)))):=⟨λx y=>by obtain⟨_,⟨⟨_,_⟩,⟨_,_⟩,⟨_,_⟩,⟨_,_⟩,⟨_,_⟩,⟨_,_⟩,⟨_,_⟩,⟨_,_⟩,⟨_,_⟩,⟨_,_⟩,⟨_,_⟩,⟨_,_⟩,⟨_,_⟩,⟨_,_⟩,⟨_,_⟩,⟨_,_⟩⟩⟩:=x;obtain⟨_,⟨⟨_,_⟩,⟨_,_⟩,⟨_,_⟩,⟨_,_⟩,⟨_,_⟩,⟨_,_⟩,⟨_,_⟩,⟨_,_⟩,⟨_,_⟩,⟨_,_⟩,⟨_,_⟩,⟨_,_⟩,⟨_,_⟩,⟨_,_⟩,⟨_,_⟩,⟨_,_⟩⟩⟩:=y;simp only[Wy,z0v,UF,eI,z0R,z4b,z4b.keyLs,zL,BEq.beq,gK,Option.some.injEq,Value.agg.injEq,gX,mA,gC,Array.mk.injEq,List.cons.injEq,Value.int.injEq,true_and,and_true,pN,decide_eq_true_eq,and_assoc]⟩
def UX (fl:List (List z7)):Option z6 :=
 some (z6.mk 1 2 fl)
abbrev R0_:Type:=Option (LR (List (List z7)×Int) (List (List z7)))
def z1Z (l_:List z7)(dv:List (List z7))(i_:Int):R0_ :=
 bif decide (i_<(l_.length:Int)) then(
  gd ((0:Int)<=i_/\(i_:Int)<=w64 (i_+1)/\(w64 (i_+1):Int)<=(l_.length:Int)) <|
  gd (dv.length+([((l_.drop i_.toNat).take ((w64 (i_+1)).toNat-i_.toNat))]:List (List z7)).length<=4294967296) <|
  some (.next ((dv++([((l_.drop i_.toNat).take ((w64 (i_+1)).toNat-i_.toNat))]:List (List z7))),w64 (i_+1))))
 else(
  some (.done dv))
def Xs (l_:List z7):Option z6 :=
 (loop (λs=>z1Z l_ s.1 s.2) (([]:List (List z7)),0)).bind λt2=>
 UX t2
def um:Option z7 :=
 some (z7.mk (-1) (-1))
def Xr (m_:z6)(x_:z7):Option Bool :=
 (um).bind λr_=>
 bif (x_.o==r_.o)&&((x_.r==r_.r)&&true) then(
  some true)
 else(
  bif decide (x_.o>=0) then(
   bif decide (x_.o<(m_.i.length:Int)) then(
    bif decide (x_.r>=0) then(
     some (decide (x_.r<m_.m)))
    else(
     some false))
   else(
    some false))
  else(
   some false))
def Xb (x_:z7)(x1:z6):Option Bool :=
 (Xr x1 x_).bind λr_=>
 some (!r_)
def wk:Option Int :=
 some (-1)
abbrev R1_:Type:=Option (LR Int (Unit⊕Int))
def y7 (s_:List z7)(f_:z6)(x8:Int):R1_ :=
 bif decide (x8<(s_.length:Int)) then(
  (idx s_ x8).bind λd9=>
  (Xb d9 f_).bind λr_=>
  bif r_ then(
   some (.done (.inr x8)))
  else(
   some (.next (w64 (x8+1)))))
 else(
  some (.done (.inl ())))
def xp (s_:List z7)(f_:z6):Option Int :=
 (loop (λs=>y7 s_ f_ s) 0).bind λt2=>
 match t2 with
 |.inl p=>wk
 |.inr p=>some p
def y8 (s_:List z7)(f_:z6):Option Bool :=
 (xp s_ f_).bind λr_=>
 some (decide (r_>=0))
def VG:Option Int :=
 some 0
def qV (m_:z6)(ov:Int):R1_ :=
 bif decide (ov<(m_.i.length:Int)) then(
  (idx m_.i ov).bind λal=>
  bif (al.length:Int) !=m_.j then(
   some (.done (.inr 1)))
  else(
   (y8 al m_).bind λr_=>
   bif r_ then(
    some (.done (.inr 1)))
   else(
    some (.next (w64 (ov+1))))))
 else(
  some (.done (.inl ())))
def yU (m_:z6):Option Int :=
 bif decide (m_.j>16) then(
  some 3)
 else(
  bif decide (m_.m>16) then(
   some 3)
  else(
   bif decide ((m_.i.length:Int)>64) then(
    some 3)
   else(
    bif decide (m_.j<1) then(
     some 1)
    else(
     bif decide (m_.m<1) then(
      some 1)
     else(
      bif decide ((m_.i.length:Int)<1) then(
       some 1)
      else(
       (loop (λs=>qV m_ s) 0).bind λt2=>
       match t2 with
       |.inl p=>VG
       |.inr p=>some p))))))
def Wf (m_:z6):Option ((Int×z6)×(Int×z6)×(Int×z6)) :=
 some ((9,m_),(11,m_),(12,m_))
def Vf (m_:z6):Option z6 :=
 some m_
variable {σ:Type}
def kD (fk:Int)(kp:σ):Option (LR (σ×Int) σ) :=
 some (.next (kp,w64 (fk+1)))
def wQ (yy:σ->(wF Int×z7)->Option (σ×Bool))(fk:Int)(al:List z7)(gx:σ)(ba:Int):Option (LR (σ×Int) (σ⊕σ)) :=
 bif decide (ba<(al.length:Int)) then(
  (idx al ba).bind λak=>
  (yy gx ((wF.mk fk ba),ak)).bind λyr=>
  bif !yr.2 then(
   some (.done (.inr yr.1)))
  else(
   some (.next (yr.1,w64 (ba+1)))))
 else(
  some (.done (.inl gx)))
def uo (x0:z6)(yy:σ->(wF Int×z7)->Option (σ×Bool))(de:σ)(fk:Int):Option (LR (σ×Int) σ) :=
 bif decide (fk<(x0.i.length:Int)) then(
  (idx x0.i fk).bind λal=>
  (loop (λs=>wQ yy fk al s.1 s.2) (de,0)).bind λt3=>
  match t3 with
  |.inl p=>kD fk p
  |.inr p=>some (.done p))
 else(
  some (.done de))
def jX (x0:z6){σ:Type}(yy:σ->(wF Int×z7)->Option (σ×Bool))(sg:σ):Option σ :=
 (loop (λs=>uo x0 yy s.1 s.2) (sg,0)).bind λt1=>
 some t1
abbrev R2_:Type:=Option (List (wF Int))
def uj (s_:List (wF Int)):R2_ :=
 gd ((0:Int)<=0/\(0:Int)<=(s_.length:Int)/\((s_.length:Int):Int)<=(s_.length:Int)/\((s_.length:Int):Int)<=(s_.length:Int)) <|
 some ((s_.drop 0).take ((s_.length:Int).toNat-0))
def qK (out:List (wF Int)):R2_ :=
 (uj out).bind λr_=>
 some r_
def yw (aj:List (wF Int))(x8:wF Int)(x9:z7):Option (LR (List (wF Int)) Empty) :=
 (um).bind λam=>
 bif (x9.o==am.o)&&((x9.r==am.r)&&true) then(
  gd (aj.length+[x8].length<=4294967296) <|
  some (.next (aj++[x8])))
 else(
  some (.next aj))
def Zx (m_:z6):R2_ :=
 (Vf m_).bind λai=>
 (jX ai (yOf (λs x=>yw s x.1 x.2)) (.next ([]:List (wF Int)))).bind λt2=>
 match t2 with
 |.next aj=>(
  qK aj)
 |.done z=>nomatch z
def qU (m_:z6):Option (Bool×Int) :=
 (yU m_).bind λr_=>
 bif r_ !=0 then(
  some (false,r_))
 else(
  (Zx m_).bind λai=>
  some ((ai.length:Int)==0,0))
def Yb (x0:z6):Option Bool :=
 (qU x0).bind λr_=>
 some r_.1
def wt (mg:Int->(List Bool)->z6->Option (List Bool×z6))(al:List z7)(x1:List Bool)(iy:Int)(il:Int)(ki:List (List z7))(fe:Int):Option (LR (List Bool×Int×Int×List (List z7)×Int) ((List Bool×z6))) :=
 bif decide (fe<(al.length:Int)) then(
  (idx al fe).bind λak=>
  (mg ak.o x1 (z6.mk iy il ki)).bind λr_=>
  some (.next (r_.1,r_.2.j,r_.2.m,r_.2.i,w64 (fe+1))))
 else(
  some (.done (x1,(z6.mk iy il ki))))
def wU (mg:Int->(List Bool)->z6->Option (List Bool×z6))(s_:Int)(y0:List Bool)(y1:z6):Option (List Bool×z6) :=
 bif s_==(-1) then(
  some (y0,y1))
 else(
  (idx y0 s_).bind λse=>
  bif se then(
   some (y0,y1))
  else(
   (idx y0 s_).bind λsk=>
   (idx y1.i s_).bind λal=>
   (loop (λs=>wt mg al s.1 s.2.1 s.2.2.1 s.2.2.2.1 s.2.2.2.2) ((y0.set s_.toNat true),y1.j,y1.m,y1.i,0)).bind λt1=>
   some t1))
def ya (fu:Nat):Int->(List Bool)->z6->Option (List Bool×z6):=Nat.rec (motive:=λ_=>Int->(List Bool)->z6->Option (List Bool×z6)) (λ_ _ _=>none) (λ_ ih=>wU ih) fu
def jJ:Option Int :=
 some (-1)
def xW (s_:List Bool)(v_:Bool)(x8:Int):R1_ :=
 bif decide (x8<(s_.length:Int)) then(
  (idx s_ x8).bind λd9=>
  bif v_==d9 then(
   some (.done (.inr x8)))
  else(
   some (.next (w64 (x8+1)))))
 else(
  some (.done (.inl ())))
def uH (s_:List Bool)(v_:Bool):Option Int :=
 (loop (λs=>xW s_ v_ s) 0).bind λt2=>
 match t2 with
 |.inl p=>jJ
 |.inr p=>some p
def xX (s_:List Bool)(v_:Bool):Option Bool :=
 (uH s_ v_).bind λr_=>
 some (decide (r_>=0))
def vq (m_:z6):Option (Bool×Int) :=
 (yU m_).bind λr_=>
 bif r_ !=0 then(
  some (false,r_))
 else(
  gd ((0:Int)<=(m_.i.length:Int)/\((m_.i.length:Int):Int)<=4294967296) <|
  (ya Vn 0 (List.replicate (m_.i.length:Int).toNat false) m_).bind λai=>
  (xX ai.1 false).bind λam=>
  some (!am,0))
def Ya (x0:z6):Option Bool :=
 (vq x0).bind λr_=>
 some r_.1
def Vb (m_:z6):Option z6 :=
 some m_
def W1 (out:zw (wF Int)):Option (zw (wF Int)) :=
 some out
abbrev R3_:Type:=Option (LR (zw (wF Int)×Int) (zw (wF Int)))
def Zc (ep:Int)(ay:zw (wF Int)):R3_ :=
 some (.next (ay,w64 (ep+1)))
def W0 (p_:TB)(al:List z7)(aj:zw (wF Int))(ep:Int):R3_ :=
 bif decide (ep<(al.length:Int)) then(
  (idx al ep).bind λak=>
  (idx (zw.toL aj) ep).bind λcell=>
  (some (zw.setI aj ep (wF.mk ak.r (-1)))).bind λarr=>
  bif ak.o !=(-1) then(
   (idx p_ ak.o).bind λbg=>
   (idx (zw.toL arr) ep).bind λca=>
   (some (zw.setI arr ep (wF.mk ca.e0 bg))).bind λarr1=>
   Zc ep arr1)
  else(
   Zc ep arr))
 else(
  some (.done aj))
def kL (m_:z6)(p_:TB)(s_:Int):Option (zw (wF Int)) :=
 (idx m_.i s_).bind λal=>
 (loop (λs=>W0 p_ al s.1 s.2) ((zw.mk (wF.mk 0 0) (wF.mk 0 0) (wF.mk 0 0) (wF.mk 0 0) (wF.mk 0 0) (wF.mk 0 0) (wF.mk 0 0) (wF.mk 0 0) (wF.mk 0 0) (wF.mk 0 0) (wF.mk 0 0) (wF.mk 0 0) (wF.mk 0 0) (wF.mk 0 0) (wF.mk 0 0) (wF.mk 0 0)),0)).bind λt2=>
 W1 t2
def Ze (out:TB):Option TB :=
 some out
abbrev R4_:Type:=Option (LR ((List (zJ×Int))×TB×Int) TB)
def vn (aj:TB)(fh:Int)(bg:Int)(r_:zw (wF Int))(io:List (zJ×Int)):R4_ :=
 (some ((VU io (zJ.mk bg r_)).getD 0)).bind λval=>
 (idx aj fh).bind λfx=>
 some (.next (io,(aj.set fh.toNat val),w64 (fh+1)))
def Zd (m_:z6)(p_:TB)(names:List (zJ×Int))(aj:TB)(fh:Int):R4_ :=
 bif decide (fh<(p_.length:Int)) then(
  (idx p_ fh).bind λbg=>
  (kL m_ p_ fh).bind λr_=>
  (some ((VU names (zJ.mk bg r_)).getD 0)).bind λqw=>
  bif !((VU names (zJ.mk bg r_)).isSome) then(
   vn aj fh bg r_ (z35 names (zJ.mk bg r_) (names.length:Int)))
  else(
   vn aj fh bg r_ names))
 else(
  some (.done aj))
def Zf (m_:z6)(p_:TB):Option TB :=
 gd ((0:Int)<=(p_.length:Int)/\((p_.length:Int):Int)<=4294967296) <|
 (loop (λs=>Zd m_ p_ s.1 s.2.1 s.2.2) (([]:List (zJ×Int)),(List.replicate (p_.length:Int).toNat (0:Int)),0)).bind λt2=>
 Ze t2
def ui:Option Bool :=
 some true
abbrev R5_:Type:=Option (LR Int (Unit⊕Bool))
def wp (s1:TB)(s2:TB)(em:Int):R5_ :=
 bif decide (em<(s1.length:Int)) then(
  (idx s1 em).bind λow=>
  (idx s2 em).bind λnh=>
  bif ow !=nh then(
   some (.done (.inr false)))
  else(
   some (.next (w64 (em+1)))))
 else(
  some (.done (.inl ())))
def vH (s1:TB)(s2:TB):Option Bool :=
 bif (s1.length:Int) !=(s2.length:Int) then(
  some false)
 else(
  (loop (λs=>wp s1 s2 s) 0).bind λt2=>
  match t2 with
  |.inl p=>ui
  |.inr p=>some p)
def uk (x0:z6)(yy:σ->TB->Option (σ×Bool))(de:σ)(p_:TB):Option (LR (σ×TB) σ) :=
 (yy de p_).bind λyr=>
 bif yr.2 then(
  (Zf x0 p_).bind λr_=>
  (vH p_ r_).bind λai=>
  bif ai then(
   some (.done yr.1))
  else(
   some (.next (yr.1,r_))))
 else(
  some (.done yr.1))
def jW (x0:z6){σ:Type}(yy:σ->TB->Option (σ×Bool))(sg:σ):Option σ :=
 gd ((0:Int)<=(x0.i.length:Int)/\((x0.i.length:Int):Int)<=4294967296) <|
 (loop (λs=>uk x0 yy s.1 s.2) (sg,(List.replicate (x0.i.length:Int).toNat (0:Int)))).bind λt1=>
 some t1
def Zg (p_:TB)(n_:Int):Option (TB×Int×Int) :=
 some (p_,n_,0)
def vo (nd:TB)(cb:Int)(k9:TB):Option (LR (TB×Int) Empty) :=
 some (.next (k9,w64 (cb+1)))
def Zh (m_:z6):Option (TB×Int×Int) :=
 (yU m_).bind λr_=>
 bif r_ !=0 then(
  some (([]:TB),0,r_))
 else(
  (Vb m_).bind λai=>
  (jW ai (yOf (λs x=>vo s.1 s.2 x)) (.next (([]:TB),(-1)))).bind λt2=>
  match t2 with
  |.next (nd,cb)=>(
   Zg nd cb)
  |.done z=>nomatch z)
def uY (m_:Int):Option Int :=
 some m_
abbrev R6_:Type:=Option (LR (Int×Int) Int)
def uX (x_:TB)(ox:Int)(i_:Int):R6_ :=
 bif decide (i_<(x_.length:Int)) then(
  (idx x_ i_).bind λlp=>
  some (.next ((mx ox lp),w64 (i_+1))))
 else(
  some (.done ox))
def uK (x_:TB):Option Int :=
 bif decide ((x_.length:Int)<1) then(
  none)
 else(
  (idx x_ 0).bind λmc=>
  (loop (λs=>uX x_ s.1 s.2) (mc,1)).bind λt2=>
  uY t2)
def Y9 (x0:z6):Option Bool :=
 (Zh x0).bind λr_=>
 (uK r_.1).bind λai=>
 some (ai==(w64 ((r_.1.length:Int)-1)))
def kC:Option Int :=
 some 0
def xJ (m_:z6):Option Int :=
 (yU m_).bind λr_=>
 bif r_ !=0 then(
  some r_)
 else(
  (Wf m_).bind λai=>
  (Yb ai.1.2).bind λam=>
  bif !am then(
   some ai.1.1)
  else(
   (Ya ai.2.1.2).bind λaz=>
   bif !az then(
    some ai.2.1.1)
   else(
    (Y9 ai.2.2.2).bind λcp=>
    bif !cp then(
     some ai.2.2.1)
    else(
     kC))))
def z0u (n_:Int):Option Int :=
 some n_
def XC (m_:z6)(states:Int)(cb:Int)(i_:Int):R6_ :=
 bif decide (i_<(w64 (states*m_.j))) then(
  bif decide (cb<=65536) then(
   some (.next (w64 (cb*(w64 (states*m_.m))),w64 (i_+1))))
  else(
   some (.done cb)))
 else(
  some (.done cb))
def VO (m_:z6)(states:Int):Option Int :=
 bif decide (states>65536) then(
  some 65537)
 else(
  (loop (λs=>XC m_ states s.1 s.2) (1,0)).bind λt2=>
  z0u t2)
def VP (m_:z6)(states:Int):Option Int :=
 (xJ m_).bind λr_=>
 bif r_ !=0 then(
  some r_)
 else(
  bif decide (states<1) then(
   some 1)
  else(
   (VO m_ states).bind λai=>
   bif decide (ai>65536) then(
    some 3)
   else(
    some 0)))
def UC (m_:z6)(states:Int):Option (Int×Int) :=
 (VP m_ states).bind λr_=>
 bif r_ !=0 then(
  some (0,r_))
 else(
  (VO m_ states).bind λai=>
  some (ai,0))
def VV (c_:Int)(x1:Int):Option Bool :=
 bif decide (c_<0) then(
  some true)
 else(
  some (decide (c_>=x1)))
def uZ:Option Int :=
 some (-1)
def xy (s_:TB)(f_:Int)(x8:Int):R1_ :=
 bif decide (x8<(s_.length:Int)) then(
  (idx s_ x8).bind λd9=>
  (VV d9 f_).bind λr_=>
  bif r_ then(
   some (.done (.inr x8)))
  else(
   some (.next (w64 (x8+1)))))
 else(
  some (.done (.inl ())))
def vN (s_:TB)(f_:Int):Option Int :=
 (loop (λs=>xy s_ f_ s) 0).bind λt2=>
 match t2 with
 |.inl p=>uZ
 |.inr p=>some p
def wN (s_:TB)(f_:Int):Option Bool :=
 (vN s_ f_).bind λr_=>
 some (decide (r_>=0))
def jZ (w_:TB)(inputs:Int):Option Int :=
 bif decide (inputs>16) then(
  some 3)
 else(
  bif decide ((w_.length:Int)>256) then(
   some 3)
  else(
   bif decide (inputs<1) then(
    some 1)
   else(
    (wN w_ inputs).bind λr_=>
    bif r_ then(
     some 1)
    else(
     some 0))))
def K9:Option Int :=
 some 0
def Yj (l_:TA)(inputs:Int)(gc:Int):R1_ :=
 bif decide (gc<(l_.length:Int)) then(
  (idx l_ gc).bind λcq=>
  (jZ cq inputs).bind λr_=>
  bif r_ !=0 then(
   some (.done (.inr r_)))
  else(
   some (.next (w64 (gc+1)))))
 else(
  some (.done (.inl ())))
def XS (l_:TA)(inputs:Int):Option Int :=
 bif decide (inputs>16) then(
  some 3)
 else(
  bif decide ((l_.length:Int)>4096) then(
   some 3)
  else(
   bif decide (inputs<1) then(
    some 1)
   else(
    (loop (λs=>Yj l_ inputs s) 0).bind λt2=>
    match t2 with
    |.inl p=>K9
    |.inr p=>some p)))
def XD (x_:Int):Option Bool :=
 some (x_ !=x_)
def qL (x_:Int)(y_:Int):Option Int :=
 (XD x_).bind λr_=>
 (XD y_).bind λai=>
 bif r_ then(
  bif ai then(
   some 0)
  else(
   some (-1)))
 else(
  bif ai then(
   some 1)
  else(
   bif decide (x_<y_) then(
    some (-1))
   else(
    bif decide (x_>y_) then(
     some 1)
    else(
     some 0))))
def vB (s1:TB)(s2:TB):Option Int :=
 bif decide ((s1.length:Int)<(s2.length:Int)) then(
  some (-1))
 else(
  some 0)
def xY (s1:TB)(s2:TB)(gn:Int):R1_ :=
 bif decide (gn<(s1.length:Int)) then(
  (idx s1 gn).bind λow=>
  bif decide (gn>=(s2.length:Int)) then(
   some (.done (.inr 1)))
  else(
   (idx s2 gn).bind λnh=>
   (qL ow nh).bind λr_=>
   bif r_ !=0 then(
    some (.done (.inr r_)))
   else(
    some (.next (w64 (gn+1))))))
 else(
  some (.done (.inl ())))
def wS (s1:TB)(s2:TB):Option Int :=
 (loop (λs=>xY s1 s2 s) 0).bind λt2=>
 match t2 with
 |.inl p=>vB s1 s2
 |.inr p=>some p
def UG:Option Int :=
 some 0
def XE (vals:TB)(x8:Int):R1_ :=
 bif decide (x8<(vals.length:Int)) then(
  (idx vals x8).bind λpn=>
  bif pn !=0 then(
   some (.done (.inr pn)))
  else(
   some (.next (w64 (x8+1)))))
 else(
  some (.done (.inl ())))
def JQ (vals:TB):Option Int :=
 (loop (λs=>XE vals s) 0).bind λt2=>
 match t2 with
 |.inl p=>UG
 |.inr p=>some p
def yG (a_:TB)(b_:TB):Option Int :=
 (qL (a_.length:Int) (b_.length:Int)).bind λr_=>
 (wS a_ b_).bind λai=>
 (JQ ([r_,ai])).bind λam=>
 some am
def V9:Option Bool :=
 some true
def Yk (l_:TA)(i_:Int):R5_ :=
 bif decide (i_<(l_.length:Int)) then(
  (idx l_ (w64 (i_-1))).bind λcq=>
  (idx l_ i_).bind λiu=>
  (yG cq iu).bind λr_=>
  bif decide (r_>=0) then(
   some (.done (.inr false)))
  else(
   some (.next (w64 (i_+1)))))
 else(
  some (.done (.inl ())))
def U0 (l_:TA):Option Bool :=
 (loop (λs=>Yk l_ s) 1).bind λt2=>
 match t2 with
 |.inl p=>V9
 |.inr p=>some p
def K8 (n_:Int):Option Int :=
 some n_
def Yi (l_:TA)(cb:Int)(x7:Int):R6_ :=
 bif decide (x7<(l_.length:Int)) then(
  (idx l_ x7).bind λcq=>
  some (.next (w64 (cb+(cq.length:Int)),w64 (x7+1))))
 else(
  some (.done cb))
def XQ (l_:TA):Option Int :=
 (loop (λs=>Yi l_ s.1 s.2) (0,0)).bind λt2=>
 K8 t2
def kl (l_:TA)(inputs:Int):Option Int :=
 (XS l_ inputs).bind λr_=>
 bif r_ !=0 then(
  some r_)
 else(
  (U0 l_).bind λai=>
  bif !ai then(
   some 1)
  else(
   (XQ l_).bind λam=>
   bif decide (am>65536) then(
    some 3)
   else(
    some 0)))
def XL (m_:z6)(l_:TA)(states:Int):Option Int :=
 (VP m_ states).bind λr_=>
 bif r_ !=0 then(
  some r_)
 else(
  (kl l_ m_.j).bind λai=>
  some ai)
abbrev R7_:Type:=Option (z6×Int)
def UB (m_:z6)(states:Int):R7_ :=
 some (m_,states)
def jA (t_:z6)(next:Int):Option Bool :=
 some (next==(t_.i.length:Int))
abbrev R8_:Type:=Option (LR (Int×Int) (Int⊕Bool))
def qZ (s_:Int)(fm:Int):R8_ :=
 some (.next (fm,w64 (s_+1)))
def vT (fh:Int)(gv:Int):R8_ :=
 some (.next (gv,w64 (fh+1)))
def qX (al:List z7)(cm:Int)(fh:Int):R8_ :=
 bif decide (fh<(al.length:Int)) then(
  (idx al fh).bind λak=>
  bif decide (ak.o>cm) then(
   some (.done (.inr false)))
  else(
   bif ak.o==cm then(
    vT fh (w64 (cm+1)))
   else(
    vT fh cm)))
 else(
  some (.done (.inl cm)))
def qY (t_:z6)(cr:Int)(s_:Int):R8_ :=
 bif decide (s_<cr) then(
  (idx t_.i s_).bind λal=>
  (loop (λs=>qX al s.1 s.2) (cr,0)).bind λt4=>
  match t4 with
  |.inl p=>qZ s_ p
  |.inr p=>some (.done (.inr p)))
 else(
  some (.done (.inl cr)))
def Yx (t_:z6):Option Bool :=
 (loop (λs=>qY t_ s.1 s.2) (1,0)).bind λt2=>
 match t2 with
 |.inl p=>jA t_ p
 |.inr p=>some p
def z1G:Option Int :=
 some (-1)
abbrev R9_:Type:=Option (LR (Int×Int×Int) (Unit⊕Int))
def kP (gr:Int)(kj:Int)(jn:Int)(oy:Int)(oj:Int):R9_ :=
 bif jn !=oj then(
  some (.done (.inr gr)))
 else(
  some (.next (kj,oy,w64 (gr+1))))
def kQ (other:z6)(t_:Int)(gr:Int)(ge:Int)(kj:Int)(jn:Int):R9_ :=
 bif t_ !=(-1) then(
  (idx other.i t_).bind λal=>
  (idx al ge).bind λak=>
  kP gr kj jn ak.o ak.r)
 else(
  kP gr kj jn (-1) (-1))
def V2 (m_:z6)(other:z6)(w_:TB)(s_:Int)(t_:Int)(gr:Int):R9_ :=
 bif decide (gr<(w_.length:Int)) then(
  (idx w_ gr).bind λge=>
  bif s_ !=(-1) then(
   (idx m_.i s_).bind λdp=>
   (idx dp ge).bind λar=>
   kQ other t_ gr ge ar.o ar.r)
  else(
   kQ other t_ gr ge (-1) (-1)))
 else(
  some (.done (.inl ())))
def Jg (m_:z6)(other:z6)(w_:TB):Option Int :=
 (loop (λs=>V2 m_ other w_ s.1 s.2.1 s.2.2) (0,0,0)).bind λt2=>
 match t2 with
 |.inl p=>z1G
 |.inr p=>some p
def z0t:Option Bool :=
 some true
abbrev zqc:Type:=Option (LR (List Bool×List (wF Int)×Int) ((List Bool×List (wF Int))⊕Bool))
def XB (jv:Int)(cw:List Bool)(ni:List (wF Int)):zqc :=
 some (.next (cw,ni,w64 (jv+1)))
def Xz (t_:z6)(ic:wF Int)(al:List z7)(dg:List Bool)(jo:List (wF Int))(jv:Int):zqc :=
 bif decide (jv<(al.length:Int)) then(
  (idx al jv).bind λak=>
  (idx t_.i ic.e1).bind λdp=>
  (idx dp jv).bind λar=>
  bif ak.r !=ar.r then(
   some (.done (.inr false)))
  else(
   (idx dg (w64 ((w64 (ak.o*(t_.i.length:Int)))+ar.o))).bind λmi=>
   bif !mi then(
    (idx dg (w64 ((w64 (ak.o*(t_.i.length:Int)))+ar.o))).bind λoc=>
    gd (jo.length+[(wF.mk ak.o ar.o)].length<=4294967296) <|
    XB jv (dg.set (w64 ((w64 (ak.o*(t_.i.length:Int)))+ar.o)).toNat true) (jo++[(wF.mk ak.o ar.o)]))
   else(
    XB jv dg jo)))
 else(
  some (.done (.inl (dg,jo))))
def XA (m_:z6)(t_:z6)(ia:List Bool)(list:List (wF Int)):Option (LR (List Bool×List (wF Int)) (Unit⊕Bool)) :=
 bif decide ((list.length:Int)>0) then(
  (idx list (w64 ((list.length:Int)-1))).bind λic=>
  gd ((0:Int)<=w64 ((list.length:Int)-1)/\(w64 ((list.length:Int)-1):Int)<=(list.length:Int)) <|
  (idx m_.i ic.e0).bind λal=>
  (loop (λs=>Xz t_ ic al s.1 s.2.1 s.2.2) (ia,(list.take (w64 ((list.length:Int)-1)).toNat),0)).bind λt3=>
  match t3 with
  |.inl p=>some (.next p)
  |.inr p=>some (.done (.inr p)))
 else(
  some (.done (.inl ())))
def VN (m_:z6)(t_:z6):Option Bool :=
 gd ((0:Int)<=w64 ((m_.i.length:Int)*(t_.i.length:Int))/\(w64 ((m_.i.length:Int)*(t_.i.length:Int)):Int)<=4294967296) <|
 (idx (List.replicate (w64 ((m_.i.length:Int)*(t_.i.length:Int))).toNat false) 0).bind λl5=>
 (loop (λs=>XA m_ t_ s.1 s.2) (((List.replicate (w64 ((m_.i.length:Int)*(t_.i.length:Int))).toNat false).set (0:Int).toNat true),([(wF.mk 0 0)]:List (wF Int)))).bind λt2=>
 match t2 with
 |.inl p=>z0t
 |.inr p=>some p
def uN (x_:wx)(t_:z6):Option Bool :=
 (VN x_.m_ t_).bind λai=>
 some (!ai)
def ZC (x_:wx)(t_:z6)(em:Int):R5_ :=
 bif decide (em<(x_.l_.length:Int)) then(
  (idx x_.l_ em).bind λcq=>
  (Jg x_.m_ t_ cq).bind λam=>
  bif am !=(-1) then(
   some (.done (.inr false)))
  else(
   some (.next (w64 (em+1)))))
 else(
  some (.done (.inl ())))
def w8 (x_:wx)(t_:z6):Option Bool :=
 (Yx t_).bind λr_=>
 bif !r_ then(
  some false)
 else(
  (loop (λs=>ZC x_ t_ s) 0).bind λt2=>
  match t2 with
  |.inl p=>uN x_ t_
  |.inr p=>some p)
def Xc (yr:σ×Bool)(oz:List z7)(k_:Int):Option (LR (σ×List z7) σ) :=
 bif decide (k_<0) then(
  some (.done yr.1))
 else(
  some (.next (yr.1,oz)))
def v7 (x0:z6)(x1:Int)(fp:List z7)(aq:Int):Option (LR (List z7×Int) ((List z7×Int))) :=
 bif decide (aq>=0) then(
  (idx fp aq).bind λr9=>
  (idx fp aq).bind λbw=>
  (idx (fp.set aq.toNat (z7.mk bw.o (w64 (bw.r+1)))) aq).bind λl5=>
  bif decide (l5.r<x0.m) then(
   some (.done ((fp.set aq.toNat (z7.mk bw.o (w64 (bw.r+1)))),aq)))
  else(
   (idx (fp.set aq.toNat (z7.mk bw.o (w64 (bw.r+1)))) aq).bind λj6=>
   (idx ((fp.set aq.toNat (z7.mk bw.o (w64 (bw.r+1)))).set aq.toNat (z7.mk j6.o 0)) aq).bind λib=>
   (idx (((fp.set aq.toNat (z7.mk bw.o (w64 (bw.r+1)))).set aq.toNat (z7.mk j6.o 0)).set aq.toNat (z7.mk (w64 (ib.o+1)) ib.r)) aq).bind λra=>
   bif decide (ra.o<x1) then(
    some (.done ((((fp.set aq.toNat (z7.mk bw.o (w64 (bw.r+1)))).set aq.toNat (z7.mk j6.o 0)).set aq.toNat (z7.mk (w64 (ib.o+1)) ib.r)),aq)))
   else(
    (idx (((fp.set aq.toNat (z7.mk bw.o (w64 (bw.r+1)))).set aq.toNat (z7.mk j6.o 0)).set aq.toNat (z7.mk (w64 (ib.o+1)) ib.r)) aq).bind λpo=>
    some (.next (((((fp.set aq.toNat (z7.mk bw.o (w64 (bw.r+1)))).set aq.toNat (z7.mk j6.o 0)).set aq.toNat (z7.mk (w64 (ib.o+1)) ib.r)).set aq.toNat (z7.mk 0 po.r)),w64 (aq-1))))))
 else(
  some (.done (fp,aq)))
def yj (x0:z6)(x1:Int)(yy:σ->z6->Option (σ×Bool))(eu:List (Option (Int×Int×Int)))(de:σ)(all:List z7):Option (LR (σ×List z7) σ) :=
 (z2S all eu).bind λrows=>
 (yy de (z6.mk x0.j x0.m rows)).bind λyr=>
 bif yr.2 then(
  (loop (λs=>v7 x0 x1 s.1 s.2) (all,w64 ((all.length:Int)-1))).bind λt4=>
  Xc yr t4.1 t4.2)
 else(
  some (.done yr.1))
def Xd (x0:z6)(x1:Int)(yy:σ->z6->Option (σ×Bool))(sg:σ)(eu:List (Option (Int×Int×Int))):Option σ :=
 (loop (λs=>yj x0 x1 yy eu s.1 s.2) (sg,(List.replicate (w64 (x1*x0.j)).toNat (z7.mk 0 0)))).bind λt2=>
 some t2
def xK (x0:z6)(x1:Int)(je:List (Option (Int×Int×Int)))(fj:Int):Option (LR ((List (Option (Int×Int×Int)))×Int) ((List (Option (Int×Int×Int))))) :=
 bif decide (fj<x1) then(
  gd ((0:Int)<=w64 (fj*x0.j)/\(w64 (fj*x0.j):Int)<=w64 ((w64 (fj+1))*x0.j)/\(w64 ((w64 (fj+1))*x0.j):Int)<=w64 ((w64 (fj+1))*x0.j)/\(w64 ((w64 (fj+1))*x0.j):Int)<=(((List.replicate (w64 (x1*x0.j)).toNat (z7.mk 0 0)).length:Nat):Int)) <|
  (idx je fj).bind λph=>
  gd (ph=none) <|
  some (.next ((je.set fj.toNat (some (w64 (fj*x0.j),w64 ((w64 (fj+1))*x0.j),w64 ((w64 (fj+1))*x0.j)))),w64 (fj+1))))
 else(
  some (.done je))
def ur (x0:z6)(x1:Int){σ:Type}(yy:σ->z6->Option (σ×Bool))(sg:σ):Option σ :=
 gd ((0:Int)<=x1/\(x1:Int)<=4294967296) <|
 gd ((0:Int)<=w64 (x1*x0.j)/\(w64 (x1*x0.j):Int)<=4294967296) <|
 (loop (λs=>xK x0 x1 s.1 s.2) ((List.replicate x1.toNat none),0)).bind λt5=>
 Xd x0 x1 yy sg t5
variable {τ:Type}
def yb (y:τ->z6->Option (τ×Bool))(m_:z6)(l_:TA)(s_:τ)(x_:z6):Option (LR τ τ) :=
 (w8 (wx.mk m_ l_ ()) x_).bind λr_=>
 bif r_ then(
  (y s_ x_).bind λai=>
  bif ai.2 then(
   some (.next ai.1))
  else(
   some (.done ai.1)))
 else(
  some (.next s_))
def yl (y:τ->z6->Option (τ×Bool))(m_:z6)(l_:TA)(states:Int)(i_:Int)(s_:τ):Option (LR (Int×τ) τ) :=
 bif decide (i_<=states) then(
  (UB m_ i_).bind λr_=>
  (ur r_.1 r_.2 (yOf λs x=>yb y m_ l_ s x) (.next s_)).bind λt_=>
  match t_ with
  |.next s_=>some (.next (w64 (i_+1),s_))
  |.done s_=>some (.done s_))
 else(
  some (.done s_))
def xD (y:τ->z6->Option (τ×Bool))(m_:z6)(l_:TA)(states:Int)(s_:τ):Option τ :=
 loop (λq=>yl y m_ l_ states q.1 q.2) (1,s_)
def ZD (m_:z6)(l_:TA)(states:Int):Option (Int×Int) :=
 (XL m_ l_ states).bind λr_=>
 bif r_ !=0 then(
  some (0,r_))
 else(
  (xD (λs _=>some (w64 (s+1),true)) m_ l_ states 0).bind λai=>
  some (ai,0))
def WP (m_:z6)(ZO:Int):Option Int :=
 (xJ m_).bind λr_=>
 bif r_ !=0 then(
  some r_)
 else(
  bif decide (ZO<(m_.i.length:Int)) then(
   some 1)
  else(
   bif decide (ZO>(w64 ((m_.i.length:Int)+4))) then(
    some 1)
   else(
    some 0)))
def V6 (m_:z6)(from_:Int):R7_ :=
 some (m_,from_)
def xc (iv:Int)(cw:List Bool)(mj:List zk):Option (LR (List Bool×List zk×Int) ((σ×List Bool×List zk))) :=
 some (.next (cw,mj,w64 (iv+1)))
def wG (cj:zk)(yr:σ×Bool)(al:List z7)(dg:List Bool)(ew:List zk)(iv:Int):Option (LR (List Bool×List zk×Int) ((σ×List Bool×List zk))) :=
 bif decide (iv<(al.length:Int)) then(
  (idx al iv).bind λak=>
  bif ak.o !=(-1) then(
   (idx dg ak.o).bind λmi=>
   bif !mi then(
    (idx dg ak.o).bind λoc=>
    gd (ew.length+[(zk.mk ak.o cj.G iv)].length<=4294967296) <|
    xc iv (dg.set ak.o.toNat true) (ew++[(zk.mk ak.o cj.G iv)]))
   else(
    xc iv dg ew))
  else(
   xc iv dg ew))
 else(
  some (.done (yr.1,dg,ew)))
def vZ (x0:z6)(yy:σ->zk->Option (σ×Bool))(de:σ)(ia:List Bool)(dn:List zk):Option (LR (σ×List Bool×List zk) σ) :=
 bif decide ((dn.length:Int)>0) then(
  (idx dn 0).bind λcj=>
  gd ((0:Int)<=1/\(1:Int)<=(dn.length:Int)) <|
  (yy de cj).bind λyr=>
  bif !yr.2 then(
   some (.done yr.1))
  else(
   (idx x0.i cj.G).bind λal=>
   (loop (λs=>wG cj yr al s.1 s.2.1 s.2.2) (ia,(dn.drop (1:Int).toNat),0)).bind λt2=>
   some (.next t2)))
 else(
  some (.done de))
def jT (x0:z6)(x1:Int){σ:Type}(yy:σ->zk->Option (σ×Bool))(sg:σ):Option σ :=
 gd ((0:Int)<=(x0.i.length:Int)/\((x0.i.length:Int):Int)<=4294967296) <|
 (idx (List.replicate (x0.i.length:Int).toNat false) x1).bind λl5=>
 (loop (λs=>vZ x0 yy s.1 s.2.1 s.2.2) (sg,((List.replicate (x0.i.length:Int).toNat false).set x1.toNat true),([(zk.mk x1 (-1) (-1))]:List zk))).bind λt1=>
 some t1
def y9 (s_:TB):Option TB :=
 gd (([]:TB).length+s_.length<=4294967296) <|
 some s_
def zO (s_:TB):Option TB :=
 gd ((0:Int)<=0/\(0:Int)<=(s_.length:Int)/\((s_.length:Int):Int)<=(s_.length:Int)/\((s_.length:Int):Int)<=(s_.length:Int)) <|
 some ((s_.drop 0).take ((s_.length:Int).toNat-0))
abbrev zmI:Type:=Option (TA×List Bool)
def V5 (l_:TA)(is:List Bool):zmI :=
 some (l_,is)
def wy (fq:TA)(gp:List Bool)(iw:zk):Option (LR (TA×List Bool) Empty) :=
 (idx gp iw.G).bind λpq=>
 bif iw.from_ !=(-1) then(
  (idx fq iw.from_).bind λcq=>
  (y9 cq).bind λai=>
  gd (ai.length+[iw.R].length<=4294967296) <|
  (zO (ai++[iw.R])).bind λam=>
  (idx fq iw.G).bind λiu=>
  some (.next ((fq.set iw.G.toNat am),(gp.set iw.G.toNat true))))
 else(
  some (.next (fq,(gp.set iw.G.toNat true))))
def VW (m_:z6)(from_:Int):zmI :=
 gd ((0:Int)<=(m_.i.length:Int)/\((m_.i.length:Int):Int)<=4294967296) <|
 gd ((0:Int)<=(m_.i.length:Int)/\((m_.i.length:Int):Int)<=4294967296) <|
 (V6 m_ from_).bind λr_=>
 (jT r_.1 r_.2 (yOf (λs x=>wy s.1 s.2 x)) (.next ((List.replicate (m_.i.length:Int).toNat ([]:TB)),(List.replicate (m_.i.length:Int).toNat false)))).bind λt2=>
 match t2 with
 |.next (fq,gp)=>(
  V5 fq gp)
 |.done z=>nomatch z
def WO (m_:z6):Option (TA×List Bool×Int) :=
 (yU m_).bind λr_=>
 bif r_ !=0 then(
  some (([]:TA),([]:List Bool),r_))
 else(
  (VW m_ 0).bind λai=>
  some (ai.1,ai.2,0))
abbrev z3H:Type:=Option TA
def yp (s_:TA):z3H :=
 gd (([]:TA).length+s_.length<=4294967296) <|
 some s_
def jI (a_:TB)(b_:TB):Option Bool :=
 (yG a_ b_).bind λr_=>
 some (r_==0)
def vX (s_:TA):z3H :=
 some s_
abbrev zp8:Type:=Option (LR Int (Unit⊕TA))
def w7 (k_:Int):zp8 :=
 some (.next (w64 (k_+1)))
def ye (bf:TA)(aq:Int):zp8 :=
 gd ((0:Int)<=aq/\(aq:Int)<=(bf.length:Int)) <|
 gd ((0:Int)<=aq/\(aq:Int)<=(bf.length:Int)) <|
 gd ((0:Int)<=aq/\(aq:Int)<=(((bf.take aq.toNat++List.replicate (bf.length-aq.toNat) []).length:Nat):Int)) <|
 some (.done (.inr ((bf.take aq.toNat++List.replicate (bf.length-aq.toNat) []).take aq.toNat)))
abbrev znf:Type:=Option (LR (TA×Int×Int) ((TA×Int)))
def yc (k2:Int)(ml:TA)(px:Int):znf :=
 some (.next (ml,px,w64 (k2+1)))
def yQ (k_:Int)(bl:TA)(jw:Int)(k2:Int):znf :=
 bif decide (k2<((bl.length-k_.toNat:Nat):Int)) then(
  gd ((0:Int)<=k_/\(0:Int)<=k2) <|
  (idx bl (k_+k2)).bind λol=>
  gd ((0:Int)<=k_/\(0:Int)<=w64 (k2-1)) <|
  (idx bl (k_+(w64 (k2-1)))).bind λom=>
  (jI ol om).bind λai=>
  bif !ai then(
   gd ((0:Int)<=k_/\(0:Int)<=k2) <|
   (idx bl (k_+k2)).bind λoq=>
   (idx bl jw).bind λsa=>
   yc k2 (bl.set jw.toNat oq) (w64 (jw+1)))
  else(
   yc k2 bl jw))
 else(
  some (.done (bl,jw)))
def xZ (s_:TA)(k_:Int):zp8 :=
 bif decide (k_<(s_.length:Int)) then(
  (idx s_ k_).bind λd9=>
  (idx s_ (w64 (k_-1))).bind λmz=>
  (jI d9 mz).bind λr_=>
  bif r_ then(
   gd ((0:Int)<=k_/\(k_:Int)<=(s_.length:Int)) <|
   (loop (λs=>yQ k_ s.1 s.2.1 s.2.2) (s_,k_,1)).bind λt5=>
   ye t5.1 t5.2)
  else(
   w7 k_))
 else(
  some (.done (.inl ())))
def xA (s_:TA)(eq:Unit):z3H :=
 bif decide ((s_.length:Int)<2) then(
  some s_)
 else(
  (loop (λs=>xZ s_ s) 1).bind λt2=>
  match t2 with
  |.inl p=>vX s_
  |.inr p=>some p)
def wq (s_:TA):z3H :=
 some s_
abbrev z3A:Type:=Option (TA×Int)
def XR (out:List (TB×Bool)):z3A :=
 gd (∀q∈out,q.2=true) <|
 some ((out.map (·.1)),0)
def wH (am:TA)(ay:List (TB×Bool))(fe:Int):Option (LR ((List (TB×Bool))×Int) ((List (TB×Bool)))) :=
 bif decide (fe<((am.length-(0:Int).toNat:Nat):Int)) then(
  gd ((0:Int)<=0/\(0:Int)<=fe) <|
  (idx ay (0+fe)).bind λfx=>
  (y9 fx.1).bind λcp=>
  (zO cp).bind λgh=>
  (idx ay fe).bind λlc=>
  some (.next ((ay.set fe.toNat (gh,true)),w64 (fe+1))))
 else(
  some (.done ay))
def xh (l_:TA):z3A :=
 (yp l_).bind λr_=>
 (zbw (λx y=>yG x y) r_).bind λsorted=>
 (xA sorted ()).bind λai=>
 (wq ai).bind λam=>
 bif decide ((am.length:Int)>4096) then(
  some (([]:TA),3))
 else(
  (XQ am).bind λaz=>
  bif decide (az>65536) then(
   some (([]:TA),3))
  else(
   (loop (λs=>wH am s.1 s.2) ((am.map λq=>(q,false)),0)).bind λt2=>
   XR t2))
def ZZ (l_:TA)(inputs:Int):z3A :=
 (XS l_ inputs).bind λr_=>
 bif r_ !=0 then(
  some (([]:TA),r_))
 else(
  (xh l_).bind λai=>
  some (ai.1,ai.2))
def jD (m_:z6):z3A :=
 (vq m_).bind λr_=>
 bif r_.2 !=0 then(
  some (([]:TA),r_.2))
 else(
  bif !r_.1 then(
   some (([]:TA),11))
  else(
   (WO m_).bind λai=>
   bif ai.2.2 !=0 then(
    some (([]:TA),ai.2.2))
   else(
    (ZZ ai.1 m_.j).bind λam=>
    some (am.1,am.2))))
abbrev zmH:Type:=Option (LR (TA×TA×Int×Int) ((TA×Int)))
def QD (k_:Int)(aj:TA)(mp:TA)(cb:Int)(jv:Int)(rb:Bool)(o7:Bool):zmH :=
 some (.next (aj,mp,cb,w64 (k_+1)))
def QC (k_:Int)(ay:TA)(bz:Int)(gt:Bool)(next:TA):zmH :=
 QD k_ ay next bz bz (decide (bz>65536)) gt
abbrev zdE:Type:=Option (LR (TA×Int) TA)
def QB (kq:Int)(fm:TA):zdE :=
 some (.next (fm,w64 (kq+1)))
def uT (inputs:Int)(bt:TB)(cm:TA)(kr:Int):zdE :=
 bif decide (kr<inputs) then(
  (zO bt).bind λai=>
  gd (ai.length+[kr].length<=4294967296) <|
  gd (cm.length+[(ai++[kr])].length<=4294967296) <|
  some (.next ((cm++[(ai++[kr])]),w64 (kr+1))))
 else(
  some (.done cm))
def uU (inputs:Int)(av:TA)(cr:TA)(kq:Int):zdE :=
 bif decide (kq<(av.length:Int)) then(
  (idx av kq).bind λbt=>
  (loop (λs=>uT inputs bt s.1 s.2) (cr,0)).bind λt8=>
  QB kq t8)
 else(
  some (.done cr))
def YB (inputs:Int)(to:Int)(av:TA)(k_:Int)(ay:TA)(bz:Int)(gt:Bool):zmH :=
 bif k_==to then(
  (xh ay).bind λr_=>
  some (.done (r_.1,r_.2)))
 else(
  (loop (λs=>uU inputs av s.1 s.2) (([]:TA),0)).bind λt6=>
  QC k_ ay bz gt t6)
def YC (inputs:Int)(to:Int)(av:TA)(k_:Int)(ay:TA)(bz:Int):zmH :=
 bif decide ((ay.length:Int)>4096) then(
  some (.done (([]:TA),3)))
 else(
  bif decide (bz>65536) then(
   some (.done (([]:TA),3)))
  else(
   bif decide (k_<to) then(
    bif decide ((w64 ((av.length:Int)*inputs))>4096) then(
     some (.done (([]:TA),3)))
    else(
     YB inputs to av k_ ay bz (decide ((w64 ((av.length:Int)*inputs))>4096))))
   else(
    YB inputs to av k_ ay bz false)))
def kK (inputs:Int)(from_:Int)(to:Int)(out:TA)(av:TA)(n_:Int)(k_:Int):zmH :=
 bif decide (k_>=from_) then(
  gd (out.length+av.length<=4294967296) <|
  YC inputs to av k_ (out++av) (w64 (n_+(w64 (k_*(av.length:Int))))))
 else(
  YC inputs to av k_ out n_)
def Vu (inputs:Int)(from_:Int)(to:Int):z3A :=
 bif decide (inputs>16) then(
  some (([]:TA),3))
 else(
  bif decide (inputs<1) then(
   some (([]:TA),1))
  else(
   bif decide (to<0) then(
    some (([]:TA),1))
   else(
    bif decide (to>256) then(
     some (([]:TA),3))
    else(
     (loop (λs=>kK inputs from_ to s.1 s.2.1 s.2.2.1 s.2.2.2) (([]:TA),([[]]:TA),0,0)).bind λt1=>
     some t1))))
def Vv (inputs:Int)(k_:Int):z3A :=
 (Vu inputs 0 k_).bind λr_=>
 some (r_.1,r_.2)
def VZ:Option Int :=
 some 0
def Xi (inputs:Int)(l_:List TA)(fk:Int):R1_ :=
 bif decide (fk<(l_.length:Int)) then(
  (idx l_ fk).bind λcq=>
  (kl cq inputs).bind λr_=>
  bif r_ !=0 then(
   some (.done (.inr r_)))
  else(
   some (.next (w64 (fk+1)))))
 else(
  some (.done (.inl ())))
def XJ (inputs:Int)(l_:List TA):Option Int :=
 (loop (λs=>Xi inputs l_ s) 0).bind λt2=>
 match t2 with
 |.inl p=>VZ
 |.inr p=>some p
def z1x (b_:TB):Option (List UInt8) :=
 some (u8s b_)
abbrev z8W:Type:=Option (LR (TB×Int) TB)
def kJ (w_:TB)(j7:TB)(gn:Int):z8W :=
 bif decide (gn<(w_.length:Int)) then(
  (idx w_ gn).bind λge=>
  (idx j7 gn).bind λgf=>
  some (.next ((j7.set gn.toNat (IntKind.u8.wrap (ge))),w64 (gn+1))))
 else(
  some (.done j7))
def KV (w_:TB):Option (List UInt8) :=
 gd ((0:Int)<=(w_.length:Int)/\((w_.length:Int):Int)<=4294967296) <|
 (loop (λs=>kJ w_ s.1 s.2) ((List.replicate (w_.length:Int).toNat (0:Int)),0)).bind λt2=>
 z1x t2
def kV (out:TA):z3A :=
 (xh out).bind λai=>
 some (ai.1,ai.2)
abbrev zqb:Type:=Option (LR ((List ((List UInt8)×Bool))×Int×TA×Int) (TA⊕(TA×Int)))
def kU (dz:Int)(dg:List ((List UInt8)×Bool))(cb:Int)(ay:TA):zqb :=
 some (.next (dg,cb,ay,w64 (dz+1)))
abbrev zqa:Type:=Option (LR ((List ((List UInt8)×Bool))×Int×TA×Int) (((List ((List UInt8)×Bool))×Int×TA)⊕(TA×Int)))
def uV (gk:Int)(nj:List ((List UInt8)×Bool))(pi:Int)(im:TA):zqa :=
 bif decide ((im.length:Int)>4096) then(
  some (.done (.inr (([]:TA),3))))
 else(
  bif decide (pi>65536) then(
   some (.done (.inr (([]:TA),3))))
  else(
   some (.next (nj,pi,im,w64 (gk+1)))))
def kT (b_:TA)(ie:TB)(cw:List ((List UInt8)×Bool))(bz:Int)(cu:TA)(gk:Int):zqa :=
 bif decide (gk<(b_.length:Int)) then(
  (idx b_ gk).bind λgf=>
  (zO ie).bind λam=>
  gd (am.length+gf.length<=4294967296) <|
  bif decide ((((am++gf).length:Nat):Int)>256) then(
   some (.done (.inr (([]:TA),3))))
  else(
   (KV (am++gf)).bind λaz=>
   (some ((VU cw az).getD false)).bind λval=>
   bif !val then(
    gd (cu.length+[(am++gf)].length<=4294967296) <|
    uV gk (z35 cw az true) (w64 (bz+(((am++gf).length:Nat):Int))) (cu++[(am++gf)]))
   else(
    uV gk cw bz cu)))
 else(
  some (.done (.inl (cw,bz,cu))))
def XU (a_:TA)(b_:TA)(ia:List ((List UInt8)×Bool))(n_:Int)(aj:TA)(dz:Int):zqb :=
 bif decide (dz<(a_.length:Int)) then(
  (idx a_ dz).bind λie=>
  (loop (λs=>kT b_ ie s.1 s.2.1 s.2.2.1 s.2.2.2) (ia,n_,aj,0)).bind λt4=>
  match t4 with
  |.inl p=>kU dz p.1 p.2.1 p.2.2
  |.inr p=>some (.done (.inr p)))
 else(
  some (.done (.inl aj)))
def YD (a_:TA)(b_:TA)(inputs:Int):z3A :=
 (XJ inputs ([a_,b_])).bind λr_=>
 bif r_ !=0 then(
  some (([]:TA),r_))
 else(
  (loop (λs=>XU a_ b_ s.1 s.2.1 s.2.2.1 s.2.2.2) (([]:List ((List UInt8)×Bool)),0,([]:TA),0)).bind λt2=>
  match t2 with
  |.inl p=>kV p
  |.inr p=>some p)
def ZJ (m_:z6)(k_:Int):z3A :=
 (jD m_).bind λr_=>
 bif r_.2 !=0 then(
  some (([]:TA),r_.2))
 else(
  bif decide (k_<0) then(
   some (([]:TA),1))
  else(
   (Vv m_.j k_).bind λai=>
   bif ai.2 !=0 then(
    some (([]:TA),ai.2))
   else(
    (YD r_.1 ai.1 m_.j).bind λam=>
    some (am.1,am.2))))
def vu (m_:z6):z3A :=
 (ZJ m_ 1).bind λr_=>
 some (r_.1,r_.2)
def YN (n_:Int):Option Int :=
 some n_
def Yf (x6:Int)(kp:σ):Option (LR (σ×Int) σ) :=
 some (.next (kp,w64 (x6+1)))
def qW (x0:Int)(yy:σ->(Int×Int)->Option (σ×Bool))(x6:Int)(gx:σ)(b_:Int):Option (LR (σ×Int) (σ⊕σ)) :=
 bif decide (b_<x0) then(
  (yy gx (x6,b_)).bind λyr=>
  bif !yr.2 then(
   some (.done (.inr yr.1)))
  else(
   some (.next (yr.1,w64 (b_+1)))))
 else(
  some (.done (.inl gx)))
def Ye (x0:Int)(yy:σ->(Int×Int)->Option (σ×Bool))(de:σ)(x6:Int):Option (LR (σ×Int) σ) :=
 bif decide (x6<x0) then(
  (loop (λs=>qW x0 yy x6 s.1 s.2) (de,w64 (x6+1))).bind λt3=>
  match t3 with
  |.inl p=>Yf x6 p
  |.inr p=>some (.done p))
 else(
  some (.done de))
def vD (x0:Int){σ:Type}(yy:σ->(Int×Int)->Option (σ×Bool))(sg:σ):Option σ :=
 (loop (λs=>Ye x0 yy s.1 s.2) (sg,0)).bind λt1=>
 some t1
def Je (a_:Int)(b_:Int):Option Bool :=
 some true
def Ym (s_:Int)(x1:z6):Option Bool :=
 bif decide (s_<0) then(
  some true)
 else(
  some (decide (s_>=(x1.i.length:Int))))
def vM:Option Int :=
 some (-1)
def yH (s_:TB)(f_:z6)(x8:Int):R1_ :=
 bif decide (x8<(s_.length:Int)) then(
  (idx s_ x8).bind λd9=>
  (Ym d9 f_).bind λr_=>
  bif r_ then(
   some (.done (.inr x8)))
  else(
   some (.next (w64 (x8+1)))))
 else(
  some (.done (.inl ())))
def xk (s_:TB)(f_:z6):Option Int :=
 (loop (λs=>yH s_ f_ s) 0).bind λt2=>
 match t2 with
 |.inl p=>vM
 |.inr p=>some p
def xU (s_:TB)(f_:z6):Option Bool :=
 (xk s_ f_).bind λr_=>
 some (decide (r_>=0))
def WQ (m_:z6)(l_:TB):Option Int :=
 (yU m_).bind λr_=>
 bif r_ !=0 then(
  some r_)
 else(
  (xU l_ m_).bind λai=>
  bif ai then(
   some 1)
  else(
   some 0))
def QE (m_:z6):Option z6 :=
 some m_
def Y5 (x8:Int)(kp:σ):Option (LR (σ×Int) σ) :=
 some (.next (kp,w64 (x8+1)))
def qO (x0:z6)(yy:σ->(Int×Int)->Option (σ×Bool))(x8:Int)(gx:σ)(t_:Int):Option (LR (σ×Int) (σ⊕σ)) :=
 bif decide (t_<(x0.i.length:Int)) then(
  (yy gx (x8,t_)).bind λyr=>
  bif !yr.2 then(
   some (.done (.inr yr.1)))
  else(
   some (.next (yr.1,w64 (t_+1)))))
 else(
  some (.done (.inl gx)))
def Y4 (x0:z6)(yy:σ->(Int×Int)->Option (σ×Bool))(de:σ)(x8:Int):Option (LR (σ×Int) σ) :=
 bif decide (x8<(x0.i.length:Int)) then(
  (loop (λs=>qO x0 yy x8 s.1 s.2) (de,w64 (x8+1))).bind λt3=>
  match t3 with
  |.inl p=>Y5 x8 p
  |.inr p=>some (.done p))
 else(
  some (.done de))
def uB (x0:z6){σ:Type}(yy:σ->(Int×Int)->Option (σ×Bool))(sg:σ):Option σ :=
 (loop (λs=>Y4 x0 yy s.1 s.2) (sg,0)).bind λt1=>
 some t1
def xz (l:TB)(n:Int):Option TB:=bif l.isEmpty&&(decide (0<n)&&decide (n<=1000000)) then some [] else none
def vO (md:TB):Option TB :=
 some md
def zQ (slices:TA)(gy:TB)(o8:Int):z8W :=
 bif decide (o8<(slices.length:Int)) then(
  (idx slices o8).bind λlb=>
  gd (gy.length+lb.length<=4294967296) <|
  some (.next ((gy++lb),w64 (o8+1))))
 else(
  some (.done gy))
def vP (slices:TA)(size:Int):Option TB :=
 (xz [] size).bind λr_=>
 (loop (λs=>zQ slices s.1 s.2) (r_,0)).bind λt3=>
 vO t3
def zP (slices:TA)(lq:Int)(gn:Int):R6_ :=
 bif decide (gn<(slices.length:Int)) then(
  (idx slices gn).bind λld=>
  bif decide ((w64 (lq+(ld.length:Int)))<0) then(
   none)
  else(
   some (.next (w64 (lq+(ld.length:Int)),w64 (gn+1)))))
 else(
  some (.done lq))
def vh (slices:TA):Option TB :=
 (loop (λs=>zP slices s.1 s.2) (0,0)).bind λt4=>
 vP slices t4
abbrev zq9:Type:=Option (TB×ArN 64 (ArN 64 TB))
def vG (n_:Int)(f_:ArN 64 (ArN 64 TB))(out:TB):zq9 :=
 bif (out.length:Int) !=n_ then(
  some ([],f_))
 else(
  (zO out).bind λr_=>
  gd (r_≠[]) <|
  some (r_,f_))
def xG (ig:Int):Option (LR Int TB) :=
 some (.next (w64 (ig+1)))
def wj (m_:z6)(t_:Int)(n_:Int)(f_:ArN 64 (ArN 64 TB))(al:List z7)(ig:Int):Option (LR Int TB) :=
 bif decide (ig<(al.length:Int)) then(
  (idx al ig).bind λak=>
  (idx m_.i t_).bind λdp=>
  (idx dp ig).bind λar=>
  bif ak.r !=ar.r then(
   some (.done [ig]))
  else(
   bif decide (n_>1) then(
    bif ak.o !=(-1) then(
     (idx (f_.l) ak.o).bind λcell=>
     (idx (cell.l) ar.o).bind λca=>
     bif (ca.length:Int)==(w64 (n_-1)) then(
      (idx (f_.l) ak.o).bind λjf=>
      (idx (jf.l) ar.o).bind λjp=>
      (vh ([[ig],jp])).bind λai=>
      some (.done ai))
     else(
      xG ig))
    else(
     xG ig))
   else(
    xG ig)))
 else(
  some (.done ([]:TB)))
def vK (m_:z6)(s_:Int)(t_:Int)(n_:Int)(f_:ArN 64 (ArN 64 TB)):zq9 :=
 (idx m_.i s_).bind λal=>
 (loop (λs=>wj m_ t_ n_ f_ al s) 0).bind λt2=>
 vG n_ f_ t2
abbrev zp7:Type:=Option (ArN 64 (ArN 64 TB))
def uu (s_:Int)(t_:Int)(w_:TB)(f_:ArN 64 (ArN 64 TB)):zp7 :=
 (idx (f_.l) s_).bind λcell=>
 (idx (cell.l) t_).bind λca=>
 (some (ArN.setI cell t_ w_)).bind λarr=>
 (some (ArN.setI f_ s_ arr)).bind λarr1=>
 (idx (arr1.l) t_).bind λjf=>
 (idx (jf.l) s_).bind λjp=>
 (some (ArN.setI jf s_ w_)).bind λarr2=>
 (some (ArN.setI arr1 t_ arr2)).bind λpr=>
 some pr
def uh (f_:ArN 64 (ArN 64 TB)):zp7 :=
 some f_
abbrev zne:Type:=Option (LR (ArN 64 (ArN 64 TB)×Int) (ArN 64 (ArN 64 TB)))
def ug (n_:Int)(py:ArN 64 (ArN 64 TB)):zne :=
 some (.next (py,w64 (n_+1)))
def wM (now:List zS)(nk:ArN 64 (ArN 64 TB))(o9:Int):zne :=
 bif decide (o9<(now.length:Int)) then(
  (idx now o9).bind λgl=>
  (uu gl.S gl.T gl.Word nk).bind λr_=>
  some (.next (r_,w64 (o9+1))))
 else(
  some (.done nk))
def uf (n_:Int)(pz:ArN 64 (ArN 64 TB))(now:List zS):zne :=
 (loop (λs=>wM now s.1 s.2) (pz,0)).bind λt5=>
 ug n_ t5
def xe (m_:z6)(n_:Int)(jj:ArN 64 (ArN 64 TB))(ir:List zS)(j8:Int)(fe:Int):Option (LR (ArN 64 (ArN 64 TB)×List zS) Empty) :=
 (idx (jj.l) j8).bind λcell=>
 (idx (cell.l) fe).bind λca=>
 bif !ca.isEmpty then(
  some (.next (jj,ir)))
 else(
  (vK m_ j8 fe n_ jj).bind λam=>
  bif !am.1.isEmpty then(
   gd (ir.length+[(zS.mk j8 fe am.1 false)].length<=4294967296) <|
   some (.next (am.2,(ir++[(zS.mk j8 fe am.1 false)]))))
  else(
   some (.next (am.2,ir))))
def ue (m_:z6)(ng:ArN 64 (ArN 64 TB))(n_:Int):zne :=
 bif decide (n_<(mx (m_.i.length:Int) 2)) then(
  (QE m_).bind λai=>
  (uB ai (yOf (λs x=>xe m_ n_ s.1 s.2 x.1 x.2)) (.next (ng,([]:List zS)))).bind λt6=>
  match t6 with
  |.next (jj,ir)=>(
   uf n_ jj ir)
  |.done z=>nomatch z)
 else(
  some (.done ng))
def ut (m_:z6):zp7 :=
 (loop (λs=>ue m_ s.1 s.2) ((ArN.rep 64 (ArN.rep 64 ([]:TB))),1)).bind λt2=>
 uh t2
def uW (m_:z6)(s_:Int)(t_:Int):Option (TB×Bool×Int) :=
 (WQ m_ ([s_,t_])).bind λr_=>
 bif r_ !=0 then(
  some (([]:TB),false,r_))
 else(
  (ut m_).bind λai=>
  (idx (ai.l) s_).bind λcell=>
  (idx (cell.l) t_).bind λca=>
  (y9 ca).bind λam=>
  (zO am).bind λaz=>
  some (az,decide ((az.length:Int)>0),0))
def ZB (m_:z6)(x5:Int)(out:TA):z3A :=
 (ZZ out m_.j).bind λr_=>
 some (r_.1,r_.2)
abbrev zq8:Type:=Option (LR (Int×TA) ((Int×TA)))
def vS (m_:z6)(fg:Int)(aj:TA)(ep:Int)(ba:Int):zq8 :=
 (Je ep ba).bind λam=>
 bif !am then(
  some (.next (fg,aj)))
 else(
  (uW m_ ep ba).bind λaz=>
  bif az.2.2 !=0 then(
   some (.done (az.2.2,aj)))
  else(
   gd (aj.length+[az.1].length<=4294967296) <|
   some (.next (fg,(aj++[az.1])))))
def V1 (m_:z6)(is:Unit):z3A :=
 (YN (m_.i.length:Int)).bind λai=>
 (vD ai (yOf (λs x=>vS m_ s.1 s.2 x.1 x.2)) (.next (0,([]:TA)))).bind λt2=>
 match t2 with
 |.next (fg,aj)=>(
  ZB m_ fg aj)
 |.done (fg,aj)=>(
  some (([]:TA),fg))
def JP (m_:z6):z3A :=
 (xJ m_).bind λr_=>
 bif r_ !=0 then(
  some (([]:TA),r_))
 else(
  (V1 m_ ()).bind λai=>
  some (ai.1,ai.2))
def Ua (inputs:Int)(k_:Int):z3A :=
 (Vu inputs k_ k_).bind λr_=>
 some (r_.1,r_.2)
def XV (l_:TA):z3H :=
 bif (l_.length:Int)==0 then(
  some ([[]]:TA))
 else(
  some l_)
def UA (a_:Int)(b_:Int)(x2:Int):Option Bool :=
 bif a_==x2 then(
  some true)
 else(
  some (b_==x2))
def uq (m_:z6)(x5:Int)(out:TA):z3A :=
 (ZZ out m_.j).bind λr_=>
 some (r_.1,r_.2)
def yx (m_:z6)(is:Int)(fg:Int)(aj:TA)(ep:Int)(ba:Int):zq8 :=
 (UA ep ba is).bind λam=>
 bif !am then(
  some (.next (fg,aj)))
 else(
  (uW m_ ep ba).bind λaz=>
  bif az.2.2 !=0 then(
   some (.done (az.2.2,aj)))
  else(
   gd (aj.length+[az.1].length<=4294967296) <|
   some (.next (fg,(aj++[az.1])))))
def uA (m_:z6)(is:Int):z3A :=
 (YN (m_.i.length:Int)).bind λai=>
 (vD ai (yOf (λs x=>yx m_ is s.1 s.2 x.1 x.2)) (.next (0,([]:TA)))).bind λt2=>
 match t2 with
 |.next (fg,aj)=>(
  uq m_ fg aj)
 |.done (fg,aj)=>(
  some (([]:TA),fg))
def z0q (m_:z6)(s_:Int):z3A :=
 (xJ m_).bind λr_=>
 bif r_ !=0 then(
  some (([]:TA),r_))
 else(
  bif decide (s_<0) then(
   some (([]:TA),1))
  else(
   bif decide (s_>=(m_.i.length:Int)) then(
    some (([]:TA),1))
   else(
    (uA m_ s_).bind λai=>
    some (ai.1,ai.2))))
abbrev zp6:Type:=Option (Option zC×Int)
def Vw (m_:z6)(r_:TA×Int)(ai:TA×Int)(az:TA×Int)(cp:TA×Int)(gh:TA)(ku:List TA):zp6 :=
 some ((some (zC.mk m_ r_.1 ai.1 gh ku az.1 cp.1)),0)
def xT (m_:z6)(jg:List TA)(nl:Int):Option (LR (List TA×Int) (List TA⊕(Option zC×Int))) :=
 bif decide (nl<(m_.i.length:Int)) then(
  (z0q m_ nl).bind λiz=>
  bif iz.2 !=0 then(
   some (.done (.inr ((none:Option zC),iz.2))))
  else(
   (XV iz.1).bind λjk=>
   gd (jg.length+[jk].length<=4294967296) <|
   some (.next ((jg++[jk]),w64 (nl+1)))))
 else(
  some (.done (.inl jg)))
def Y1 (m_:z6)(r_:TA×Int)(ai:TA×Int)(am:TA×Int)(az:TA×Int)(cp:TA×Int):zp6 :=
 (XV am.1).bind λgh=>
 (loop (λs=>xT m_ s.1 s.2) (([]:List TA),0)).bind λt3=>
 match t3 with
 |.inl p=>Vw m_ r_ ai az cp gh p
 |.inr p=>some p
def Yl (m_:z6)(ZO:Int):zp6 :=
 (jD m_).bind λr_=>
 (vu m_).bind λai=>
 (JP m_).bind λam=>
 (Vv m_.j (w64 (ZO-(m_.i.length:Int)))).bind λaz=>
 (Ua m_.j (w64 (ZO-(m_.i.length:Int)))).bind λcp=>
 bif r_.2 !=0 then(
  some ((none:Option zC),r_.2))
 else(
  bif ai.2 !=0 then(
   some ((none:Option zC),ai.2))
  else(
   bif am.2 !=0 then(
    some ((none:Option zC),am.2))
   else(
    bif az.2 !=0 then(
     some ((none:Option zC),az.2))
    else(
     bif cp.2 !=0 then(
      some ((none:Option zC),cp.2))
     else(
      Y1 m_ r_ ai am az cp)))))
abbrev zkb:Type:=Option (zb×Bool)
def Y3 (b_:zb)(cn:List (zw Int))(bu:Int):zkb :=
 bif decide (bu>b_.y) then(
  some (b_,true))
 else(
  some ((zb.mk cn bu b_.y),false))
abbrev zq7:Type:=Option (LR (List (zw Int)×Int×Int×Bool×Int) ((List (zw Int)×Int)))
def Y2 (em:Int)(cd:List (zw Int))(bo:Int)(pa:Int)(mq:Bool):zq7 :=
 some (.next (cd,bo,pa,mq,w64 (em+1)))
abbrev zp5:Type:=Option (LR (List (zw Int)×Int×Int×Bool×Int) ((List (zw Int)×Int×Int×Bool)))
def vJ (gc:Int)(ce:List (zw Int))(bp:Int)(mr:Bool)(next:Int):zp5 :=
 some (.next (ce,bp,next,mr,w64 (gc+1)))
def yk (ap:List (zw Int))(ff:Int)(gc:Int)(da:Int)(dr:Int):zp5 :=
 (idx ap ff).bind λjx=>
 (idx (zw.toL jx) da).bind λca=>
 (some (zw.setI jx da (IntKind.i32.wrap ((ap.length:Int))))).bind λarr=>
 gd ((ap.set ff.toNat arr).length+([(zw.mk 0 0 0 0 0 0 0 0 0 0 0 0 0 0 0 0)]:List (zw Int)).length<=4294967296) <|
 vJ gc ((ap.set ff.toNat arr)++([(zw.mk 0 0 0 0 0 0 0 0 0 0 0 0 0 0 0 0)]:List (zw Int))) dr true (IntKind.i32.wrap ((ap.length:Int)))
def vI (eb:TB)(ap:List (zw Int))(bc:Int)(ff:Int)(jl:Bool)(gc:Int):zp5 :=
 bif decide (gc<(eb.length:Int)) then(
  (idx eb gc).bind λda=>
  (idx ap ff).bind λme=>
  (idx (zw.toL me) da).bind λcell=>
  bif cell==0 then(
   bif !jl then(
    bif ff==0 then(
     bif (ap.length:Int)==1 then(
      yk ap ff gc da (w64 (bc+1)))
     else(
      (idx ap ff).bind λdt=>
      bif !((dt.e0==0)&&((dt.e1==0)&&((dt.e2==0)&&((dt.e3==0)&&((dt.e4==0)&&((dt.e5==0)&&((dt.e6==0)&&((dt.e7==0)&&((dt.e8==0)&&((dt.e9==0)&&((dt.e10==0)&&((dt.e11==0)&&((dt.e12==0)&&((dt.e13==0)&&((dt.e14==0)&&((dt.e15==0)&&true)))))))))))))))) then(
       yk ap ff gc da (w64 (bc+1)))
      else(
       yk ap ff gc da bc)))
    else(
     (idx ap ff).bind λdu=>
     bif !((du.e0==0)&&((du.e1==0)&&((du.e2==0)&&((du.e3==0)&&((du.e4==0)&&((du.e5==0)&&((du.e6==0)&&((du.e7==0)&&((du.e8==0)&&((du.e9==0)&&((du.e10==0)&&((du.e11==0)&&((du.e12==0)&&((du.e13==0)&&((du.e14==0)&&((du.e15==0)&&true)))))))))))))))) then(
      yk ap ff gc da (w64 (bc+1)))
     else(
      yk ap ff gc da bc)))
   else(
    yk ap ff gc da bc))
  else(
   vJ gc ap bc jl cell))
 else(
  some (.done (ap,bc,ff,jl)))
def Vx (parts:TA)(cg:List (zw Int))(bq:Int)(at_:Int)(m0:Bool)(em:Int):zq7 :=
 bif decide (em<(parts.length:Int)) then(
  (idx parts em).bind λeb=>
  (loop (λs=>vI eb s.1 s.2.1 s.2.2.1 s.2.2.2.1 s.2.2.2.2) (cg,bq,at_,m0,0)).bind λt4=>
  Y2 em t4.1 t4.2.1 t4.2.2.1 t4.2.2.2)
 else(
  some (.done (cg,bq)))
def xu (parts:TA)(b_:zb):zkb :=
 (loop (λs=>Vx parts s.1 s.2.1 s.2.2.1 s.2.2.2.1 s.2.2.2.2) (b_.z,b_.x,0,false,0)).bind λt2=>
 Y3 b_ t2.1 t2.2
abbrev zka:Type:=Option (LR (List (zw Int)×Int×Int×Int) ((zb×Bool)))
def YI (ba:Int)(cg:List (zw Int))(bq:Int)(d0:Int):zka :=
 some (.next (cg,bq,d0,w64 (ba+1)))
abbrev zam:Type:=Option (LR (List (zw Int)×Int×Int×Int) ((List (zw Int)×Int×Int)⊕(zb×Bool)))
def YH (fy:Int)(ap:List (zw Int))(bc:Int)(d8:Int):zam :=
 some (.next (ap,bc,d8,w64 (fy+1)))
def YE (x_:zC)(b_:zb)(bg:TB)(a7:TB)(ce:List (zw Int))(bp:Int)(dj:Int)(gk:Int):zam :=
 bif decide (gk<(x_.all_.length:Int)) then(
  (idx x_.all_ gk).bind λez=>
  (xu [bg,a7,ez] (zb.mk ce bp dj)).bind λr_=>
  bif r_.2 then(
   some (.done (.inr (b_,true))))
  else(
   some (.next (r_.1.z,r_.1.x,r_.1.y,w64 (gk+1)))))
 else(
  some (.done (.inl (ce,bp,dj))))
def YF (x_:zC)(b_:zb)(bg:TB)(cd:List (zw Int))(bo:Int)(dm:Int)(fy:Int):zam :=
 bif decide (fy<(x_.L.length:Int)) then(
  (idx x_.L fy).bind λa7=>
  (loop (λs=>YE x_ b_ bg a7 s.1 s.2.1 s.2.2.1 s.2.2.2) (cd,bo,dm,0)).bind λt5=>
  match t5 with
  |.inl p=>YH fy p.1 p.2.1 p.2.2
  |.inr p=>some (.done (.inr p)))
 else(
  some (.done (.inl (cd,bo,dm))))
def YG (x_:zC)(b_:zb)(cn:List (zw Int))(bu:Int)(ee:Int)(ba:Int):zka :=
 bif decide (ba<(x_.p_.length:Int)) then(
  (idx x_.p_ ba).bind λbg=>
  (loop (λs=>YF x_ b_ bg s.1 s.2.1 s.2.2.1 s.2.2.2) (cn,bu,ee,0)).bind λt3=>
  match t3 with
  |.inl p=>YI ba p.1 p.2.1 p.2.2
  |.inr p=>some (.done p))
 else(
  some (.done ((zb.mk cn bu ee),false)))
def vg (x0:Jo)(x_:zC)(b_:zb):zkb :=
 (loop (λs=>YG x_ b_ s.1 s.2.1 s.2.2.1 s.2.2.2) (b_.z,b_.x,b_.y,0)).bind λt1=>
 some t1
def yu (x_:TA)(target:TB)(i_:Int):Option (Int×Bool) :=
 bif decide (i_<(x_.length:Int)) then(
  (idx x_ i_).bind λmc=>
  (yG mc target).bind λr_=>
  some (i_,r_==0))
 else(
  some (i_,false))
def yq (x_:TA)(target:TB)(fw:Int)(j_:Int):R6_ :=
 bif decide (fw<j_) then(
  (idx x_ (w64 (Int.fdiv (IntKind.u64.wrap (w64 (fw+j_))) (2^1)))).bind λlp=>
  (yG lp target).bind λai=>
  bif decide (ai<0) then(
   some (.next (w64 ((w64 (Int.fdiv (IntKind.u64.wrap (w64 (fw+j_))) (2^1)))+1),j_)))
  else(
   some (.next (fw,w64 (Int.fdiv (IntKind.u64.wrap (w64 (fw+j_))) (2^1))))))
 else(
  some (.done fw))
def yT (x_:TA)(target:TB)(cmp:Unit):Option (Int×Bool) :=
 (loop (λs=>yq x_ target s.1 s.2) (0,(x_.length:Int))).bind λt2=>
 yu x_ target t2
def z26 (l_:TA)(w_:TB):Option Bool :=
 (yT l_ w_ ()).bind λr_=>
 some r_.2
def kS (w_:TB)(x1:TA):Option Bool :=
 (z26 x1 w_).bind λr_=>
 some r_
def uL:Option Int :=
 some (-1)
def xm (s_:TA)(f_:TA)(x8:Int):R1_ :=
 bif decide (x8<(s_.length:Int)) then(
  (idx s_ x8).bind λd9=>
  (kS d9 f_).bind λr_=>
  bif r_ then(
   some (.done (.inr x8)))
  else(
   some (.next (w64 (x8+1)))))
 else(
  some (.done (.inl ())))
def vA (s_:TA)(f_:TA):Option Int :=
 (loop (λs=>xm s_ f_ s) 0).bind λt2=>
 match t2 with
 |.inl p=>uL
 |.inr p=>some p
def yY (bf:TA)(i_:Int):z3H :=
 gd ((0:Int)<=i_/\(i_:Int)<=(bf.length:Int)) <|
 gd ((0:Int)<=i_/\(i_:Int)<=(bf.length:Int)) <|
 gd ((0:Int)<=i_/\(i_:Int)<=(((bf.take i_.toNat++List.replicate (bf.length-i_.toNat) []).length:Nat):Int)) <|
 some ((bf.take i_.toNat++List.replicate (bf.length-i_.toNat) []).take i_.toNat)
def yi (j_:Int)(ml:TA)(p0:Int):znf :=
 some (.next (ml,p0,w64 (j_+1)))
def we (kc:TA)(bl:TA)(fw:Int)(j_:Int):znf :=
 bif decide (j_<(bl.length:Int)) then(
  (idx bl j_).bind λd9=>
  (kS d9 kc).bind λai=>
  bif !ai then(
   (idx bl fw).bind λmz=>
   yi j_ (bl.set fw.toNat d9) (w64 (fw+1)))
  else(
   yi j_ bl fw))
 else(
  some (.done (bl,fw)))
def xO (s_:TA)(kc:TA):z3H :=
 (vA s_ kc).bind λr_=>
 bif r_==(-1) then(
  some s_)
 else(
  (loop (λs=>we kc s.1 s.2.1 s.2.2) (s_,r_,w64 (r_+1))).bind λt2=>
  yY t2.1 t2.2)
def Y0 (a_:TA)(b_:TA)(inputs:Int):z3A :=
 (XJ inputs ([a_,b_])).bind λr_=>
 bif r_ !=0 then(
  some (([]:TA),r_))
 else(
  (yp a_).bind λai=>
  (xO ai b_).bind λam=>
  (xh am).bind λaz=>
  some (az.1,az.2))
def Yq (m_:z6)(s_:Int):Option Int :=
 (yU m_).bind λr_=>
 bif r_ !=0 then(
  some r_)
 else(
  bif decide (s_<0) then(
   some 1)
  else(
   bif decide (s_>=(m_.i.length:Int)) then(
    some 1)
   else(
    some 0)))
def Wh (bf:Int)(out:TB):Option (TB×Int) :=
 some (out,bf)
abbrev zq6:Type:=Option (LR (Int×TB×Int) ((Int×TB)))
def vR (aj:TB)(ba:Int)(gj:Int)(nb:Int):zq6 :=
 (idx aj ba).bind λfx=>
 some (.next (gj,(aj.set ba.toNat nb),w64 (ba+1)))
def Jc (m_:z6)(w_:TB)(bl:Int)(aj:TB)(ba:Int):zq6 :=
 bif decide (ba<(w_.length:Int)) then(
  (idx w_ ba).bind λge=>
  (um).bind λr_=>
  bif bl !=(-1) then(
   (idx m_.i bl).bind λal=>
   (idx al ge).bind λak=>
   vR aj ba ak.o ak.r)
  else(
   vR aj ba r_.o r_.r))
 else(
  some (.done (bl,aj)))
def WY (m_:z6)(s_:Int)(w_:TB):Option (TB×Int) :=
 gd ((0:Int)<=(w_.length:Int)/\((w_.length:Int):Int)<=4294967296) <|
 (loop (λs=>Jc m_ w_ s.1 s.2.1 s.2.2) (s_,(List.replicate (w_.length:Int).toNat (0:Int)),0)).bind λt2=>
 Wh t2.1 t2.2
def jP (m_:z6)(s_:Int)(w_:TB):Option (Int×Int) :=
 (Yq m_ s_).bind λr_=>
 bif r_ !=0 then(
  some (0,r_))
 else(
  (jZ w_ m_.j).bind λai=>
  bif ai !=0 then(
   some (0,ai))
  else(
   (WY m_ s_ w_).bind λam=>
   some (am.2,0)))
def xj (x_:zC)(u_:TB)(v_:TB):z3H :=
 (jP x_.m_ 0 u_).bind λr_=>
 (jP x_.m_ r_.1 v_).bind λai=>
 (idx x_.each_ ai.1).bind λpj=>
 some pj
def ZW (ip:Int)(cd:List (zw Int))(bo:Int)(dm:Int):zka :=
 some (.next (cd,bo,dm,w64 (ip+1)))
def ZV (ji:Int)(ce:List (zw Int))(bp:Int)(dj:Int):zam :=
 some (.next (ce,bp,dj,w64 (ji+1)))
def uF (b_:zb)(u_:TB)(dw:TB)(ai:TA)(i6:List (zw Int))(dr:Int)(jy:Int)(og:Int):zam :=
 bif decide (og<(ai.length:Int)) then(
  (idx ai og).bind λdx=>
  (xu [u_,dw,dx] (zb.mk i6 dr jy)).bind λam=>
  bif am.2 then(
   some (.done (.inr (b_,true))))
  else(
   some (.next (am.1.z,am.1.x,am.1.y,w64 (og+1)))))
 else(
  some (.done (.inl (i6,dr,jy))))
def ZS (x_:zC)(b_:zb)(u_:TB)(ap:List (zw Int))(bc:Int)(d8:Int)(ji:Int):zam :=
 bif decide (ji<(x_.U.length:Int)) then(
  (idx x_.U ji).bind λdw=>
  (xj x_ u_ dw).bind λai=>
  (loop (λs=>uF b_ u_ dw ai s.1 s.2.1 s.2.2.1 s.2.2.2) (ap,bc,d8,0)).bind λt6=>
  match t6 with
  |.inl p=>ZV ji p.1 p.2.1 p.2.2
  |.inr p=>some (.done (.inr p)))
 else(
  some (.done (.inl (ap,bc,d8))))
def ZT (x_:zC)(b_:zb)(r_:TA×Int)(cg:List (zw Int))(bq:Int)(d0:Int)(ip:Int):zka :=
 bif decide (ip<(r_.1.length:Int)) then(
  (idx r_.1 ip).bind λu_=>
  (loop (λs=>ZS x_ b_ u_ s.1 s.2.1 s.2.2.1 s.2.2.2) (cg,bq,d0,0)).bind λt4=>
  match t4 with
  |.inl p=>ZW ip p.1 p.2.1 p.2.2
  |.inr p=>some (.done p))
 else(
  some (.done ((zb.mk cg bq d0),false)))
def uG (x_:zC)(b_:zb)(cn:List (zw Int))(bu:Int)(ee:Int):zkb :=
 (Y0 x_.p_ x_.q_ x_.m_.j).bind λr_=>
 (loop (λs=>ZT x_ b_ r_ s.1 s.2.1 s.2.2.1 s.2.2.2) (cn,bu,ee,0)).bind λt2=>
 some t2
def ZU (iq:Int)(lf:List (zw Int))(kw:Int)(l6:Int):zam :=
 some (.next (lf,kw,l6,w64 (iq+1)))
def kX (ke:Int)(lh:List (zw Int))(kx:Int)(l7:Int):zam :=
 some (.next (lh,kx,l7,w64 (ke+1)))
def kW (x_:zC)(b_:zb)(gg:TB)(a7:TB)(ii:List (zw Int))(gz:Int)(i7:Int)(mh:Int):zam :=
 bif decide (mh<(x_.all_.length:Int)) then(
  (idx x_.all_ mh).bind λez=>
  (xu [gg,a7,ez] (zb.mk ii gz i7)).bind λaz=>
  bif az.2 then(
   some (.done (.inr (b_,true))))
  else(
   some (.next (az.1.z,az.1.x,az.1.y,w64 (mh+1)))))
 else(
  some (.done (.inl (ii,gz,i7))))
def ZQ (x_:zC)(b_:zb)(gg:TB)(i8:List (zw Int))(ij:Int)(jz:Int)(ke:Int):zam :=
 bif decide (ke<(x_.L.length:Int)) then(
  (idx x_.L ke).bind λa7=>
  (loop (λs=>kW x_ b_ gg a7 s.1 s.2.1 s.2.2.1 s.2.2.2) (i8,ij,jz,0)).bind λsf=>
  match sf with
  |.inl p=>kX ke p.1 p.2.1 p.2.2
  |.inr p=>some (.done (.inr p)))
 else(
  some (.done (.inl (i8,ij,jz))))
def ZR (x_:zC)(b_:zb)(ja:List (zw Int))(ik:Int)(j4:Int)(iq:Int):zam :=
 bif decide (iq<(x_.q_.length:Int)) then(
  (idx x_.q_ iq).bind λgg=>
  (loop (λs=>ZQ x_ b_ gg s.1 s.2.1 s.2.2.1 s.2.2.2) (ja,ik,j4,0)).bind λt9=>
  match t9 with
  |.inl p=>ZU iq p.1 p.2.1 p.2.2
  |.inr p=>some (.done (.inr p)))
 else(
  some (.done (.inl (ja,ik,j4))))
def wI (x0:UZ)(x_:zC)(b_:zb):zkb :=
 (loop (λs=>ZR x_ b_ s.1 s.2.1 s.2.2.1 s.2.2.2) (b_.z,b_.x,b_.y,0)).bind λt7=>
 match t7 with
 |.inl p=>uG x_ b_ p.1 p.2.1 p.2.2
 |.inr p=>some p
def Zb (ba:Int)(cg:List (zw Int))(bq:Int)(d0:Int):zka :=
 some (.next (cg,bq,d0,w64 (ba+1)))
def Za (fy:Int)(ap:List (zw Int))(bc:Int)(d8:Int):zam :=
 some (.next (ap,bc,d8,w64 (fy+1)))
def u9 (b_:zb)(bg:TB)(a7:TB)(r_:TA)(ce:List (zw Int))(bp:Int)(dj:Int)(gk:Int):zam :=
 bif decide (gk<(r_.length:Int)) then(
  (idx r_ gk).bind λdx=>
  (xu [bg,a7,dx] (zb.mk ce bp dj)).bind λai=>
  bif ai.2 then(
   some (.done (.inr (b_,true))))
  else(
   some (.next (ai.1.z,ai.1.x,ai.1.y,w64 (gk+1)))))
 else(
  some (.done (.inl (ce,bp,dj))))
def kY (x_:zC)(b_:zb)(bg:TB)(cd:List (zw Int))(bo:Int)(dm:Int)(fy:Int):zam :=
 bif decide (fy<(x_.L.length:Int)) then(
  (idx x_.L fy).bind λa7=>
  (xj x_ bg a7).bind λr_=>
  (loop (λs=>u9 b_ bg a7 r_ s.1 s.2.1 s.2.2.1 s.2.2.2) (cd,bo,dm,0)).bind λt5=>
  match t5 with
  |.inl p=>Za fy p.1 p.2.1 p.2.2
  |.inr p=>some (.done (.inr p)))
 else(
  some (.done (.inl (cd,bo,dm))))
def kZ (x_:zC)(b_:zb)(cn:List (zw Int))(bu:Int)(ee:Int)(ba:Int):zka :=
 bif decide (ba<(x_.p_.length:Int)) then(
  (idx x_.p_ ba).bind λbg=>
  (loop (λs=>kY x_ b_ bg s.1 s.2.1 s.2.2.1 s.2.2.2) (cn,bu,ee,0)).bind λt3=>
  match t3 with
  |.inl p=>Zb ba p.1 p.2.1 p.2.2
  |.inr p=>some (.done p))
 else(
  some (.done ((zb.mk cn bu ee),false)))
def wh (x0:VQ)(x_:zC)(b_:zb):zkb :=
 (loop (λs=>kZ x_ b_ s.1 s.2.1 s.2.2.1 s.2.2.2) (b_.z,b_.x,b_.y,0)).bind λt1=>
 some t1
def qN (x:zC)(s:Nat)(most:Int):Option (Option zb×Bool) :=
 (match s with|0=>vg ⟨⟩ x (zb.mk [zw.mk 0 0 0 0 0 0 0 0 0 0 0 0 0 0 0 0] 0 most)|1=>wI ⟨⟩ x (zb.mk [zw.mk 0 0 0 0 0 0 0 0 0 0 0 0 0 0 0 0] 0 most)|2=>wh ⟨⟩ x (zb.mk [zw.mk 0 0 0 0 0 0 0 0 0 0 0 0 0 0 0 0] 0 most)|_=>none).bind λr=>
 some (bif r.2 then none else some r.1,!r.2)
def wc (s_:TA):z3H :=
 some s_
def ud (out:TA):z3H :=
 (wc out).bind λr_=>
 some r_
abbrev zq5:Type:=Option (LR (TA×List ze) TA)
def uc (ay:TA)(next:List ze):zq5 :=
 some (.next (ay,next))
abbrev zp4:Type:=Option (LR (TA×List ze×Int) ((TA×List ze)))
def wK (ba:Int)(im:TA)(fm:List ze):zp4 :=
 some (.next (im,fm,w64 (ba+1)))
def ub (cu:TA)(ba:Int)(bt:ze)(cm:List ze)(pt:Bool):zp4 :=
 bif pt then(
  (zO bt.w_).bind λai=>
  gd (cu.length+[ai].length<=4294967296) <|
  wK ba (cu++[ai]) cm)
 else(
  wK ba cu cm)
abbrev zq4:Type:=Option (LR (List ze×Bool×Int) ((List ze×Bool)))
def wJ (dz:Int)(nn:List ze)(nq:Bool):zq4 :=
 some (.next (nn,nq,w64 (dz+1)))
def yg (bt:ze)(bh:zw Int)(gv:List ze)(lu:Bool)(dz:Int):zq4 :=
 bif decide (dz<16) then(
  (idx [bh.e0,bh.e1,bh.e2,bh.e3,bh.e4,bh.e5,bh.e6,bh.e7,bh.e8,bh.e9,bh.e10,bh.e11,bh.e12,bh.e13,bh.e14,bh.e15] dz).bind λcell=>
  bif decide (cell>0) then(
   (zO bt.w_).bind λam=>
   gd (am.length+[dz].length<=4294967296) <|
   gd (gv.length+[(ze.mk cell (am++[dz]))].length<=4294967296) <|
   wJ dz (gv++[(ze.mk cell (am++[dz]))]) false)
  else(
   wJ dz gv lu))
 else(
  some (.done (gv,lu)))
def yh (b_:zb)(av:List ze)(cu:TA)(cr:List ze)(ba:Int):zp4 :=
 bif decide (ba<(av.length:Int)) then(
  (idx av ba).bind λbt=>
  (idx b_.z bt.at_).bind λbh=>
  (loop (λs=>yg bt bh s.1 s.2.1 s.2.2) (cr,true,0)).bind λt7=>
  ub cu ba bt t7.1 t7.2)
 else(
  some (.done (cu,cr)))
def ua (b_:zb)(aj:TA)(av:List ze):zq5 :=
 bif decide ((av.length:Int)>0) then(
  (loop (λs=>yh b_ av s.1 s.2.1 s.2.2) (aj,([]:List ze),0)).bind λt4=>
  uc t4.1 t4.2)
 else(
  some (.done aj))
def wY (b_:zb):z3H :=
 (loop (λs=>ua b_ s.1 s.2) (([]:TA),([(ze.mk 0 [])]:List ze))).bind λt2=>
 ud t2
def wB (s_:Nat)(m_:z6)(ZO:Int)(fc:Int):z3A :=
 (WP m_ ZO).bind λr_=>
 bif r_ !=0 then(
  some (([]:TA),r_))
 else(
  bif decide (fc<1) then(
   some (([]:TA),1))
  else(
   bif decide (fc>4096) then(
    some (([]:TA),1))
   else(
    (Yl m_ ZO).bind λai=>
    bif ai.2 !=0 then(
     some (([]:TA),13))
    else(
     (ai.1).bind λthere=>
     (qN there s_ fc).bind λam=>
     bif !am.2 then(
      some (([]:TA),13))
     else(
      (am.1).bind λft=>
      (wY ft).bind λaz=>
      (kl az m_.j).bind λcp=>
      bif cp !=0 then(
       some (([]:TA),cp))
      else(
       some (az,0)))))))
def z28 (m_:z6)(ZO:Int)(fc:Int):z3A :=
 (wB 0 m_ ZO fc).bind λr_=>
 some (r_.1,r_.2)
def yR (s_:List z7):Option (List z7) :=
 gd (([]:List z7).length+s_.length<=4294967296) <|
 some s_
def yZ (s_:List z7):Option (List z7) :=
 gd ((0:Int)<=0/\(0:Int)<=(s_.length:Int)/\((s_.length:Int):Int)<=(s_.length:Int)/\((s_.length:Int):Int)<=(s_.length:Int)) <|
 some ((s_.drop 0).take ((s_.length:Int).toNat-0))
def z3l (ai:z6)(gu:List (List z7)):R7_ :=
 some ((z6.mk ai.j ai.m gu),0)
def kG (ai:z6)(bj:List (List z7))(lk:Int):R0_ :=
 bif decide (lk<(ai.i.length:Int)) then(
  (idx ai.i lk).bind λal=>
  (yR al).bind λam=>
  (yZ am).bind λaz=>
  (idx bj lk).bind λp8=>
  some (.next ((bj.set lk.toNat az),w64 (lk+1))))
 else(
  some (.done bj))
def ZF (m_:z6)(l_:TA)(states:Int):R7_ :=
 (XL m_ l_ states).bind λr_=>
 bif r_ !=0 then(
  some ((z6.mk 0 0 []),r_))
 else(
  (xD (λ_ x=>some (x,false)) m_ l_ states (z6.mk 0 0 [])).bind λai=>
  bif (ai.i.length:Int)==0 then(
   some ((z6.mk 0 0 []),7))
  else(
   gd ((0:Int)<=(ai.i.length:Int)/\((ai.i.length:Int):Int)<=4294967296) <|
   (loop (λs=>kG ai s.1 s.2) ((List.replicate (ai.i.length:Int).toNat ([]:List z7)),0)).bind λt2=>
   z3l ai t2))
def z0d:Option Bool :=
 some true
def Up (s_:Int):R5_ :=
 some (.next (w64 (s_+1)))
def Un (a_:z6)(b_:z6)(s_:Int)(i_:Int):R5_ :=
 (idx a_.i s_).bind λpb=>
 bif decide (i_<(pb.length:Int)) then(
  (idx a_.i s_).bind λp9=>
  (idx p9 i_).bind λak=>
  (idx b_.i s_).bind λqd=>
  (idx qd i_).bind λar=>
  bif !((ak.o==ar.o)&&((ak.r==ar.r)&&true)) then(
   some (.done (.inr false)))
  else(
   some (.next (w64 (i_+1)))))
 else(
  some (.done (.inl ())))
def Uo (a_:z6)(b_:z6)(s_:Int):R5_ :=
 bif decide (s_<(a_.i.length:Int)) then(
  (idx a_.i s_).bind λal=>
  (idx b_.i s_).bind λdp=>
  bif (al.length:Int) !=(dp.length:Int) then(
   some (.done (.inr false)))
  else(
   (loop (λs=>Un a_ b_ s_ s) 0).bind λt4=>
   match t4 with
   |.inl p=>Up s_
   |.inr p=>some (.done (.inr p))))
 else(
  some (.done (.inl ())))
def Y8 (a_:z6)(b_:z6):Option Bool :=
 bif a_.j !=b_.j then(
  some false)
 else(
  bif a_.m !=b_.m then(
   some false)
  else(
   bif (a_.i.length:Int) !=(b_.i.length:Int) then(
    some false)
   else(
    (loop (λs=>Uo a_ b_ s) 0).bind λt2=>
    match t2 with
    |.inl p=>z0d
    |.inr p=>some p)))
def kF (n_:Int):Option TB :=
 gd ((0:Int)<=n_/\(n_:Int)<=4294967296) <|
 some (List.replicate n_.toNat (0:Int))
def Xy (m_:z6)(other:z6)(l_:TA):Option Int :=
 bif m_.j !=other.j then(
  some 5)
 else(
  (kl l_ m_.j).bind λr_=>
  some r_)
def Xx (m_:z6)(other:z6)(k9:Int):R1_ :=
 bif decide (k9<(([m_,other].length:Nat):Int)) then(
  (idx ([m_,other]) k9).bind λl5=>
  (yU l5).bind λai=>
  bif ai !=0 then(
   some (.done (.inr ai)))
  else(
   some (.next (w64 (k9+1)))))
 else(
  some (.done (.inl ())))
def VL (m_:z6)(other:z6)(l_:TA):Option Int :=
 (loop (λs=>Xx m_ other s) 0).bind λt2=>
 match t2 with
 |.inl p=>Xy m_ other l_
 |.inr p=>some p
def Kg:Option (Int×Int×Int) :=
 some ((-1),(-1),0)
def vF (m_:z6)(other:z6)(l_:TA)(fj:Int):Option (LR Int (Unit⊕(Int×Int×Int))) :=
 bif decide (fj<(l_.length:Int)) then(
  (idx l_ fj).bind λcq=>
  (Jg m_ other cq).bind λai=>
  bif ai !=(-1) then(
   some (.done (.inr (fj,ai,0))))
  else(
   some (.next (w64 (fj+1)))))
 else(
  some (.done (.inl ())))
def Wu (m_:z6)(other:z6)(l_:TA):Option (Int×Int×Int) :=
 (VL m_ other l_).bind λr_=>
 bif r_ !=0 then(
  some (0,0,r_))
 else(
  (loop (λs=>vF m_ other l_ s) 0).bind λt2=>
  match t2 with
  |.inl p=>Kg
  |.inr p=>some p)
def Wn:Option Bool :=
 (Xs ([(z7.mk 1 0),(z7.mk 0 1)])).bind λr_=>
 (UC r_ 1).bind λai=>
 (UC r_ 2).bind λam=>
 (UC r_ 5).bind λaz=>
 (ZD r_ [] 1).bind λcp=>
 (ZD r_ [] 2).bind λgh=>
 bif ai.2 !=0 then(
  some false)
 else(
  bif am.2 !=0 then(
   some false)
  else(
   bif az.2 !=3 then(
    some false)
   else(
    bif cp.2 !=0 then(
     some false)
    else(
     bif gh.2 !=0 then(
      some false)
     else(
      bif ai.1 !=2 then(
       some false)
      else(
       bif am.1 !=16 then(
        some false)
       else(
        bif cp.1 !=2 then(
         some false)
        else(
         bif gh.1 !=9 then(
          some false)
         else(
          (ZF r_ [] 2).bind λiz=>
          (kF 1).bind λjk=>
          (ZF r_ ([jk]) 2).bind λkg=>
          (kF 3).bind λkh=>
          (ZF r_ ([kh]) 2).bind λjs=>
          (kF 4).bind λgm=>
          (ZF r_ ([gm]) 2).bind λod=>
          (kF 2).bind λmf=>
          (ZF r_ ([mf]) 2).bind λl4=>
          (Xs ([(z7.mk 0 0)])).bind λk0=>
          (Xs ([(z7.mk 1 0),(z7.mk 1 1)])).bind λj9=>
          bif iz.2 !=0 then(
           some false)
          else(
           bif kg.2 !=0 then(
            some false)
           else(
            bif js.2 !=7 then(
             some false)
            else(
             bif od.2 !=7 then(
              some false)
             else(
              bif l4.2 !=0 then(
               some false)
              else(
               (Y8 iz.1 k0).bind λmv=>
               bif !mv then(
                some false)
               else(
                (Y8 kg.1 k0).bind λmw=>
                bif !mw then(
                 some false)
                else(
                 (Y8 l4.1 j9).bind λrc=>
                 bif !rc then(
                  some false)
                 else(
                  (kF 1).bind λpc=>
                  (kF 3).bind λpd=>
                  (Wu r_ j9 ([pc,pd])).bind λpu=>
                  bif pu.2.2==0 then(
                   bif pu.1==1 then(
                    some (pu.2.1==2))
                   else(
                    some false))
                  else(
                   some false))))))))))))))))))
def YM (l_:TB)(k_:Int):Option Int :=
 bif decide (k_<(l_.length:Int)) then(
  (idx l_ k_).bind λcq=>
  some (w64 (cq)))
 else(
  some 0)
def Ux (x_:yf)(ck:List (List z7)):Option z6 :=
 some (z6.mk (w64 (1+(w64 (Int.tmod x_.j 3)))) (w64 (1+(w64 (Int.tmod x_.m 3)))) ck)
def Uw (s_:Int)(ga:List (List z7)):R0_ :=
 some (.next (ga,w64 (s_+1)))
def Xw (i_:Int)(l8:List (List z7)):R0_ :=
 some (.next (l8,w64 (i_+1)))
def Xu (x_:yf)(s_:Int)(gq:List (List z7))(i_:Int):R0_ :=
 bif decide (i_<(w64 (1+(w64 (Int.tmod x_.j 3))))) then(
  (idx gq s_).bind λpk=>
  (idx pk i_).bind λoh=>
  bif decide (oh.o<0) then(
   (idx gq s_).bind λkm=>
   (YM x_.Edges (w64 ((w64 (s_*(w64 (1+(w64 (Int.tmod x_.j 3))))))+i_))).bind λr_=>
   gd (((w64 (1+(w64 (Int.tmod x_.K 6)))):Int)≠0) <|
   (idx km i_).bind λka=>
   Xw i_ (gq.set s_.toNat (km.set i_.toNat (z7.mk (Int.tmod r_ (w64 (1+(w64 (Int.tmod x_.K 6))))) ka.r))))
  else(
   Xw i_ gq))
 else(
  some (.done gq))
def Xv (x_:yf)(gi:List (List z7))(s_:Int):R0_ :=
 bif decide (s_<(w64 (1+(w64 (Int.tmod x_.K 6))))) then(
  (loop (λs=>Xu x_ s_ s.1 s.2) (gi,0)).bind λt6=>
  Uw s_ t6)
 else(
  some (.done gi))
def Uy (x_:yf)(dv:List (List z7)):Option z6 :=
 (loop (λs=>Xv x_ s.1 s.2) (dv,0)).bind λt4=>
 Ux x_ t4
def Uv (bf:Int)(l9:List (List z7)):R0_ :=
 some (.next (l9,w64 (bf+1)))
def uE (x_:yf)(br:List (List z7))(bf:Int)(k_:Int):R0_ :=
 gd (((w64 (1+(w64 (Int.tmod x_.j 3)))):Int)≠0) <|
 (idx br (w64 (Int.tdiv k_ (w64 (1+(w64 (Int.tmod x_.j 3))))))).bind λkn=>
 gd (((w64 (1+(w64 (Int.tmod x_.j 3)))):Int)≠0) <|
 (idx kn (Int.tmod k_ (w64 (1+(w64 (Int.tmod x_.j 3)))))).bind λkb=>
 Uv bf (br.set (w64 (Int.tdiv k_ (w64 (1+(w64 (Int.tmod x_.j 3)))))).toNat (kn.set (Int.tmod k_ (w64 (1+(w64 (Int.tmod x_.j 3))))).toNat (z7.mk bf kb.r)))
def Vm (x_:yf)(br:List (List z7))(bf:Int)(free:TB):R0_ :=
 (idx free 0).bind λnr=>
 bif decide ((w64 (bf-1))<(x_.Tree.length:Int)) then(
  (idx x_.Tree (w64 (bf-1))).bind λqe=>
  gd (((free.length:Int):Int)≠0) <|
  (idx free (Int.tmod (w64 (qe)) (free.length:Int))).bind λoe=>
  uE x_ br bf oe)
 else(
  uE x_ br bf nr)
def Yv (aq:Int)(nu:TB):z8W :=
 some (.next (nu,w64 (aq+1)))
def Yu (x_:yf)(br:List (List z7))(bf:Int)(jq:TB)(aq:Int):z8W :=
 bif decide (aq<(w64 (bf*(w64 (1+(w64 (Int.tmod x_.j 3))))))) then(
  gd (((w64 (1+(w64 (Int.tmod x_.j 3)))):Int)≠0) <|
  (idx br (w64 (Int.tdiv aq (w64 (1+(w64 (Int.tmod x_.j 3))))))).bind λpe=>
  gd (((w64 (1+(w64 (Int.tmod x_.j 3)))):Int)≠0) <|
  (idx pe (Int.tmod aq (w64 (1+(w64 (Int.tmod x_.j 3)))))).bind λnw=>
  bif decide (nw.o<0) then(
   gd (jq.length+[aq].length<=4294967296) <|
   Yv aq (jq++[aq]))
  else(
   Yv aq jq))
 else(
  some (.done jq))
def Xt (x_:yf)(br:List (List z7))(bf:Int):R0_ :=
 bif decide (bf<(w64 (1+(w64 (Int.tmod x_.K 6))))) then(
  (loop (λs=>Yu x_ br bf s.1 s.2) (([]:TB),0)).bind λt12=>
  Vm x_ br bf t12)
 else(
  some (.done br))
def Uz (x_:yf)(fl:List (List z7)):Option z6 :=
 (loop (λs=>Xt x_ s.1 s.2) (fl,1)).bind λt8=>
 Uy x_ t8
def Vl (bl:Int)(ll:List (List z7)):R0_ :=
 some (.next (ll,w64 (bl+1)))
def Vk (dy:List (List z7))(bl:Int)(row:List z7):R0_ :=
 gd (dy.length+[row].length<=4294967296) <|
 Vl bl (dy++[row])
abbrev zmG:Type:=Option (LR (List z7×Int) (List z7))
def Ys (x_:yf)(bl:Int)(db:List z7)(fw:Int):zmG :=
 bif decide (fw<(w64 (1+(w64 (Int.tmod x_.j 3))))) then(
  (YM x_.Edges (w64 ((w64 (bl*(w64 (1+(w64 (Int.tmod x_.j 3))))))+fw))).bind λai=>
  gd (((w64 (1+(w64 (Int.tmod x_.K 6)))):Int)≠0) <|
  gd (((w64 (1+(w64 (Int.tmod x_.m 3)))):Int)≠0) <|
  gd (db.length+([(z7.mk (-1) (Int.tmod (w64 (Int.tdiv ai (w64 (1+(w64 (Int.tmod x_.K 6)))))) (w64 (1+(w64 (Int.tmod x_.m 3))))))]:List z7).length<=4294967296) <|
  some (.next ((db++([(z7.mk (-1) (Int.tmod (w64 (Int.tdiv ai (w64 (1+(w64 (Int.tmod x_.K 6)))))) (w64 (1+(w64 (Int.tmod x_.m 3))))))]:List z7)),w64 (fw+1))))
 else(
  some (.done db))
def Yt (x_:yf)(dy:List (List z7))(bl:Int):R0_ :=
 bif decide (bl<(w64 (1+(w64 (Int.tmod x_.K 6))))) then(
  (loop (λs=>Ys x_ bl s.1 s.2) (([]:List z7),0)).bind λt17=>
  Vk dy bl t17)
 else(
  some (.done dy))
def JO (x_:yf):Option z6 :=
 gd ((6:Int)≠0) <|
 gd ((3:Int)≠0) <|
 gd ((3:Int)≠0) <|
 (loop (λs=>Yt x_ s.1 s.2) (([]:List (List z7)),0)).bind λsi=>
 Uz x_ si
def Kc:Option Int :=
 some 0
def jK (i_:Int)(rm:Int)(lk:Bool)(mh:Bool)(rn:Bool)(ro:Bool)(o7:Bool):R1_ :=
 some (.next (w64 (i_+1)))
def Yn (m_:z6)(bi:List (List Bool))(s_:Int)(t_:Int)(i_:Int):R1_ :=
 bif decide (i_<m_.j) then(
  (idx m_.i s_).bind λal=>
  (idx al i_).bind λak=>
  (idx m_.i t_).bind λdp=>
  (idx dp i_).bind λar=>
  bif ak.r !=ar.r then(
   some (.done (.inr 1)))
  else(
   bif decide (ak.o>=0) then(
    bif decide (ar.o>=0) then(
     (idx bi ak.o).bind λjb=>
     (idx jb ar.o).bind λgb=>
     bif gb then(
      some (.done (.inr 1)))
     else(
      jK i_ ak.o (decide (ak.o>=0)) (decide (ak.o>=0)) (decide (ar.o>=0)) (decide (ar.o>=0)) gb))
    else(
     jK i_ ak.o (decide (ak.o>=0)) (decide (ak.o>=0)) (decide (ar.o>=0)) (decide (ar.o>=0)) false))
   else(
    jK i_ ak.o (decide (ak.o>=0)) (decide (ak.o>=0)) false false false)))
 else(
  some (.done (.inl ())))
def Ui (m_:z6)(bi:List (List Bool))(s_:Int)(t_:Int):Option Int :=
 (loop (λs=>Yn m_ bi s_ t_ s) 0).bind λt2=>
 match t2 with
 |.inl p=>Kc
 |.inr p=>some p
abbrev zp3:Type:=Option (List (List Bool))
def Wc (nc:List (List Bool)):zp3 :=
 some nc
abbrev zjQ:Type:=Option (LR (List (List Bool)×Int) (List (List Bool)))
def Wb (round:Int)(ma:List (List Bool)):zjQ :=
 some (.next (ma,w64 (round+1)))
def Wa (round:Int)(next:List (List Bool)):zjQ :=
 Wb round next
def W9 (s_:Int)(fm:List (List Bool)):zjQ :=
 some (.next (fm,w64 (s_+1)))
def qG (m_:z6)(co:List (List Bool))(s_:Int)(cm:List (List Bool))(t_:Int):zjQ :=
 bif decide (t_<(m_.i.length:Int)) then(
  (idx cm s_).bind λjd=>
  (idx co s_).bind λjb=>
  (idx jb t_).bind λgb=>
  bif gb then(
   (idx jd t_).bind λqp=>
   some (.next ((cm.set s_.toNat (jd.set t_.toNat true)),w64 (t_+1))))
  else(
   (Ui m_ co s_ t_).bind λr_=>
   (idx jd t_).bind λqg=>
   some (.next ((cm.set s_.toNat (jd.set t_.toNat (r_==1))),w64 (t_+1)))))
 else(
  some (.done cm))
def qH (m_:z6)(co:List (List Bool))(cr:List (List Bool))(s_:Int):zjQ :=
 bif decide (s_<(m_.i.length:Int)) then(
  gd ((0:Int)<=(m_.i.length:Int)/\((m_.i.length:Int):Int)<=4294967296) <|
  gd (cr.length+[(List.replicate (m_.i.length:Int).toNat false)].length<=4294967296) <|
  (loop (λs=>qG m_ co s_ s.1 s.2) ((cr++[(List.replicate (m_.i.length:Int).toNat false)]),0)).bind λt8=>
  W9 s_ t8)
 else(
  some (.done cr))
def qI (m_:z6)(k_:Int)(co:List (List Bool))(round:Int):zjQ :=
 bif decide (round<k_) then(
  (loop (λs=>qH m_ co s.1 s.2) (([]:List (List Bool)),0)).bind λt6=>
  Wa round t6)
 else(
  some (.done co))
def We (m_:z6)(k_:Int)(bi:List (List Bool)):zp3 :=
 (loop (λs=>qI m_ k_ s.1 s.2) (bi,0)).bind λt3=>
 Wc t3
def qE (m_:z6)(jh:List (List Bool))(bf:Int):zjQ :=
 bif decide (bf<(m_.i.length:Int)) then(
  gd ((0:Int)<=(m_.i.length:Int)/\((m_.i.length:Int):Int)<=4294967296) <|
  gd (jh.length+[(List.replicate (m_.i.length:Int).toNat false)].length<=4294967296) <|
  some (.next ((jh++[(List.replicate (m_.i.length:Int).toNat false)]),w64 (bf+1))))
 else(
  some (.done jh))
def kO (m_:z6)(k_:Int):zp3 :=
 (loop (λs=>qE m_ s.1 s.2) (([]:List (List Bool)),0)).bind λt9=>
 We m_ k_ t9
def WV (out:TB):Option TB :=
 some out
abbrev znd:Type:=Option (LR (TB×Int×Int) TB)
def Zr (s_:Int)(ay:TB)(cb:Int):znd :=
 some (.next (ay,cb,w64 (s_+1)))
def vp (aj:TB)(s_:Int)(bz:Int)(j7:Int):znd :=
 gd (aj.length+[j7].length<=4294967296) <|
 Zr s_ (aj++[j7]) bz
def Zq (aj:TB)(n_:Int)(s_:Int)(b_:Int):znd :=
 bif decide (b_<0) then(
  vp aj s_ (w64 (n_+1)) n_)
 else(
  vp aj s_ n_ b_)
def uM (t_:Int)(qj:Int):R6_ :=
 some (.next (qj,w64 (t_+1)))
def Zp (bi:List (List Bool))(aj:TB)(s_:Int)(oi:Int)(t_:Int):R6_ :=
 bif decide (t_<s_) then(
  (idx bi s_).bind λjb=>
  (idx jb t_).bind λgb=>
  bif !gb then(
   (idx aj t_).bind λfx=>
   uM t_ fx)
  else(
   uM t_ oi))
 else(
  some (.done oi))
def WU (bi:List (List Bool))(aj:TB)(n_:Int)(s_:Int):znd :=
 bif decide (s_<(bi.length:Int)) then(
  (loop (λs=>Zp bi aj s_ s.1 s.2) ((-1),0)).bind λt6=>
  Zq aj n_ s_ t6)
 else(
  some (.done aj))
def Zs (bi:List (List Bool)):Option TB :=
 (loop (λs=>WU bi s.1 s.2.1 s.2.2) (([]:TB),0,0)).bind λt2=>
 WV t2
def QX (m_:z6)(k_:Int):Option TB :=
 (kO m_ k_).bind λr_=>
 (Zs r_).bind λai=>
 some ai
def Zt (m_:z6):Option TB :=
 (QX m_ (m_.i.length:Int)).bind λr_=>
 some r_
def JC (m_:z6)(s_:Int)(i_:Int):Option z7 :=
 bif decide (s_<0) then(
  some (z7.mk (-1) (-1)))
 else(
  (idx m_.i s_).bind λal=>
  (idx al i_).bind λak=>
  some ak)
def Zv (mg:z6->Int->TB->Option Int)(m_:z6)(s_:Int)(w_:TB):Option Int :=
 bif (w_.length:Int)==0 then(
  some s_)
 else(
  (idx w_ 0).bind λge=>
  (JC m_ s_ ge).bind λr_=>
  gd ((0:Int)<=1/\(1:Int)<=(w_.length:Int)/\((w_.length:Int):Int)<=(w_.length:Int)) <|
  (mg m_ r_.o (w_.drop (1:Int).toNat)).bind λai=>
  some ai)
def Zu (fu:Nat):z6->Int->TB->Option Int:=Nat.rec (motive:=λ_=>z6->Int->TB->Option Int) (λ_ _ _=>none) (λ_ ih=>Zv ih) fu
def Uq (m_:z6)(s_:Int)(w_:TB):Option Int:=Zu (w_.length+1) m_ s_ w_
def Xl (out:TB):Option TB :=
 gd (out.length+([0]:TB).length<=4294967296) <|
 some (out++([0]:TB))
def Uj (inputs:Int)(aj:TB)(k_:Int):Option (LR (TB×Int) (TB⊕TB)) :=
 bif decide (k_>=0) then(
  (idx aj k_).bind λfx=>
  bif decide ((w64 (fx+1))<inputs) then(
   (idx aj k_).bind λlc=>
   (idx aj k_).bind λrp=>
   some (.done (.inr (aj.set k_.toNat (w64 (lc+1))))))
  else(
   (idx aj k_).bind λrq=>
   some (.next ((aj.set k_.toNat 0),w64 (k_-1)))))
 else(
  some (.done (.inl aj)))
def VB (w_:TB)(inputs:Int):Option TB :=
 gd (([]:TB).length+w_.length<=4294967296) <|
 (loop (λs=>Uj inputs s.1 s.2) (w_,w64 ((w_.length:Int)-1))).bind λt2=>
 match t2 with
 |.inl p=>Xl p
 |.inr p=>some p
def Vc (l_:TA)(is:List Bool):zmI :=
 some (l_,is)
abbrev zq3:Type:=Option (LR (TA×List Bool×TB) ((TA×List Bool)))
def uC (m_:z6)(w_:TB)(la:TA)(qm:List Bool):zq3 :=
 (VB w_ m_.j).bind λr_=>
 some (.next (la,qm,r_))
def Kd (m_:z6)(from_:Int)(fq:TA)(gp:List Bool)(w_:TB):zq3 :=
 bif decide ((w_.length:Int)<(m_.i.length:Int)) then(
  (Uq m_ from_ w_).bind λai=>
  bif decide (ai>=0) then(
   (idx gp ai).bind λpq=>
   bif !pq then(
    (idx gp ai).bind λsb=>
    (idx fq ai).bind λcq=>
    uC m_ w_ (fq.set ai.toNat w_) (gp.set ai.toNat true))
   else(
    uC m_ w_ fq gp))
  else(
   uC m_ w_ fq gp))
 else(
  some (.done (fq,gp)))
def Ul (m_:z6)(from_:Int):zmI :=
 gd ((0:Int)<=(m_.i.length:Int)/\((m_.i.length:Int):Int)<=4294967296) <|
 gd ((0:Int)<=(m_.i.length:Int)/\((m_.i.length:Int):Int)<=4294967296) <|
 (loop (λs=>Kd m_ from_ s.1 s.2.1 s.2.2) ((List.replicate (m_.i.length:Int).toNat ([]:TB)),(List.replicate (m_.i.length:Int).toNat false),([]:TB))).bind λt2=>
 Vc t2.1 t2.2
def WW (m_:z6):zmI :=
 (Ul m_ 0).bind λr_=>
 some (r_.1,r_.2)
def z0c:Option Int :=
 some 0
def Uk (a_:TB)(b_:TB)(i_:Int):R1_ :=
 bif decide (i_<(a_.length:Int)) then(
  (idx a_ i_).bind λie=>
  (idx b_ i_).bind λgf=>
  bif ie !=gf then(
   (idx a_ i_).bind λny=>
   (idx b_ i_).bind λnz=>
   bif decide (ny<nz) then(
    some (.done (.inr 1)))
   else(
    some (.done (.inr 0))))
  else(
   some (.next (w64 (i_+1)))))
 else(
  some (.done (.inl ())))
def JB (a_:TB)(b_:TB):Option Int :=
 bif (a_.length:Int) !=(b_.length:Int) then(
  bif decide ((a_.length:Int)<(b_.length:Int)) then(
   some 1)
  else(
   some 0))
 else(
  (loop (λs=>Uk a_ b_ s) 0).bind λt2=>
  match t2 with
  |.inl p=>z0c
  |.inr p=>some p)
def Vd (out:TB):Option TB :=
 some out
def uD (s_:Int)(ay:TB):z8W :=
 some (.next (ay,w64 (s_+1)))
def Yo (aj:TB)(s_:Int)(k_:Int):z8W :=
 gd ((0:Int)<=0/\(0:Int)<=k_/\(k_:Int)<=(aj.length:Int)) <|
 gd (([]:TB).length+((aj.drop 0).take (k_.toNat-0)).length<=4294967296) <|
 gd (((aj.drop 0).take (k_.toNat-0)).length+[s_].length<=4294967296) <|
 gd ((0:Int)<=k_/\(k_:Int)<=(aj.length:Int)/\((aj.length:Int):Int)<=(aj.length:Int)) <|
 gd ((((aj.drop 0).take (k_.toNat-0))++[s_]).length+(aj.drop k_.toNat).length<=4294967296) <|
 uD s_ ((((aj.drop 0).take (k_.toNat-0))++[s_])++(aj.drop k_.toNat))
def jL (r_:TA×List Bool)(aj:TB)(s_:Int)(aq:Int):Option (LR Int Int) :=
 bif decide (aq<(aj.length:Int)) then(
  (idx aj aq).bind λfx=>
  (idx r_.1 fx).bind λqq=>
  (idx r_.1 s_).bind λqr=>
  (JB qq qr).bind λai=>
  bif ai==1 then(
   some (.next (w64 (aq+1))))
  else(
   some (.done aq)))
 else(
  some (.done aq))
def jM (r_:TA×List Bool)(aj:TB)(s_:Int):z8W :=
 bif decide (s_<(r_.1.length:Int)) then(
  (idx r_.2 s_).bind λu_=>
  bif !u_ then(
   uD s_ aj)
  else(
   (loop (λs=>jL r_ aj s_ s) 0).bind λt5=>
   Yo aj s_ t5))
 else(
  some (.done aj))
def Um (m_:z6):Option TB :=
 (WW m_).bind λr_=>
 (loop (λs=>jM r_ s.1 s.2) (([]:TB),0)).bind λt2=>
 Vd t2
def W8 (out:TB):Option TB :=
 some out
def qD (k_:Int)(ay:TB):z8W :=
 some (.next (ay,w64 (k_+1)))
def W7 (ai:TB)(aj:TB)(k_:Int)(there:Int):z8W :=
 bif there==0 then(
  (idx ai k_).bind λdx=>
  gd (aj.length+[dx].length<=4294967296) <|
  qD k_ (aj++[dx]))
 else(
  qD k_ aj)
def Zo (n_:Int)(my:Int):R6_ :=
 some (.next (my,w64 (n_+1)))
def W6 (r_:TB)(ai:TB)(k_:Int)(ft:Int)(n_:Int):R6_ :=
 bif decide (n_<k_) then(
  (idx ai n_).bind λjr=>
  (idx r_ jr).bind λn7=>
  (idx ai k_).bind λn8=>
  (idx r_ n8).bind λqt=>
  bif n7==qt then(
   Zo n_ 1)
  else(
   Zo n_ ft))
 else(
  some (.done ft))
def QV (r_:TB)(ai:TB)(aj:TB)(k_:Int):z8W :=
 bif decide (k_<(ai.length:Int)) then(
  (loop (λs=>W6 r_ ai k_ s.1 s.2) (0,0)).bind λt5=>
  W7 ai aj k_ t5)
 else(
  some (.done aj))
def kN (m_:z6):Option TB :=
 (Zt m_).bind λr_=>
 (Um m_).bind λai=>
 (loop (λs=>QV r_ ai s.1 s.2) (([]:TB),0)).bind λt2=>
 W8 t2
def Xa (out:List Bool):Option (List Bool) :=
 some out
abbrev zk9:Type:=Option (LR (List Bool×Int) (List Bool))
def X9 (round:Int)(ay:List Bool):zk9 :=
 some (.next (ay,w64 (round+1)))
def X8 (s_:Int)(im:List Bool):zk9 :=
 some (.next (im,w64 (s_+1)))
def uz (i_:Int)(pf:List Bool):zk9 :=
 some (.next (pf,w64 (i_+1)))
def X6 (m_:z6)(s_:Int)(jt:List Bool)(i_:Int):zk9 :=
 bif decide (i_<m_.j) then(
  (idx m_.i s_).bind λal=>
  (idx al i_).bind λak=>
  (idx jt s_).bind λfx=>
  bif fx then(
   bif decide (ak.o>=0) then(
    (idx jt ak.o).bind λlc=>
    uz i_ (jt.set ak.o.toNat true))
   else(
    uz i_ jt))
  else(
   uz i_ jt))
 else(
  some (.done jt))
def X7 (m_:z6)(cu:List Bool)(s_:Int):zk9 :=
 bif decide (s_<(m_.i.length:Int)) then(
  (loop (λs=>X6 m_ s_ s.1 s.2) (cu,0)).bind λt6=>
  X8 s_ t6)
 else(
  some (.done cu))
def UR (m_:z6)(aj:List Bool)(round:Int):zk9 :=
 bif decide (round<(m_.i.length:Int)) then(
  (loop (λs=>X7 m_ s.1 s.2) (aj,0)).bind λt4=>
  X9 round t4)
 else(
  some (.done aj))
def Xm (m_:z6)(from_:Int):Option (List Bool) :=
 gd ((0:Int)<=(m_.i.length:Int)/\((m_.i.length:Int):Int)<=4294967296) <|
 (idx (List.replicate (m_.i.length:Int).toNat false) from_).bind λl5=>
 (loop (λs=>UR m_ s.1 s.2) (((List.replicate (m_.i.length:Int).toNat false).set from_.toNat true),0)).bind λt2=>
 Xa t2
def QU (out:TB):Option TB :=
 some out
def QT (s_:Int)(ay:TB):z8W :=
 some (.next (ay,w64 (s_+1)))
def QS (aj:TB)(s_:Int)(k_:Int):z8W :=
 gd (aj.length+[k_].length<=4294967296) <|
 QT s_ (aj++[k_])
def YK (n_:Int)(jw:Int):R6_ :=
 some (.next (jw,w64 (n_+1)))
def QR (r_:TB)(ai:TB)(am:List Bool)(s_:Int)(aq:Int)(n_:Int):R6_ :=
 bif decide (n_<(ai.length:Int)) then(
  (idx am s_).bind λdx=>
  bif dx then(
   (idx ai n_).bind λjr=>
   (idx r_ jr).bind λn7=>
   (idx r_ s_).bind λn8=>
   bif n7==n8 then(
    YK n_ n_)
   else(
    YK n_ aq))
  else(
   YK n_ aq))
 else(
  some (.done aq))
def z1A (r_:TB)(ai:TB)(am:List Bool)(aj:TB)(s_:Int):z8W :=
 bif decide (s_<(r_.length:Int)) then(
  (loop (λs=>QR r_ ai am s_ s.1 s.2) ((-1),0)).bind λt5=>
  QS aj s_ t5)
 else(
  some (.done aj))
def z0b (m_:z6):Option TB :=
 (Zt m_).bind λr_=>
 (kN m_).bind λai=>
 (Xm m_ 0).bind λam=>
 (loop (λs=>z1A r_ ai am s.1 s.2) (([]:TB),0)).bind λt2=>
 QU t2
def X5 (m_:z6)(gu:List (List z7)):Option z6 :=
 some (z6.mk m_.j m_.m gu)
def X4 (k_:Int)(ky:List (List z7)):R0_ :=
 some (.next (ky,w64 (k_+1)))
def X3 (bj:List (List z7))(k_:Int)(row:List z7):R0_ :=
 gd (bj.length+[row].length<=4294967296) <|
 X4 k_ (bj++[row])
def uw (db:List z7)(i_:Int)(ak:z7)(gj:Int):zmG :=
 gd (db.length+[(z7.mk gj ak.r)].length<=4294967296) <|
 some (.next ((db++[(z7.mk gj ak.r)]),w64 (i_+1)))
def X1 (m_:z6)(r_:TB)(ai:TB)(k_:Int)(db:List z7)(i_:Int):zmG :=
 bif decide (i_<m_.j) then(
  (idx r_ k_).bind λdx=>
  (idx m_.i dx).bind λal=>
  (idx al i_).bind λak=>
  bif decide (ak.o>=0) then(
   (idx ai ak.o).bind λjr=>
   uw db i_ ak jr)
  else(
   uw db i_ ak ak.o))
 else(
  some (.done db))
def X2 (m_:z6)(r_:TB)(ai:TB)(bj:List (List z7))(k_:Int):R0_ :=
 bif decide (k_<(r_.length:Int)) then(
  (loop (λs=>X1 m_ r_ ai k_ s.1 s.2) (([]:List z7),0)).bind λt5=>
  X3 bj k_ t5)
 else(
  some (.done bj))
def Xk (m_:z6):Option z6 :=
 (kN m_).bind λr_=>
 (z0b m_).bind λai=>
 (loop (λs=>X2 m_ r_ ai s.1 s.2) (([]:List (List z7)),0)).bind λt2=>
 X5 m_ t2
def JN (x_:ZL):Option z6 :=
 gd ((5:Int)≠0) <|
 (JO (yf.mk (Int.tmod x_.C.K 5) x_.C.j x_.C.m x_.C.Tree x_.C.Edges)).bind λr_=>
 (Xk r_).bind λai=>
 some ai
def QM (n_:Int):Option Int :=
 some n_
def wO (m_:z6)(states:Int)(cb:Int)(i_:Int):R6_ :=
 bif decide (i_<(w64 (states*m_.j))) then(
  some (.next ((mn (w64 ((w64 (cb*states))*m_.m)) 65537),w64 (i_+1))))
 else(
  some (.done cb))
def WR (m_:z6)(states:Int):Option Int :=
 bif decide (states>20) then(
  some 65537)
 else(
  (loop (λs=>wO m_ states s.1 s.2) (1,0)).bind λt2=>
  QM t2)
def Wm (s_:Int):Option Int :=
 some s_
def ZA (m_:z6)(bf:Int):Option (LR Int Int) :=
 bif decide (bf>1) then(
  (WR m_ bf).bind λr_=>
  bif decide (r_>5000) then(
   some (.next (w64 (bf-1))))
  else(
   some (.done bf)))
 else(
  some (.done bf))
def V0 (m_:z6)(n_:Int):Option Int :=
 gd ((3:Int)≠0) <|
 (loop (λs=>ZA m_ s) (w64 (1+(w64 (Int.tmod n_ 3))))).bind λt2=>
 Wm t2
def KZ (m_:z6)(ZO:Int)(fc:Int):z3A :=
 (wB 1 m_ ZO fc).bind λr_=>
 some (r_.1,r_.2)
def Jx (m_:z6)(ZO:Int)(fc:Int):z3A :=
 (wB 2 m_ ZO fc).bind λr_=>
 some (r_.1,r_.2)
def v6 (x_:xQ):Option Int :=
 gd ((3:Int)≠0) <|
 some (w64 (1+(w64 (Int.tmod x_.j 3))))
def Kf (out:TA):z3H :=
 some out
def Vj (i_:Int)(ay:TA):zdE :=
 some (.next (ay,w64 (i_+1)))
def Vi (aj:TA)(i_:Int)(w_:TB):zdE :=
 gd (aj.length+[w_].length<=4294967296) <|
 Vj i_ (aj++[w_])
def Yr (x_:xQ)(i_:Int)(eg:TB)(k_:Int):z8W :=
 (idx x_.O i_).bind λpg=>
 bif decide (k_<(pg.length:Int)) then(
  bif decide (k_<12) then(
   (idx x_.O i_).bind λpl=>
   (idx pl k_).bind λju=>
   (v6 x_).bind λr_=>
   gd ((r_:Int)≠0) <|
   gd (eg.length+[Int.tmod (w64 (ju)) r_].length<=4294967296) <|
   some (.next ((eg++[Int.tmod (w64 (ju)) r_]),w64 (k_+1))))
  else(
   some (.done eg)))
 else(
  some (.done eg))
def Vh (x_:xQ)(aj:TA)(i_:Int):zdE :=
 bif decide (i_<(x_.O.length:Int)) then(
  bif decide (i_<40) then(
   (loop (λs=>Yr x_ i_ s.1 s.2) (([]:TB),0)).bind λt5=>
   Vi aj i_ t5)
  else(
   some (.done aj)))
 else(
  some (.done aj))
def Uu (x_:xQ):z3H :=
 (loop (λs=>Vh x_ s.1 s.2) (([]:TA),0)).bind λt2=>
 Kf t2
def UQ:Option Int :=
 some 0
def YZ (a_:TB)(b_:TB)(i_:Int):R1_ :=
 bif decide (i_<(a_.length:Int)) then(
  (idx a_ i_).bind λie=>
  (idx b_ i_).bind λgf=>
  bif decide (ie<gf) then(
   some (.done (.inr (-1))))
  else(
   (idx a_ i_).bind λny=>
   (idx b_ i_).bind λnz=>
   bif decide (ny>nz) then(
    some (.done (.inr 1)))
   else(
    some (.next (w64 (i_+1))))))
 else(
  some (.done (.inl ())))
def Zj (a_:TB)(b_:TB):Option Int :=
 bif (a_.length:Int) !=(b_.length:Int) then(
  bif decide ((a_.length:Int)<(b_.length:Int)) then(
   some (-1))
  else(
   some 1))
 else(
  (loop (λs=>YZ a_ b_ s) 0).bind λt2=>
  match t2 with
  |.inl p=>UQ
  |.inr p=>some p)
def QP (w_:TB)(gw:Int)(fq:TA):z3H :=
 gd (([]:TB).length+w_.length<=4294967296) <|
 (idx fq gw).bind λcq=>
 some (fq.set gw.toNat w_)
def QO (gw:Int)(la:TA)(i_:Int):zdE :=
 bif decide (i_>gw) then(
  (idx la (w64 (i_-1))).bind λiu=>
  (idx la i_).bind λsc=>
  some (.next ((la.set i_.toNat iu),w64 (i_-1))))
 else(
  some (.done la))
def YJ (l_:TA)(w_:TB)(gw:Int):z3H :=
 gd (l_.length+([[]]:TA).length<=4294967296) <|
 (loop (λs=>QO gw s.1 s.2) ((l_++([[]]:TA)),w64 ((((l_++([[]]:TA)).length:Nat):Int)-1))).bind λt4=>
 QP w_ gw t4
def QQ (l_:TA)(w_:TB)(gw:Int):z3H :=
 bif decide (gw<(l_.length:Int)) then(
  (idx l_ gw).bind λot=>
  (Zj ot w_).bind λr_=>
  bif r_==0 then(
   some l_)
  else(
   YJ l_ w_ gw))
 else(
  YJ l_ w_ gw)
def QN (l_:TA)(w_:TB)(ko:Int)(lm:Int):R6_ :=
 bif decide (ko<lm) then(
  gd ((2:Int)≠0) <|
  (idx l_ (w64 (Int.tdiv (w64 (ko+lm)) 2))).bind λou=>
  (Zj ou w_).bind λai=>
  bif decide (ai<0) then(
   some (.next (w64 ((w64 (Int.tdiv (w64 (ko+lm)) 2))+1),lm)))
  else(
   some (.next (ko,w64 (Int.tdiv (w64 (ko+lm)) 2)))))
 else(
  some (.done ko))
def z09 (l_:TA)(w_:TB):z3H :=
 (loop (λs=>QN l_ w_ s.1 s.2) (0,(l_.length:Int))).bind λt5=>
 QQ l_ w_ t5
def z0a (out:TA):z3H :=
 some out
def qQ (l_:TA)(aj:TA)(i_:Int):zdE :=
 bif decide (i_<(l_.length:Int)) then(
  (idx l_ i_).bind λcq=>
  (z09 aj cq).bind λr_=>
  some (.next (r_,w64 (i_+1))))
 else(
  some (.done aj))
def VA (l_:TA):z3H :=
 (loop (λs=>qQ l_ s.1 s.2) (([]:TA),0)).bind λt2=>
 z0a t2
def JM (x_:xQ):z3H :=
 (Uu x_).bind λr_=>
 (VA r_).bind λai=>
 some ai
def Wl (out:TA):z3H :=
 (VA out).bind λr_=>
 some r_
def Wk (i_:Int)(ay:TA):zdE :=
 some (.next (ay,w64 (i_+1)))
def Wj (aj:TA)(i_:Int)(w_:TB):zdE :=
 gd (aj.length+[w_].length<=4294967296) <|
 Wk i_ (aj++[w_])
def Zy (l_:TA)(inputs:Int)(i_:Int)(eg:TB)(k_:Int):z8W :=
 (idx l_ i_).bind λcq=>
 bif decide (k_<(cq.length:Int)) then(
  (idx l_ i_).bind λiu=>
  (idx iu k_).bind λln=>
  gd ((inputs:Int)≠0) <|
  gd (eg.length+[Int.tmod ln inputs].length<=4294967296) <|
  some (.next ((eg++[Int.tmod ln inputs]),w64 (k_+1))))
 else(
  some (.done eg))
def Zz (l_:TA)(inputs:Int)(aj:TA)(i_:Int):zdE :=
 bif decide (i_<(l_.length:Int)) then(
  (loop (λs=>Zy l_ inputs i_ s.1 s.2) (([]:TB),0)).bind λt5=>
  Wj aj i_ t5)
 else(
  some (.done aj))
def WZ (l_:TA)(inputs:Int):z3H :=
 (loop (λs=>Zz l_ inputs s.1 s.2) (([]:TA),0)).bind λt2=>
 Wl t2
def W4 (a_:z6)(b_:z6)(dv:List (List z7)):Option z6 :=
 some (z6.mk a_.j (mx a_.m b_.m) dv)
def W3 (s_:Int)(gi:List (List z7)):R0_ :=
 some (.next (gi,w64 (s_+1)))
def W2 (ck:List (List z7))(s_:Int)(row:List z7):R0_ :=
 gd (ck.length+[row].length<=4294967296) <|
 W3 s_ (ck++[row])
def Zn (db:List z7)(i_:Int)(ak:z7)(gj:Int):zmG :=
 gd (db.length+[(z7.mk gj ak.r)].length<=4294967296) <|
 some (.next ((db++[(z7.mk gj ak.r)]),w64 (i_+1)))
def qB (a_:z6)(b_:z6)(s_:Int)(db:List z7)(i_:Int):zmG :=
 bif decide (i_<b_.j) then(
  (idx b_.i s_).bind λal=>
  (idx al i_).bind λak=>
  bif decide (ak.o>=0) then(
   Zn db i_ ak (w64 (ak.o+(a_.i.length:Int))))
  else(
   Zn db i_ ak ak.o))
 else(
  some (.done db))
def qC (a_:z6)(b_:z6)(ck:List (List z7))(s_:Int):R0_ :=
 bif decide (s_<(b_.i.length:Int)) then(
  (loop (λs=>qB a_ b_ s_ s.1 s.2) (([]:List z7),0)).bind λt6=>
  W2 ck s_ t6)
 else(
  some (.done ck))
def W5 (a_:z6)(b_:z6)(fl:List (List z7)):Option z6 :=
 (loop (λs=>qC a_ b_ s.1 s.2) (fl,0)).bind λt3=>
 W4 a_ b_ t3
def qA (a_:z6)(ga:List (List z7))(bf:Int):R0_ :=
 bif decide (bf<(a_.i.length:Int)) then(
  (idx a_.i bf).bind λdp=>
  gd (ga.length+[dp].length<=4294967296) <|
  some (.next ((ga++[dp]),w64 (bf+1))))
 else(
  some (.done ga))
def WT (a_:z6)(b_:z6):Option z6 :=
 (loop (λs=>qA a_ s.1 s.2) (([]:List (List z7)),0)).bind λt8=>
 W5 a_ b_ t8
abbrev zp2:Type:=Option (TB×Bool)
def Zl (w_:TB):zp2 :=
 some (w_,true)
abbrev zq2:Type:=Option (LR Int ((Int×Int×Int×TB)))
def vQ (i_:Int)(rr:Int)(rt:Bool)(ji:Bool)(ru:Bool)(rz:Bool)(r7:Bool):zq2 :=
 some (.next (w64 (i_+1)))
def qz (r_:z6)(s_:Int)(t_:Int)(cb:Int)(eg:TB)(ai:List (List Bool))(i_:Int):zq2 :=
 bif decide (i_<r_.j) then(
  (idx r_.i s_).bind λal=>
  (idx al i_).bind λak=>
  (idx r_.i t_).bind λdp=>
  (idx dp i_).bind λar=>
  bif ak.r !=ar.r then(
   gd (eg.length+[i_].length<=4294967296) <|
   some (.done (ak.o,ar.o,w64 (cb-1),(eg++[i_]))))
  else(
   bif decide (ak.o>=0) then(
    bif decide (ar.o>=0) then(
     (idx ai ak.o).bind λdx=>
     (idx dx ar.o).bind λn9=>
     bif n9 then(
      gd (eg.length+[i_].length<=4294967296) <|
      some (.done (ak.o,ar.o,w64 (cb-1),(eg++[i_]))))
     else(
      vQ i_ ak.o (decide (ak.o>=0)) (decide (ak.o>=0)) (decide (ar.o>=0)) (decide (ar.o>=0)) n9))
    else(
     vQ i_ ak.o (decide (ak.o>=0)) (decide (ak.o>=0)) (decide (ar.o>=0)) (decide (ar.o>=0)) false))
   else(
    vQ i_ ak.o (decide (ak.o>=0)) (decide (ak.o>=0)) false false false)))
 else(
  some (.done (s_,t_,w64 (cb-1),eg)))
def Zk (r_:z6)(s_:Int)(t_:Int)(cb:Int)(eg:TB):Option (LR (Int×Int×Int×TB) TB) :=
 bif decide (cb>0) then(
  (kO r_ (w64 (cb-1))).bind λai=>
  (loop (λs=>qz r_ s_ t_ cb eg ai s) 0).bind λt4=>
  some (.next t4))
 else(
  some (.done eg))
def Zm (a_:z6)(r_:z6)(n_:Int):zp2 :=
 bif n_==(r_.i.length:Int) then(
  some (([]:TB),false))
 else(
  (loop (λs=>Zk r_ s.1 s.2.1 s.2.2.1 s.2.2.2) (0,(a_.i.length:Int),n_,([]:TB))).bind λt3=>
  Zl t3)
def qh (a_:z6)(r_:z6)(bz:Int):Option (LR Int Int) :=
 bif decide (bz<(r_.i.length:Int)) then(
  (kO r_ bz).bind λam=>
  (idx am 0).bind λjr=>
  (idx jr (a_.i.length:Int)).bind λpm=>
  bif !pm then(
   some (.next (w64 (bz+1))))
  else(
   some (.done bz)))
 else(
  some (.done bz))
def kM (a_:z6)(b_:z6):zp2 :=
 (WT a_ b_).bind λr_=>
 (loop (λs=>qh a_ r_ s) 0).bind λt6=>
 Zm a_ r_ t6
def XT (a_:TA)(b_:TA)(inputs:Int):z3A :=
 (XJ inputs ([a_,b_])).bind λr_=>
 bif r_ !=0 then(
  some (([]:TA),r_))
 else(
  (yp a_).bind λai=>
  gd (ai.length+b_.length<=4294967296) <|
  (xh (ai++b_)).bind λam=>
  some (am.1,am.2))
def xC (y_:xQ)(z_:zdS Int)(r_:z6)(ai:Int):Option Bool :=
 (JM y_).bind λam=>
 (WZ am r_.j).bind λaz=>
 gd ((8:Int)≠0) <|
 gd ((0:Int)<=(mn (az.length:Int) (w64 (Int.tmod z_.e2 8)))/\((mn (az.length:Int) (w64 (Int.tmod z_.e2 8))):Int)<=(az.length:Int)) <|
 (ZF r_ (az.take (mn (az.length:Int) (w64 (Int.tmod z_.e2 8))).toNat) ai).bind λcp=>
 (ZD r_ (az.take (mn (az.length:Int) (w64 (Int.tmod z_.e2 8))).toNat) ai).bind λgh=>
 bif gh.2 !=0 then(
  some false)
 else(
  bif !((cp.2==0)==(decide (gh.1>0))) then(
   some false)
  else(
   bif gh.1==0 then(
    bif cp.2==7 then(
     (Wn).bind λiz=>
     some iz)
    else(
     some false))
   else(
    (Wu r_ cp.1 (az.take (mn (az.length:Int) (w64 (Int.tmod z_.e2 8))).toNat)).bind λjk=>
    (kM r_ cp.1).bind λkg=>
    (XT (az.take (mn (az.length:Int) (w64 (Int.tmod z_.e2 8))).toNat) ([kg.1]) r_.j).bind λkh=>
    (ZD r_ kh.1 ai).bind λjs=>
    (ZF r_ kh.1 ai).bind λgm=>
    bif jk.2.2==0 then(
     bif jk.1==(-1) then(
      bif kg.2 then(
       bif kh.2==0 then(
        bif js.2==0 then(
         bif decide (js.1<gh.1) then(
          bif gm.2==7 then(
           (Wn).bind λod=>
           some od)
          else(
           (Y8 cp.1 gm.1).bind λmf=>
           bif !mf then(
            (Wn).bind λl4=>
            some l4)
           else(
            some false)))
         else(
          some false))
        else(
         some false))
       else(
        some false))
      else(
       some false))
     else(
      some false))
    else(
     some false))))
def yS (y_:xQ)(z_:zdS Int)(r_:z6)(ai:Int)(l_:TA)(e_:Int):Option Bool :=
 (ZD r_ l_ ai).bind λk0=>
 bif decide (ai<=(w64 ((r_.i.length:Int)+4))) then(
  bif e_ !=0 then(
   some false)
  else(
   bif k0.2 !=0 then(
    some false)
   else(
    bif k0.1 !=0 then(
     some false)
    else(
     xC y_ z_ r_ ai))))
 else(
  xC y_ z_ r_ ai)
def Wo (x_:ZL)(y_:xQ)(z_:zdS Int):Option Bool :=
 (JN (ZL.mk x_.C)).bind λr_=>
 (V0 r_ z_.e0).bind λai=>
 bif decide (ai>=(r_.i.length:Int)) then(
  gd ((3:Int)≠0) <|
  bif (Int.tmod z_.e1 3)==0 then(
   (z28 r_ ai 4096).bind λj9=>
   yS y_ z_ r_ ai j9.1 j9.2)
  else(
   bif (Int.tmod z_.e1 3)==1 then(
    (KZ r_ ai 4096).bind λmv=>
    yS y_ z_ r_ ai mv.1 mv.2)
   else(
    bif (Int.tmod z_.e1 3)==2 then(
     (Jx r_ ai 4096).bind λmw=>
     yS y_ z_ r_ ai mw.1 mw.2)
    else(
     yS y_ z_ r_ ai ([]:TA) 0))))
 else(
  xC y_ z_ r_ ai)
abbrev F0_:=z0v (eI .i64)
abbrev F1_:=Wy (eI .i32)
abbrev F2_:=eOs 1 true (eI .i64)
abbrev F3_:=eSl 1 true (eI .i64)
abbrev F4_:=eSl 1 false (eI .u8)
abbrev F5_:=eSl 1 false (eI .i64)
abbrev F6_:=eOs 1 false (eI .i64)
abbrev F7_:=eSl 1 false (eI .u16)
abbrev F8_:=Wy F0_
abbrev F9_:=v8 (eI .i64) (eI .i64)
abbrev zqm:=eOs 16 false F1_
abbrev znk:=eSl 16 false F1_
abbrev Ju:=eSl 1 true F3_
abbrev znj:=eOs 1 true F3_
abbrev z4T:=eSl 1 true F5_
abbrev zqT:=eSl 1 false F4_
abbrev xq:=eSl 1 false F5_
abbrev zb7:=eOs 1 false F5_
abbrev zni:=eSp xq
abbrev zql:=eOs 2 true F9_
abbrev zao:=eSl 2 true F9_
abbrev y6:=eSl 2 false F9_
abbrev YU:=eOs 2 false F9_
abbrev ZP:=Ww (eI .i64) (eI .i64) (eI .i64)
abbrev Qw:=yX (eI .i32) F5_
abbrev zqk:=eSl 1 false xq
abbrev z1L:=UF (eI .i64) F8_
abbrev zgI:=YP (eI .u8) zqT
abbrev zqS:=eSl 1 true zao
abbrev zqR:=eSl 1 false y6
abbrev KI:=yz znk (eI .i64) (eI .i64)
abbrev zpa:=jQ (eI .u8) (eI .u8) (eI .u8) F4_ F7_
abbrev zdQ:=xF (eI .i64) (eI .i64) zqS
abbrev zK:=xF (eI .i64) (eI .i64) zqR
abbrev z4i:=eSp zK
abbrev z4S:=jC zK xq xq xq zqk xq xq
abbrev znh:=eSp z4S
def rpN {α:Type _}(n:Nat)(a:α)(l:List α):List α:=Nat.rec l (λ_ r=>a::r) n
abbrev aLn (n:Nat):H:=.a (.atom (.int .i64 ((n:Nat):Int)))
end Go.Own

namespace Go.Proofs
open Go.Proofs.Tryz
open Go.Shelf
def Tryz.so66_ren:Go.Shelf.Ren:=⟨λ|6=>66|15=>99|14=>98|28=>133|29=>134|20=>125|21=>126|22=>127|23=>128|24=>129|25=>130|26=>131|27=>132|46=>147|47=>148|48=>149|49=>150|50=>151|57=>164|n=>n,λ|22=>37|24=>57|25=>115|3=>3|39=>153|0=>0|53=>185|55=>187|4=>4|46=>178|45=>177|50=>182|5=>5|9=>9|66=>201|70=>205|76=>226|77=>76|n=>n,λ|n=>n⟩
def Tryz.so66:Go.Proofs.SlLaysF0.n6 prog Tryz.so66_ren:={
 mixed:=by kernel_rfl
 f6:=⟨f66.name,θ,func66.trans (congrArg some κ)⟩
 f14:=⟨f98.name,θ,func98.trans (congrArg some κ)⟩
 f15:=func99.trans (congrArg some κ)
 f20:=⟨f125.name,θ,func125.trans (congrArg some κ)⟩
 f21:=⟨f126.name,θ,func126.trans (congrArg some κ)⟩
 f22:=⟨f127.name,θ,func127.trans (congrArg some κ)⟩
 f23:=⟨f128.name,θ,func128.trans (congrArg some κ)⟩
 f24:=⟨f129.name,θ,func129.trans (congrArg some κ)⟩
 f25:=⟨f130.name,θ,func130.trans (congrArg some κ)⟩
 f26:=⟨f131.name,θ,func131.trans (congrArg some κ)⟩
 f27:=⟨f132.name,θ,func132.trans (congrArg some κ)⟩
 f28:=func133.trans (congrArg some κ)
 f29:=func134.trans (congrArg some κ)
 f46:=⟨f147.name,θ,func147.trans (congrArg some κ)⟩
 f47:=func148.trans (congrArg some κ)
 f48:=func149.trans (congrArg some κ)
 f49:=⟨f150.name,θ,func150.trans (congrArg some κ)⟩
 f50:=⟨f151.name,θ,func151.trans (congrArg some κ)⟩
 f57:=⟨f164.name,θ,func164.trans (congrArg some κ)⟩
 t0:=underlying0
 a0:=isAgg0
 z0:=sizeOf0
 v0:=zeroValue0
 t3:=underlying3
 a3:=isAgg3
 z3:=sizeOf3
 v3:=zeroValue3
 t4:=underlying4
 a4:=isAgg4
 z4:=sizeOf4
 v4:=zeroValue4
 t5:=underlying5
 a5:=isAgg5
 z5:=sizeOf5
 v5:=zeroValue5
 t9:=underlying9
 a9:=isAgg9
 z9:=sizeOf9
 v9:=zeroValue9
 t22:=underlying37
 a22:=isAgg37
 z22:=sizeOf37
 v22:=zeroValue37
 t25:=underlying115
 a25:=isAgg115
 z25:=sizeOf115
 v25:=zeroValue115
 t39:=underlying153
 a39:=isAgg153
 z39:=sizeOf153
 v39:=zeroValue153
 t45:=underlying177
 a45:=isAgg177
 z45:=sizeOf177
 v45:=zeroValue177
 t46:=underlying178
 a46:=isAgg178
 z46:=sizeOf178
 v46:=zeroValue178
 t50:=underlying182
 a50:=isAgg182
 z50:=sizeOf182
 v50:=zeroValue182
 t53:=underlying185
 a53:=isAgg185
 z53:=sizeOf185
 v53:=zeroValue185
 t55:=underlying187
 a55:=isAgg187
 z55:=sizeOf187
 v55:=zeroValue187
 t66:=underlying201
 a66:=isAgg201
 z66:=sizeOf201
 v66:=zeroValue201
 t70:=underlying205
 a70:=isAgg205
 z70:=sizeOf205
 v70:=zeroValue205
 t76:=underlying226
 a76:=isAgg226
 z76:=sizeOf226
 v76:=zeroValue226
 t77:=underlying76
 a77:=isAgg76
 z77:=sizeOf76
 v77:=zeroValue76 }
end Go.Proofs
